/-
The closed facts of the second row of LayerWhereIsOnce, joined.
-/
import Derived.Test.YtanbabpnlgfcpaaGreatDoorG32
import Derived.JoinedCond
set_option maxRecDepth 8000
namespace Go.Proofs.YtanbabpnlgfcpaaGreatDoor
open Go.Proofs.Tryz
open Go.RowKit
theorem lwFacts:joinedFacts prog 3 Tryz.f3 (Rows.OpenSpec.upto Rows.layerWhereIsOnceSpec).bare Rows.layerWhereIsOnceUptoRow=true:=by
 unfold joinedFacts
 rw[←lwJ1,←lwJ2,←lwJ3,←lwJ4]
 kernel_rfl
end Go.Proofs.YtanbabpnlgfcpaaGreatDoor
