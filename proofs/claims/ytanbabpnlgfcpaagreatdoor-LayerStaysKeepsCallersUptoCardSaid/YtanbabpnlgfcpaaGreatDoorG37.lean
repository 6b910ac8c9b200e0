/-
The closed facts of the second row of LayerStaysKeepsCallers, joined.
-/
import Derived.Test.YtanbabpnlgfcpaaGreatDoorG36
import Derived.JoinedCond
set_option maxRecDepth 8000
namespace Go.Proofs.YtanbabpnlgfcpaaGreatDoor
open Go.Proofs.Tryz
open Go.RowKit
theorem lsFacts:joinedFacts prog 4 Tryz.f4 (Rows.OpenSpec.upto Rows.layerStaysKeepsCallersSpec).bare Rows.layerStaysKeepsCallersUptoRow=true:=by
 unfold joinedFacts
 rw[←lsJ1,←lsJ2,←lsJ3,←lsJ4]
 kernel_rfl
end Go.Proofs.YtanbabpnlgfcpaaGreatDoor
