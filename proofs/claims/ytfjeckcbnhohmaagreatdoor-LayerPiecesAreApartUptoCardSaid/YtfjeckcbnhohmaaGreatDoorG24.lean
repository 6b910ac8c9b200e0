/-
  The closed facts of the second row of LayerPiecesAreApart, joined.
-/
import Derived.Test.YtfjeckcbnhohmaaGreatDoorG23
import Derived.JoinedCond
namespace Go.Proofs.YtfjeckcbnhohmaaGreatDoor
open Go.RowKit
theorem pcFacts : joinedFacts Tryz.prog 3 Tryz.f3 (Rows.OpenSpec.upto Rows.layerPiecesAreApartSpec).bare Rows.layerPiecesAreApartUptoRow = true := by
  unfold joinedFacts
  rw [← pcJ1, ← pcJ2, ← pcJ3, ← pcJ4]
  kernel_rfl
end Go.Proofs.YtfjeckcbnhohmaaGreatDoor
