/-
  The closed facts of the second row of LayerPiecesAreApart, one by one.
-/
import Derived.Test.YtfjeckcbnhohmaaGreatDoorRows
import Derived.OpenShut
import Derived.WalkKit
namespace Go.Proofs.YtfjeckcbnhohmaaGreatDoor
open Go.RowKit
theorem pcJ1 : Rows.layerPiecesAreApartUptoRow.inPlace = Program.inPlace Tryz.prog 3 := by kernel_rfl
theorem pcJ2 : Rows.layerPiecesAreApartUptoRow.recurses = Program.recurses Tryz.prog 3 := by kernel_rfl
theorem pcJ3 : Rows.layerPiecesAreApartUptoRow.unfollowed = Program.unfollowed Tryz.prog 3 := by kernel_rfl
theorem pcJ4 : Rows.layerPiecesAreApartUptoRow.named = Program.varsNamed Tryz.prog 3 := by kernel_rfl
end Go.Proofs.YtfjeckcbnhohmaaGreatDoor
