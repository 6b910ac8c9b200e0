/-
The shapes of the program's types. Written by a program of this repo (shapes.py).
-/
import Derived.Test.YtpeaooooimfihaaGreatDoorG28
import Derived.Test.YtpeaooooimfihaaGreatDoorProg
set_option maxRecDepth 8000
namespace Go.Proofs.YtpeaooooimfihaaGreatDoor
open Go.Proofs.Tryz
open Go.RowKit Go.AM
theorem shp25:shapeT prog 25=some [(3,0,1),(9,1,1),(3,2,1),(22,3,1),(9,4,1),(9,5,1),(23,6,1)]:=by kernel_rfl
theorem cel25:Program.cellsOf prog 25=7:=by kernel_rfl
theorem shp63:shapeT prog 63=some [(3,0,1),(3,1,1),(9,2,1),(22,3,1),(61,4,1)]:=by kernel_rfl
theorem cel63:Program.cellsOf prog 63=5:=by kernel_rfl
theorem shp77:shapeT prog 77=some [(9,0,1),(63,1,5)]:=by kernel_rfl
theorem cel77:Program.cellsOf prog 77=6:=by kernel_rfl
end Go.Proofs.YtpeaooooimfihaaGreatDoor
