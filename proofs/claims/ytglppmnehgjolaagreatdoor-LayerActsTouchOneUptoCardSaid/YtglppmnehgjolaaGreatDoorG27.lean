/-
The shapes of the program's types. Written by a program of this repo (shapes.py).
-/
import Derived.Test.YtglppmnehgjolaaGreatDoorG26
import Derived.Test.YtglppmnehgjolaaGreatDoorProg
set_option maxRecDepth 8000
namespace Go.Proofs.YtglppmnehgjolaaGreatDoor
open Go.Proofs.Tryz
open Go.RowKit Go.AM
theorem cel9:Program.cellsOf prog 9=1:=by kernel_rfl
theorem shp26:jP prog 26=some [(22,0,1),(23,1,1),(24,2,1)]:=by kernel_rfl
theorem cel26:Program.cellsOf prog 26=3:=by kernel_rfl
theorem shp30:jP prog 30=some [(3,0,1),(9,1,1),(3,2,1),(27,3,1),(9,4,1),(9,5,1),(28,6,1)]:=by kernel_rfl
theorem cel30:Program.cellsOf prog 30=7:=by kernel_rfl
theorem shp34:jP prog 34=some [(9,0,1),(9,1,1),(9,2,1),(30,3,7),(9,10,1),(31,11,1),(32,12,1)]:=by kernel_rfl
theorem cel34:Program.cellsOf prog 34=13:=by kernel_rfl
theorem shp58:jP prog 58=some [(3,0,1),(38,1,1)]:=by kernel_rfl
theorem cel58:Program.cellsOf prog 58=2:=by kernel_rfl
theorem shp67:jP prog 67=some [(3,0,1),(3,1,1)]:=by kernel_rfl
theorem cel67:Program.cellsOf prog 67=2:=by kernel_rfl
theorem shp90:jP prog 90=some [(9,0,1),(9,1,1),(3,2,1)]:=by kernel_rfl
theorem cel90:Program.cellsOf prog 90=3:=by kernel_rfl
theorem shp97:jP prog 97=some [(3,0,1),(3,1,1),(3,2,1)]:=by kernel_rfl
theorem cel97:Program.cellsOf prog 97=3:=by kernel_rfl
theorem shp103:jP prog 103=some [(9,0,1),(9,1,1),(3,2,1),(101,3,1)]:=by kernel_rfl
theorem cel103:Program.cellsOf prog 103=4:=by kernel_rfl
theorem shp128:jP prog 128=some [(3,0,1),(3,1,1),(9,2,1),(27,3,1),(126,4,1)]:=by kernel_rfl
theorem cel128:Program.cellsOf prog 128=5:=by kernel_rfl
theorem shp158:jP prog 158=some [(9,0,1),(128,1,5)]:=by kernel_rfl
theorem cel158:Program.cellsOf prog 158=6:=by kernel_rfl
end Go.Proofs.YtglppmnehgjolaaGreatDoor
