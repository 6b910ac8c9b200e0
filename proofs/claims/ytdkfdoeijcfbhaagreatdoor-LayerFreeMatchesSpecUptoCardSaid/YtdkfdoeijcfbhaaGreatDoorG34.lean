/-
The shapes of the program's types. Written by a program of this repo (shapes.py).
-/
import Derived.Test.YtdkfdoeijcfbhaaGreatDoorG33
import Derived.Test.YtdkfdoeijcfbhaaGreatDoorProg
set_option maxRecDepth 8000
namespace Go.Proofs.YtdkfdoeijcfbhaaGreatDoor
open Go.Proofs.Tryz
open Go.RowKit Go.AM
theorem cel9:Program.cellsOf prog 9=1:=by kernel_rfl
theorem shp25:kO prog 25=some [(3,0,1),(9,1,1),(3,2,1),(22,3,1),(9,4,1),(9,5,1),(23,6,1)]:=by kernel_rfl
theorem zeF:Program.cellsOf prog 25=7:=by kernel_rfl
theorem zeG:kO prog 35=some [(31,0,1),(32,1,1),(33,2,1)]:=by kernel_rfl
theorem cel35:Program.cellsOf prog 35=3:=by kernel_rfl
theorem shp41:kO prog 41=some [(3,0,1),(3,1,1)]:=by kernel_rfl
theorem zeH:Program.cellsOf prog 41=2:=by kernel_rfl
theorem shp66:kO prog 66=some [(9,0,1),(9,1,1),(9,2,1),(25,3,7),(9,10,1),(63,11,1),(64,12,1)]:=by kernel_rfl
theorem zeI:Program.cellsOf prog 66=13:=by kernel_rfl
theorem shp74:kO prog 74=some [(9,0,1),(9,1,1),(3,2,1)]:=by kernel_rfl
theorem zeJ:Program.cellsOf prog 74=3:=by kernel_rfl
theorem shp100:kO prog 100=some [(3,0,1),(36,1,1)]:=by kernel_rfl
theorem zd8:Program.cellsOf prog 100=2:=by kernel_rfl
theorem shp117:kO prog 117=some [(3,0,1),(3,1,1),(9,2,1),(22,3,1),(115,4,1)]:=by kernel_rfl
theorem zdr:Program.cellsOf prog 117=5:=by kernel_rfl
theorem shp163:kO prog 163=some [(9,0,1),(117,1,5)]:=by kernel_rfl
theorem zd9:Program.cellsOf prog 163=6:=by kernel_rfl
theorem shp203:kO prog 203=some [(9,0,1),(9,1,1),(3,2,1),(85,3,1)]:=by kernel_rfl
theorem zea:Program.cellsOf prog 203=4:=by kernel_rfl
theorem shp265:kO prog 265=some [(3,0,1),(3,1,1),(3,2,1)]:=by kernel_rfl
theorem zeb:Program.cellsOf prog 265=3:=by kernel_rfl
end Go.Proofs.YtdkfdoeijcfbhaaGreatDoor
