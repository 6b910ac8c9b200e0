/-
The shapes of the program's types. Written by a program of this repo (shapes.py).
-/
import Derived.Test.YtanbabpnlgfcpaaGreatDoorG28
import Derived.Test.YtanbabpnlgfcpaaGreatDoorProg
set_option maxRecDepth 8000
namespace Go.Proofs.YtanbabpnlgfcpaaGreatDoor
open Go.Proofs.Tryz
open Go.RowKit Go.AM
theorem cel9:Program.cellsOf prog 9=1:=by kernel_rfl
theorem usl22:Program.underlying prog 22=some (.slice 108):=by kernel_rfl
theorem shp27:yI prog 27=some [(23,0,1),(24,1,1),(25,2,1)]:=by kernel_rfl
theorem cel27:Program.cellsOf prog 27=3:=by kernel_rfl
theorem shp30:yI prog 30=some [(9,0,1),(28,1,1)]:=by kernel_rfl
theorem cel30:Program.cellsOf prog 30=2:=by kernel_rfl
theorem shp45:yI prog 45=some [(3,0,1),(3,1,1)]:=by kernel_rfl
theorem cel45:Program.cellsOf prog 45=2:=by kernel_rfl
theorem shp68:yI prog 68=some [(3,0,1),(9,1,1),(3,2,1),(65,3,1),(9,4,1),(9,5,1),(66,6,1)]:=by kernel_rfl
theorem cel68:Program.cellsOf prog 68=7:=by kernel_rfl
theorem shp72:yI prog 72=some [(9,0,1),(9,1,1),(9,2,1),(68,3,7),(9,10,1),(69,11,1),(70,12,1)]:=by kernel_rfl
theorem cel72:Program.cellsOf prog 72=13:=by kernel_rfl
theorem shp75:yI prog 75=some [(3,0,1),(40,1,1)]:=by kernel_rfl
theorem cel75:Program.cellsOf prog 75=2:=by kernel_rfl
theorem shp87:yI prog 87=some [(3,0,1),(3,1,1),(9,2,1),(65,3,1),(85,4,1)]:=by kernel_rfl
theorem cel87:Program.cellsOf prog 87=5:=by kernel_rfl
theorem shp89:yI prog 89=some [(9,0,1),(87,1,5)]:=by kernel_rfl
theorem cel89:Program.cellsOf prog 89=6:=by kernel_rfl
theorem shp94:yI prog 94=some [(9,0,1),(9,1,1),(3,2,1)]:=by kernel_rfl
theorem cel94:Program.cellsOf prog 94=3:=by kernel_rfl
theorem shp104:yI prog 104=some [(9,0,1),(9,1,1),(3,2,1),(102,3,1)]:=by kernel_rfl
theorem cel104:Program.cellsOf prog 104=4:=by kernel_rfl
theorem shp108:yI prog 108=some [(9,0,1),(102,1,1),(102,2,1),(68,3,7)]:=by kernel_rfl
theorem cel108:Program.cellsOf prog 108=10:=by kernel_rfl
theorem shp132:yI prog 132=some [(3,0,1),(3,1,1),(3,2,1)]:=by kernel_rfl
theorem cel132:Program.cellsOf prog 132=3:=by kernel_rfl
theorem shp152:yI prog 152=some [(9,0,1),(87,1,5)]:=by kernel_rfl
theorem cel152:Program.cellsOf prog 152=6:=by kernel_rfl
end Go.Proofs.YtanbabpnlgfcpaaGreatDoor
