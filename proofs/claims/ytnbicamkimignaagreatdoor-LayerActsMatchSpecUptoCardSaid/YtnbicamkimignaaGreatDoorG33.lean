/- Lemmas. -/
import Derived.Test.YtnbicamkimignaaGreatDoorProg
import Derived.Test.YtnbicamkimignaaGreatDoorG32
set_option maxRecDepth 8000
open Go Proofs Proofs.YtnbicamkimignaaGreatDoor Proofs.Tryz RowKit AM SpanLaw Q Zz
namespace Go.Proofs.YtnbicamkimignaaGreatDoor
theorem cel9:Program.cellsOf prog 9=1:=by kernel_rfl
theorem zcV:QQ prog 26=some [(22,0,1),(23,1,1),(24,2,1)]:=by kernel_rfl
theorem zhR:Program.cellsOf prog 26=3:=by kernel_rfl
theorem zhS:QQ prog 30=some [(3,0,1),(9,1,1),(3,2,1),(27,3,1),(9,4,1),(9,5,1),(28,6,1)]:=by kernel_rfl
theorem zcW:Program.cellsOf prog 30=7:=by kernel_rfl
theorem zcX:QQ prog 34=some [(9,0,1),(9,1,1),(9,2,1),(30,3,7),(9,10,1),(31,11,1),(32,12,1)]:=by kernel_rfl
theorem zcY:Program.cellsOf prog 34=13:=by kernel_rfl
theorem zhT:QQ prog 54=some [(3,0,1),(48,1,1)]:=by kernel_rfl
theorem zcZ:Program.cellsOf prog 54=2:=by kernel_rfl
theorem zhU:QQ prog 61=some [(9,0,1),(9,1,1),(3,2,1)]:=by kernel_rfl
theorem zc0:Program.cellsOf prog 61=3:=by kernel_rfl
theorem zhV:QQ prog 71=some [(9,0,1),(9,1,1),(3,2,1),(69,3,1)]:=by kernel_rfl
theorem zc1:Program.cellsOf prog 71=4:=by kernel_rfl
theorem zhW:QQ prog 82=some [(3,0,1),(3,1,1)]:=by kernel_rfl
theorem zc2:Program.cellsOf prog 82=2:=by kernel_rfl
theorem zeG:QQ prog 101=some [(3,0,1),(3,1,1),(3,2,1)]:=by kernel_rfl
theorem S7:Program.cellsOf prog 101=3:=by kernel_rfl
theorem zeH:QQ prog 136=some [(3,0,1),(3,1,1),(9,2,1),(27,3,1),(134,4,1)]:=by kernel_rfl
theorem H3:Program.cellsOf prog 136=5:=by kernel_rfl
theorem zeI:QQ prog 171=some [(9,0,1),(136,1,5)]:=by kernel_rfl
theorem S8:Program.cellsOf prog 171=6:=by kernel_rfl
end Go.Proofs.YtnbicamkimignaaGreatDoor
