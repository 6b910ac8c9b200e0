/- Lemmas. -/
import Derived.Test.YtnjndeeldhifoaaGreatDoorProg
import Derived.Test.YtnjndeeldhifoaaGreatDoorG12
set_option maxRecDepth 8000
open Go Proofs Proofs.YtnjndeeldhifoaaGreatDoor Proofs.Tryz RowKit AM SpanLaw Q Zz
namespace Go.Proofs.YtnjndeeldhifoaaGreatDoor
theorem cel9:Program.cellsOf prog 9=1:=by kernel_rfl
theorem OO:Program.underlying prog 22=some (.slice 120):=by kernel_rfl
theorem OP:vk prog 27=some [(23,0,1),(24,1,1),(25,2,1)]:=by kernel_rfl
theorem zbi:Program.cellsOf prog 27=3:=by kernel_rfl
theorem zbj:Program.underlying prog 28=some (.slice 37):=by kernel_rfl
theorem zbk:vk prog 37=some [(9,0,1),(35,1,1)]:=by kernel_rfl
theorem OQ:Program.cellsOf prog 37=2:=by kernel_rfl
theorem zbl:vk prog 59=some [(3,0,1),(3,1,1)]:=by kernel_rfl
theorem OR:Program.cellsOf prog 59=2:=by kernel_rfl
theorem zbm:vk prog 66=some [(3,0,1),(9,1,1),(3,2,1),(63,3,1),(9,4,1),(9,5,1),(64,6,1)]:=by kernel_rfl
theorem OS:Program.cellsOf prog 66=7:=by kernel_rfl
theorem zbn:vk prog 70=some [(9,0,1),(9,1,1),(9,2,1),(66,3,7),(9,10,1),(67,11,1),(68,12,1)]:=by kernel_rfl
theorem OT:Program.cellsOf prog 70=13:=by kernel_rfl
theorem zbo:vk prog 73=some [(3,0,1),(60,1,1)]:=by kernel_rfl
theorem OU:Program.cellsOf prog 73=2:=by kernel_rfl
theorem zbp:vk prog 94=some [(3,0,1),(3,1,1),(9,2,1),(63,3,1),(92,4,1)]:=by kernel_rfl
theorem Ii:Program.cellsOf prog 94=5:=by kernel_rfl
theorem zbq:vk prog 96=some [(9,0,1),(94,1,5)]:=by kernel_rfl
theorem OV:Program.cellsOf prog 96=6:=by kernel_rfl
theorem Sl:vk prog 101=some [(9,0,1),(9,1,1),(3,2,1)]:=by kernel_rfl
theorem Ij:Program.cellsOf prog 101=3:=by kernel_rfl
theorem Sm:vk prog 120=some [(9,0,1),(49,1,1),(49,2,1),(66,3,7)]:=by kernel_rfl
theorem Ik:Program.cellsOf prog 120=10:=by kernel_rfl
theorem Sn:vk prog 132=some [(9,0,1),(9,1,1),(3,2,1),(49,3,1)]:=by kernel_rfl
theorem Il:Program.cellsOf prog 132=4:=by kernel_rfl
theorem Sq:vk prog 145=some [(3,0,1),(3,1,1),(3,2,1)]:=by kernel_rfl
theorem Im:Program.cellsOf prog 145=3:=by kernel_rfl
theorem Sr:vk prog 168=some [(9,0,1),(94,1,5)]:=by kernel_rfl
theorem Io:Program.cellsOf prog 168=6:=by kernel_rfl
end Go.Proofs.YtnjndeeldhifoaaGreatDoor
