/- Lemmas. -/
import Derived.Test.YtdlbkbojibiiaaaGreatDoorG12
set_option maxRecDepth 8000
open Go Proofs Proofs.YtdlbkbojibiiaaaGreatDoor Proofs.Tryz RowKit AM SpanLaw Q Zz
namespace Go.Proofs.YtdlbkbojibiiaaaGreatDoor
theorem cel9:Program.cellsOf prog 9=1:=by kernel_rfl
theorem zfX:Program.underlying prog 22=some (.slice 95):=by kernel_rfl
theorem zfY:ZL prog 27=some [(23,0,1),(24,1,1),(25,2,1)]:=by kernel_rfl
theorem zkO:Program.cellsOf prog 27=3:=by kernel_rfl
theorem zfZ:ZL prog 30=some [(9,0,1),(28,1,1)]:=by kernel_rfl
theorem zkP:Program.cellsOf prog 30=2:=by kernel_rfl
theorem zkQ:ZL prog 50=some [(9,0,1),(9,1,1),(3,2,1)]:=by kernel_rfl
theorem zf0:Program.cellsOf prog 50=3:=by kernel_rfl
theorem zkR:ZL prog 61=some [(3,0,1),(3,1,1),(9,2,1),(58,3,1),(59,4,1)]:=by kernel_rfl
theorem zbQ:Program.cellsOf prog 61=5:=by kernel_rfl
theorem zkS:ZL prog 63=some [(9,0,1),(61,1,5)]:=by kernel_rfl
theorem zf1:Program.cellsOf prog 63=6:=by kernel_rfl
theorem zkT:ZL prog 70=some [(3,0,1),(9,1,1),(3,2,1),(58,3,1),(9,4,1),(9,5,1),(68,6,1)]:=by kernel_rfl
theorem zf2:Program.cellsOf prog 70=7:=by kernel_rfl
theorem zkU:ZL prog 74=some [(9,0,1),(9,1,1),(9,2,1),(70,3,7),(9,10,1),(71,11,1),(72,12,1)]:=by kernel_rfl
theorem zf3:Program.cellsOf prog 74=13:=by kernel_rfl
theorem zkV:ZL prog 90=some [(9,0,1),(9,1,1),(3,2,1),(88,3,1)]:=by kernel_rfl
theorem zf4:Program.cellsOf prog 90=4:=by kernel_rfl
theorem zkW:ZL prog 95=some [(9,0,1),(88,1,1),(88,2,1),(70,3,7)]:=by kernel_rfl
theorem zf5:Program.cellsOf prog 95=10:=by kernel_rfl
theorem zhH:ZL prog 115=some [(3,0,1),(3,1,1)]:=by kernel_rfl
theorem zbR:Program.cellsOf prog 115=2:=by kernel_rfl
theorem zhI:ZL prog 118=some [(3,0,1),(76,1,1)]:=by kernel_rfl
theorem zbS:Program.cellsOf prog 118=2:=by kernel_rfl
theorem zhJ:ZL prog 126=some [(3,0,1),(3,1,1),(3,2,1)]:=by kernel_rfl
theorem zbT:Program.cellsOf prog 126=3:=by kernel_rfl
theorem zhK:ZL prog 154=some [(9,0,1),(61,1,5)]:=by kernel_rfl
theorem zbU:Program.cellsOf prog 154=6:=by kernel_rfl
end Go.Proofs.YtdlbkbojibiiaaaGreatDoor
