/- Lemmas. -/
import Derived.Test.YtmngbpkapamhoaaGreatDoorProg
import Derived.Test.YtmngbpkapamhoaaGreatDoorG15
set_option maxRecDepth 8000
open Go Proofs Proofs.YtmngbpkapamhoaaGreatDoor Proofs.Tryz RowKit AM SpanLaw Q Zz
namespace Go.Proofs.YtmngbpkapamhoaaGreatDoor
theorem cel9:Program.cellsOf prog 9=1:=by kernel_rfl
theorem zdK:Program.underlying prog 22=some (.slice 82):=by kernel_rfl
theorem zdL:Qv prog 27=some [(23,0,1),(24,1,1),(25,2,1)]:=by kernel_rfl
theorem zix:Program.cellsOf prog 27=3:=by kernel_rfl
theorem ziy:Qv prog 47=some [(9,0,1),(9,1,1),(3,2,1)]:=by kernel_rfl
theorem zdM:Program.cellsOf prog 47=3:=by kernel_rfl
theorem ziz:Qv prog 49=some [(9,0,1),(9,1,1),(3,2,1),(38,3,1)]:=by kernel_rfl
theorem zdN:Program.cellsOf prog 49=4:=by kernel_rfl
theorem ziA:Qv prog 53=some [(3,0,1),(9,1,1),(3,2,1),(50,3,1),(9,4,1),(9,5,1),(51,6,1)]:=by kernel_rfl
theorem zdO:Program.cellsOf prog 53=7:=by kernel_rfl
theorem ziB:Qv prog 57=some [(9,0,1),(9,1,1),(9,2,1),(53,3,7),(9,10,1),(54,11,1),(55,12,1)]:=by kernel_rfl
theorem zdP:Program.cellsOf prog 57=13:=by kernel_rfl
theorem ziC:Qv prog 60=some [(3,0,1),(3,1,1),(3,2,1)]:=by kernel_rfl
theorem zdQ:Program.cellsOf prog 60=3:=by kernel_rfl
theorem ziD:Qv prog 63=some [(3,0,1),(61,1,1)]:=by kernel_rfl
theorem zdR:Program.cellsOf prog 63=2:=by kernel_rfl
theorem ziE:Qv prog 65=some [(3,0,1),(3,1,1)]:=by kernel_rfl
theorem zdS:Program.cellsOf prog 65=2:=by kernel_rfl
theorem ziF:Qv prog 82=some [(9,0,1),(38,1,1),(38,2,1),(53,3,7)]:=by kernel_rfl
theorem zdT:Program.cellsOf prog 82=10:=by kernel_rfl
theorem zfD:Qv prog 145=some [(3,0,1),(3,1,1),(9,2,1),(50,3,1),(143,4,1)]:=by kernel_rfl
theorem Ln:Program.cellsOf prog 145=5:=by kernel_rfl
theorem zfE:Qv prog 184=some [(9,0,1),(145,1,5)]:=by kernel_rfl
theorem UT:Program.cellsOf prog 184=6:=by kernel_rfl
end Go.Proofs.YtmngbpkapamhoaaGreatDoor
