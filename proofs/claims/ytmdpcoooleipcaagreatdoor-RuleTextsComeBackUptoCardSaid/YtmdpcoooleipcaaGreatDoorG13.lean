/- Lemmas. -/
import Derived.Test.YtmdpcoooleipcaaGreatDoorProg
import Derived.Test.YtmdpcoooleipcaaGreatDoorG12
set_option maxRecDepth 8000
open Go Proofs Proofs.YtmdpcoooleipcaaGreatDoor Proofs.Tryz RowKit AM SpanLaw Q Zz
namespace Go.Proofs.YtmdpcoooleipcaaGreatDoor
theorem IP:KF prog 25=some [(3,0,1),(9,1,1),(3,2,1),(22,3,1),(9,4,1),(9,5,1),(23,6,1)]:=by kernel_rfl
theorem IQ:Program.cellsOf prog 25=7:=by kernel_rfl
theorem Sw:KF prog 48=some [(3,0,1),(3,1,1),(9,2,1),(22,3,1),(46,4,1)]:=by kernel_rfl
theorem Ep:Program.cellsOf prog 48=5:=by kernel_rfl
theorem Sx:KF prog 65=some [(9,0,1),(48,1,5)]:=by kernel_rfl
theorem IU:Program.cellsOf prog 65=6:=by kernel_rfl
end Go.Proofs.YtmdpcoooleipcaaGreatDoor
