/- Lemmas. -/
import Derived.Test.YtmbfinldjgmhaaaGreatDoorProg
import Derived.Test.YtmbfinldjgmhaaaGreatDoorG14
set_option maxRecDepth 8000
open Go Proofs Proofs.YtmbfinldjgmhaaaGreatDoor Proofs.Tryz RowKit AM SpanLaw Q Zz
namespace Go.Proofs.YtmbfinldjgmhaaaGreatDoor
theorem cel9:Program.cellsOf prog 9=1:=by kernel_rfl
theorem zaR:Program.underlying prog 22=some (.slice 56):=by kernel_rfl
theorem zaS:JF prog 26=some [(3,0,1),(9,1,1),(3,2,1),(23,3,1),(9,4,1),(9,5,1),(24,6,1)]:=by kernel_rfl
theorem zaT:Program.cellsOf prog 26=7:=by kernel_rfl
theorem zaU:JF prog 29=some [(9,0,1),(27,1,1)]:=by kernel_rfl
theorem zft:Program.cellsOf prog 29=2:=by kernel_rfl
theorem zfu:JF prog 52=some [(3,0,1),(3,1,1),(9,2,1),(23,3,1),(50,4,1)]:=by kernel_rfl
theorem Rf:Program.cellsOf prog 52=5:=by kernel_rfl
theorem zfv:JF prog 56=some [(9,0,1),(34,1,1),(34,2,1),(26,3,7)]:=by kernel_rfl
theorem zaV:Program.cellsOf prog 56=10:=by kernel_rfl
theorem zfw:JF prog 78=some [(9,0,1),(52,1,5)]:=by kernel_rfl
theorem zaW:Program.cellsOf prog 78=6:=by kernel_rfl
theorem zfx:JF prog 84=some [(9,0,1),(52,1,5)]:=by kernel_rfl
theorem zaX:Program.cellsOf prog 84=6:=by kernel_rfl
end Go.Proofs.YtmbfinldjgmhaaaGreatDoor
