/- Lemmas. -/
import Derived.Test.YtgkaeihkflnckaaGreatDoorProg
import Derived.Test.YtgkaeihkflnckaaGreatDoorG14
set_option maxRecDepth 8000
open Go Proofs Proofs.YtgkaeihkflnckaaGreatDoor Proofs.Tryz RowKit AM SpanLaw Q Zz
namespace Go.Proofs.YtgkaeihkflnckaaGreatDoor
theorem cel9:Program.cellsOf prog 9=1:=by kernel_rfl
theorem zby:Program.underlying prog 22=some (.slice 48):=by kernel_rfl
theorem zbz:JG prog 26=some [(3,0,1),(9,1,1),(3,2,1),(23,3,1),(9,4,1),(9,5,1),(24,6,1)]:=by kernel_rfl
theorem zbA:Program.cellsOf prog 26=7:=by kernel_rfl
theorem zbB:JG prog 29=some [(9,0,1),(27,1,1)]:=by kernel_rfl
theorem zf4:Program.cellsOf prog 29=2:=by kernel_rfl
theorem zf5:JG prog 48=some [(9,0,1),(33,1,1),(33,2,1),(26,3,7)]:=by kernel_rfl
theorem zbC:Program.cellsOf prog 48=10:=by kernel_rfl
theorem zf6:JG prog 57=some [(3,0,1),(3,1,1),(9,2,1),(23,3,1),(55,4,1)]:=by kernel_rfl
theorem Sa:Program.cellsOf prog 57=5:=by kernel_rfl
theorem zf7:JG prog 59=some [(9,0,1),(57,1,5)]:=by kernel_rfl
theorem zbD:Program.cellsOf prog 59=6:=by kernel_rfl
theorem zdd:JG prog 129=some [(9,0,1),(57,1,5)]:=by kernel_rfl
theorem Sb:Program.cellsOf prog 129=6:=by kernel_rfl
end Go.Proofs.YtgkaeihkflnckaaGreatDoor
