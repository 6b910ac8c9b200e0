/-
The shapes of the program's types. Written by a program of this repo (shapes.py).
-/
import Derived.Test.YtjcofiomfmebkaaGreatDoorG33
import Derived.Test.YtjcofiomfmebkaaGreatDoorProg
set_option maxRecDepth 8000
namespace Go.Proofs.YtjcofiomfmebkaaGreatDoor
open Go.Proofs.Tryz
open Go.RowKit Go.AM
theorem zw1:Program.cellsOf prog 9=1:=by kernel_rfl
theorem zuq:Program.underlying prog 22=some (.slice 43):=by kernel_rfl
theorem zur:Qy prog 25=some [(9,0,1),(23,1,1)]:=by kernel_rfl
theorem zvE:Program.cellsOf prog 25=2:=by kernel_rfl
theorem zvF:Qy prog 41=some [(3,0,1),(9,1,1),(3,2,1),(38,3,1),(9,4,1),(9,5,1),(39,6,1)]:=by kernel_rfl
theorem zus:Program.cellsOf prog 41=7:=by kernel_rfl
theorem zvG:Qy prog 43=some [(9,0,1),(37,1,1),(37,2,1),(41,3,7)]:=by kernel_rfl
theorem zut:Program.cellsOf prog 43=10:=by kernel_rfl
theorem zvH:Qy prog 61=some [(3,0,1),(3,1,1),(9,2,1),(38,3,1),(59,4,1)]:=by kernel_rfl
theorem zsA:Program.cellsOf prog 61=5:=by kernel_rfl
theorem zvI:Qy prog 63=some [(9,0,1),(61,1,5)]:=by kernel_rfl
theorem zuu:Program.cellsOf prog 63=6:=by kernel_rfl
theorem zvJ:Qy prog 95=some [(9,0,1),(61,1,5)]:=by kernel_rfl
theorem zuv:Program.cellsOf prog 95=6:=by kernel_rfl
end Go.Proofs.YtjcofiomfmebkaaGreatDoor
