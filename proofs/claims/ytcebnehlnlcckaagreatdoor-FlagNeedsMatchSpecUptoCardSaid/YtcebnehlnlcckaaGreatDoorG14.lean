/- Lemmas. -/
import Derived.Test.YtcebnehlnlcckaaGreatDoorProg
import Derived.Test.YtcebnehlnlcckaaGreatDoorG13
set_option maxRecDepth 8000
open Go Proofs Proofs.YtcebnehlnlcckaaGreatDoor Proofs.Tryz RowKit AM SpanLaw Q Zz
namespace Go.Proofs.YtcebnehlnlcckaaGreatDoor
theorem cel9:Program.cellsOf prog 9=1:=by kernel_rfl
theorem Ur:ZH prog 25=some [(22,0,1),(23,1,1)]:=by kernel_rfl
theorem zd1:Program.cellsOf prog 25=2:=by kernel_rfl
theorem zd2:ZH prog 43=some [(3,0,1),(9,1,1),(9,2,1),(41,3,1)]:=by kernel_rfl
theorem zd3:Program.cellsOf prog 43=4:=by kernel_rfl
theorem zd4:ZH prog 45=some [(9,0,1),(4,1,1),(37,2,1),(3,3,1),(38,4,1),(39,5,1),(40,6,1),(43,7,4)]:=by kernel_rfl
theorem Us:Program.cellsOf prog 45=11:=by kernel_rfl
theorem zd5:ZH prog 54=some [(9,0,1),(3,1,1)]:=by kernel_rfl
theorem Ut:Program.cellsOf prog 54=2:=by kernel_rfl
theorem zd6:ZH prog 70=some [(3,0,1),(9,1,1),(3,2,1),(37,3,1),(9,4,1),(9,5,1),(68,6,1)]:=by kernel_rfl
theorem Uu:Program.cellsOf prog 70=7:=by kernel_rfl
theorem zd7:ZH prog 72=some [(9,0,1),(26,1,1),(26,2,1),(70,3,7)]:=by kernel_rfl
theorem Uv:Program.cellsOf prog 72=10:=by kernel_rfl
theorem za8:ZH prog 100=some [(3,0,1),(3,1,1),(9,2,1),(37,3,1),(98,4,1)]:=by kernel_rfl
theorem tM:Program.cellsOf prog 100=5:=by kernel_rfl
theorem za9:ZH prog 109=some [(3,0,1),(26,1,1)]:=by kernel_rfl
theorem OS:Program.cellsOf prog 109=2:=by kernel_rfl
theorem zba:ZH prog 111=some [(9,0,1),(70,1,7),(43,8,4)]:=by kernel_rfl
theorem OT:Program.cellsOf prog 111=12:=by kernel_rfl
theorem zbb:ZH prog 143=some [(9,0,1),(100,1,5)]:=by kernel_rfl
theorem OU:Program.cellsOf prog 143=6:=by kernel_rfl
theorem zbc:ZH prog 151=some [(3,0,1),(3,1,1),(3,2,1)]:=by kernel_rfl
theorem OV:Program.cellsOf prog 151=3:=by kernel_rfl
end Go.Proofs.YtcebnehlnlcckaaGreatDoor
