/- Lemmas. -/
import Derived.Test.YtfanbcfchamfjaaGreatDoorG14
set_option maxRecDepth 8000
open Go Proofs Proofs.YtfanbcfchamfjaaGreatDoor Proofs.Tryz RowKit AM SpanLaw Q Zz
namespace Go.Proofs.YtfanbcfchamfjaaGreatDoor
theorem cel9:Program.cellsOf prog 9=1:=by kernel_rfl
theorem zbi:Qi prog 26=some [(22,0,1),(23,1,1),(24,2,1)]:=by kernel_rfl
theorem zgK:Program.cellsOf prog 26=3:=by kernel_rfl
theorem zgL:Qi prog 48=some [(9,0,1),(9,1,1),(3,2,1)]:=by kernel_rfl
theorem zbj:Program.cellsOf prog 48=3:=by kernel_rfl
theorem zgM:Qi prog 50=some [(9,0,1),(9,1,1),(3,2,1),(39,3,1)]:=by kernel_rfl
theorem zbk:Program.cellsOf prog 50=4:=by kernel_rfl
theorem zgN:Qi prog 54=some [(3,0,1),(9,1,1),(3,2,1),(51,3,1),(9,4,1),(9,5,1),(52,6,1)]:=by kernel_rfl
theorem zbl:Program.cellsOf prog 54=7:=by kernel_rfl
theorem zgO:Qi prog 58=some [(9,0,1),(9,1,1),(9,2,1),(54,3,7),(9,10,1),(55,11,1),(56,12,1)]:=by kernel_rfl
theorem zbm:Program.cellsOf prog 58=13:=by kernel_rfl
theorem zgP:Qi prog 61=some [(3,0,1),(3,1,1),(3,2,1)]:=by kernel_rfl
theorem zbn:Program.cellsOf prog 61=3:=by kernel_rfl
theorem zgQ:Qi prog 64=some [(3,0,1),(62,1,1)]:=by kernel_rfl
theorem zbo:Program.cellsOf prog 64=2:=by kernel_rfl
theorem zgR:Qi prog 66=some [(3,0,1),(3,1,1)]:=by kernel_rfl
theorem zbp:Program.cellsOf prog 66=2:=by kernel_rfl
theorem zdB:Qi prog 112=some [(3,0,1),(3,1,1),(9,2,1),(51,3,1),(110,4,1)]:=by kernel_rfl
theorem Ey:Program.cellsOf prog 112=5:=by kernel_rfl
theorem zdC:Qi prog 149=some [(9,0,1),(112,1,5)]:=by kernel_rfl
theorem PG:Program.cellsOf prog 149=6:=by kernel_rfl
end Go.Proofs.YtfanbcfchamfjaaGreatDoor
