/-
What the evaluator asks of the program's types. Written by a program of this repo (facts.py).
-/
import Derived.Test.YtpeaooooimfihaaGreatDoorG9
import Derived.Test.YtpeaooooimfihaaGreatDoorProg
set_option maxRecDepth 8000
namespace Go.Proofs.YtpeaooooimfihaaGreatDoor
open Go.Proofs.Tryz
open Go.RowKit Go.AM
@[simp] theorem sz3:zS prog 3=some 1:=by kernel_rfl
@[simp] theorem ze3:wD prog 3=some [.v (.int .i64 0)]:=by kernel_rfl
@[simp] theorem ag3:qD prog 3=some false:=by kernel_rfl
@[simp] theorem rc3 (cs:List PV):zr prog 3 cs=cs[0]?:=by simp[zr]
@[simp] theorem un4:Program.underlying prog 4=some .bool:=by kernel_rfl
@[simp] theorem sz4:zS prog 4=some 1:=by kernel_rfl
@[simp] theorem ag4:qD prog 4=some false:=by kernel_rfl
@[simp] theorem rc4 (cs:List PV):zr prog 4 cs=cs[0]?:=by simp[zr]
@[simp] theorem sz5:zS prog 5=some 1:=by kernel_rfl
@[simp] theorem by5:yi prog 5=some 1:=by kernel_rfl
@[simp] theorem ze5:wD prog 5=some [.v (.int .u8 0)]:=by kernel_rfl
@[simp] theorem sz9:zS prog 9=some 1:=by kernel_rfl
@[simp] theorem by9:yi prog 9=some 16:=by kernel_rfl
@[simp] theorem ze9:wD prog 9=some [.v (.string ⟨#[]⟩)]:=by kernel_rfl
@[simp] theorem ag9:qD prog 9=some false:=by kernel_rfl
@[simp] theorem rc9 (cs:List PV):zr prog 9 cs=cs[0]?:=by simp[zr]
@[simp] theorem el22:qI prog 22=some 63:=by kernel_rfl
@[simp] theorem sz22:zS prog 22=some 1:=by kernel_rfl
@[simp] theorem ag22:qD prog 22=some false:=by kernel_rfl
@[simp] theorem rc22 (cs:List PV):zr prog 22 cs=cs[0]?:=by simp[zr]
@[simp] theorem el23:qI prog 23=some 25:=by kernel_rfl
@[simp] theorem sz23:zS prog 23=some 1:=by kernel_rfl
@[simp] theorem ag23:qD prog 23=some false:=by kernel_rfl
@[simp] theorem rc23 (cs:List PV):zr prog 23 cs=cs[0]?:=by simp[zr]
@[simp] theorem sz25:zS prog 25=some 7:=by kernel_rfl
@[simp] theorem ze25:wD prog 25=some [.v (.int .i64 0),.v (.string ⟨#[]⟩),.v (.int .i64 0),.nil,.v (.string ⟨#[]⟩),.v (.string ⟨#[]⟩),.nil]:=by kernel_rfl
@[simp] theorem ag25:qD prog 25=some true:=by kernel_rfl
@[simp] theorem rc25 (cs:List PV):zr prog 25 cs=if 7≤cs.length then some (.agg (cs.take 7)) else none:=by simp[zr]
@[simp] theorem fi25_0:qf prog 25 0=some (0,1,false):=by kernel_rfl
@[simp] theorem fi25_1:qf prog 25 1=some (1,1,false):=by kernel_rfl
@[simp] theorem fi25_2:qf prog 25 2=some (2,1,false):=by kernel_rfl
@[simp] theorem fi25_3:qf prog 25 3=some (3,1,false):=by kernel_rfl
@[simp] theorem fi25_4:qf prog 25 4=some (4,1,false):=by kernel_rfl
@[simp] theorem fi25_5:qf prog 25 5=some (5,1,false):=by kernel_rfl
@[simp] theorem fi25_6:qf prog 25 6=some (6,1,false):=by kernel_rfl
@[simp] theorem sz26:zS prog 26=some 1:=by kernel_rfl
@[simp] theorem ze26:wD prog 26=some [.v (.int .i64 0)]:=by kernel_rfl
@[simp] theorem ag26:qD prog 26=some false:=by kernel_rfl
@[simp] theorem rc26 (cs:List PV):zr prog 26 cs=cs[0]?:=by simp[zr]
@[simp] theorem sz31:zS prog 31=some 1:=by kernel_rfl
@[simp] theorem el32:qI prog 32=some 5:=by kernel_rfl
@[simp] theorem sz32:zS prog 32=some 1:=by kernel_rfl
@[simp] theorem ag32:qD prog 32=some false:=by kernel_rfl
@[simp] theorem rc32 (cs:List PV):zr prog 32 cs=cs[0]?:=by simp[zr]
@[simp] theorem sz34:zS prog 34=some 2:=by kernel_rfl
@[simp] theorem ze34:wD prog 34=some [.v (.pointer none),.nil]:=by kernel_rfl
@[simp] theorem fi34_1:qf prog 34 1=some (1,1,false):=by kernel_rfl
@[simp] theorem el45:qI prog 45=some 9:=by kernel_rfl
@[simp] theorem sz45:zS prog 45=some 1:=by kernel_rfl
@[simp] theorem ag45:qD prog 45=some false:=by kernel_rfl
@[simp] theorem rc45 (cs:List PV):zr prog 45 cs=cs[0]?:=by simp[zr]
@[simp] theorem el61:qI prog 61=some 77:=by kernel_rfl
@[simp] theorem sz61:zS prog 61=some 1:=by kernel_rfl
@[simp] theorem ag61:qD prog 61=some false:=by kernel_rfl
@[simp] theorem rc61 (cs:List PV):zr prog 61 cs=cs[0]?:=by simp[zr]
@[simp] theorem sz63:zS prog 63=some 5:=by kernel_rfl
@[simp] theorem by63:yi prog 63=some 80:=by kernel_rfl
@[simp] theorem ze63:wD prog 63=some [.v (.int .i64 0),.v (.int .i64 0),.v (.string ⟨#[]⟩),.nil,.nil]:=by kernel_rfl
@[simp] theorem ag63:qD prog 63=some true:=by kernel_rfl
@[simp] theorem rc63 (cs:List PV):zr prog 63 cs=if 5≤cs.length then some (.agg (cs.take 5)) else none:=by simp[zr]
@[simp] theorem fi63_0:qf prog 63 0=some (0,1,false):=by kernel_rfl
@[simp] theorem fi63_1:qf prog 63 1=some (1,1,false):=by kernel_rfl
@[simp] theorem fi63_2:qf prog 63 2=some (2,1,false):=by kernel_rfl
@[simp] theorem fi63_3:qf prog 63 3=some (3,1,false):=by kernel_rfl
@[simp] theorem fi63_4:qf prog 63 4=some (4,1,false):=by kernel_rfl
@[simp] theorem pl63:jI prog 63=some [(0,1),(1,1),(2,1),(3,1),(4,1)]:=by kernel_rfl
@[simp] theorem el69:qI prog 69=some 106:=by kernel_rfl
@[simp] theorem sz69:zS prog 69=some 1:=by kernel_rfl
@[simp] theorem ze69:wD prog 69=some [.nil]:=by kernel_rfl
@[simp] theorem ag69:qD prog 69=some false:=by kernel_rfl
@[simp] theorem rc69 (cs:List PV):zr prog 69 cs=cs[0]?:=by simp[zr]
@[simp] theorem sz77:zS prog 77=some 6:=by kernel_rfl
@[simp] theorem ze77:wD prog 77=some [.v (.string ⟨#[]⟩),.v (.int .i64 0),.v (.int .i64 0),.v (.string ⟨#[]⟩),.nil,.nil]:=by kernel_rfl
@[simp] theorem ag77:qD prog 77=some true:=by kernel_rfl
@[simp] theorem rc77 (cs:List PV):zr prog 77 cs=if 6≤cs.length then some (.agg (cs.take 6)) else none:=by simp[zr]
@[simp] theorem fi77_0:qf prog 77 0=some (0,1,false):=by kernel_rfl
@[simp] theorem fi77_1:qf prog 77 1=some (1,5,true):=by kernel_rfl
@[simp] theorem el84:qI prog 84=some 88:=by kernel_rfl
@[simp] theorem sz84:zS prog 84=some 1:=by kernel_rfl
@[simp] theorem ze84:wD prog 84=some [.nil]:=by kernel_rfl
@[simp] theorem ag84:qD prog 84=some false:=by kernel_rfl
@[simp] theorem rc84 (cs:List PV):zr prog 84 cs=cs[0]?:=by simp[zr]
@[simp] theorem el88:qI prog 88=some 96:=by kernel_rfl
@[simp] theorem sz88:zS prog 88=some 1:=by kernel_rfl
@[simp] theorem by88:yi prog 88=some 24:=by kernel_rfl
@[simp] theorem ze88:wD prog 88=some [.nil]:=by kernel_rfl
@[simp] theorem ag88:qD prog 88=some false:=by kernel_rfl
@[simp] theorem rc88 (cs:List PV):zr prog 88 cs=cs[0]?:=by simp[zr]
@[simp] theorem ar92:arrA prog 92=some (3,3):=by kernel_rfl
@[simp] theorem el92:qI prog 92=none:=by kernel_rfl
@[simp] theorem sz92:zS prog 92=some 3:=by kernel_rfl
@[simp] theorem ze92:wD prog 92=some [.v (.int .i64 0),.v (.int .i64 0),.v (.int .i64 0)]:=by kernel_rfl
@[simp] theorem ag92:qD prog 92=some true:=by kernel_rfl
@[simp] theorem rc92 (cs:List PV):zr prog 92 cs=if 3≤cs.length then some (.agg (cs.take 3)) else none:=by simp[zr]
@[simp] theorem pl92:jI prog 92=none:=by kernel_rfl
@[simp] theorem sz94:zS prog 94=some 5:=by kernel_rfl
@[simp] theorem ze94:wD prog 94=some [.v (.int .i64 0),.v (.int .i64 0),.v (.int .i64 0),.v (.int .i64 0),.nil]:=by kernel_rfl
@[simp] theorem ag94:qD prog 94=some true:=by kernel_rfl
@[simp] theorem rc94 (cs:List PV):zr prog 94 cs=if 5≤cs.length then some (.agg (cs.take 5)) else none:=by simp[zr]
@[simp] theorem fi94_0:qf prog 94 0=some (0,3,true):=by kernel_rfl
@[simp] theorem fi94_1:qf prog 94 1=some (3,1,false):=by kernel_rfl
@[simp] theorem fi94_2:qf prog 94 2=some (4,1,false):=by kernel_rfl
@[simp] theorem pl94:jI prog 94=some [(0,3),(3,1),(4,1)]:=by kernel_rfl
@[simp] theorem sz96:zS prog 96=some 11:=by kernel_rfl
@[simp] theorem by96:yi prog 96=some 128:=by kernel_rfl
@[simp] theorem ze96:wD prog 96=some [.v (.string ⟨#[]⟩),.v (.int .i64 0),.v (.int .i64 0),.v (.int .i64 0),.v (.int .i64 0),.nil,.v (.int .i64 0),.v (.int .i64 0),.v (.int .i64 0),.v (.int .i64 0),.nil]:=by kernel_rfl
@[simp] theorem ag96:qD prog 96=some true:=by kernel_rfl
@[simp] theorem rc96 (cs:List PV):zr prog 96 cs=if 11≤cs.length then some (.agg (cs.take 11)) else none:=by simp[zr]
@[simp] theorem fi96_0:qf prog 96 0=some (0,1,false):=by kernel_rfl
@[simp] theorem fi96_1:qf prog 96 1=some (1,5,true):=by kernel_rfl
@[simp] theorem fi96_2:qf prog 96 2=some (6,5,true):=by kernel_rfl
@[simp] theorem pl96:jI prog 96=some [(0,1),(1,5),(6,5)]:=by kernel_rfl
@[simp] theorem sz102:zS prog 102=some 4:=by kernel_rfl
@[simp] theorem ze102:wD prog 102=some [.v (.int .i64 0),.v (.int .i64 0),.v (.int .i64 0),.nil]:=by kernel_rfl
@[simp] theorem ag102:qD prog 102=some true:=by kernel_rfl
@[simp] theorem rc102 (cs:List PV):zr prog 102 cs=if 4≤cs.length then some (.agg (cs.take 4)) else none:=by simp[zr]
@[simp] theorem fi102_0:qf prog 102 0=some (0,1,false):=by kernel_rfl
@[simp] theorem fi102_1:qf prog 102 1=some (1,1,false):=by kernel_rfl
@[simp] theorem fi102_2:qf prog 102 2=some (2,1,false):=by kernel_rfl
@[simp] theorem fi102_3:qf prog 102 3=some (3,1,false):=by kernel_rfl
@[simp] theorem pl102:jI prog 102=some [(0,1),(1,1),(2,1),(3,1)]:=by kernel_rfl
@[simp] theorem sz104:zS prog 104=some 5:=by kernel_rfl
@[simp] theorem by104:yi prog 104=some 56:=by kernel_rfl
@[simp] theorem ze104:wD prog 104=some [.v (.int .i64 0),.v (.int .i64 0),.v (.int .i64 0),.nil,.v (.bool false)]:=by kernel_rfl
@[simp] theorem ag104:qD prog 104=some true:=by kernel_rfl
@[simp] theorem rc104 (cs:List PV):zr prog 104 cs=if 5≤cs.length then some (.agg (cs.take 5)) else none:=by simp[zr]
@[simp] theorem fi104_0:qf prog 104 0=some (0,4,true):=by kernel_rfl
@[simp] theorem fi104_1:qf prog 104 1=some (4,1,false):=by kernel_rfl
@[simp] theorem pl104:jI prog 104=some [(0,4),(4,1)]:=by kernel_rfl
@[simp] theorem sz106:zS prog 106=some 11:=by kernel_rfl
@[simp] theorem by106:yi prog 106=some 120:=by kernel_rfl
@[simp] theorem ze106:wD prog 106=some [.v (.int .i64 0),.v (.int .i64 0),.v (.int .i64 0),.nil,.v (.bool false),.v (.int .i64 0),.v (.int .i64 0),.v (.int .i64 0),.nil,.v (.bool false),.v (.bool false)]:=by kernel_rfl
@[simp] theorem ag106:qD prog 106=some true:=by kernel_rfl
@[simp] theorem rc106 (cs:List PV):zr prog 106 cs=if 11≤cs.length then some (.agg (cs.take 11)) else none:=by simp[zr]
@[simp] theorem fi106_0:qf prog 106 0=some (0,5,true):=by kernel_rfl
@[simp] theorem fi106_1:qf prog 106 1=some (5,5,true):=by kernel_rfl
@[simp] theorem fi106_2:qf prog 106 2=some (10,1,false):=by kernel_rfl
@[simp] theorem pl106:jI prog 106=some [(0,5),(5,5),(10,1)]:=by kernel_rfl
@[simp] theorem el133:qI prog 133=some 104:=by kernel_rfl
@[simp] theorem el134:qI prog 134=some 69:=by kernel_rfl
@[simp] theorem el141:qI prog 141=some 145:=by kernel_rfl
@[simp] theorem sz145:zS prog 145=some 2:=by kernel_rfl
@[simp] theorem by145:yi prog 145=some 32:=by kernel_rfl
@[simp] theorem ze145:wD prog 145=some [.v (.string ⟨#[]⟩),.v (.string ⟨#[]⟩)]:=by kernel_rfl
@[simp] theorem ag145:qD prog 145=some true:=by kernel_rfl
@[simp] theorem rc145 (cs:List PV):zr prog 145 cs=if 2≤cs.length then some (.agg (cs.take 2)) else none:=by simp[zr]
@[simp] theorem fi145_0:qf prog 145 0=some (0,1,false):=by kernel_rfl
@[simp] theorem fi145_1:qf prog 145 1=some (1,1,false):=by kernel_rfl
@[simp] theorem pl145:jI prog 145=some [(0,1),(1,1)]:=by kernel_rfl
@[simp] theorem fl145:flatA prog 145=some [2,2]:=by kernel_rfl
@[simp] theorem el166:qI prog 166=some 3:=by kernel_rfl
@[simp] theorem un199:Program.underlying prog 199=some (.int .u64):=by kernel_rfl
@[simp] theorem un230:Program.underlying prog 230=some (.array 20 199):=by kernel_rfl
@[simp] theorem if42:ifaceA prog 42=true:=by kernel_rfl
end Go.Proofs.YtpeaooooimfihaaGreatDoor
