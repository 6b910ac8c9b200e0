/-
What the evaluator asks of the program's types. Written by a program of this repo (facts.py).
-/
import Derived.Test.YtglppmnehgjolaaGreatDoorG8
import Derived.Test.YtglppmnehgjolaaGreatDoorProg
set_option maxRecDepth 8000
namespace Go.Proofs.YtglppmnehgjolaaGreatDoor
open Go.Proofs.Tryz
open Go.RowKit Go.AM
@[simp] theorem un3:Program.underlying prog 3=some (.int .i64):=by kernel_rfl
@[simp] theorem sz3:zU prog 3=some 1:=by kernel_rfl
@[simp] theorem ze3:wt prog 3=some [.v (.int .i64 0)]:=by kernel_rfl
@[simp] theorem ag3:ql prog 3=some false:=by kernel_rfl
@[simp] theorem rc3 (cs:List PV):zm prog 3 cs=cs[0]?:=by simp[zm]
@[simp] theorem un4:Program.underlying prog 4=some .bool:=by kernel_rfl
@[simp] theorem sz4:zU prog 4=some 1:=by kernel_rfl
@[simp] theorem ag4:ql prog 4=some false:=by kernel_rfl
@[simp] theorem rc4 (cs:List PV):zm prog 4 cs=cs[0]?:=by simp[zm]
@[simp] theorem un9:Program.underlying prog 9=some .string:=by kernel_rfl
@[simp] theorem sz9:zU prog 9=some 1:=by kernel_rfl
@[simp] theorem by9:wH prog 9=some 16:=by kernel_rfl
@[simp] theorem ze9:wt prog 9=some [.v (.string ⟨#[]⟩)]:=by kernel_rfl
@[simp] theorem ag9:ql prog 9=some false:=by kernel_rfl
@[simp] theorem rc9 (cs:List PV):zm prog 9 cs=cs[0]?:=by simp[zm]
@[simp] theorem el22:qA prog 22=some 90:=by kernel_rfl
@[simp] theorem sz22:zU prog 22=some 1:=by kernel_rfl
@[simp] theorem ag22:ql prog 22=some false:=by kernel_rfl
@[simp] theorem rc22 (cs:List PV):zm prog 22 cs=cs[0]?:=by simp[zm]
@[simp] theorem el23:qA prog 23=some 103:=by kernel_rfl
@[simp] theorem sz23:zU prog 23=some 1:=by kernel_rfl
@[simp] theorem ag23:ql prog 23=some false:=by kernel_rfl
@[simp] theorem rc23 (cs:List PV):zm prog 23 cs=cs[0]?:=by simp[zm]
@[simp] theorem el24:qA prog 24=some 34:=by kernel_rfl
@[simp] theorem sz24:zU prog 24=some 1:=by kernel_rfl
@[simp] theorem ag24:ql prog 24=some false:=by kernel_rfl
@[simp] theorem rc24 (cs:List PV):zm prog 24 cs=cs[0]?:=by simp[zm]
@[simp] theorem sz26:zU prog 26=some 3:=by kernel_rfl
@[simp] theorem ze26:wt prog 26=some [.nil,.nil,.nil]:=by kernel_rfl
@[simp] theorem ag26:ql prog 26=some true:=by kernel_rfl
@[simp] theorem rc26 (cs:List PV):zm prog 26 cs=if 3≤cs.length then some (.agg (cs.take 3)) else none:=by simp[zm]
@[simp] theorem fi26_0:zR prog 26 0=some (0,1,false):=by kernel_rfl
@[simp] theorem fi26_1:zR prog 26 1=some (1,1,false):=by kernel_rfl
@[simp] theorem fi26_2:zR prog 26 2=some (2,1,false):=by kernel_rfl
@[simp] theorem pl26:yI prog 26=some [(0,1),(1,1),(2,1)]:=by kernel_rfl
@[simp] theorem el27:qA prog 27=some 128:=by kernel_rfl
@[simp] theorem sz27:zU prog 27=some 1:=by kernel_rfl
@[simp] theorem ag27:ql prog 27=some false:=by kernel_rfl
@[simp] theorem rc27 (cs:List PV):zm prog 27 cs=cs[0]?:=by simp[zm]
@[simp] theorem el28:qA prog 28=some 30:=by kernel_rfl
@[simp] theorem sz28:zU prog 28=some 1:=by kernel_rfl
@[simp] theorem ag28:ql prog 28=some false:=by kernel_rfl
@[simp] theorem rc28 (cs:List PV):zm prog 28 cs=cs[0]?:=by simp[zm]
@[simp] theorem sz30:zU prog 30=some 7:=by kernel_rfl
@[simp] theorem by30:wH prog 30=some 112:=by kernel_rfl
@[simp] theorem ze30:wt prog 30=some [.v (.int .i64 0),.v (.string ⟨#[]⟩),.v (.int .i64 0),.nil,.v (.string ⟨#[]⟩),.v (.string ⟨#[]⟩),.nil]:=by kernel_rfl
@[simp] theorem ag30:ql prog 30=some true:=by kernel_rfl
@[simp] theorem rc30 (cs:List PV):zm prog 30 cs=if 7≤cs.length then some (.agg (cs.take 7)) else none:=by simp[zm]
@[simp] theorem fi30_0:zR prog 30 0=some (0,1,false):=by kernel_rfl
@[simp] theorem fi30_1:zR prog 30 1=some (1,1,false):=by kernel_rfl
@[simp] theorem fi30_2:zR prog 30 2=some (2,1,false):=by kernel_rfl
@[simp] theorem fi30_3:zR prog 30 3=some (3,1,false):=by kernel_rfl
@[simp] theorem fi30_4:zR prog 30 4=some (4,1,false):=by kernel_rfl
@[simp] theorem fi30_5:zR prog 30 5=some (5,1,false):=by kernel_rfl
@[simp] theorem fi30_6:zR prog 30 6=some (6,1,false):=by kernel_rfl
@[simp] theorem el31:qA prog 31=some 97:=by kernel_rfl
@[simp] theorem sz31:zU prog 31=some 1:=by kernel_rfl
@[simp] theorem ag31:ql prog 31=some false:=by kernel_rfl
@[simp] theorem rc31 (cs:List PV):zm prog 31 cs=cs[0]?:=by simp[zm]
@[simp] theorem el32:qA prog 32=some 58:=by kernel_rfl
@[simp] theorem sz32:zU prog 32=some 1:=by kernel_rfl
@[simp] theorem ag32:ql prog 32=some false:=by kernel_rfl
@[simp] theorem rc32 (cs:List PV):zm prog 32 cs=cs[0]?:=by simp[zm]
@[simp] theorem sz34:zU prog 34=some 13:=by kernel_rfl
@[simp] theorem by34:wH prog 34=some 224:=by kernel_rfl
@[simp] theorem ze34:wt prog 34=some [.v (.string ⟨#[]⟩),.v (.string ⟨#[]⟩),.v (.string ⟨#[]⟩),.v (.int .i64 0),.v (.string ⟨#[]⟩),.v (.int .i64 0),.nil,.v (.string ⟨#[]⟩),.v (.string ⟨#[]⟩),.nil,.v (.string ⟨#[]⟩),.nil,.nil]:=by kernel_rfl
@[simp] theorem ag34:ql prog 34=some true:=by kernel_rfl
@[simp] theorem rc34 (cs:List PV):zm prog 34 cs=if 13≤cs.length then some (.agg (cs.take 13)) else none:=by simp[zm]
@[simp] theorem fi34_0:zR prog 34 0=some (0,1,false):=by kernel_rfl
@[simp] theorem fi34_1:zR prog 34 1=some (1,1,false):=by kernel_rfl
@[simp] theorem fi34_2:zR prog 34 2=some (2,1,false):=by kernel_rfl
@[simp] theorem fi34_3:zR prog 34 3=some (3,7,true):=by kernel_rfl
@[simp] theorem fi34_4:zR prog 34 4=some (10,1,false):=by kernel_rfl
@[simp] theorem fi34_5:zR prog 34 5=some (11,1,false):=by kernel_rfl
@[simp] theorem fi34_6:zR prog 34 6=some (12,1,false):=by kernel_rfl
@[simp] theorem sz35:zU prog 35=some 1:=by kernel_rfl
@[simp] theorem ze35:wt prog 35=some [.v (.int .i64 0)]:=by kernel_rfl
@[simp] theorem ag35:ql prog 35=some false:=by kernel_rfl
@[simp] theorem rc35 (cs:List PV):zm prog 35 cs=cs[0]?:=by simp[zm]
@[simp] theorem el38:qA prog 38=some 67:=by kernel_rfl
@[simp] theorem sz38:zU prog 38=some 1:=by kernel_rfl
@[simp] theorem ze38:wt prog 38=some [.nil]:=by kernel_rfl
@[simp] theorem ag38:ql prog 38=some false:=by kernel_rfl
@[simp] theorem rc38 (cs:List PV):zm prog 38 cs=cs[0]?:=by simp[zm]
@[simp] theorem sz58:zU prog 58=some 2:=by kernel_rfl
@[simp] theorem by58:wH prog 58=some 32:=by kernel_rfl
@[simp] theorem ze58:wt prog 58=some [.v (.int .i64 0),.nil]:=by kernel_rfl
@[simp] theorem ag58:ql prog 58=some true:=by kernel_rfl
@[simp] theorem rc58 (cs:List PV):zm prog 58 cs=if 2≤cs.length then some (.agg (cs.take 2)) else none:=by simp[zm]
@[simp] theorem fi58_0:zR prog 58 0=some (0,1,false):=by kernel_rfl
@[simp] theorem fi58_1:zR prog 58 1=some (1,1,false):=by kernel_rfl
@[simp] theorem pl58:yI prog 58=some [(0,1),(1,1)]:=by kernel_rfl
@[simp] theorem sz67:zU prog 67=some 2:=by kernel_rfl
@[simp] theorem by67:wH prog 67=some 16:=by kernel_rfl
@[simp] theorem ze67:wt prog 67=some [.v (.int .i64 0),.v (.int .i64 0)]:=by kernel_rfl
@[simp] theorem ag67:ql prog 67=some true:=by kernel_rfl
@[simp] theorem rc67 (cs:List PV):zm prog 67 cs=if 2≤cs.length then some (.agg (cs.take 2)) else none:=by simp[zm]
@[simp] theorem fi67_0:zR prog 67 0=some (0,1,false):=by kernel_rfl
@[simp] theorem fi67_1:zR prog 67 1=some (1,1,false):=by kernel_rfl
@[simp] theorem pl67:yI prog 67=some [(0,1),(1,1)]:=by kernel_rfl
@[simp] theorem fl67:flatA prog 67=some [0,0]:=by kernel_rfl
@[simp] theorem sz80:zU prog 80=some 1:=by kernel_rfl
@[simp] theorem ag80:ql prog 80=some false:=by kernel_rfl
@[simp] theorem rc80 (cs:List PV):zm prog 80 cs=cs[0]?:=by simp[zm]
@[simp] theorem mk82:mapKT prog 82=some (none,4):=by kernel_rfl
@[simp] theorem zv4_82:zeroV prog 4=some (.v (.bool false)):=by kernel_rfl
@[simp] theorem sz82:zU prog 82=some 1:=by kernel_rfl
@[simp] theorem ag82:ql prog 82=some false:=by kernel_rfl
@[simp] theorem rc82 (cs:List PV):zm prog 82 cs=cs[0]?:=by simp[zm]
@[simp] theorem sz84:zU prog 84=some 6:=by kernel_rfl
@[simp] theorem ze84:wt prog 84=some [.nil,.nil,.nil,.v (.map none),.v (.map none),.v (.bool false)]:=by kernel_rfl
@[simp] theorem fi84_0:zR prog 84 0=some (0,3,true):=by kernel_rfl
@[simp] theorem fi84_1:zR prog 84 1=some (3,1,false):=by kernel_rfl
@[simp] theorem fi84_3:zR prog 84 3=some (5,1,false):=by kernel_rfl
@[simp] theorem pl84:yI prog 84=some [(0,3),(3,1),(4,1),(5,1)]:=by kernel_rfl
@[simp] theorem sz90:zU prog 90=some 3:=by kernel_rfl
@[simp] theorem by90:wH prog 90=some 40:=by kernel_rfl
@[simp] theorem ze90:wt prog 90=some [.v (.string ⟨#[]⟩),.v (.string ⟨#[]⟩),.v (.int .i64 0)]:=by kernel_rfl
@[simp] theorem ag90:ql prog 90=some true:=by kernel_rfl
@[simp] theorem rc90 (cs:List PV):zm prog 90 cs=if 3≤cs.length then some (.agg (cs.take 3)) else none:=by simp[zm]
@[simp] theorem fi90_0:zR prog 90 0=some (0,1,false):=by kernel_rfl
@[simp] theorem fi90_1:zR prog 90 1=some (1,1,false):=by kernel_rfl
@[simp] theorem fi90_2:zR prog 90 2=some (2,1,false):=by kernel_rfl
@[simp] theorem sz97:zU prog 97=some 3:=by kernel_rfl
@[simp] theorem by97:wH prog 97=some 24:=by kernel_rfl
@[simp] theorem ze97:wt prog 97=some [.v (.int .i64 0),.v (.int .i64 0),.v (.int .i64 0)]:=by kernel_rfl
@[simp] theorem ag97:ql prog 97=some true:=by kernel_rfl
@[simp] theorem rc97 (cs:List PV):zm prog 97 cs=if 3≤cs.length then some (.agg (cs.take 3)) else none:=by simp[zm]
@[simp] theorem fi97_0:zR prog 97 0=some (0,1,false):=by kernel_rfl
@[simp] theorem fi97_1:zR prog 97 1=some (1,1,false):=by kernel_rfl
@[simp] theorem fi97_2:zR prog 97 2=some (2,1,false):=by kernel_rfl
@[simp] theorem fl97:flatA prog 97=some [0,0,0]:=by kernel_rfl
@[simp] theorem el101:qA prog 101=some 9:=by kernel_rfl
@[simp] theorem sz101:zU prog 101=some 1:=by kernel_rfl
@[simp] theorem ag101:ql prog 101=some false:=by kernel_rfl
@[simp] theorem rc101 (cs:List PV):zm prog 101 cs=cs[0]?:=by simp[zm]
@[simp] theorem sz103:zU prog 103=some 4:=by kernel_rfl
@[simp] theorem by103:wH prog 103=some 64:=by kernel_rfl
@[simp] theorem ze103:wt prog 103=some [.v (.string ⟨#[]⟩),.v (.string ⟨#[]⟩),.v (.int .i64 0),.nil]:=by kernel_rfl
@[simp] theorem ag103:ql prog 103=some true:=by kernel_rfl
@[simp] theorem rc103 (cs:List PV):zm prog 103 cs=if 4≤cs.length then some (.agg (cs.take 4)) else none:=by simp[zm]
@[simp] theorem fi103_0:zR prog 103 0=some (0,1,false):=by kernel_rfl
@[simp] theorem fi103_1:zR prog 103 1=some (1,1,false):=by kernel_rfl
@[simp] theorem fi103_2:zR prog 103 2=some (2,1,false):=by kernel_rfl
@[simp] theorem fi103_3:zR prog 103 3=some (3,1,false):=by kernel_rfl
@[simp] theorem el119:qA prog 119=some 38:=by kernel_rfl
@[simp] theorem el120:qA prog 120=some 122:=by kernel_rfl
@[simp] theorem el126:qA prog 126=some 158:=by kernel_rfl
@[simp] theorem sz126:zU prog 126=some 1:=by kernel_rfl
@[simp] theorem ag126:ql prog 126=some false:=by kernel_rfl
@[simp] theorem rc126 (cs:List PV):zm prog 126 cs=cs[0]?:=by simp[zm]
@[simp] theorem sz128:zU prog 128=some 5:=by kernel_rfl
@[simp] theorem by128:wH prog 128=some 80:=by kernel_rfl
@[simp] theorem ze128:wt prog 128=some [.v (.int .i64 0),.v (.int .i64 0),.v (.string ⟨#[]⟩),.nil,.nil]:=by kernel_rfl
@[simp] theorem ag128:ql prog 128=some true:=by kernel_rfl
@[simp] theorem rc128 (cs:List PV):zm prog 128 cs=if 5≤cs.length then some (.agg (cs.take 5)) else none:=by simp[zm]
@[simp] theorem fi128_0:zR prog 128 0=some (0,1,false):=by kernel_rfl
@[simp] theorem fi128_1:zR prog 128 1=some (1,1,false):=by kernel_rfl
@[simp] theorem fi128_2:zR prog 128 2=some (2,1,false):=by kernel_rfl
@[simp] theorem fi128_3:zR prog 128 3=some (3,1,false):=by kernel_rfl
@[simp] theorem fi128_4:zR prog 128 4=some (4,1,false):=by kernel_rfl
@[simp] theorem un141:Program.underlying prog 141=some (.int .u64):=by kernel_rfl
@[simp] theorem sz158:zU prog 158=some 6:=by kernel_rfl
@[simp] theorem by158:wH prog 158=some 96:=by kernel_rfl
@[simp] theorem ze158:wt prog 158=some [.v (.string ⟨#[]⟩),.v (.int .i64 0),.v (.int .i64 0),.v (.string ⟨#[]⟩),.nil,.nil]:=by kernel_rfl
@[simp] theorem ag158:ql prog 158=some true:=by kernel_rfl
@[simp] theorem rc158 (cs:List PV):zm prog 158 cs=if 6≤cs.length then some (.agg (cs.take 6)) else none:=by simp[zm]
@[simp] theorem fi158_0:zR prog 158 0=some (0,1,false):=by kernel_rfl
@[simp] theorem fi158_1:zR prog 158 1=some (1,5,true):=by kernel_rfl
@[simp] theorem el186:qA prog 186=some 216:=by kernel_rfl
@[simp] theorem sz186:zU prog 186=some 1:=by kernel_rfl
@[simp] theorem ze186:wt prog 186=some [.nil]:=by kernel_rfl
@[simp] theorem ag186:ql prog 186=some false:=by kernel_rfl
@[simp] theorem rc186 (cs:List PV):zm prog 186 cs=cs[0]?:=by simp[zm]
@[simp] theorem el194:qA prog 194=some 198:=by kernel_rfl
@[simp] theorem sz194:zU prog 194=some 1:=by kernel_rfl
@[simp] theorem ze194:wt prog 194=some [.nil]:=by kernel_rfl
@[simp] theorem ag194:ql prog 194=some false:=by kernel_rfl
@[simp] theorem rc194 (cs:List PV):zm prog 194 cs=cs[0]?:=by simp[zm]
@[simp] theorem el198:qA prog 198=some 206:=by kernel_rfl
@[simp] theorem sz198:zU prog 198=some 1:=by kernel_rfl
@[simp] theorem by198:wH prog 198=some 24:=by kernel_rfl
@[simp] theorem ze198:wt prog 198=some [.nil]:=by kernel_rfl
@[simp] theorem ag198:ql prog 198=some false:=by kernel_rfl
@[simp] theorem rc198 (cs:List PV):zm prog 198 cs=cs[0]?:=by simp[zm]
@[simp] theorem ar202:arrA prog 202=some (3,3):=by kernel_rfl
@[simp] theorem el202:qA prog 202=none:=by kernel_rfl
@[simp] theorem sz202:zU prog 202=some 3:=by kernel_rfl
@[simp] theorem ze202:wt prog 202=some [.v (.int .i64 0),.v (.int .i64 0),.v (.int .i64 0)]:=by kernel_rfl
@[simp] theorem ag202:ql prog 202=some true:=by kernel_rfl
@[simp] theorem rc202 (cs:List PV):zm prog 202 cs=if 3≤cs.length then some (.agg (cs.take 3)) else none:=by simp[zm]
@[simp] theorem pl202:yI prog 202=none:=by kernel_rfl
@[simp] theorem sz204:zU prog 204=some 5:=by kernel_rfl
@[simp] theorem ze204:wt prog 204=some [.v (.int .i64 0),.v (.int .i64 0),.v (.int .i64 0),.v (.int .i64 0),.nil]:=by kernel_rfl
@[simp] theorem ag204:ql prog 204=some true:=by kernel_rfl
@[simp] theorem rc204 (cs:List PV):zm prog 204 cs=if 5≤cs.length then some (.agg (cs.take 5)) else none:=by simp[zm]
@[simp] theorem fi204_0:zR prog 204 0=some (0,3,true):=by kernel_rfl
@[simp] theorem fi204_1:zR prog 204 1=some (3,1,false):=by kernel_rfl
@[simp] theorem fi204_2:zR prog 204 2=some (4,1,false):=by kernel_rfl
@[simp] theorem pl204:yI prog 204=some [(0,3),(3,1),(4,1)]:=by kernel_rfl
@[simp] theorem sz206:zU prog 206=some 11:=by kernel_rfl
@[simp] theorem by206:wH prog 206=some 128:=by kernel_rfl
@[simp] theorem ze206:wt prog 206=some [.v (.string ⟨#[]⟩),.v (.int .i64 0),.v (.int .i64 0),.v (.int .i64 0),.v (.int .i64 0),.nil,.v (.int .i64 0),.v (.int .i64 0),.v (.int .i64 0),.v (.int .i64 0),.nil]:=by kernel_rfl
@[simp] theorem ag206:ql prog 206=some true:=by kernel_rfl
@[simp] theorem rc206 (cs:List PV):zm prog 206 cs=if 11≤cs.length then some (.agg (cs.take 11)) else none:=by simp[zm]
@[simp] theorem fi206_0:zR prog 206 0=some (0,1,false):=by kernel_rfl
@[simp] theorem fi206_1:zR prog 206 1=some (1,5,true):=by kernel_rfl
@[simp] theorem fi206_2:zR prog 206 2=some (6,5,true):=by kernel_rfl
@[simp] theorem pl206:yI prog 206=some [(0,1),(1,5),(6,5)]:=by kernel_rfl
@[simp] theorem sz212:zU prog 212=some 4:=by kernel_rfl
@[simp] theorem ze212:wt prog 212=some [.v (.int .i64 0),.v (.int .i64 0),.v (.int .i64 0),.nil]:=by kernel_rfl
@[simp] theorem ag212:ql prog 212=some true:=by kernel_rfl
@[simp] theorem rc212 (cs:List PV):zm prog 212 cs=if 4≤cs.length then some (.agg (cs.take 4)) else none:=by simp[zm]
@[simp] theorem fi212_0:zR prog 212 0=some (0,1,false):=by kernel_rfl
@[simp] theorem fi212_1:zR prog 212 1=some (1,1,false):=by kernel_rfl
@[simp] theorem fi212_2:zR prog 212 2=some (2,1,false):=by kernel_rfl
@[simp] theorem fi212_3:zR prog 212 3=some (3,1,false):=by kernel_rfl
@[simp] theorem pl212:yI prog 212=some [(0,1),(1,1),(2,1),(3,1)]:=by kernel_rfl
@[simp] theorem sz214:zU prog 214=some 5:=by kernel_rfl
@[simp] theorem by214:wH prog 214=some 56:=by kernel_rfl
@[simp] theorem ze214:wt prog 214=some [.v (.int .i64 0),.v (.int .i64 0),.v (.int .i64 0),.nil,.v (.bool false)]:=by kernel_rfl
@[simp] theorem ag214:ql prog 214=some true:=by kernel_rfl
@[simp] theorem rc214 (cs:List PV):zm prog 214 cs=if 5≤cs.length then some (.agg (cs.take 5)) else none:=by simp[zm]
@[simp] theorem fi214_0:zR prog 214 0=some (0,4,true):=by kernel_rfl
@[simp] theorem fi214_1:zR prog 214 1=some (4,1,false):=by kernel_rfl
@[simp] theorem pl214:yI prog 214=some [(0,4),(4,1)]:=by kernel_rfl
@[simp] theorem sz216:zU prog 216=some 11:=by kernel_rfl
@[simp] theorem by216:wH prog 216=some 120:=by kernel_rfl
@[simp] theorem ze216:wt prog 216=some [.v (.int .i64 0),.v (.int .i64 0),.v (.int .i64 0),.nil,.v (.bool false),.v (.int .i64 0),.v (.int .i64 0),.v (.int .i64 0),.nil,.v (.bool false),.v (.bool false)]:=by kernel_rfl
@[simp] theorem ag216:ql prog 216=some true:=by kernel_rfl
@[simp] theorem rc216 (cs:List PV):zm prog 216 cs=if 11≤cs.length then some (.agg (cs.take 11)) else none:=by simp[zm]
@[simp] theorem fi216_0:zR prog 216 0=some (0,5,true):=by kernel_rfl
@[simp] theorem fi216_1:zR prog 216 1=some (5,5,true):=by kernel_rfl
@[simp] theorem fi216_2:zR prog 216 2=some (10,1,false):=by kernel_rfl
@[simp] theorem pl216:yI prog 216=some [(0,5),(5,5),(10,1)]:=by kernel_rfl
@[simp] theorem el233:qA prog 233=some 214:=by kernel_rfl
@[simp] theorem el234:qA prog 234=some 186:=by kernel_rfl
@[simp] theorem el239:qA prog 239=some 3:=by kernel_rfl
@[simp] theorem un319:Program.underlying prog 319=some (.array 20 141):=by kernel_rfl
@[simp] theorem if260:ifaceA prog 260=true:=by kernel_rfl
end Go.Proofs.YtglppmnehgjolaaGreatDoor
