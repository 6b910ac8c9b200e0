/-
What the evaluator asks of the program's types. Written by a program of this repo (facts.py).
-/
import Derived.Test.YtanbabpnlgfcpaaGreatDoorG9
import Derived.Test.YtanbabpnlgfcpaaGreatDoorProg
set_option maxRecDepth 8000
namespace Go.Proofs.YtanbabpnlgfcpaaGreatDoor
open Go.Proofs.Tryz
open Go.RowKit Go.AM
@[simp] theorem un3:Program.underlying prog 3=some (.int .i64):=by kernel_rfl
@[simp] theorem sz3:zQ prog 3=some 1:=by kernel_rfl
@[simp] theorem by3:jE prog 3=some 8:=by kernel_rfl
@[simp] theorem ze3:qY prog 3=some [.v (.int .i64 0)]:=by kernel_rfl
@[simp] theorem ag3:zV prog 3=some false:=by kernel_rfl
@[simp] theorem rc3 (cs:List PV):zj prog 3 cs=cs[0]?:=by simp[zj]
@[simp] theorem un4:Program.underlying prog 4=some .bool:=by kernel_rfl
@[simp] theorem sz4:zQ prog 4=some 1:=by kernel_rfl
@[simp] theorem ag4:zV prog 4=some false:=by kernel_rfl
@[simp] theorem rc4 (cs:List PV):zj prog 4 cs=cs[0]?:=by simp[zj]
@[simp] theorem un9:Program.underlying prog 9=some .string:=by kernel_rfl
@[simp] theorem sz9:zQ prog 9=some 1:=by kernel_rfl
@[simp] theorem by9:jE prog 9=some 16:=by kernel_rfl
@[simp] theorem ze9:qY prog 9=some [.v (.string ⟨#[]⟩)]:=by kernel_rfl
@[simp] theorem ag9:zV prog 9=some false:=by kernel_rfl
@[simp] theorem rc9 (cs:List PV):zj prog 9 cs=cs[0]?:=by simp[zj]
@[simp] theorem el22:qw prog 22=some 108:=by kernel_rfl
@[simp] theorem sz22:zQ prog 22=some 1:=by kernel_rfl
@[simp] theorem ag22:zV prog 22=some false:=by kernel_rfl
@[simp] theorem rc22 (cs:List PV):zj prog 22 cs=cs[0]?:=by simp[zj]
@[simp] theorem el23:qw prog 23=some 94:=by kernel_rfl
@[simp] theorem sz23:zQ prog 23=some 1:=by kernel_rfl
@[simp] theorem ag23:zV prog 23=some false:=by kernel_rfl
@[simp] theorem rc23 (cs:List PV):zj prog 23 cs=cs[0]?:=by simp[zj]
@[simp] theorem el24:qw prog 24=some 104:=by kernel_rfl
@[simp] theorem sz24:zQ prog 24=some 1:=by kernel_rfl
@[simp] theorem ag24:zV prog 24=some false:=by kernel_rfl
@[simp] theorem rc24 (cs:List PV):zj prog 24 cs=cs[0]?:=by simp[zj]
@[simp] theorem el25:qw prog 25=some 72:=by kernel_rfl
@[simp] theorem sz25:zQ prog 25=some 1:=by kernel_rfl
@[simp] theorem ag25:zV prog 25=some false:=by kernel_rfl
@[simp] theorem rc25 (cs:List PV):zj prog 25 cs=cs[0]?:=by simp[zj]
@[simp] theorem sz27:zQ prog 27=some 3:=by kernel_rfl
@[simp] theorem ag27:zV prog 27=some true:=by kernel_rfl
@[simp] theorem rc27 (cs:List PV):zj prog 27 cs=if 3≤cs.length then some (.agg (cs.take 3)) else none:=by simp[zj]
@[simp] theorem fi27_0:zH prog 27 0=some (0,1,false):=by kernel_rfl
@[simp] theorem fi27_1:zH prog 27 1=some (1,1,false):=by kernel_rfl
@[simp] theorem fi27_2:zH prog 27 2=some (2,1,false):=by kernel_rfl
@[simp] theorem el28:qw prog 28=some 89:=by kernel_rfl
@[simp] theorem sz28:zQ prog 28=some 1:=by kernel_rfl
@[simp] theorem ag28:zV prog 28=some false:=by kernel_rfl
@[simp] theorem rc28 (cs:List PV):zj prog 28 cs=cs[0]?:=by simp[zj]
@[simp] theorem sz30:zQ prog 30=some 2:=by kernel_rfl
@[simp] theorem ag30:zV prog 30=some true:=by kernel_rfl
@[simp] theorem rc30 (cs:List PV):zj prog 30 cs=if 2≤cs.length then some (.agg (cs.take 2)) else none:=by simp[zj]
@[simp] theorem fi30_0:zH prog 30 0=some (0,1,false):=by kernel_rfl
@[simp] theorem fi30_1:zH prog 30 1=some (1,1,false):=by kernel_rfl
@[simp] theorem el32:qw prog 32=some 37:=by kernel_rfl
@[simp] theorem sz33:zQ prog 33=some 1:=by kernel_rfl
@[simp] theorem ze33:qY prog 33=some [.v (.int .i64 0)]:=by kernel_rfl
@[simp] theorem ag33:zV prog 33=some false:=by kernel_rfl
@[simp] theorem rc33 (cs:List PV):zj prog 33 cs=cs[0]?:=by simp[zj]
@[simp] theorem sz37:zQ prog 37=some 4:=by kernel_rfl
@[simp] theorem by37:jE prog 37=some 48:=by kernel_rfl
@[simp] theorem ze37:qY prog 37=some [.v (.string ⟨#[]⟩),.v (.string ⟨#[]⟩),.v (.int .i64 0),.v (.int .i64 0)]:=by kernel_rfl
@[simp] theorem ag37:zV prog 37=some true:=by kernel_rfl
@[simp] theorem rc37 (cs:List PV):zj prog 37 cs=if 4≤cs.length then some (.agg (cs.take 4)) else none:=by simp[zj]
@[simp] theorem fi37_0:zH prog 37 0=some (0,1,false):=by kernel_rfl
@[simp] theorem fi37_1:zH prog 37 1=some (1,1,false):=by kernel_rfl
@[simp] theorem fi37_2:zH prog 37 2=some (2,1,false):=by kernel_rfl
@[simp] theorem pl37:yl prog 37=some [(0,1),(1,1),(2,1),(3,1)]:=by kernel_rfl
@[simp] theorem fl37:flatA prog 37=some [2,2,0,0]:=by kernel_rfl
@[simp] theorem el40:qw prog 40=some 45:=by kernel_rfl
@[simp] theorem sz40:zQ prog 40=some 1:=by kernel_rfl
@[simp] theorem ag40:zV prog 40=some false:=by kernel_rfl
@[simp] theorem rc40 (cs:List PV):zj prog 40 cs=cs[0]?:=by simp[zj]
@[simp] theorem sz45:zQ prog 45=some 2:=by kernel_rfl
@[simp] theorem by45:jE prog 45=some 16:=by kernel_rfl
@[simp] theorem ze45:qY prog 45=some [.v (.int .i64 0),.v (.int .i64 0)]:=by kernel_rfl
@[simp] theorem ag45:zV prog 45=some true:=by kernel_rfl
@[simp] theorem rc45 (cs:List PV):zj prog 45 cs=if 2≤cs.length then some (.agg (cs.take 2)) else none:=by simp[zj]
@[simp] theorem fi45_0:zH prog 45 0=some (0,1,false):=by kernel_rfl
@[simp] theorem fi45_1:zH prog 45 1=some (1,1,false):=by kernel_rfl
@[simp] theorem pl45:yl prog 45=some [(0,1),(1,1)]:=by kernel_rfl
@[simp] theorem fl45:flatA prog 45=some [0,0]:=by kernel_rfl
@[simp] theorem el65:qw prog 65=some 87:=by kernel_rfl
@[simp] theorem sz65:zQ prog 65=some 1:=by kernel_rfl
@[simp] theorem ag65:zV prog 65=some false:=by kernel_rfl
@[simp] theorem rc65 (cs:List PV):zj prog 65 cs=cs[0]?:=by simp[zj]
@[simp] theorem el66:qw prog 66=some 68:=by kernel_rfl
@[simp] theorem sz66:zQ prog 66=some 1:=by kernel_rfl
@[simp] theorem ag66:zV prog 66=some false:=by kernel_rfl
@[simp] theorem rc66 (cs:List PV):zj prog 66 cs=cs[0]?:=by simp[zj]
@[simp] theorem sz68:zQ prog 68=some 7:=by kernel_rfl
@[simp] theorem ze68:qY prog 68=some [.v (.int .i64 0),.v (.string ⟨#[]⟩),.v (.int .i64 0),.nil,.v (.string ⟨#[]⟩),.v (.string ⟨#[]⟩),.nil]:=by kernel_rfl
@[simp] theorem ag68:zV prog 68=some true:=by kernel_rfl
@[simp] theorem rc68 (cs:List PV):zj prog 68 cs=if 7≤cs.length then some (.agg (cs.take 7)) else none:=by simp[zj]
@[simp] theorem fi68_0:zH prog 68 0=some (0,1,false):=by kernel_rfl
@[simp] theorem fi68_1:zH prog 68 1=some (1,1,false):=by kernel_rfl
@[simp] theorem fi68_2:zH prog 68 2=some (2,1,false):=by kernel_rfl
@[simp] theorem fi68_3:zH prog 68 3=some (3,1,false):=by kernel_rfl
@[simp] theorem fi68_4:zH prog 68 4=some (4,1,false):=by kernel_rfl
@[simp] theorem fi68_5:zH prog 68 5=some (5,1,false):=by kernel_rfl
@[simp] theorem fi68_6:zH prog 68 6=some (6,1,false):=by kernel_rfl
@[simp] theorem el69:qw prog 69=some 132:=by kernel_rfl
@[simp] theorem sz69:zQ prog 69=some 1:=by kernel_rfl
@[simp] theorem ag69:zV prog 69=some false:=by kernel_rfl
@[simp] theorem rc69 (cs:List PV):zj prog 69 cs=cs[0]?:=by simp[zj]
@[simp] theorem el70:qw prog 70=some 75:=by kernel_rfl
@[simp] theorem sz70:zQ prog 70=some 1:=by kernel_rfl
@[simp] theorem ag70:zV prog 70=some false:=by kernel_rfl
@[simp] theorem rc70 (cs:List PV):zj prog 70 cs=cs[0]?:=by simp[zj]
@[simp] theorem sz72:zQ prog 72=some 13:=by kernel_rfl
@[simp] theorem ze72:qY prog 72=some [.v (.string ⟨#[]⟩),.v (.string ⟨#[]⟩),.v (.string ⟨#[]⟩),.v (.int .i64 0),.v (.string ⟨#[]⟩),.v (.int .i64 0),.nil,.v (.string ⟨#[]⟩),.v (.string ⟨#[]⟩),.nil,.v (.string ⟨#[]⟩),.nil,.nil]:=by kernel_rfl
@[simp] theorem ag72:zV prog 72=some true:=by kernel_rfl
@[simp] theorem rc72 (cs:List PV):zj prog 72 cs=if 13≤cs.length then some (.agg (cs.take 13)) else none:=by simp[zj]
@[simp] theorem fi72_0:zH prog 72 0=some (0,1,false):=by kernel_rfl
@[simp] theorem fi72_1:zH prog 72 1=some (1,1,false):=by kernel_rfl
@[simp] theorem fi72_2:zH prog 72 2=some (2,1,false):=by kernel_rfl
@[simp] theorem fi72_3:zH prog 72 3=some (3,7,true):=by kernel_rfl
@[simp] theorem fi72_4:zH prog 72 4=some (10,1,false):=by kernel_rfl
@[simp] theorem fi72_5:zH prog 72 5=some (11,1,false):=by kernel_rfl
@[simp] theorem fi72_6:zH prog 72 6=some (12,1,false):=by kernel_rfl
@[simp] theorem sz75:zQ prog 75=some 2:=by kernel_rfl
@[simp] theorem ze75:qY prog 75=some [.v (.int .i64 0),.nil]:=by kernel_rfl
@[simp] theorem ag75:zV prog 75=some true:=by kernel_rfl
@[simp] theorem rc75 (cs:List PV):zj prog 75 cs=if 2≤cs.length then some (.agg (cs.take 2)) else none:=by simp[zj]
@[simp] theorem fi75_0:zH prog 75 0=some (0,1,false):=by kernel_rfl
@[simp] theorem fi75_1:zH prog 75 1=some (1,1,false):=by kernel_rfl
@[simp] theorem sz81:zQ prog 81=some 1:=by kernel_rfl
@[simp] theorem ag81:zV prog 81=some false:=by kernel_rfl
@[simp] theorem rc81 (cs:List PV):zj prog 81 cs=cs[0]?:=by simp[zj]
@[simp] theorem el85:qw prog 85=some 152:=by kernel_rfl
@[simp] theorem sz85:zQ prog 85=some 1:=by kernel_rfl
@[simp] theorem ag85:zV prog 85=some false:=by kernel_rfl
@[simp] theorem rc85 (cs:List PV):zj prog 85 cs=cs[0]?:=by simp[zj]
@[simp] theorem sz87:zQ prog 87=some 5:=by kernel_rfl
@[simp] theorem ze87:qY prog 87=some [.v (.int .i64 0),.v (.int .i64 0),.v (.string ⟨#[]⟩),.nil,.nil]:=by kernel_rfl
@[simp] theorem ag87:zV prog 87=some true:=by kernel_rfl
@[simp] theorem rc87 (cs:List PV):zj prog 87 cs=if 5≤cs.length then some (.agg (cs.take 5)) else none:=by simp[zj]
@[simp] theorem fi87_0:zH prog 87 0=some (0,1,false):=by kernel_rfl
@[simp] theorem fi87_1:zH prog 87 1=some (1,1,false):=by kernel_rfl
@[simp] theorem fi87_2:zH prog 87 2=some (2,1,false):=by kernel_rfl
@[simp] theorem fi87_3:zH prog 87 3=some (3,1,false):=by kernel_rfl
@[simp] theorem fi87_4:zH prog 87 4=some (4,1,false):=by kernel_rfl
@[simp] theorem pl87:yl prog 87=some [(0,1),(1,1),(2,1),(3,1),(4,1)]:=by kernel_rfl
@[simp] theorem sz89:zQ prog 89=some 6:=by kernel_rfl
@[simp] theorem ze89:qY prog 89=some [.v (.string ⟨#[]⟩),.v (.int .i64 0),.v (.int .i64 0),.v (.string ⟨#[]⟩),.nil,.nil]:=by kernel_rfl
@[simp] theorem ag89:zV prog 89=some true:=by kernel_rfl
@[simp] theorem rc89 (cs:List PV):zj prog 89 cs=if 6≤cs.length then some (.agg (cs.take 6)) else none:=by simp[zj]
@[simp] theorem fi89_0:zH prog 89 0=some (0,1,false):=by kernel_rfl
@[simp] theorem fi89_1:zH prog 89 1=some (1,5,true):=by kernel_rfl
@[simp] theorem sz91:zQ prog 91=some 1:=by kernel_rfl
@[simp] theorem ag91:zV prog 91=some false:=by kernel_rfl
@[simp] theorem rc91 (cs:List PV):zj prog 91 cs=cs[0]?:=by simp[zj]
@[simp] theorem sz94:zQ prog 94=some 3:=by kernel_rfl
@[simp] theorem ze94:qY prog 94=some [.v (.string ⟨#[]⟩),.v (.string ⟨#[]⟩),.v (.int .i64 0)]:=by kernel_rfl
@[simp] theorem ag94:zV prog 94=some true:=by kernel_rfl
@[simp] theorem rc94 (cs:List PV):zj prog 94 cs=if 3≤cs.length then some (.agg (cs.take 3)) else none:=by simp[zj]
@[simp] theorem fi94_0:zH prog 94 0=some (0,1,false):=by kernel_rfl
@[simp] theorem fi94_1:zH prog 94 1=some (1,1,false):=by kernel_rfl
@[simp] theorem fi94_2:zH prog 94 2=some (2,1,false):=by kernel_rfl
@[simp] theorem el102:qw prog 102=some 9:=by kernel_rfl
@[simp] theorem sz102:zQ prog 102=some 1:=by kernel_rfl
@[simp] theorem ze102:qY prog 102=some [.nil]:=by kernel_rfl
@[simp] theorem ag102:zV prog 102=some false:=by kernel_rfl
@[simp] theorem rc102 (cs:List PV):zj prog 102 cs=cs[0]?:=by simp[zj]
@[simp] theorem sz104:zQ prog 104=some 4:=by kernel_rfl
@[simp] theorem ze104:qY prog 104=some [.v (.string ⟨#[]⟩),.v (.string ⟨#[]⟩),.v (.int .i64 0),.nil]:=by kernel_rfl
@[simp] theorem ag104:zV prog 104=some true:=by kernel_rfl
@[simp] theorem rc104 (cs:List PV):zj prog 104 cs=if 4≤cs.length then some (.agg (cs.take 4)) else none:=by simp[zj]
@[simp] theorem fi104_0:zH prog 104 0=some (0,1,false):=by kernel_rfl
@[simp] theorem fi104_1:zH prog 104 1=some (1,1,false):=by kernel_rfl
@[simp] theorem fi104_2:zH prog 104 2=some (2,1,false):=by kernel_rfl
@[simp] theorem fi104_3:zH prog 104 3=some (3,1,false):=by kernel_rfl
@[simp] theorem sz108:zQ prog 108=some 10:=by kernel_rfl
@[simp] theorem ze108:qY prog 108=some [.v (.string ⟨#[]⟩),.nil,.nil,.v (.int .i64 0),.v (.string ⟨#[]⟩),.v (.int .i64 0),.nil,.v (.string ⟨#[]⟩),.v (.string ⟨#[]⟩),.nil]:=by kernel_rfl
@[simp] theorem ag108:zV prog 108=some true:=by kernel_rfl
@[simp] theorem rc108 (cs:List PV):zj prog 108 cs=if 10≤cs.length then some (.agg (cs.take 10)) else none:=by simp[zj]
@[simp] theorem fi108_0:zH prog 108 0=some (0,1,false):=by kernel_rfl
@[simp] theorem fi108_1:zH prog 108 1=some (1,1,false):=by kernel_rfl
@[simp] theorem fi108_2:zH prog 108 2=some (2,1,false):=by kernel_rfl
@[simp] theorem fi108_3:zH prog 108 3=some (3,7,true):=by kernel_rfl
@[simp] theorem el111:qw prog 111=some 3:=by kernel_rfl
@[simp] theorem sz111:zQ prog 111=some 1:=by kernel_rfl
@[simp] theorem ag111:zV prog 111=some false:=by kernel_rfl
@[simp] theorem rc111 (cs:List PV):zj prog 111 cs=cs[0]?:=by simp[zj]
@[simp] theorem mk113:mapKT prog 113=some (none,4):=by kernel_rfl
@[simp] theorem zv4_113:zeroV prog 4=some (.v (.bool false)):=by kernel_rfl
@[simp] theorem sz113:zQ prog 113=some 1:=by kernel_rfl
@[simp] theorem ag113:zV prog 113=some false:=by kernel_rfl
@[simp] theorem rc113 (cs:List PV):zj prog 113 cs=cs[0]?:=by simp[zj]
@[simp] theorem sz115:zQ prog 115=some 6:=by kernel_rfl
@[simp] theorem ze115:qY prog 115=some [.nil,.nil,.nil,.v (.map none),.v (.map none),.v (.bool false)]:=by kernel_rfl
@[simp] theorem fi115_0:zH prog 115 0=some (0,3,true):=by kernel_rfl
@[simp] theorem fi115_1:zH prog 115 1=some (3,1,false):=by kernel_rfl
@[simp] theorem fi115_2:zH prog 115 2=some (4,1,false):=by kernel_rfl
@[simp] theorem fi115_3:zH prog 115 3=some (5,1,false):=by kernel_rfl
@[simp] theorem pl115:yl prog 115=some [(0,3),(3,1),(4,1),(5,1)]:=by kernel_rfl
@[simp] theorem mk120:mapKT prog 120=some (some .i64,4):=by kernel_rfl
@[simp] theorem sz120:zQ prog 120=some 1:=by kernel_rfl
@[simp] theorem ag120:zV prog 120=some false:=by kernel_rfl
@[simp] theorem rc120 (cs:List PV):zj prog 120 cs=cs[0]?:=by simp[zj]
@[simp] theorem sz122:zQ prog 122=some 4:=by kernel_rfl
@[simp] theorem ze122:qY prog 122=some [.nil,.v (.string ⟨#[]⟩),.nil,.v (.map none)]:=by kernel_rfl
@[simp] theorem fi122_0:zH prog 122 0=some (0,1,false):=by kernel_rfl
@[simp] theorem fi122_1:zH prog 122 1=some (1,2,true):=by kernel_rfl
@[simp] theorem fi122_2:zH prog 122 2=some (3,1,false):=by kernel_rfl
@[simp] theorem pl122:yl prog 122=some [(0,1),(1,2),(3,1)]:=by kernel_rfl
@[simp] theorem un123:Program.underlying prog 123=some (.int .u64):=by kernel_rfl
@[simp] theorem sz132:zQ prog 132=some 3:=by kernel_rfl
@[simp] theorem ze132:qY prog 132=some [.v (.int .i64 0),.v (.int .i64 0),.v (.int .i64 0)]:=by kernel_rfl
@[simp] theorem ag132:zV prog 132=some true:=by kernel_rfl
@[simp] theorem rc132 (cs:List PV):zj prog 132 cs=if 3≤cs.length then some (.agg (cs.take 3)) else none:=by simp[zj]
@[simp] theorem fi132_0:zH prog 132 0=some (0,1,false):=by kernel_rfl
@[simp] theorem fi132_1:zH prog 132 1=some (1,1,false):=by kernel_rfl
@[simp] theorem fi132_2:zH prog 132 2=some (2,1,false):=by kernel_rfl
@[simp] theorem el139:qw prog 139=some 102:=by kernel_rfl
@[simp] theorem sz152:zQ prog 152=some 6:=by kernel_rfl
@[simp] theorem ze152:qY prog 152=some [.v (.string ⟨#[]⟩),.v (.int .i64 0),.v (.int .i64 0),.v (.string ⟨#[]⟩),.nil,.nil]:=by kernel_rfl
@[simp] theorem ag152:zV prog 152=some true:=by kernel_rfl
@[simp] theorem rc152 (cs:List PV):zj prog 152 cs=if 6≤cs.length then some (.agg (cs.take 6)) else none:=by simp[zj]
@[simp] theorem fi152_0:zH prog 152 0=some (0,1,false):=by kernel_rfl
@[simp] theorem fi152_1:zH prog 152 1=some (1,5,true):=by kernel_rfl
@[simp] theorem sz177:zQ prog 177=some 4:=by kernel_rfl
@[simp] theorem ze177:qY prog 177=some [.v (.int .i64 0),.v (.int .i64 0),.v (.int .i64 0),.nil]:=by kernel_rfl
@[simp] theorem ag177:zV prog 177=some true:=by kernel_rfl
@[simp] theorem rc177 (cs:List PV):zj prog 177 cs=if 4≤cs.length then some (.agg (cs.take 4)) else none:=by simp[zj]
@[simp] theorem fi177_0:zH prog 177 0=some (0,1,false):=by kernel_rfl
@[simp] theorem fi177_1:zH prog 177 1=some (1,1,false):=by kernel_rfl
@[simp] theorem fi177_2:zH prog 177 2=some (2,1,false):=by kernel_rfl
@[simp] theorem fi177_3:zH prog 177 3=some (3,1,false):=by kernel_rfl
@[simp] theorem pl177:yl prog 177=some [(0,1),(1,1),(2,1),(3,1)]:=by kernel_rfl
@[simp] theorem el180:qw prog 180=some 216:=by kernel_rfl
@[simp] theorem sz180:zQ prog 180=some 1:=by kernel_rfl
@[simp] theorem ze180:qY prog 180=some [.nil]:=by kernel_rfl
@[simp] theorem ag180:zV prog 180=some false:=by kernel_rfl
@[simp] theorem rc180 (cs:List PV):zj prog 180 cs=cs[0]?:=by simp[zj]
@[simp] theorem ar194:arrA prog 194=some (3,3):=by kernel_rfl
@[simp] theorem el194:qw prog 194=none:=by kernel_rfl
@[simp] theorem sz194:zQ prog 194=some 3:=by kernel_rfl
@[simp] theorem ze194:qY prog 194=some [.v (.int .i64 0),.v (.int .i64 0),.v (.int .i64 0)]:=by kernel_rfl
@[simp] theorem ag194:zV prog 194=some true:=by kernel_rfl
@[simp] theorem rc194 (cs:List PV):zj prog 194 cs=if 3≤cs.length then some (.agg (cs.take 3)) else none:=by simp[zj]
@[simp] theorem pl194:yl prog 194=none:=by kernel_rfl
@[simp] theorem el197:qw prog 197=some 201:=by kernel_rfl
@[simp] theorem sz197:zQ prog 197=some 1:=by kernel_rfl
@[simp] theorem ze197:qY prog 197=some [.nil]:=by kernel_rfl
@[simp] theorem ag197:zV prog 197=some false:=by kernel_rfl
@[simp] theorem rc197 (cs:List PV):zj prog 197 cs=cs[0]?:=by simp[zj]
@[simp] theorem el201:qw prog 201=some 208:=by kernel_rfl
@[simp] theorem sz201:zQ prog 201=some 1:=by kernel_rfl
@[simp] theorem by201:jE prog 201=some 24:=by kernel_rfl
@[simp] theorem ze201:qY prog 201=some [.nil]:=by kernel_rfl
@[simp] theorem ag201:zV prog 201=some false:=by kernel_rfl
@[simp] theorem rc201 (cs:List PV):zj prog 201 cs=cs[0]?:=by simp[zj]
@[simp] theorem sz206:zQ prog 206=some 5:=by kernel_rfl
@[simp] theorem ze206:qY prog 206=some [.v (.int .i64 0),.v (.int .i64 0),.v (.int .i64 0),.v (.int .i64 0),.nil]:=by kernel_rfl
@[simp] theorem ag206:zV prog 206=some true:=by kernel_rfl
@[simp] theorem rc206 (cs:List PV):zj prog 206 cs=if 5≤cs.length then some (.agg (cs.take 5)) else none:=by simp[zj]
@[simp] theorem fi206_0:zH prog 206 0=some (0,3,true):=by kernel_rfl
@[simp] theorem fi206_1:zH prog 206 1=some (3,1,false):=by kernel_rfl
@[simp] theorem fi206_2:zH prog 206 2=some (4,1,false):=by kernel_rfl
@[simp] theorem pl206:yl prog 206=some [(0,3),(3,1),(4,1)]:=by kernel_rfl
@[simp] theorem sz208:zQ prog 208=some 11:=by kernel_rfl
@[simp] theorem by208:jE prog 208=some 128:=by kernel_rfl
@[simp] theorem ze208:qY prog 208=some [.v (.string ⟨#[]⟩),.v (.int .i64 0),.v (.int .i64 0),.v (.int .i64 0),.v (.int .i64 0),.nil,.v (.int .i64 0),.v (.int .i64 0),.v (.int .i64 0),.v (.int .i64 0),.nil]:=by kernel_rfl
@[simp] theorem ag208:zV prog 208=some true:=by kernel_rfl
@[simp] theorem rc208 (cs:List PV):zj prog 208 cs=if 11≤cs.length then some (.agg (cs.take 11)) else none:=by simp[zj]
@[simp] theorem fi208_0:zH prog 208 0=some (0,1,false):=by kernel_rfl
@[simp] theorem fi208_1:zH prog 208 1=some (1,5,true):=by kernel_rfl
@[simp] theorem fi208_2:zH prog 208 2=some (6,5,true):=by kernel_rfl
@[simp] theorem pl208:yl prog 208=some [(0,1),(1,5),(6,5)]:=by kernel_rfl
@[simp] theorem sz214:zQ prog 214=some 5:=by kernel_rfl
@[simp] theorem by214:jE prog 214=some 56:=by kernel_rfl
@[simp] theorem ze214:qY prog 214=some [.v (.int .i64 0),.v (.int .i64 0),.v (.int .i64 0),.nil,.v (.bool false)]:=by kernel_rfl
@[simp] theorem ag214:zV prog 214=some true:=by kernel_rfl
@[simp] theorem rc214 (cs:List PV):zj prog 214 cs=if 5≤cs.length then some (.agg (cs.take 5)) else none:=by simp[zj]
@[simp] theorem fi214_0:zH prog 214 0=some (0,4,true):=by kernel_rfl
@[simp] theorem fi214_1:zH prog 214 1=some (4,1,false):=by kernel_rfl
@[simp] theorem pl214:yl prog 214=some [(0,4),(4,1)]:=by kernel_rfl
@[simp] theorem sz216:zQ prog 216=some 11:=by kernel_rfl
@[simp] theorem by216:jE prog 216=some 120:=by kernel_rfl
@[simp] theorem ze216:qY prog 216=some [.v (.int .i64 0),.v (.int .i64 0),.v (.int .i64 0),.nil,.v (.bool false),.v (.int .i64 0),.v (.int .i64 0),.v (.int .i64 0),.nil,.v (.bool false),.v (.bool false)]:=by kernel_rfl
@[simp] theorem ag216:zV prog 216=some true:=by kernel_rfl
@[simp] theorem rc216 (cs:List PV):zj prog 216 cs=if 11≤cs.length then some (.agg (cs.take 11)) else none:=by simp[zj]
@[simp] theorem fi216_0:zH prog 216 0=some (0,5,true):=by kernel_rfl
@[simp] theorem fi216_1:zH prog 216 1=some (5,5,true):=by kernel_rfl
@[simp] theorem fi216_2:zH prog 216 2=some (10,1,false):=by kernel_rfl
@[simp] theorem pl216:yl prog 216=some [(0,5),(5,5),(10,1)]:=by kernel_rfl
@[simp] theorem el246:qw prog 246=some 214:=by kernel_rfl
@[simp] theorem el247:qw prog 247=some 180:=by kernel_rfl
@[simp] theorem un319:Program.underlying prog 319=some (.array 20 123):=by kernel_rfl
@[simp] theorem if232:ifaceA prog 232=true:=by kernel_rfl
end Go.Proofs.YtanbabpnlgfcpaaGreatDoor
