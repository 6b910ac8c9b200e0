/-
What the evaluator asks of the program's types. Written by a program of this repo (facts.py).
-/
import Derived.Test.YtjcofiomfmebkaaGreatDoorG9
import Derived.Test.YtjcofiomfmebkaaGreatDoorProg
set_option maxRecDepth 8000
namespace Go.Proofs.YtjcofiomfmebkaaGreatDoor
open Go.Proofs.Tryz
open Go.RowKit Go.AM
@[simp] theorem un3:Program.underlying prog 3=some (.int .i64):=by kernel_rfl
@[simp] theorem sz3:zS prog 3=some 1:=by kernel_rfl
@[simp] theorem by3:wL prog 3=some 8:=by kernel_rfl
@[simp] theorem ze3:wy prog 3=some [.v (.int .i64 0)]:=by kernel_rfl
@[simp] theorem ag3:qE prog 3=some false:=by kernel_rfl
@[simp] theorem rc3 (cs:List PV):zr prog 3 cs=cs[0]?:=by simp[zr]
@[simp] theorem un4:Program.underlying prog 4=some .bool:=by kernel_rfl
@[simp] theorem sz4:zS prog 4=some 1:=by kernel_rfl
@[simp] theorem by4:wL prog 4=some 1:=by kernel_rfl
@[simp] theorem ze4:wy prog 4=some [.v (.bool false)]:=by kernel_rfl
@[simp] theorem ag4:qE prog 4=some false:=by kernel_rfl
@[simp] theorem rc4 (cs:List PV):zr prog 4 cs=cs[0]?:=by simp[zr]
@[simp] theorem fi7_0:zn prog 7 0=some (0,1,false):=by kernel_rfl
@[simp] theorem fi7_1:zn prog 7 1=some (1,1,false):=by kernel_rfl
@[simp] theorem fi7_2:zn prog 7 2=some (2,1,false):=by kernel_rfl
@[simp] theorem fi7_3:zn prog 7 3=some (3,1,false):=by kernel_rfl
@[simp] theorem fi8_0:zn prog 8 0=some (0,1,false):=by kernel_rfl
@[simp] theorem fi8_1:zn prog 8 1=some (1,1,false):=by kernel_rfl
@[simp] theorem fi8_2:zn prog 8 2=some (2,1,false):=by kernel_rfl
@[simp] theorem fi8_3:zn prog 8 3=some (3,1,false):=by kernel_rfl
@[simp] theorem un9:Program.underlying prog 9=some .string:=by kernel_rfl
@[simp] theorem sz9:zS prog 9=some 1:=by kernel_rfl
@[simp] theorem by9:wL prog 9=some 16:=by kernel_rfl
@[simp] theorem ze9:wy prog 9=some [.v (.string ⟨#[]⟩)]:=by kernel_rfl
@[simp] theorem ag9:qE prog 9=some false:=by kernel_rfl
@[simp] theorem rc9 (cs:List PV):zr prog 9 cs=cs[0]?:=by simp[zr]
@[simp] theorem fi13_0:zn prog 13 0=some (0,1,false):=by kernel_rfl
@[simp] theorem fi13_1:zn prog 13 1=some (1,1,false):=by kernel_rfl
@[simp] theorem fi14_0:zn prog 14 0=some (0,1,false):=by kernel_rfl
@[simp] theorem fi14_1:zn prog 14 1=some (1,1,false):=by kernel_rfl
@[simp] theorem fi18_0:zn prog 18 0=some (0,1,false):=by kernel_rfl
@[simp] theorem fi19_0:zn prog 19 0=some (0,1,false):=by kernel_rfl
@[simp] theorem el22:qG prog 22=some 43:=by kernel_rfl
@[simp] theorem sz22:zS prog 22=some 1:=by kernel_rfl
@[simp] theorem ag22:qE prog 22=some false:=by kernel_rfl
@[simp] theorem rc22 (cs:List PV):zr prog 22 cs=cs[0]?:=by simp[zr]
@[simp] theorem el23:qG prog 23=some 63:=by kernel_rfl
@[simp] theorem sz23:zS prog 23=some 1:=by kernel_rfl
@[simp] theorem ag23:qE prog 23=some false:=by kernel_rfl
@[simp] theorem rc23 (cs:List PV):zr prog 23 cs=cs[0]?:=by simp[zr]
@[simp] theorem fi24_0:zn prog 24 0=some (0,1,false):=by kernel_rfl
@[simp] theorem fi24_1:zn prog 24 1=some (1,1,false):=by kernel_rfl
@[simp] theorem sz25:zS prog 25=some 2:=by kernel_rfl
@[simp] theorem ag25:qE prog 25=some true:=by kernel_rfl
@[simp] theorem rc25 (cs:List PV):zr prog 25 cs=if 2≤cs.length then some (.agg (cs.take 2)) else none:=by simp[zr]
@[simp] theorem fi25_0:zn prog 25 0=some (0,1,false):=by kernel_rfl
@[simp] theorem fi25_1:zn prog 25 1=some (1,1,false):=by kernel_rfl
@[simp] theorem sz26:zS prog 26=some 1:=by kernel_rfl
@[simp] theorem ze26:wy prog 26=some [.v (.int .i64 0)]:=by kernel_rfl
@[simp] theorem ag26:qE prog 26=some false:=by kernel_rfl
@[simp] theorem rc26 (cs:List PV):zr prog 26 cs=cs[0]?:=by simp[zr]
@[simp] theorem sz34:zS prog 34=some 1:=by kernel_rfl
@[simp] theorem ag34:qE prog 34=some false:=by kernel_rfl
@[simp] theorem rc34 (cs:List PV):zr prog 34 cs=cs[0]?:=by simp[zr]
@[simp] theorem zwM:Program.underlying prog 37=some (.slice 9):=by kernel_rfl
@[simp] theorem zn8:qG prog 37=some 9:=by kernel_rfl
@[simp] theorem sz37:zS prog 37=some 1:=by kernel_rfl
@[simp] theorem ze37:wy prog 37=some [.nil]:=by kernel_rfl
@[simp] theorem ag37:qE prog 37=some false:=by kernel_rfl
@[simp] theorem rc37 (cs:List PV):zr prog 37 cs=cs[0]?:=by simp[zr]
@[simp] theorem zvM:qG prog 38=some 61:=by kernel_rfl
@[simp] theorem sz38:zS prog 38=some 1:=by kernel_rfl
@[simp] theorem ag38:qE prog 38=some false:=by kernel_rfl
@[simp] theorem rc38 (cs:List PV):zr prog 38 cs=cs[0]?:=by simp[zr]
@[simp] theorem el39:qG prog 39=some 41:=by kernel_rfl
@[simp] theorem sz39:zS prog 39=some 1:=by kernel_rfl
@[simp] theorem ag39:qE prog 39=some false:=by kernel_rfl
@[simp] theorem rc39 (cs:List PV):zr prog 39 cs=cs[0]?:=by simp[zr]
@[simp] theorem fi40_0:zn prog 40 0=some (0,1,false):=by kernel_rfl
@[simp] theorem fi40_1:zn prog 40 1=some (1,1,false):=by kernel_rfl
@[simp] theorem fi40_2:zn prog 40 2=some (2,1,false):=by kernel_rfl
@[simp] theorem fi40_3:zn prog 40 3=some (3,1,false):=by kernel_rfl
@[simp] theorem fi40_4:zn prog 40 4=some (4,1,false):=by kernel_rfl
@[simp] theorem fi40_5:zn prog 40 5=some (5,1,false):=by kernel_rfl
@[simp] theorem fi40_6:zn prog 40 6=some (6,1,false):=by kernel_rfl
@[simp] theorem sz41:zS prog 41=some 7:=by kernel_rfl
@[simp] theorem ze41:wy prog 41=some [.v (.int .i64 0),.v (.string ⟨#[]⟩),.v (.int .i64 0),.nil,.v (.string ⟨#[]⟩),.v (.string ⟨#[]⟩),.nil]:=by kernel_rfl
@[simp] theorem ag41:qE prog 41=some true:=by kernel_rfl
@[simp] theorem rc41 (cs:List PV):zr prog 41 cs=if 7≤cs.length then some (.agg (cs.take 7)) else none:=by simp[zr]
@[simp] theorem fi41_0:zn prog 41 0=some (0,1,false):=by kernel_rfl
@[simp] theorem fi41_1:zn prog 41 1=some (1,1,false):=by kernel_rfl
@[simp] theorem fi41_2:zn prog 41 2=some (2,1,false):=by kernel_rfl
@[simp] theorem fi41_3:zn prog 41 3=some (3,1,false):=by kernel_rfl
@[simp] theorem fi41_4:zn prog 41 4=some (4,1,false):=by kernel_rfl
@[simp] theorem fi41_5:zn prog 41 5=some (5,1,false):=by kernel_rfl
@[simp] theorem fi41_6:zn prog 41 6=some (6,1,false):=by kernel_rfl
@[simp] theorem fi42_0:zn prog 42 0=some (0,1,false):=by kernel_rfl
@[simp] theorem fi42_1:zn prog 42 1=some (1,1,false):=by kernel_rfl
@[simp] theorem fi42_2:zn prog 42 2=some (2,1,false):=by kernel_rfl
@[simp] theorem fi42_3:zn prog 42 3=some (3,7,true):=by kernel_rfl
@[simp] theorem sz43:zS prog 43=some 10:=by kernel_rfl
@[simp] theorem ze43:wy prog 43=some [.v (.string ⟨#[]⟩),.nil,.nil,.v (.int .i64 0),.v (.string ⟨#[]⟩),.v (.int .i64 0),.nil,.v (.string ⟨#[]⟩),.v (.string ⟨#[]⟩),.nil]:=by kernel_rfl
@[simp] theorem ag43:qE prog 43=some true:=by kernel_rfl
@[simp] theorem rc43 (cs:List PV):zr prog 43 cs=if 10≤cs.length then some (.agg (cs.take 10)) else none:=by simp[zr]
@[simp] theorem fi43_0:zn prog 43 0=some (0,1,false):=by kernel_rfl
@[simp] theorem fi43_1:zn prog 43 1=some (1,1,false):=by kernel_rfl
@[simp] theorem fi43_2:zn prog 43 2=some (2,1,false):=by kernel_rfl
@[simp] theorem fi43_3:zn prog 43 3=some (3,7,true):=by kernel_rfl
@[simp] theorem pl43:jQ prog 43=some [(0,1),(1,1),(2,1),(3,7)]:=by kernel_rfl
@[simp] theorem el50:qG prog 50=some 3:=by kernel_rfl
@[simp] theorem sz50:zS prog 50=some 1:=by kernel_rfl
@[simp] theorem ag50:qE prog 50=some false:=by kernel_rfl
@[simp] theorem rc50 (cs:List PV):zr prog 50 cs=cs[0]?:=by simp[zr]
@[simp] theorem el59:qG prog 59=some 95:=by kernel_rfl
@[simp] theorem sz59:zS prog 59=some 1:=by kernel_rfl
@[simp] theorem ag59:qE prog 59=some false:=by kernel_rfl
@[simp] theorem rc59 (cs:List PV):zr prog 59 cs=cs[0]?:=by simp[zr]
@[simp] theorem fi60_0:zn prog 60 0=some (0,1,false):=by kernel_rfl
@[simp] theorem fi60_1:zn prog 60 1=some (1,1,false):=by kernel_rfl
@[simp] theorem fi60_2:zn prog 60 2=some (2,1,false):=by kernel_rfl
@[simp] theorem fi60_3:zn prog 60 3=some (3,1,false):=by kernel_rfl
@[simp] theorem fi60_4:zn prog 60 4=some (4,1,false):=by kernel_rfl
@[simp] theorem zvN:zS prog 61=some 5:=by kernel_rfl
@[simp] theorem zwN:wL prog 61=some 80:=by kernel_rfl
@[simp] theorem zvO:wy prog 61=some [.v (.int .i64 0),.v (.int .i64 0),.v (.string ⟨#[]⟩),.nil,.nil]:=by kernel_rfl
@[simp] theorem ag61:qE prog 61=some true:=by kernel_rfl
@[simp] theorem rc61 (cs:List PV):zr prog 61 cs=if 5≤cs.length then some (.agg (cs.take 5)) else none:=by simp[zr]
@[simp] theorem fi61_0:zn prog 61 0=some (0,1,false):=by kernel_rfl
@[simp] theorem fi61_1:zn prog 61 1=some (1,1,false):=by kernel_rfl
@[simp] theorem fi61_2:zn prog 61 2=some (2,1,false):=by kernel_rfl
@[simp] theorem fi61_3:zn prog 61 3=some (3,1,false):=by kernel_rfl
@[simp] theorem fi61_4:zn prog 61 4=some (4,1,false):=by kernel_rfl
@[simp] theorem pl61:jQ prog 61=some [(0,1),(1,1),(2,1),(3,1),(4,1)]:=by kernel_rfl
@[simp] theorem fi62_0:zn prog 62 0=some (0,1,false):=by kernel_rfl
@[simp] theorem fi62_1:zn prog 62 1=some (1,5,true):=by kernel_rfl
@[simp] theorem sz63:zS prog 63=some 6:=by kernel_rfl
@[simp] theorem ze63:wy prog 63=some [.v (.string ⟨#[]⟩),.v (.int .i64 0),.v (.int .i64 0),.v (.string ⟨#[]⟩),.nil,.nil]:=by kernel_rfl
@[simp] theorem ag63:qE prog 63=some true:=by kernel_rfl
@[simp] theorem rc63 (cs:List PV):zr prog 63 cs=if 6≤cs.length then some (.agg (cs.take 6)) else none:=by simp[zr]
@[simp] theorem fi63_0:zn prog 63 0=some (0,1,false):=by kernel_rfl
@[simp] theorem fi63_1:zn prog 63 1=some (1,5,true):=by kernel_rfl
@[simp] theorem mk65:zaC prog 65=some (some .i64,4):=by kernel_rfl
@[simp] theorem zv4_65:zaE prog 4=some (.v (.bool false)):=by kernel_rfl
@[simp] theorem sz65:zS prog 65=some 1:=by kernel_rfl
@[simp] theorem ag65:qE prog 65=some false:=by kernel_rfl
@[simp] theorem rc65 (cs:List PV):zr prog 65 cs=cs[0]?:=by simp[zr]
@[simp] theorem fi66_0:zn prog 66 0=some (0,1,false):=by kernel_rfl
@[simp] theorem fi66_1:zn prog 66 1=some (1,2,true):=by kernel_rfl
@[simp] theorem fi66_2:zn prog 66 2=some (3,1,false):=by kernel_rfl
@[simp] theorem sz67:zS prog 67=some 4:=by kernel_rfl
@[simp] theorem ze67:wy prog 67=some [.nil,.v (.string ⟨#[]⟩),.nil,.v (.map none)]:=by kernel_rfl
@[simp] theorem fi67_0:zn prog 67 0=some (0,1,false):=by kernel_rfl
@[simp] theorem fi67_1:zn prog 67 1=some (1,2,true):=by kernel_rfl
@[simp] theorem fi67_2:zn prog 67 2=some (3,1,false):=by kernel_rfl
@[simp] theorem pl67:jQ prog 67=some [(0,1),(1,2),(3,1)]:=by kernel_rfl
@[simp] theorem el73:qG prog 73=some 37:=by kernel_rfl
@[simp] theorem sz95:zS prog 95=some 6:=by kernel_rfl
@[simp] theorem ze95:wy prog 95=some [.v (.string ⟨#[]⟩),.v (.int .i64 0),.v (.int .i64 0),.v (.string ⟨#[]⟩),.nil,.nil]:=by kernel_rfl
@[simp] theorem ag95:qE prog 95=some true:=by kernel_rfl
@[simp] theorem rc95 (cs:List PV):zr prog 95 cs=if 6≤cs.length then some (.agg (cs.take 6)) else none:=by simp[zr]
@[simp] theorem fi95_0:zn prog 95 0=some (0,1,false):=by kernel_rfl
@[simp] theorem fi95_1:zn prog 95 1=some (1,5,true):=by kernel_rfl
@[simp] theorem fi114_0:zn prog 114 0=some (0,1,false):=by kernel_rfl
@[simp] theorem fi114_1:zn prog 114 1=some (1,1,false):=by kernel_rfl
@[simp] theorem fi114_2:zn prog 114 2=some (2,1,false):=by kernel_rfl
@[simp] theorem fi114_3:zn prog 114 3=some (3,1,false):=by kernel_rfl
@[simp] theorem sz115:zS prog 115=some 4:=by kernel_rfl
@[simp] theorem ze115:wy prog 115=some [.v (.int .i64 0),.v (.int .i64 0),.v (.int .i64 0),.nil]:=by kernel_rfl
@[simp] theorem ag115:qE prog 115=some true:=by kernel_rfl
@[simp] theorem rc115 (cs:List PV):zr prog 115 cs=if 4≤cs.length then some (.agg (cs.take 4)) else none:=by simp[zr]
@[simp] theorem fi115_0:zn prog 115 0=some (0,1,false):=by kernel_rfl
@[simp] theorem fi115_1:zn prog 115 1=some (1,1,false):=by kernel_rfl
@[simp] theorem fi115_2:zn prog 115 2=some (2,1,false):=by kernel_rfl
@[simp] theorem fi115_3:zn prog 115 3=some (3,1,false):=by kernel_rfl
@[simp] theorem pl115:jQ prog 115=some [(0,1),(1,1),(2,1),(3,1)]:=by kernel_rfl
@[simp] theorem zn9:qG prog 118=some 164:=by kernel_rfl
@[simp] theorem sz118:zS prog 118=some 1:=by kernel_rfl
@[simp] theorem ze118:wy prog 118=some [.nil]:=by kernel_rfl
@[simp] theorem ag118:qE prog 118=some false:=by kernel_rfl
@[simp] theorem rc118 (cs:List PV):zr prog 118 cs=cs[0]?:=by simp[zr]
@[simp] theorem zu1:Program.underlying prog 133=some (.int .u64):=by kernel_rfl
@[simp] theorem ar142:zpW prog 142=some (3,3):=by kernel_rfl
@[simp] theorem el142:qG prog 142=none:=by kernel_rfl
@[simp] theorem sz142:zS prog 142=some 3:=by kernel_rfl
@[simp] theorem ze142:wy prog 142=some [.v (.int .i64 0),.v (.int .i64 0),.v (.int .i64 0)]:=by kernel_rfl
@[simp] theorem ag142:qE prog 142=some true:=by kernel_rfl
@[simp] theorem rc142 (cs:List PV):zr prog 142 cs=if 3≤cs.length then some (.agg (cs.take 3)) else none:=by simp[zr]
@[simp] theorem pl142:jQ prog 142=none:=by kernel_rfl
@[simp] theorem zs3:qG prog 145=some 149:=by kernel_rfl
@[simp] theorem sz145:zS prog 145=some 1:=by kernel_rfl
@[simp] theorem ze145:wy prog 145=some [.nil]:=by kernel_rfl
@[simp] theorem ag145:qE prog 145=some false:=by kernel_rfl
@[simp] theorem rc145 (cs:List PV):zr prog 145 cs=cs[0]?:=by simp[zr]
@[simp] theorem V4:qG prog 149=some 156:=by kernel_rfl
@[simp] theorem zu2:zS prog 149=some 1:=by kernel_rfl
@[simp] theorem zu3:wL prog 149=some 24:=by kernel_rfl
@[simp] theorem zu4:wy prog 149=some [.nil]:=by kernel_rfl
@[simp] theorem ag149:qE prog 149=some false:=by kernel_rfl
@[simp] theorem rc149 (cs:List PV):zr prog 149 cs=cs[0]?:=by simp[zr]
@[simp] theorem fi153_0:zn prog 153 0=some (0,3,true):=by kernel_rfl
@[simp] theorem fi153_1:zn prog 153 1=some (3,1,false):=by kernel_rfl
@[simp] theorem fi153_2:zn prog 153 2=some (4,1,false):=by kernel_rfl
@[simp] theorem sz154:zS prog 154=some 5:=by kernel_rfl
@[simp] theorem ze154:wy prog 154=some [.v (.int .i64 0),.v (.int .i64 0),.v (.int .i64 0),.v (.int .i64 0),.nil]:=by kernel_rfl
@[simp] theorem ag154:qE prog 154=some true:=by kernel_rfl
@[simp] theorem rc154 (cs:List PV):zr prog 154 cs=if 5≤cs.length then some (.agg (cs.take 5)) else none:=by simp[zr]
@[simp] theorem fi154_0:zn prog 154 0=some (0,3,true):=by kernel_rfl
@[simp] theorem fi154_1:zn prog 154 1=some (3,1,false):=by kernel_rfl
@[simp] theorem fi154_2:zn prog 154 2=some (4,1,false):=by kernel_rfl
@[simp] theorem pl154:jQ prog 154=some [(0,3),(3,1),(4,1)]:=by kernel_rfl
@[simp] theorem fi155_0:zn prog 155 0=some (0,1,false):=by kernel_rfl
@[simp] theorem fi155_1:zn prog 155 1=some (1,5,true):=by kernel_rfl
@[simp] theorem fi155_2:zn prog 155 2=some (6,5,true):=by kernel_rfl
@[simp] theorem V5:zS prog 156=some 11:=by kernel_rfl
@[simp] theorem V6:wL prog 156=some 128:=by kernel_rfl
@[simp] theorem V7:wy prog 156=some [.v (.string ⟨#[]⟩),.v (.int .i64 0),.v (.int .i64 0),.v (.int .i64 0),.v (.int .i64 0),.nil,.v (.int .i64 0),.v (.int .i64 0),.v (.int .i64 0),.v (.int .i64 0),.nil]:=by kernel_rfl
@[simp] theorem ag156:qE prog 156=some true:=by kernel_rfl
@[simp] theorem rc156 (cs:List PV):zr prog 156 cs=if 11≤cs.length then some (.agg (cs.take 11)) else none:=by simp[zr]
@[simp] theorem fi156_0:zn prog 156 0=some (0,1,false):=by kernel_rfl
@[simp] theorem fi156_1:zn prog 156 1=some (1,5,true):=by kernel_rfl
@[simp] theorem fi156_2:zn prog 156 2=some (6,5,true):=by kernel_rfl
@[simp] theorem pl156:jQ prog 156=some [(0,1),(1,5),(6,5)]:=by kernel_rfl
@[simp] theorem fi161_0:zn prog 161 0=some (0,4,true):=by kernel_rfl
@[simp] theorem fi161_1:zn prog 161 1=some (4,1,false):=by kernel_rfl
@[simp] theorem zaT:zS prog 162=some 5:=by kernel_rfl
@[simp] theorem ziJ:wL prog 162=some 56:=by kernel_rfl
@[simp] theorem ziK:wy prog 162=some [.v (.int .i64 0),.v (.int .i64 0),.v (.int .i64 0),.nil,.v (.bool false)]:=by kernel_rfl
@[simp] theorem ag162:qE prog 162=some true:=by kernel_rfl
@[simp] theorem rc162 (cs:List PV):zr prog 162 cs=if 5≤cs.length then some (.agg (cs.take 5)) else none:=by simp[zr]
@[simp] theorem fi162_0:zn prog 162 0=some (0,4,true):=by kernel_rfl
@[simp] theorem fi162_1:zn prog 162 1=some (4,1,false):=by kernel_rfl
@[simp] theorem pl162:jQ prog 162=some [(0,4),(4,1)]:=by kernel_rfl
@[simp] theorem fi163_0:zn prog 163 0=some (0,5,true):=by kernel_rfl
@[simp] theorem fi163_1:zn prog 163 1=some (5,5,true):=by kernel_rfl
@[simp] theorem fi163_2:zn prog 163 2=some (10,1,false):=by kernel_rfl
@[simp] theorem ziL:zS prog 164=some 11:=by kernel_rfl
@[simp] theorem zk3:wL prog 164=some 120:=by kernel_rfl
@[simp] theorem zk4:wy prog 164=some [.v (.int .i64 0),.v (.int .i64 0),.v (.int .i64 0),.nil,.v (.bool false),.v (.int .i64 0),.v (.int .i64 0),.v (.int .i64 0),.nil,.v (.bool false),.v (.bool false)]:=by kernel_rfl
@[simp] theorem ag164:qE prog 164=some true:=by kernel_rfl
@[simp] theorem rc164 (cs:List PV):zr prog 164 cs=if 11≤cs.length then some (.agg (cs.take 11)) else none:=by simp[zr]
@[simp] theorem fi164_0:zn prog 164 0=some (0,5,true):=by kernel_rfl
@[simp] theorem fi164_1:zn prog 164 1=some (5,5,true):=by kernel_rfl
@[simp] theorem fi164_2:zn prog 164 2=some (10,1,false):=by kernel_rfl
@[simp] theorem pl164:jQ prog 164=some [(0,5),(5,5),(10,1)]:=by kernel_rfl
@[simp] theorem el170:qG prog 170=some 4:=by kernel_rfl
@[simp] theorem zcX:qG prog 205=some 162:=by kernel_rfl
@[simp] theorem el206:qG prog 206=some 118:=by kernel_rfl
@[simp] theorem zu5:qG prog 214=some 218:=by kernel_rfl
@[simp] theorem fi217_0:zn prog 217 0=some (0,1,false):=by kernel_rfl
@[simp] theorem fi217_1:zn prog 217 1=some (1,1,false):=by kernel_rfl
@[simp] theorem zu6:zS prog 218=some 2:=by kernel_rfl
@[simp] theorem zu7:wL prog 218=some 32:=by kernel_rfl
@[simp] theorem zu8:wy prog 218=some [.v (.string ⟨#[]⟩),.v (.string ⟨#[]⟩)]:=by kernel_rfl
@[simp] theorem ag218:qE prog 218=some true:=by kernel_rfl
@[simp] theorem rc218 (cs:List PV):zr prog 218 cs=if 2≤cs.length then some (.agg (cs.take 2)) else none:=by simp[zr]
@[simp] theorem fi218_0:zn prog 218 0=some (0,1,false):=by kernel_rfl
@[simp] theorem fi218_1:zn prog 218 1=some (1,1,false):=by kernel_rfl
@[simp] theorem pl218:jQ prog 218=some [(0,1),(1,1)]:=by kernel_rfl
@[simp] theorem zu9:znv prog 218=some [2,2]:=by kernel_rfl
@[simp] theorem fi262_0:zn prog 262 0=some (0,1,false):=by kernel_rfl
@[simp] theorem fi262_1:zn prog 262 1=some (1,1,false):=by kernel_rfl
@[simp] theorem fi263_0:zn prog 263 0=some (0,1,false):=by kernel_rfl
@[simp] theorem fi263_1:zn prog 263 1=some (1,1,false):=by kernel_rfl
@[simp] theorem fi268_0:zn prog 268 0=some (0,1,false):=by kernel_rfl
@[simp] theorem fi268_1:zn prog 268 1=some (1,1,false):=by kernel_rfl
@[simp] theorem fi269_0:zn prog 269 0=some (0,1,false):=by kernel_rfl
@[simp] theorem fi269_1:zn prog 269 1=some (1,1,false):=by kernel_rfl
@[simp] theorem fi277_0:zn prog 277 0=some (0,1,false):=by kernel_rfl
@[simp] theorem fi278_0:zn prog 278 0=some (0,1,false):=by kernel_rfl
@[simp] theorem zva:Program.underlying prog 287=some (.array 20 133):=by kernel_rfl
@[simp] theorem fi292_0:zn prog 292 0=some (0,1,false):=by kernel_rfl
@[simp] theorem fi292_1:zn prog 292 1=some (1,1,false):=by kernel_rfl
@[simp] theorem fi292_2:zn prog 292 2=some (2,1,false):=by kernel_rfl
@[simp] theorem fi292_3:zn prog 292 3=some (3,1,false):=by kernel_rfl
@[simp] theorem fi293_0:zn prog 293 0=some (0,1,false):=by kernel_rfl
@[simp] theorem fi293_1:zn prog 293 1=some (1,1,false):=by kernel_rfl
@[simp] theorem fi293_2:zn prog 293 2=some (2,1,false):=by kernel_rfl
@[simp] theorem fi293_3:zn prog 293 3=some (3,1,false):=by kernel_rfl
@[simp] theorem fi303_0:zn prog 303 0=some (0,1,false):=by kernel_rfl
@[simp] theorem fi303_1:zn prog 303 1=some (1,1,false):=by kernel_rfl
@[simp] theorem fi303_2:zn prog 303 2=some (2,1,false):=by kernel_rfl
@[simp] theorem fi303_3:zn prog 303 3=some (3,1,false):=by kernel_rfl
@[simp] theorem fi303_4:zn prog 303 4=some (4,1,false):=by kernel_rfl
@[simp] theorem fi303_5:zn prog 303 5=some (5,1,false):=by kernel_rfl
@[simp] theorem fi303_6:zn prog 303 6=some (6,1,false):=by kernel_rfl
@[simp] theorem fi303_8:zn prog 303 8=some (8,1,false):=by kernel_rfl
@[simp] theorem fi303_9:zn prog 303 9=some (9,1,false):=by kernel_rfl
@[simp] theorem fi303_10:zn prog 303 10=some (10,1,false):=by kernel_rfl
@[simp] theorem fi304_0:zn prog 304 0=some (0,1,false):=by kernel_rfl
@[simp] theorem fi304_1:zn prog 304 1=some (1,1,false):=by kernel_rfl
@[simp] theorem fi304_2:zn prog 304 2=some (2,1,false):=by kernel_rfl
@[simp] theorem fi304_3:zn prog 304 3=some (3,1,false):=by kernel_rfl
@[simp] theorem fi304_4:zn prog 304 4=some (4,1,false):=by kernel_rfl
@[simp] theorem fi304_5:zn prog 304 5=some (5,1,false):=by kernel_rfl
@[simp] theorem fi304_6:zn prog 304 6=some (6,1,false):=by kernel_rfl
@[simp] theorem fi304_8:zn prog 304 8=some (8,1,false):=by kernel_rfl
@[simp] theorem fi304_9:zn prog 304 9=some (9,1,false):=by kernel_rfl
@[simp] theorem fi304_10:zn prog 304 10=some (10,1,false):=by kernel_rfl
@[simp] theorem if191:zkj prog 191=true:=by kernel_rfl
end Go.Proofs.YtjcofiomfmebkaaGreatDoor
