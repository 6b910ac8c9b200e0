/-
What the evaluator asks of the program's types. Written by a program of this repo (facts.py).
-/
import Derived.Test.YtdkfdoeijcfbhaaGreatDoorG9
import Derived.Test.YtdkfdoeijcfbhaaGreatDoorProg
set_option maxRecDepth 8000
namespace Go.Proofs.YtdkfdoeijcfbhaaGreatDoor
open Go.Proofs.Tryz
open Go.RowKit Go.AM
@[simp] theorem un3:Program.underlying prog 3=some (.int .i64):=by kernel_rfl
@[simp] theorem sz3:zR prog 3=some 1:=by kernel_rfl
@[simp] theorem ze3:wF prog 3=some [.v (.int .i64 0)]:=by kernel_rfl
@[simp] theorem ag3:qp prog 3=some false:=by kernel_rfl
@[simp] theorem rc3 (cs:List PV):zp prog 3 cs=cs[0]?:=by simp[zp]
@[simp] theorem un4:Program.underlying prog 4=some .bool:=by kernel_rfl
@[simp] theorem sz4:zR prog 4=some 1:=by kernel_rfl
@[simp] theorem ag4:qp prog 4=some false:=by kernel_rfl
@[simp] theorem rc4 (cs:List PV):zp prog 4 cs=cs[0]?:=by simp[zp]
@[simp] theorem un9:Program.underlying prog 9=some .string:=by kernel_rfl
@[simp] theorem sz9:zR prog 9=some 1:=by kernel_rfl
@[simp] theorem by9:yD prog 9=some 16:=by kernel_rfl
@[simp] theorem ze9:wF prog 9=some [.v (.string ⟨#[]⟩)]:=by kernel_rfl
@[simp] theorem ag9:qp prog 9=some false:=by kernel_rfl
@[simp] theorem rc9 (cs:List PV):zp prog 9 cs=cs[0]?:=by simp[zp]
@[simp] theorem el22:qJ prog 22=some 117:=by kernel_rfl
@[simp] theorem sz22:zR prog 22=some 1:=by kernel_rfl
@[simp] theorem ag22:qp prog 22=some false:=by kernel_rfl
@[simp] theorem rc22 (cs:List PV):zp prog 22 cs=cs[0]?:=by simp[zp]
@[simp] theorem el23:qJ prog 23=some 25:=by kernel_rfl
@[simp] theorem sz23:zR prog 23=some 1:=by kernel_rfl
@[simp] theorem ag23:qp prog 23=some false:=by kernel_rfl
@[simp] theorem rc23 (cs:List PV):zp prog 23 cs=cs[0]?:=by simp[zp]
@[simp] theorem sz25:zR prog 25=some 7:=by kernel_rfl
@[simp] theorem ze25:wF prog 25=some [.v (.int .i64 0),.v (.string ⟨#[]⟩),.v (.int .i64 0),.nil,.v (.string ⟨#[]⟩),.v (.string ⟨#[]⟩),.nil]:=by kernel_rfl
@[simp] theorem ag25:qp prog 25=some true:=by kernel_rfl
@[simp] theorem rc25 (cs:List PV):zp prog 25 cs=if 7≤cs.length then some (.agg (cs.take 7)) else none:=by simp[zp]
@[simp] theorem fi25_0:zQ prog 25 0=some (0,1,false):=by kernel_rfl
@[simp] theorem fi25_1:zQ prog 25 1=some (1,1,false):=by kernel_rfl
@[simp] theorem fi25_2:zQ prog 25 2=some (2,1,false):=by kernel_rfl
@[simp] theorem fi25_3:zQ prog 25 3=some (3,1,false):=by kernel_rfl
@[simp] theorem fi25_4:zQ prog 25 4=some (4,1,false):=by kernel_rfl
@[simp] theorem fi25_5:zQ prog 25 5=some (5,1,false):=by kernel_rfl
@[simp] theorem fi25_6:zQ prog 25 6=some (6,1,false):=by kernel_rfl
@[simp] theorem sz26:zR prog 26=some 1:=by kernel_rfl
@[simp] theorem ze26:wF prog 26=some [.v (.int .i64 0)]:=by kernel_rfl
@[simp] theorem ag26:qp prog 26=some false:=by kernel_rfl
@[simp] theorem rc26 (cs:List PV):zp prog 26 cs=cs[0]?:=by simp[zp]
@[simp] theorem el31:qJ prog 31=some 74:=by kernel_rfl
@[simp] theorem sz31:zR prog 31=some 1:=by kernel_rfl
@[simp] theorem ag31:qp prog 31=some false:=by kernel_rfl
@[simp] theorem rc31 (cs:List PV):zp prog 31 cs=cs[0]?:=by simp[zp]
@[simp] theorem el32:qJ prog 32=some 203:=by kernel_rfl
@[simp] theorem sz32:zR prog 32=some 1:=by kernel_rfl
@[simp] theorem ag32:qp prog 32=some false:=by kernel_rfl
@[simp] theorem rc32 (cs:List PV):zp prog 32 cs=cs[0]?:=by simp[zp]
@[simp] theorem el33:qJ prog 33=some 66:=by kernel_rfl
@[simp] theorem sz33:zR prog 33=some 1:=by kernel_rfl
@[simp] theorem ag33:qp prog 33=some false:=by kernel_rfl
@[simp] theorem rc33 (cs:List PV):zp prog 33 cs=cs[0]?:=by simp[zp]
@[simp] theorem sz35:zR prog 35=some 3:=by kernel_rfl
@[simp] theorem ag35:qp prog 35=some true:=by kernel_rfl
@[simp] theorem rc35 (cs:List PV):zp prog 35 cs=if 3≤cs.length then some (.agg (cs.take 3)) else none:=by simp[zp]
@[simp] theorem fi35_0:zQ prog 35 0=some (0,1,false):=by kernel_rfl
@[simp] theorem fi35_1:zQ prog 35 1=some (1,1,false):=by kernel_rfl
@[simp] theorem fi35_2:zQ prog 35 2=some (2,1,false):=by kernel_rfl
@[simp] theorem el36:qJ prog 36=some 41:=by kernel_rfl
@[simp] theorem sz36:zR prog 36=some 1:=by kernel_rfl
@[simp] theorem ag36:qp prog 36=some false:=by kernel_rfl
@[simp] theorem rc36 (cs:List PV):zp prog 36 cs=cs[0]?:=by simp[zp]
@[simp] theorem sz41:zR prog 41=some 2:=by kernel_rfl
@[simp] theorem by41:yD prog 41=some 16:=by kernel_rfl
@[simp] theorem ze41:wF prog 41=some [.v (.int .i64 0),.v (.int .i64 0)]:=by kernel_rfl
@[simp] theorem ag41:qp prog 41=some true:=by kernel_rfl
@[simp] theorem rc41 (cs:List PV):zp prog 41 cs=if 2≤cs.length then some (.agg (cs.take 2)) else none:=by simp[zp]
@[simp] theorem fi41_0:zQ prog 41 0=some (0,1,false):=by kernel_rfl
@[simp] theorem fi41_1:zQ prog 41 1=some (1,1,false):=by kernel_rfl
@[simp] theorem pl41:ja prog 41=some [(0,1),(1,1)]:=by kernel_rfl
@[simp] theorem fl41:zcn prog 41=some [0,0]:=by kernel_rfl
@[simp] theorem el42:qJ prog 42=some 47:=by kernel_rfl
@[simp] theorem sz47:zR prog 47=some 3:=by kernel_rfl
@[simp] theorem by47:yD prog 47=some 32:=by kernel_rfl
@[simp] theorem ze47:wF prog 47=some [.v (.int .i64 0),.v (.int .i64 0),.v (.string ⟨#[]⟩)]:=by kernel_rfl
@[simp] theorem ag47:qp prog 47=some true:=by kernel_rfl
@[simp] theorem rc47 (cs:List PV):zp prog 47 cs=if 3≤cs.length then some (.agg (cs.take 3)) else none:=by simp[zp]
@[simp] theorem fi47_0:zQ prog 47 0=some (0,2,true):=by kernel_rfl
@[simp] theorem pl47:ja prog 47=some [(0,2),(2,1)]:=by kernel_rfl
@[simp] theorem fl47:zcn prog 47=some [0,0,2]:=by kernel_rfl
@[simp] theorem el63:qJ prog 63=some 265:=by kernel_rfl
@[simp] theorem sz63:zR prog 63=some 1:=by kernel_rfl
@[simp] theorem ag63:qp prog 63=some false:=by kernel_rfl
@[simp] theorem rc63 (cs:List PV):zp prog 63 cs=cs[0]?:=by simp[zp]
@[simp] theorem el64:qJ prog 64=some 100:=by kernel_rfl
@[simp] theorem sz64:zR prog 64=some 1:=by kernel_rfl
@[simp] theorem ag64:qp prog 64=some false:=by kernel_rfl
@[simp] theorem rc64 (cs:List PV):zp prog 64 cs=cs[0]?:=by simp[zp]
@[simp] theorem sz66:zR prog 66=some 13:=by kernel_rfl
@[simp] theorem ze66:wF prog 66=some [.v (.string ⟨#[]⟩),.v (.string ⟨#[]⟩),.v (.string ⟨#[]⟩),.v (.int .i64 0),.v (.string ⟨#[]⟩),.v (.int .i64 0),.nil,.v (.string ⟨#[]⟩),.v (.string ⟨#[]⟩),.nil,.v (.string ⟨#[]⟩),.nil,.nil]:=by kernel_rfl
@[simp] theorem ag66:qp prog 66=some true:=by kernel_rfl
@[simp] theorem rc66 (cs:List PV):zp prog 66 cs=if 13≤cs.length then some (.agg (cs.take 13)) else none:=by simp[zp]
@[simp] theorem fi66_0:zQ prog 66 0=some (0,1,false):=by kernel_rfl
@[simp] theorem fi66_1:zQ prog 66 1=some (1,1,false):=by kernel_rfl
@[simp] theorem fi66_2:zQ prog 66 2=some (2,1,false):=by kernel_rfl
@[simp] theorem fi66_3:zQ prog 66 3=some (3,7,true):=by kernel_rfl
@[simp] theorem fi66_4:zQ prog 66 4=some (10,1,false):=by kernel_rfl
@[simp] theorem fi66_5:zQ prog 66 5=some (11,1,false):=by kernel_rfl
@[simp] theorem fi66_6:zQ prog 66 6=some (12,1,false):=by kernel_rfl
@[simp] theorem sz74:zR prog 74=some 3:=by kernel_rfl
@[simp] theorem ze74:wF prog 74=some [.v (.string ⟨#[]⟩),.v (.string ⟨#[]⟩),.v (.int .i64 0)]:=by kernel_rfl
@[simp] theorem ag74:qp prog 74=some true:=by kernel_rfl
@[simp] theorem rc74 (cs:List PV):zp prog 74 cs=if 3≤cs.length then some (.agg (cs.take 3)) else none:=by simp[zp]
@[simp] theorem fi74_0:zQ prog 74 0=some (0,1,false):=by kernel_rfl
@[simp] theorem fi74_1:zQ prog 74 1=some (1,1,false):=by kernel_rfl
@[simp] theorem fi74_2:zQ prog 74 2=some (2,1,false):=by kernel_rfl
@[simp] theorem pl74:ja prog 74=some [(0,1),(1,1),(2,1)]:=by kernel_rfl
@[simp] theorem el85:qJ prog 85=some 9:=by kernel_rfl
@[simp] theorem sz85:zR prog 85=some 1:=by kernel_rfl
@[simp] theorem ag85:qp prog 85=some false:=by kernel_rfl
@[simp] theorem rc85 (cs:List PV):zp prog 85 cs=cs[0]?:=by simp[zp]
@[simp] theorem sz100:zR prog 100=some 2:=by kernel_rfl
@[simp] theorem ze100:wF prog 100=some [.v (.int .i64 0),.nil]:=by kernel_rfl
@[simp] theorem ag100:qp prog 100=some true:=by kernel_rfl
@[simp] theorem rc100 (cs:List PV):zp prog 100 cs=if 2≤cs.length then some (.agg (cs.take 2)) else none:=by simp[zp]
@[simp] theorem fi100_0:zQ prog 100 0=some (0,1,false):=by kernel_rfl
@[simp] theorem fi100_1:zQ prog 100 1=some (1,1,false):=by kernel_rfl
@[simp] theorem el115:qJ prog 115=some 163:=by kernel_rfl
@[simp] theorem sz115:zR prog 115=some 1:=by kernel_rfl
@[simp] theorem ag115:qp prog 115=some false:=by kernel_rfl
@[simp] theorem rc115 (cs:List PV):zp prog 115 cs=cs[0]?:=by simp[zp]
@[simp] theorem zet:zR prog 117=some 5:=by kernel_rfl
@[simp] theorem by117:yD prog 117=some 80:=by kernel_rfl
@[simp] theorem zeu:wF prog 117=some [.v (.int .i64 0),.v (.int .i64 0),.v (.string ⟨#[]⟩),.nil,.nil]:=by kernel_rfl
@[simp] theorem ag117:qp prog 117=some true:=by kernel_rfl
@[simp] theorem rc117 (cs:List PV):zp prog 117 cs=if 5≤cs.length then some (.agg (cs.take 5)) else none:=by simp[zp]
@[simp] theorem fi117_0:zQ prog 117 0=some (0,1,false):=by kernel_rfl
@[simp] theorem fi117_1:zQ prog 117 1=some (1,1,false):=by kernel_rfl
@[simp] theorem fi117_2:zQ prog 117 2=some (2,1,false):=by kernel_rfl
@[simp] theorem fi117_3:zQ prog 117 3=some (3,1,false):=by kernel_rfl
@[simp] theorem fi117_4:zQ prog 117 4=some (4,1,false):=by kernel_rfl
@[simp] theorem zdx:qJ prog 123=some 191:=by kernel_rfl
@[simp] theorem sz123:zR prog 123=some 1:=by kernel_rfl
@[simp] theorem ze123:wF prog 123=some [.nil]:=by kernel_rfl
@[simp] theorem ag123:qp prog 123=some false:=by kernel_rfl
@[simp] theorem rc123 (cs:List PV):zp prog 123 cs=cs[0]?:=by simp[zp]
@[simp] theorem sz126:zR prog 126=some 1:=by kernel_rfl
@[simp] theorem ag126:qp prog 126=some false:=by kernel_rfl
@[simp] theorem rc126 (cs:List PV):zp prog 126 cs=cs[0]?:=by simp[zp]
@[simp] theorem mk128:K5 prog 128=some (none,4):=by kernel_rfl
@[simp] theorem zv4_128:K6 prog 4=some (.v (.bool false)):=by kernel_rfl
@[simp] theorem sz128:zR prog 128=some 1:=by kernel_rfl
@[simp] theorem ag128:qp prog 128=some false:=by kernel_rfl
@[simp] theorem rc128 (cs:List PV):zp prog 128 cs=cs[0]?:=by simp[zp]
@[simp] theorem sz130:zR prog 130=some 6:=by kernel_rfl
@[simp] theorem ze130:wF prog 130=some [.nil,.nil,.nil,.v (.map none),.v (.map none),.v (.bool false)]:=by kernel_rfl
@[simp] theorem fi130_0:zQ prog 130 0=some (0,3,true):=by kernel_rfl
@[simp] theorem fi130_1:zQ prog 130 1=some (3,1,false):=by kernel_rfl
@[simp] theorem fi130_3:zQ prog 130 3=some (5,1,false):=by kernel_rfl
@[simp] theorem pl130:ja prog 130=some [(0,3),(3,1),(4,1),(5,1)]:=by kernel_rfl
@[simp] theorem el135:qJ prog 135=some 197:=by kernel_rfl
@[simp] theorem sz163:zR prog 163=some 6:=by kernel_rfl
@[simp] theorem ze163:wF prog 163=some [.v (.string ⟨#[]⟩),.v (.int .i64 0),.v (.int .i64 0),.v (.string ⟨#[]⟩),.nil,.nil]:=by kernel_rfl
@[simp] theorem ag163:qp prog 163=some true:=by kernel_rfl
@[simp] theorem rc163 (cs:List PV):zp prog 163 cs=if 6≤cs.length then some (.agg (cs.take 6)) else none:=by simp[zp]
@[simp] theorem fi163_0:zQ prog 163 0=some (0,1,false):=by kernel_rfl
@[simp] theorem fi163_1:zQ prog 163 1=some (1,5,true):=by kernel_rfl
@[simp] theorem zev:qJ prog 169=some 173:=by kernel_rfl
@[simp] theorem sz169:zR prog 169=some 1:=by kernel_rfl
@[simp] theorem ze169:wF prog 169=some [.nil]:=by kernel_rfl
@[simp] theorem ag169:qp prog 169=some false:=by kernel_rfl
@[simp] theorem rc169 (cs:List PV):zp prog 169 cs=cs[0]?:=by simp[zp]
@[simp] theorem J2:qJ prog 173=some 181:=by kernel_rfl
@[simp] theorem sz173:zR prog 173=some 1:=by kernel_rfl
@[simp] theorem by173:yD prog 173=some 24:=by kernel_rfl
@[simp] theorem ze173:wF prog 173=some [.nil]:=by kernel_rfl
@[simp] theorem ag173:qp prog 173=some false:=by kernel_rfl
@[simp] theorem rc173 (cs:List PV):zp prog 173 cs=cs[0]?:=by simp[zp]
@[simp] theorem ar177:arrA prog 177=some (3,3):=by kernel_rfl
@[simp] theorem el177:qJ prog 177=none:=by kernel_rfl
@[simp] theorem sz177:zR prog 177=some 3:=by kernel_rfl
@[simp] theorem ze177:wF prog 177=some [.v (.int .i64 0),.v (.int .i64 0),.v (.int .i64 0)]:=by kernel_rfl
@[simp] theorem ag177:qp prog 177=some true:=by kernel_rfl
@[simp] theorem rc177 (cs:List PV):zp prog 177 cs=if 3≤cs.length then some (.agg (cs.take 3)) else none:=by simp[zp]
@[simp] theorem pl177:ja prog 177=none:=by kernel_rfl
@[simp] theorem sz179:zR prog 179=some 5:=by kernel_rfl
@[simp] theorem ze179:wF prog 179=some [.v (.int .i64 0),.v (.int .i64 0),.v (.int .i64 0),.v (.int .i64 0),.nil]:=by kernel_rfl
@[simp] theorem ag179:qp prog 179=some true:=by kernel_rfl
@[simp] theorem rc179 (cs:List PV):zp prog 179 cs=if 5≤cs.length then some (.agg (cs.take 5)) else none:=by simp[zp]
@[simp] theorem fi179_0:zQ prog 179 0=some (0,3,true):=by kernel_rfl
@[simp] theorem fi179_1:zQ prog 179 1=some (3,1,false):=by kernel_rfl
@[simp] theorem fi179_2:zQ prog 179 2=some (4,1,false):=by kernel_rfl
@[simp] theorem pl179:ja prog 179=some [(0,3),(3,1),(4,1)]:=by kernel_rfl
@[simp] theorem J3:zR prog 181=some 11:=by kernel_rfl
@[simp] theorem J4:yD prog 181=some 128:=by kernel_rfl
@[simp] theorem J5:wF prog 181=some [.v (.string ⟨#[]⟩),.v (.int .i64 0),.v (.int .i64 0),.v (.int .i64 0),.v (.int .i64 0),.nil,.v (.int .i64 0),.v (.int .i64 0),.v (.int .i64 0),.v (.int .i64 0),.nil]:=by kernel_rfl
@[simp] theorem ag181:qp prog 181=some true:=by kernel_rfl
@[simp] theorem rc181 (cs:List PV):zp prog 181 cs=if 11≤cs.length then some (.agg (cs.take 11)) else none:=by simp[zp]
@[simp] theorem fi181_0:zQ prog 181 0=some (0,1,false):=by kernel_rfl
@[simp] theorem fi181_1:zQ prog 181 1=some (1,5,true):=by kernel_rfl
@[simp] theorem fi181_2:zQ prog 181 2=some (6,5,true):=by kernel_rfl
@[simp] theorem pl181:ja prog 181=some [(0,1),(1,5),(6,5)]:=by kernel_rfl
@[simp] theorem sz187:zR prog 187=some 4:=by kernel_rfl
@[simp] theorem ze187:wF prog 187=some [.v (.int .i64 0),.v (.int .i64 0),.v (.int .i64 0),.nil]:=by kernel_rfl
@[simp] theorem ag187:qp prog 187=some true:=by kernel_rfl
@[simp] theorem rc187 (cs:List PV):zp prog 187 cs=if 4≤cs.length then some (.agg (cs.take 4)) else none:=by simp[zp]
@[simp] theorem fi187_0:zQ prog 187 0=some (0,1,false):=by kernel_rfl
@[simp] theorem fi187_1:zQ prog 187 1=some (1,1,false):=by kernel_rfl
@[simp] theorem fi187_2:zQ prog 187 2=some (2,1,false):=by kernel_rfl
@[simp] theorem fi187_3:zQ prog 187 3=some (3,1,false):=by kernel_rfl
@[simp] theorem pl187:ja prog 187=some [(0,1),(1,1),(2,1),(3,1)]:=by kernel_rfl
@[simp] theorem Vd:zR prog 189=some 5:=by kernel_rfl
@[simp] theorem zcp:yD prog 189=some 56:=by kernel_rfl
@[simp] theorem zcq:wF prog 189=some [.v (.int .i64 0),.v (.int .i64 0),.v (.int .i64 0),.nil,.v (.bool false)]:=by kernel_rfl
@[simp] theorem ag189:qp prog 189=some true:=by kernel_rfl
@[simp] theorem rc189 (cs:List PV):zp prog 189 cs=if 5≤cs.length then some (.agg (cs.take 5)) else none:=by simp[zp]
@[simp] theorem fi189_0:zQ prog 189 0=some (0,4,true):=by kernel_rfl
@[simp] theorem fi189_1:zQ prog 189 1=some (4,1,false):=by kernel_rfl
@[simp] theorem pl189:ja prog 189=some [(0,4),(4,1)]:=by kernel_rfl
@[simp] theorem zcr:zR prog 191=some 11:=by kernel_rfl
@[simp] theorem zcM:yD prog 191=some 120:=by kernel_rfl
@[simp] theorem zcN:wF prog 191=some [.v (.int .i64 0),.v (.int .i64 0),.v (.int .i64 0),.nil,.v (.bool false),.v (.int .i64 0),.v (.int .i64 0),.v (.int .i64 0),.nil,.v (.bool false),.v (.bool false)]:=by kernel_rfl
@[simp] theorem ag191:qp prog 191=some true:=by kernel_rfl
@[simp] theorem rc191 (cs:List PV):zp prog 191 cs=if 11≤cs.length then some (.agg (cs.take 11)) else none:=by simp[zp]
@[simp] theorem fi191_0:zQ prog 191 0=some (0,5,true):=by kernel_rfl
@[simp] theorem fi191_1:zQ prog 191 1=some (5,5,true):=by kernel_rfl
@[simp] theorem fi191_2:zQ prog 191 2=some (10,1,false):=by kernel_rfl
@[simp] theorem pl191:ja prog 191=some [(0,5),(5,5),(10,1)]:=by kernel_rfl
@[simp] theorem sz203:zR prog 203=some 4:=by kernel_rfl
@[simp] theorem ze203:wF prog 203=some [.v (.string ⟨#[]⟩),.v (.string ⟨#[]⟩),.v (.int .i64 0),.nil]:=by kernel_rfl
@[simp] theorem ag203:qp prog 203=some true:=by kernel_rfl
@[simp] theorem rc203 (cs:List PV):zp prog 203 cs=if 4≤cs.length then some (.agg (cs.take 4)) else none:=by simp[zp]
@[simp] theorem fi203_0:zQ prog 203 0=some (0,1,false):=by kernel_rfl
@[simp] theorem fi203_1:zQ prog 203 1=some (1,1,false):=by kernel_rfl
@[simp] theorem fi203_2:zQ prog 203 2=some (2,1,false):=by kernel_rfl
@[simp] theorem fi203_3:zQ prog 203 3=some (3,1,false):=by kernel_rfl
@[simp] theorem Xi:qJ prog 238=some 189:=by kernel_rfl
@[simp] theorem el239:qJ prog 239=some 123:=by kernel_rfl
@[simp] theorem el246:qJ prog 246=some 250:=by kernel_rfl
@[simp] theorem sz250:zR prog 250=some 2:=by kernel_rfl
@[simp] theorem by250:yD prog 250=some 32:=by kernel_rfl
@[simp] theorem ze250:wF prog 250=some [.v (.string ⟨#[]⟩),.v (.string ⟨#[]⟩)]:=by kernel_rfl
@[simp] theorem ag250:qp prog 250=some true:=by kernel_rfl
@[simp] theorem rc250 (cs:List PV):zp prog 250 cs=if 2≤cs.length then some (.agg (cs.take 2)) else none:=by simp[zp]
@[simp] theorem fi250_0:zQ prog 250 0=some (0,1,false):=by kernel_rfl
@[simp] theorem fi250_1:zQ prog 250 1=some (1,1,false):=by kernel_rfl
@[simp] theorem pl250:ja prog 250=some [(0,1),(1,1)]:=by kernel_rfl
@[simp] theorem fl250:zcn prog 250=some [2,2]:=by kernel_rfl
@[simp] theorem sz265:zR prog 265=some 3:=by kernel_rfl
@[simp] theorem ze265:wF prog 265=some [.v (.int .i64 0),.v (.int .i64 0),.v (.int .i64 0)]:=by kernel_rfl
@[simp] theorem ag265:qp prog 265=some true:=by kernel_rfl
@[simp] theorem rc265 (cs:List PV):zp prog 265 cs=if 3≤cs.length then some (.agg (cs.take 3)) else none:=by simp[zp]
@[simp] theorem fi265_0:zQ prog 265 0=some (0,1,false):=by kernel_rfl
@[simp] theorem fi265_1:zQ prog 265 1=some (1,1,false):=by kernel_rfl
@[simp] theorem fi265_2:zQ prog 265 2=some (2,1,false):=by kernel_rfl
@[simp] theorem el286:qJ prog 286=some 3:=by kernel_rfl
@[simp] theorem if82:zcz prog 82=true:=by kernel_rfl
end Go.Proofs.YtdkfdoeijcfbhaaGreatDoor
