/- Lemmas. -/
import Derived.Test.YtnbicamkimignaaGreatDoorProg
import Derived.Test.YtnbicamkimignaaGreatDoorG8
set_option maxRecDepth 8000
open Go Proofs Proofs.YtnbicamkimignaaGreatDoor Proofs.Tryz RowKit AM SpanLaw Q Zz
namespace Go.Proofs.YtnbicamkimignaaGreatDoor
@[simp]theorem un3:Program.underlying prog 3=some (.int .i64):=by kernel_rfl
@[simp]theorem sz3:q8 prog 3=some 1:=by kernel_rfl
@[simp]theorem ze3:jr prog 3=some [.v (.int .i64 0)]:=by kernel_rfl
@[simp]theorem ag3:yo prog 3=some false:=by kernel_rfl
@[simp]theorem rc3(cs:zc):zV prog 3 cs=cs[0]?:=by simp[zV]
@[simp]theorem un4:Program.underlying prog 4=some .bool:=by kernel_rfl
@[simp]theorem sz4:q8 prog 4=some 1:=by kernel_rfl
@[simp]theorem ag4:yo prog 4=some false:=by kernel_rfl
@[simp]theorem rc4(cs:zc):zV prog 4 cs=cs[0]?:=by simp[zV]
@[simp]theorem un9:Program.underlying prog 9=some .string:=by kernel_rfl
@[simp]theorem sz9:q8 prog 9=some 1:=by kernel_rfl
@[simp]theorem by9:kr prog 9=some 16:=by kernel_rfl
@[simp]theorem ze9:jr prog 9=some [.v (.string ⟨#[]⟩)]:=by kernel_rfl
@[simp]theorem ag9:yo prog 9=some false:=by kernel_rfl
@[simp]theorem rc9(cs:zc):zV prog 9 cs=cs[0]?:=by simp[zV]
@[simp]theorem el22:yK prog 22=some 61:=by kernel_rfl
@[simp]theorem sz22:q8 prog 22=some 1:=by kernel_rfl
@[simp]theorem ag22:yo prog 22=some false:=by kernel_rfl
@[simp]theorem rc22(cs:zc):zV prog 22 cs=cs[0]?:=by simp[zV]
@[simp]theorem el23:yK prog 23=some 71:=by kernel_rfl
@[simp]theorem sz23:q8 prog 23=some 1:=by kernel_rfl
@[simp]theorem ag23:yo prog 23=some false:=by kernel_rfl
@[simp]theorem rc23(cs:zc):zV prog 23 cs=cs[0]?:=by simp[zV]
@[simp]theorem el24:yK prog 24=some 34:=by kernel_rfl
@[simp]theorem sz24:q8 prog 24=some 1:=by kernel_rfl
@[simp]theorem ag24:yo prog 24=some false:=by kernel_rfl
@[simp]theorem rc24(cs:zc):zV prog 24 cs=cs[0]?:=by simp[zV]
@[simp]theorem sz26:q8 prog 26=some 3:=by kernel_rfl
@[simp]theorem ze26:jr prog 26=some [.nil,.nil,.nil]:=by kernel_rfl
@[simp]theorem ag26:yo prog 26=some true:=by kernel_rfl
@[simp]theorem rc26(cs:zc):zV prog 26 cs=if 3≤cs.length then some (.agg (cs.take 3))else none:=by simp[zV]
@[simp]theorem zjA:wu prog 26 0=some (0,1,false):=by kernel_rfl
@[simp]theorem zjB:wu prog 26 1=some (1,1,false):=by kernel_rfl
@[simp]theorem zjC:wu prog 26 2=some (2,1,false):=by kernel_rfl
@[simp]theorem pl26:xT prog 26=some [(0,1),(1,1),(2,1)]:=by kernel_rfl
@[simp]theorem UI:yK prog 27=some 136:=by kernel_rfl
@[simp]theorem sz27:q8 prog 27=some 1:=by kernel_rfl
@[simp]theorem ag27:yo prog 27=some false:=by kernel_rfl
@[simp]theorem rc27(cs:zc):zV prog 27 cs=cs[0]?:=by simp[zV]
@[simp]theorem el28:yK prog 28=some 30:=by kernel_rfl
@[simp]theorem sz28:q8 prog 28=some 1:=by kernel_rfl
@[simp]theorem ag28:yo prog 28=some false:=by kernel_rfl
@[simp]theorem rc28(cs:zc):zV prog 28 cs=cs[0]?:=by simp[zV]
@[simp]theorem sz30:q8 prog 30=some 7:=by kernel_rfl
@[simp]theorem by30:kr prog 30=some 112:=by kernel_rfl
@[simp]theorem ze30:jr prog 30=some [.v (.int .i64 0),.v (.string ⟨#[]⟩),.v (.int .i64 0),.nil,.v (.string ⟨#[]⟩),.v (.string ⟨#[]⟩),.nil]:=by kernel_rfl
@[simp]theorem ag30:yo prog 30=some true:=by kernel_rfl
@[simp]theorem rc30(cs:zc):zV prog 30 cs=if 7≤cs.length then some (.agg (cs.take 7))else none:=by simp[zV]
@[simp]theorem zjD:wu prog 30 0=some (0,1,false):=by kernel_rfl
@[simp]theorem zjE:wu prog 30 1=some (1,1,false):=by kernel_rfl
@[simp]theorem zjF:wu prog 30 2=some (2,1,false):=by kernel_rfl
@[simp]theorem zjG:wu prog 30 3=some (3,1,false):=by kernel_rfl
@[simp]theorem zjH:wu prog 30 4=some (4,1,false):=by kernel_rfl
@[simp]theorem zjI:wu prog 30 5=some (5,1,false):=by kernel_rfl
@[simp]theorem zjJ:wu prog 30 6=some (6,1,false):=by kernel_rfl
@[simp]theorem el31:yK prog 31=some 101:=by kernel_rfl
@[simp]theorem sz31:q8 prog 31=some 1:=by kernel_rfl
@[simp]theorem ag31:yo prog 31=some false:=by kernel_rfl
@[simp]theorem rc31(cs:zc):zV prog 31 cs=cs[0]?:=by simp[zV]
@[simp]theorem el32:yK prog 32=some 54:=by kernel_rfl
@[simp]theorem sz32:q8 prog 32=some 1:=by kernel_rfl
@[simp]theorem ag32:yo prog 32=some false:=by kernel_rfl
@[simp]theorem rc32(cs:zc):zV prog 32 cs=cs[0]?:=by simp[zV]
@[simp]theorem O9:q8 prog 34=some 13:=by kernel_rfl
@[simp]theorem by34:kr prog 34=some 224:=by kernel_rfl
@[simp]theorem ze34:jr prog 34=some [.v (.string ⟨#[]⟩),.v (.string ⟨#[]⟩),.v (.string ⟨#[]⟩),.v (.int .i64 0),.v (.string ⟨#[]⟩),.v (.int .i64 0),.nil,.v (.string ⟨#[]⟩),.v (.string ⟨#[]⟩),.nil,.v (.string ⟨#[]⟩),.nil,.nil]:=by kernel_rfl
@[simp]theorem ag34:yo prog 34=some true:=by kernel_rfl
@[simp]theorem rc34(cs:zc):zV prog 34 cs=if 13≤cs.length then some (.agg (cs.take 13))else none:=by simp[zV]
@[simp]theorem zjK:wu prog 34 0=some (0,1,false):=by kernel_rfl
@[simp]theorem zjL:wu prog 34 1=some (1,1,false):=by kernel_rfl
@[simp]theorem zjM:wu prog 34 2=some (2,1,false):=by kernel_rfl
@[simp]theorem zjN:wu prog 34 3=some (3,7,true):=by kernel_rfl
@[simp]theorem zjO:wu prog 34 4=some (10,1,false):=by kernel_rfl
@[simp]theorem zjP:wu prog 34 5=some (11,1,false):=by kernel_rfl
@[simp]theorem zjQ:wu prog 34 6=some (12,1,false):=by kernel_rfl
@[simp]theorem sz35:q8 prog 35=some 1:=by kernel_rfl
@[simp]theorem ze35:jr prog 35=some [.v (.int .i64 0)]:=by kernel_rfl
@[simp]theorem ag35:yo prog 35=some false:=by kernel_rfl
@[simp]theorem rc35(cs:zc):zV prog 35 cs=cs[0]?:=by simp[zV]
@[simp]theorem iI:yK prog 48=some 82:=by kernel_rfl
@[simp]theorem sz48:q8 prog 48=some 1:=by kernel_rfl
@[simp]theorem ze48:jr prog 48=some [.nil]:=by kernel_rfl
@[simp]theorem ag48:yo prog 48=some false:=by kernel_rfl
@[simp]theorem rc48(cs:zc):zV prog 48 cs=cs[0]?:=by simp[zV]
@[simp]theorem sz54:q8 prog 54=some 2:=by kernel_rfl
@[simp]theorem by54:kr prog 54=some 32:=by kernel_rfl
@[simp]theorem ze54:jr prog 54=some [.v (.int .i64 0),.nil]:=by kernel_rfl
@[simp]theorem ag54:yo prog 54=some true:=by kernel_rfl
@[simp]theorem rc54(cs:zc):zV prog 54 cs=if 2≤cs.length then some (.agg (cs.take 2))else none:=by simp[zV]
@[simp]theorem zjR:wu prog 54 0=some (0,1,false):=by kernel_rfl
@[simp]theorem zjS:wu prog 54 1=some (1,1,false):=by kernel_rfl
@[simp]theorem pl54:xT prog 54=some [(0,1),(1,1)]:=by kernel_rfl
@[simp]theorem sz61:q8 prog 61=some 3:=by kernel_rfl
@[simp]theorem by61:kr prog 61=some 40:=by kernel_rfl
@[simp]theorem ze61:jr prog 61=some [.v (.string ⟨#[]⟩),.v (.string ⟨#[]⟩),.v (.int .i64 0)]:=by kernel_rfl
@[simp]theorem ag61:yo prog 61=some true:=by kernel_rfl
@[simp]theorem rc61(cs:zc):zV prog 61 cs=if 3≤cs.length then some (.agg (cs.take 3))else none:=by simp[zV]
@[simp]theorem zjT:wu prog 61 0=some (0,1,false):=by kernel_rfl
@[simp]theorem zjU:wu prog 61 1=some (1,1,false):=by kernel_rfl
@[simp]theorem zjV:wu prog 61 2=some (2,1,false):=by kernel_rfl
@[simp]theorem pl61:xT prog 61=some [(0,1),(1,1),(2,1)]:=by kernel_rfl
@[simp]theorem fl61:lY prog 61=some [2,2,0]:=by kernel_rfl
@[simp]theorem L2:yK prog 69=some 9:=by kernel_rfl
@[simp]theorem sz69:q8 prog 69=some 1:=by kernel_rfl
@[simp]theorem ag69:yo prog 69=some false:=by kernel_rfl
@[simp]theorem rc69(cs:zc):zV prog 69 cs=cs[0]?:=by simp[zV]
@[simp]theorem sz71:q8 prog 71=some 4:=by kernel_rfl
@[simp]theorem by71:kr prog 71=some 64:=by kernel_rfl
@[simp]theorem ze71:jr prog 71=some [.v (.string ⟨#[]⟩),.v (.string ⟨#[]⟩),.v (.int .i64 0),.nil]:=by kernel_rfl
@[simp]theorem ag71:yo prog 71=some true:=by kernel_rfl
@[simp]theorem rc71(cs:zc):zV prog 71 cs=if 4≤cs.length then some (.agg (cs.take 4))else none:=by simp[zV]
@[simp]theorem zjW:wu prog 71 0=some (0,1,false):=by kernel_rfl
@[simp]theorem zjX:wu prog 71 1=some (1,1,false):=by kernel_rfl
@[simp]theorem zjY:wu prog 71 2=some (2,1,false):=by kernel_rfl
@[simp]theorem zjZ:wu prog 71 3=some (3,1,false):=by kernel_rfl
@[simp]theorem ff:q8 prog 82=some 2:=by kernel_rfl
@[simp]theorem iJ:kr prog 82=some 16:=by kernel_rfl
@[simp]theorem iK:jr prog 82=some [.v (.int .i64 0),.v (.int .i64 0)]:=by kernel_rfl
@[simp]theorem ag82:yo prog 82=some true:=by kernel_rfl
@[simp]theorem rc82(cs:zc):zV prog 82 cs=if 2≤cs.length then some (.agg (cs.take 2))else none:=by simp[zV]
@[simp]theorem zj0:wu prog 82 0=some (0,1,false):=by kernel_rfl
@[simp]theorem zj1:wu prog 82 1=some (1,1,false):=by kernel_rfl
@[simp]theorem pl82:xT prog 82=some [(0,1),(1,1)]:=by kernel_rfl
@[simp]theorem fl82:lY prog 82=some [0,0]:=by kernel_rfl
@[simp]theorem sz86:q8 prog 86=some 1:=by kernel_rfl
@[simp]theorem ag86:yo prog 86=some false:=by kernel_rfl
@[simp]theorem rc86(cs:zc):zV prog 86 cs=cs[0]?:=by simp[zV]
@[simp]theorem mk88:cS prog 88=some (none,4):=by kernel_rfl
@[simp]theorem zj2:cT prog 4=some (.v (.bool false)):=by kernel_rfl
@[simp]theorem sz88:q8 prog 88=some 1:=by kernel_rfl
@[simp]theorem ag88:yo prog 88=some false:=by kernel_rfl
@[simp]theorem rc88(cs:zc):zV prog 88 cs=cs[0]?:=by simp[zV]
@[simp]theorem sz90:q8 prog 90=some 6:=by kernel_rfl
@[simp]theorem ze90:jr prog 90=some [.nil,.nil,.nil,.v (.map none),.v (.map none),.v (.bool false)]:=by kernel_rfl
@[simp]theorem zj3:wu prog 90 0=some (0,3,true):=by kernel_rfl
@[simp]theorem zj4:wu prog 90 1=some (3,1,false):=by kernel_rfl
@[simp]theorem zj5:wu prog 90 3=some (5,1,false):=by kernel_rfl
@[simp]theorem pl90:xT prog 90=some [(0,3),(3,1),(4,1),(5,1)]:=by kernel_rfl
@[simp]theorem zkx:q8 prog 101=some 3:=by kernel_rfl
@[simp]theorem zky:kr prog 101=some 24:=by kernel_rfl
@[simp]theorem zkz:jr prog 101=some [.v (.int .i64 0),.v (.int .i64 0),.v (.int .i64 0)]:=by kernel_rfl
@[simp]theorem zkA:yo prog 101=some true:=by kernel_rfl
@[simp]theorem zkB(cs:zc):zV prog 101 cs=if 3≤cs.length then some (.agg (cs.take 3))else none:=by simp[zV]
@[simp]theorem ziO:wu prog 101 0=some (0,1,false):=by kernel_rfl
@[simp]theorem ziP:wu prog 101 1=some (1,1,false):=by kernel_rfl
@[simp]theorem ziQ:wu prog 101 2=some (2,1,false):=by kernel_rfl
@[simp]theorem zg5:lY prog 101=some [0,0,0]:=by kernel_rfl
@[simp]theorem zkC:yK prog 124=some 48:=by kernel_rfl
@[simp]theorem zkD:yK prog 128=some 130:=by kernel_rfl
@[simp]theorem zg6:yK prog 134=some 171:=by kernel_rfl
@[simp]theorem zkE:q8 prog 134=some 1:=by kernel_rfl
@[simp]theorem zkF:yo prog 134=some false:=by kernel_rfl
@[simp]theorem zkG(cs:zc):zV prog 134 cs=cs[0]?:=by simp[zV]
@[simp]theorem zcB:q8 prog 136=some 5:=by kernel_rfl
@[simp]theorem zg7:kr prog 136=some 80:=by kernel_rfl
@[simp]theorem zcC:jr prog 136=some [.v (.int .i64 0),.v (.int .i64 0),.v (.string ⟨#[]⟩),.nil,.nil]:=by kernel_rfl
@[simp]theorem zkH:yo prog 136=some true:=by kernel_rfl
@[simp]theorem zkI(cs:zc):zV prog 136 cs=if 5≤cs.length then some (.agg (cs.take 5))else none:=by simp[zV]
@[simp]theorem ziR:wu prog 136 0=some (0,1,false):=by kernel_rfl
@[simp]theorem ziS:wu prog 136 1=some (1,1,false):=by kernel_rfl
@[simp]theorem ziT:wu prog 136 2=some (2,1,false):=by kernel_rfl
@[simp]theorem ziU:wu prog 136 3=some (3,1,false):=by kernel_rfl
@[simp]theorem ziV:wu prog 136 4=some (4,1,false):=by kernel_rfl
@[simp]theorem zg8:Program.underlying prog 149=some (.int .u64):=by kernel_rfl
@[simp]theorem zkJ:q8 prog 171=some 6:=by kernel_rfl
@[simp]theorem zkK:kr prog 171=some 96:=by kernel_rfl
@[simp]theorem zkL:jr prog 171=some [.v (.string ⟨#[]⟩),.v (.int .i64 0),.v (.int .i64 0),.v (.string ⟨#[]⟩),.nil,.nil]:=by kernel_rfl
@[simp]theorem zkM:yo prog 171=some true:=by kernel_rfl
@[simp]theorem zkN(cs:zc):zV prog 171 cs=if 6≤cs.length then some (.agg (cs.take 6))else none:=by simp[zV]
@[simp]theorem ziW:wu prog 171 0=some (0,1,false):=by kernel_rfl
@[simp]theorem ziX:wu prog 171 1=some (1,5,true):=by kernel_rfl
@[simp]theorem Io:yK prog 209=some 239:=by kernel_rfl
@[simp]theorem zkO:q8 prog 209=some 1:=by kernel_rfl
@[simp]theorem zkP:jr prog 209=some [.nil]:=by kernel_rfl
@[simp]theorem zkQ:yo prog 209=some false:=by kernel_rfl
@[simp]theorem zkR(cs:zc):zV prog 209 cs=cs[0]?:=by simp[zV]
@[simp]theorem zcD:yK prog 217=some 221:=by kernel_rfl
@[simp]theorem zkS:q8 prog 217=some 1:=by kernel_rfl
@[simp]theorem zkT:jr prog 217=some [.nil]:=by kernel_rfl
@[simp]theorem zkU:yo prog 217=some false:=by kernel_rfl
@[simp]theorem zkV(cs:zc):zV prog 217 cs=cs[0]?:=by simp[zV]
@[simp]theorem bl:yK prog 221=some 229:=by kernel_rfl
@[simp]theorem zg9:q8 prog 221=some 1:=by kernel_rfl
@[simp]theorem zha:kr prog 221=some 24:=by kernel_rfl
@[simp]theorem zhb:jr prog 221=some [.nil]:=by kernel_rfl
@[simp]theorem zkW:yo prog 221=some false:=by kernel_rfl
@[simp]theorem zkX(cs:zc):zV prog 221 cs=cs[0]?:=by simp[zV]
@[simp]theorem zkY:lU prog 225=some (3,3):=by kernel_rfl
@[simp]theorem zkZ:yK prog 225=none:=by kernel_rfl
@[simp]theorem zk0:q8 prog 225=some 3:=by kernel_rfl
@[simp]theorem zk1:jr prog 225=some [.v (.int .i64 0),.v (.int .i64 0),.v (.int .i64 0)]:=by kernel_rfl
@[simp]theorem zk2:yo prog 225=some true:=by kernel_rfl
@[simp]theorem zk3(cs:zc):zV prog 225 cs=if 3≤cs.length then some (.agg (cs.take 3))else none:=by simp[zV]
@[simp]theorem zk4:xT prog 225=none:=by kernel_rfl
@[simp]theorem zk5:q8 prog 227=some 5:=by kernel_rfl
@[simp]theorem zk6:jr prog 227=some [.v (.int .i64 0),.v (.int .i64 0),.v (.int .i64 0),.v (.int .i64 0),.nil]:=by kernel_rfl
@[simp]theorem zk7:yo prog 227=some true:=by kernel_rfl
@[simp]theorem zk8(cs:zc):zV prog 227 cs=if 5≤cs.length then some (.agg (cs.take 5))else none:=by simp[zV]
@[simp]theorem ziY:wu prog 227 0=some (0,3,true):=by kernel_rfl
@[simp]theorem ziZ:wu prog 227 1=some (3,1,false):=by kernel_rfl
@[simp]theorem zi0:wu prog 227 2=some (4,1,false):=by kernel_rfl
@[simp]theorem zk9:xT prog 227=some [(0,3),(3,1),(4,1)]:=by kernel_rfl
@[simp]theorem bm:q8 prog 229=some 11:=by kernel_rfl
@[simp]theorem bn:kr prog 229=some 128:=by kernel_rfl
@[simp]theorem bo:jr prog 229=some [.v (.string ⟨#[]⟩),.v (.int .i64 0),.v (.int .i64 0),.v (.int .i64 0),.v (.int .i64 0),.nil,.v (.int .i64 0),.v (.int .i64 0),.v (.int .i64 0),.v (.int .i64 0),.nil]:=by kernel_rfl
@[simp]theorem zla:yo prog 229=some true:=by kernel_rfl
@[simp]theorem zlb(cs:zc):zV prog 229 cs=if 11≤cs.length then some (.agg (cs.take 11))else none:=by simp[zV]
@[simp]theorem zi1:wu prog 229 0=some (0,1,false):=by kernel_rfl
@[simp]theorem zi2:wu prog 229 1=some (1,5,true):=by kernel_rfl
@[simp]theorem zi3:wu prog 229 2=some (6,5,true):=by kernel_rfl
@[simp]theorem zlc:xT prog 229=some [(0,1),(1,5),(6,5)]:=by kernel_rfl
@[simp]theorem zld:q8 prog 235=some 4:=by kernel_rfl
@[simp]theorem zle:jr prog 235=some [.v (.int .i64 0),.v (.int .i64 0),.v (.int .i64 0),.nil]:=by kernel_rfl
@[simp]theorem zlf:yo prog 235=some true:=by kernel_rfl
@[simp]theorem zlg(cs:zc):zV prog 235 cs=if 4≤cs.length then some (.agg (cs.take 4))else none:=by simp[zV]
@[simp]theorem zi4:wu prog 235 0=some (0,1,false):=by kernel_rfl
@[simp]theorem zi5:wu prog 235 1=some (1,1,false):=by kernel_rfl
@[simp]theorem zi6:wu prog 235 2=some (2,1,false):=by kernel_rfl
@[simp]theorem zi7:wu prog 235 3=some (3,1,false):=by kernel_rfl
@[simp]theorem zlh:xT prog 235=some [(0,1),(1,1),(2,1),(3,1)]:=by kernel_rfl
@[simp]theorem dd:q8 prog 237=some 5:=by kernel_rfl
@[simp]theorem sw:kr prog 237=some 56:=by kernel_rfl
@[simp]theorem sx:jr prog 237=some [.v (.int .i64 0),.v (.int .i64 0),.v (.int .i64 0),.nil,.v (.bool false)]:=by kernel_rfl
@[simp]theorem zli:yo prog 237=some true:=by kernel_rfl
@[simp]theorem zlj(cs:zc):zV prog 237 cs=if 5≤cs.length then some (.agg (cs.take 5))else none:=by simp[zV]
@[simp]theorem zi8:wu prog 237 0=some (0,4,true):=by kernel_rfl
@[simp]theorem zi9:wu prog 237 1=some (4,1,false):=by kernel_rfl
@[simp]theorem zlk:xT prog 237=some [(0,4),(4,1)]:=by kernel_rfl
@[simp]theorem sy:q8 prog 239=some 11:=by kernel_rfl
@[simp]theorem Cw:kr prog 239=some 120:=by kernel_rfl
@[simp]theorem Cx:jr prog 239=some [.v (.int .i64 0),.v (.int .i64 0),.v (.int .i64 0),.nil,.v (.bool false),.v (.int .i64 0),.v (.int .i64 0),.v (.int .i64 0),.nil,.v (.bool false),.v (.bool false)]:=by kernel_rfl
@[simp]theorem zll:yo prog 239=some true:=by kernel_rfl
@[simp]theorem zlm(cs:zc):zV prog 239 cs=if 11≤cs.length then some (.agg (cs.take 11))else none:=by simp[zV]
@[simp]theorem zja:wu prog 239 0=some (0,5,true):=by kernel_rfl
@[simp]theorem zjb:wu prog 239 1=some (5,5,true):=by kernel_rfl
@[simp]theorem zjc:wu prog 239 2=some (10,1,false):=by kernel_rfl
@[simp]theorem zln:xT prog 239=some [(0,5),(5,5),(10,1)]:=by kernel_rfl
@[simp]theorem gJ:yK prog 258=some 237:=by kernel_rfl
@[simp]theorem zlo:yK prog 259=some 209:=by kernel_rfl
@[simp]theorem zhc:yK prog 266=some 270:=by kernel_rfl
@[simp]theorem zhd:q8 prog 270=some 2:=by kernel_rfl
@[simp]theorem zhe:kr prog 270=some 32:=by kernel_rfl
@[simp]theorem zhf:jr prog 270=some [.v (.string ⟨#[]⟩),.v (.string ⟨#[]⟩)]:=by kernel_rfl
@[simp]theorem zlp:yo prog 270=some true:=by kernel_rfl
@[simp]theorem zlq(cs:zc):zV prog 270 cs=if 2≤cs.length then some (.agg (cs.take 2))else none:=by simp[zV]
@[simp]theorem zjd:wu prog 270 0=some (0,1,false):=by kernel_rfl
@[simp]theorem zje:wu prog 270 1=some (1,1,false):=by kernel_rfl
@[simp]theorem zlr:xT prog 270=some [(0,1),(1,1)]:=by kernel_rfl
@[simp]theorem zhg:lY prog 270=some [2,2]:=by kernel_rfl
@[simp]theorem zls:yK prog 278=some 3:=by kernel_rfl
@[simp]theorem zhh:Program.underlying prog 365=some (.array 20 149):=by kernel_rfl
@[simp]theorem zlt:FG prog 306=true:=by kernel_rfl
end Go.Proofs.YtnbicamkimignaaGreatDoor
