/- Lemmas. -/
import Derived.Test.YtmbfinldjgmhaaaGreatDoorProg
import Derived.Test.YtmbfinldjgmhaaaGreatDoorG4
set_option maxRecDepth 8000
open Go Proofs Proofs.YtmbfinldjgmhaaaGreatDoor Proofs.Tryz RowKit AM SpanLaw Q Zz
namespace Go.Proofs.YtmbfinldjgmhaaaGreatDoor
@[simp]theorem un4:Program.underlying prog 4=some .bool:=by kernel_rfl
@[simp]theorem Ny:qC prog 9=some 1:=by kernel_rfl
@[simp]theorem RV:jB prog 9=some 16:=by kernel_rfl
@[simp]theorem RW:yT prog 9=some [.v (.string ⟨#[]⟩)]:=by kernel_rfl
@[simp]theorem IA:ym prog 23=some 52:=by kernel_rfl
@[simp]theorem el24:ym prog 24=some 26:=by kernel_rfl
@[simp]theorem sz26:qC prog 26=some 7:=by kernel_rfl
@[simp]theorem by26:jB prog 26=some 112:=by kernel_rfl
@[simp]theorem ze26:yT prog 26=some [.v (.int .i64 0),.v (.string ⟨#[]⟩),.v (.int .i64 0),.nil,.v (.string ⟨#[]⟩),.v (.string ⟨#[]⟩),.nil]:=by kernel_rfl
@[simp]theorem un34:Program.underlying prog 34=some (.slice 9):=by kernel_rfl
@[simp]theorem oT:ym prog 34=some 9:=by kernel_rfl
@[simp]theorem el50:ym prog 50=some 78:=by kernel_rfl
@[simp]theorem SF:qC prog 52=some 5:=by kernel_rfl
@[simp]theorem by52:jB prog 52=some 80:=by kernel_rfl
@[simp]theorem SG:yT prog 52=some [.v (.int .i64 0),.v (.int .i64 0),.v (.string ⟨#[]⟩),.nil,.nil]:=by kernel_rfl
@[simp]theorem zey:Program.underlying prog 118=some (.int .u64):=by kernel_rfl
@[simp]theorem GW:ym prog 132=some 176:=by kernel_rfl
@[simp]theorem zat:ym prog 156=some 160:=by kernel_rfl
@[simp]theorem aJ:ym prog 160=some 168:=by kernel_rfl
@[simp]theorem zez:qC prog 160=some 1:=by kernel_rfl
@[simp]theorem zeA:jB prog 160=some 24:=by kernel_rfl
@[simp]theorem zeB:yT prog 160=some [.nil]:=by kernel_rfl
@[simp]theorem aK:qC prog 168=some 11:=by kernel_rfl
@[simp]theorem aL:jB prog 168=some 128:=by kernel_rfl
@[simp]theorem aM:yT prog 168=some [.v (.string ⟨#[]⟩),.v (.int .i64 0),.v (.int .i64 0),.v (.int .i64 0),.v (.int .i64 0),.nil,.v (.int .i64 0),.v (.int .i64 0),.v (.int .i64 0),.v (.int .i64 0),.nil]:=by kernel_rfl
@[simp]theorem cy:qC prog 174=some 5:=by kernel_rfl
@[simp]theorem ru:jB prog 174=some 56:=by kernel_rfl
@[simp]theorem rv:yT prog 174=some [.v (.int .i64 0),.v (.int .i64 0),.v (.int .i64 0),.nil,.v (.bool false)]:=by kernel_rfl
@[simp]theorem ry:qC prog 176=some 11:=by kernel_rfl
@[simp]theorem Bo:jB prog 176=some 120:=by kernel_rfl
@[simp]theorem Bp:yT prog 176=some [.v (.int .i64 0),.v (.int .i64 0),.v (.int .i64 0),.nil,.v (.bool false),.v (.int .i64 0),.v (.int .i64 0),.v (.int .i64 0),.nil,.v (.bool false),.v (.bool false)]:=by kernel_rfl
@[simp]theorem fC:ym prog 204=some 174:=by kernel_rfl
@[simp]theorem zeC:ym prog 212=some 216:=by kernel_rfl
@[simp]theorem zeD:qC prog 216=some 2:=by kernel_rfl
@[simp]theorem zeE:jB prog 216=some 32:=by kernel_rfl
@[simp]theorem zeG:yT prog 216=some [.v (.string ⟨#[]⟩),.v (.string ⟨#[]⟩)]:=by kernel_rfl
@[simp]theorem zeH:GH prog 216=some [2,2]:=by kernel_rfl
@[simp]theorem zeI:Program.underlying prog 300=some (.array 20 118):=by kernel_rfl
@[simp]theorem Fk1:qC prog 3=some 1/\jB prog 3=some 8/\yT prog 3=some [.v (.int .i64 0)]/\yr prog 3=some false/\qC prog 4=some 1/\yr prog 4=some false/\yr prog 9=some false/\ym prog 22=some 56/\qC prog 22=some 1/\yr prog 22=some false/\qC prog 23=some 1/\yr prog 23=some false/\qC prog 24=some 1/\yr prog 24=some false/\yr prog 26=some true/\wG prog 26 0=some (0,1,false)/\wG prog 26 1=some (1,1,false)/\wG prog 26 2=some (2,1,false)/\wG prog 26 3=some (3,1,false)/\wG prog 26 4=some (4,1,false)/\wG prog 26 5=some (5,1,false)/\wG prog 26 6=some (6,1,false)/\xz prog 26=some [(0,1),(1,1),(2,1),(3,1),(4,1),(5,1),(6,1)]/\ym prog 27=some 84/\qC prog 27=some 1/\yr prog 27=some false/\qC prog 29=some 2/\yr prog 29=some true/\wG prog 29 0=some (0,1,false)/\wG prog 29 1=some (1,1,false)/\qC prog 30=some 1/\yT prog 30=some [.v (.int .i64 0)]/\yr prog 30=some false/\qC prog 34=some 1/\yT prog 34=some [.nil]/\yr prog 34=some false/\Vx prog 42=some (some .i64,26)/\Vy prog 26=some (.agg [.v (.int .i64 0),.v (.string ⟨#[]⟩),.v (.int .i64 0),.nil,.v (.string ⟨#[]⟩),.v (.string ⟨#[]⟩),.nil])/\qC prog 42=some 1/\yr prog 42=some false:=by and_intros<;>kernel_rfl
@[simp]theorem Fk2:qC prog 44=some 3/\yT prog 44=some [.nil,.v (.map none),.v (.bool false)]/\wG prog 44 0=some (0,1,false)/\wG prog 44 1=some (1,1,false)/\wG prog 44 2=some (2,1,false)/\xz prog 44=some [(0,1),(1,1),(2,1)]/\qC prog 50=some 1/\yr prog 50=some false/\yr prog 52=some true/\wG prog 52 0=some (0,1,false)/\wG prog 52 1=some (1,1,false)/\wG prog 52 2=some (2,1,false)/\wG prog 52 3=some (3,1,false)/\wG prog 52 4=some (4,1,false)/\xz prog 52=some [(0,1),(1,1),(2,1),(3,1),(4,1)]/\Vx prog 53=some (some .i64,4)/\Vy prog 4=some (.v (.bool false))/\qC prog 53=some 1/\yT prog 53=some [.v (.map none)]/\yr prog 53=some false/\qC prog 56=some 10/\yT prog 56=some [.v (.string ⟨#[]⟩),.nil,.nil,.v (.int .i64 0),.v (.string ⟨#[]⟩),.v (.int .i64 0),.nil,.v (.string ⟨#[]⟩),.v (.string ⟨#[]⟩),.nil]/\yr prog 56=some true/\wG prog 56 0=some (0,1,false)/\wG prog 56 1=some (1,1,false)/\wG prog 56 2=some (2,1,false)/\wG prog 56 3=some (3,7,true)/\xz prog 56=some [(0,1),(1,1),(2,1),(3,7)]/\qC prog 59=some 1/\yr prog 59=some false/\qC prog 78=some 6/\jB prog 78=some 96/\yT prog 78=some [.v (.string ⟨#[]⟩),.v (.int .i64 0),.v (.int .i64 0),.v (.string ⟨#[]⟩),.nil,.nil]/\yr prog 78=some true/\wG prog 78 0=some (0,1,false)/\wG prog 78 1=some (1,5,true)/\qC prog 84=some 6/\yT prog 84=some [.v (.string ⟨#[]⟩),.v (.int .i64 0),.v (.int .i64 0),.v (.string ⟨#[]⟩),.nil,.nil]/\yr prog 84=some true/\wG prog 84 0=some (0,1,false):=by and_intros<;>kernel_rfl
@[simp]theorem Fk3:wG prog 84 1=some (1,5,true)/\qC prog 87=some 4/\yT prog 87=some [.nil,.v (.string ⟨#[]⟩),.nil,.v (.map none)]/\wG prog 87 0=some (0,1,false)/\wG prog 87 1=some (1,2,true)/\wG prog 87 2=some (3,1,false)/\xz prog 87=some [(0,1),(1,2),(3,1)]/\ym prog 94=some 3/\qC prog 94=some 1/\yr prog 94=some false/\ym prog 129=some 34/\qC prog 132=some 1/\yT prog 132=some [.nil]/\yr prog 132=some false/\qC prog 148=some 4/\yT prog 148=some [.v (.int .i64 0),.v (.int .i64 0),.v (.int .i64 0),.nil]/\yr prog 148=some true/\wG prog 148 0=some (0,1,false)/\wG prog 148 1=some (1,1,false)/\wG prog 148 2=some (2,1,false)/\wG prog 148 3=some (3,1,false)/\xz prog 148=some [(0,1),(1,1),(2,1),(3,1)]/\qC prog 156=some 1/\yT prog 156=some [.nil]/\yr prog 156=some false/\yr prog 160=some false/\AV prog 164=some (3,3)/\ym prog 164=none/\qC prog 164=some 3/\yT prog 164=some [.v (.int .i64 0),.v (.int .i64 0),.v (.int .i64 0)]/\yr prog 164=some true/\xz prog 164=none/\qC prog 166=some 5/\yT prog 166=some [.v (.int .i64 0),.v (.int .i64 0),.v (.int .i64 0),.v (.int .i64 0),.nil]/\yr prog 166=some true/\wG prog 166 0=some (0,3,true)/\wG prog 166 1=some (3,1,false)/\wG prog 166 2=some (4,1,false)/\xz prog 166=some [(0,3),(3,1),(4,1)]/\yr prog 168=some true:=by and_intros<;>kernel_rfl
@[simp]theorem Fk4:wG prog 168 0=some (0,1,false)/\wG prog 168 1=some (1,5,true)/\wG prog 168 2=some (6,5,true)/\xz prog 168=some [(0,1),(1,5),(6,5)]/\yr prog 174=some true/\wG prog 174 0=some (0,4,true)/\wG prog 174 1=some (4,1,false)/\xz prog 174=some [(0,4),(4,1)]/\yr prog 176=some true/\wG prog 176 0=some (0,5,true)/\wG prog 176 1=some (5,5,true)/\wG prog 176 2=some (10,1,false)/\xz prog 176=some [(0,5),(5,5),(10,1)]/\ym prog 205=some 132/\yr prog 216=some true/\wG prog 216 0=some (0,1,false)/\wG prog 216 1=some (1,1,false)/\xz prog 216=some [(0,1),(1,1)]/\(Ei prog 232=true):=by and_intros<;>kernel_rfl
@[simp]theorem Fk5(cs:zb):(qO prog 3 cs=cs[0]?)/\(qO prog 4 cs=cs[0]?)/\(qO prog 9 cs=cs[0]?)/\(qO prog 22 cs=cs[0]?)/\(qO prog 23 cs=cs[0]?)/\(qO prog 24 cs=cs[0]?)/\(qO prog 26 cs=if 7<=cs.length then some (.agg (cs.take 7))else none)/\(qO prog 27 cs=cs[0]?)/\(qO prog 29 cs=if 2<=cs.length then some (.agg (cs.take 2))else none)/\(qO prog 30 cs=cs[0]?)/\(qO prog 34 cs=cs[0]?)/\(qO prog 42 cs=cs[0]?)/\(qO prog 50 cs=cs[0]?)/\(qO prog 52 cs=if 5<=cs.length then some (.agg (cs.take 5))else none)/\(qO prog 53 cs=cs[0]?)/\(qO prog 56 cs=if 10<=cs.length then some (.agg (cs.take 10))else none)/\(qO prog 59 cs=cs[0]?)/\(qO prog 78 cs=if 6<=cs.length then some (.agg (cs.take 6))else none)/\(qO prog 84 cs=if 6<=cs.length then some (.agg (cs.take 6))else none)/\(qO prog 94 cs=cs[0]?)/\(qO prog 132 cs=cs[0]?)/\(qO prog 148 cs=if 4<=cs.length then some (.agg (cs.take 4))else none)/\(qO prog 156 cs=cs[0]?)/\(qO prog 160 cs=cs[0]?)/\(qO prog 164 cs=if 3<=cs.length then some (.agg (cs.take 3))else none)/\(qO prog 166 cs=if 5<=cs.length then some (.agg (cs.take 5))else none)/\(qO prog 168 cs=if 11<=cs.length then some (.agg (cs.take 11))else none)/\(qO prog 174 cs=if 5<=cs.length then some (.agg (cs.take 5))else none)/\(qO prog 176 cs=if 11<=cs.length then some (.agg (cs.take 11))else none)/\(qO prog 216 cs=if 2<=cs.length then some (.agg (cs.take 2))else none):=by and_intros<;>simp[qO]
end Go.Proofs.YtmbfinldjgmhaaaGreatDoor
