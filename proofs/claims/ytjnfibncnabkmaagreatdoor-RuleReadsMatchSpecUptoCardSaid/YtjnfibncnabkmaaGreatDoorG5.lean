/- Lemmas. -/
import Derived.Test.YtjnfibncnabkmaaGreatDoorProg
import Derived.Test.YtjnfibncnabkmaaGreatDoorG4
set_option maxRecDepth 8000
open Go Proofs Proofs.YtjnfibncnabkmaaGreatDoor Proofs.Tryz RowKit AM SpanLaw Q Zz
namespace Go.Proofs.YtjnfibncnabkmaaGreatDoor
@[simp]theorem un4:Program.underlying prog 4=some .bool:=by kernel_rfl
@[simp]theorem un5:Program.underlying prog 5=some (.int .u8):=by kernel_rfl
@[simp]theorem sz5:qY prog 5=some 1:=by kernel_rfl
@[simp]theorem by5:vH prog 5=some 1:=by kernel_rfl
@[simp]theorem ze5:jK prog 5=some [.v (.int .u8 0)]:=by kernel_rfl
@[simp]theorem un9:Program.underlying prog 9=some .string:=by kernel_rfl
@[simp]theorem N0:y2 prog 22=some 43:=by kernel_rfl
@[simp]theorem el23:y2 prog 23=some 25:=by kernel_rfl
@[simp]theorem sz25:qY prog 25=some 7:=by kernel_rfl
@[simp]theorem by25:vH prog 25=some 112:=by kernel_rfl
@[simp]theorem ze25:jK prog 25=some [.v (.int .i64 0),.v (.string ⟨#[]⟩),.v (.int .i64 0),.nil,.v (.string ⟨#[]⟩),.v (.string ⟨#[]⟩),.nil]:=by kernel_rfl
@[simp]theorem el41:y2 prog 41=some 53:=by kernel_rfl
@[simp]theorem BB:qY prog 43=some 5:=by kernel_rfl
@[simp]theorem T2:vH prog 43=some 80:=by kernel_rfl
@[simp]theorem N1:jK prog 43=some [.v (.int .i64 0),.v (.int .i64 0),.v (.string ⟨#[]⟩),.nil,.nil]:=by kernel_rfl
@[simp]theorem I2:qY prog 53=some 6:=by kernel_rfl
@[simp]theorem by53:vH prog 53=some 96:=by kernel_rfl
@[simp]theorem ze53:jK prog 53=some [.v (.string ⟨#[]⟩),.v (.int .i64 0),.v (.int .i64 0),.v (.string ⟨#[]⟩),.nil,.nil]:=by kernel_rfl
@[simp]theorem T3:y2 prog 76=some 115:=by kernel_rfl
@[simp]theorem el93:y2 prog 93=some 97:=by kernel_rfl
@[simp]theorem o9:y2 prog 97=some 105:=by kernel_rfl
@[simp]theorem sz97:qY prog 97=some 1:=by kernel_rfl
@[simp]theorem by97:vH prog 97=some 24:=by kernel_rfl
@[simp]theorem ze97:jK prog 97=some [.nil]:=by kernel_rfl
@[simp]theorem a7:qY prog 105=some 11:=by kernel_rfl
@[simp]theorem a8:vH prog 105=some 128:=by kernel_rfl
@[simp]theorem ba:jK prog 105=some [.v (.string ⟨#[]⟩),.v (.int .i64 0),.v (.int .i64 0),.v (.int .i64 0),.v (.int .i64 0),.nil,.v (.int .i64 0),.v (.int .i64 0),.v (.int .i64 0),.v (.int .i64 0),.nil]:=by kernel_rfl
@[simp]theorem cR:qY prog 113=some 5:=by kernel_rfl
@[simp]theorem rE:vH prog 113=some 56:=by kernel_rfl
@[simp]theorem rF:jK prog 113=some [.v (.int .i64 0),.v (.int .i64 0),.v (.int .i64 0),.nil,.v (.bool false)]:=by kernel_rfl
@[simp]theorem rG:qY prog 115=some 11:=by kernel_rfl
@[simp]theorem BC:vH prog 115=some 120:=by kernel_rfl
@[simp]theorem BD:jK prog 115=some [.v (.int .i64 0),.v (.int .i64 0),.v (.int .i64 0),.nil,.v (.bool false),.v (.int .i64 0),.v (.int .i64 0),.v (.int .i64 0),.nil,.v (.bool false),.v (.bool false)]:=by kernel_rfl
@[simp]theorem zgp:Program.underlying prog 133=some (.int .u64):=by kernel_rfl
@[simp]theorem gA:y2 prog 148=some 113:=by kernel_rfl
@[simp]theorem zbN:Program.underlying prog 157=some (.slice 5):=by kernel_rfl
@[simp]theorem zgq:y2 prog 157=some 5:=by kernel_rfl
@[simp]theorem zgr:y2 prog 168=some 172:=by kernel_rfl
@[simp]theorem zgs:qY prog 172=some 2:=by kernel_rfl
@[simp]theorem zgt:vH prog 172=some 32:=by kernel_rfl
@[simp]theorem zgu:jK prog 172=some [.v (.string ⟨#[]⟩),.v (.string ⟨#[]⟩)]:=by kernel_rfl
@[simp]theorem zgv:GX prog 172=some [2,2]:=by kernel_rfl
@[simp]theorem zgw:Program.underlying prog 316=some (.array 20 133):=by kernel_rfl
@[simp]theorem Fk1:qY prog 3=some 1/\jK prog 3=some [.v (.int .i64 0)]/\jx prog 3=some false/\qY prog 4=some 1/\jx prog 4=some false/\qY prog 9=some 1/\vH prog 9=some 16/\jK prog 9=some [.v (.string ⟨#[]⟩)]/\jx prog 9=some false/\qY prog 22=some 1/\jx prog 22=some false/\qY prog 23=some 1/\jx prog 23=some false/\jx prog 25=some true/\wC prog 25 0=some (0,1,false)/\wC prog 25 1=some (1,1,false)/\wC prog 25 2=some (2,1,false)/\wC prog 25 3=some (3,1,false)/\wC prog 25 4=some (4,1,false)/\wC prog 25 5=some (5,1,false)/\wC prog 25 6=some (6,1,false)/\vB prog 25=some [(0,1),(1,1),(2,1),(3,1),(4,1),(5,1),(6,1)]/\qY prog 26=some 1/\jK prog 26=some [.v (.int .i64 0)]/\jx prog 26=some false/\qY prog 33=some 5/\jK prog 33=some [.v (.string ⟨#[]⟩),.v (.int .i64 0),.v (.int .i64 0),.v (.int .i64 0),.v (.int .i64 0)]/\wC prog 33 0=some (0,1,false)/\wC prog 33 1=some (1,1,false)/\wC prog 33 2=some (2,1,false)/\wC prog 33 3=some (3,1,false)/\wC prog 33 4=some (4,1,false)/\vB prog 33=some [(0,1),(1,1),(2,1),(3,1),(4,1)]/\qY prog 38=some 5/\jK prog 38=some [.v (.string ⟨#[]⟩),.v (.int .i64 0),.v (.int .i64 0),.v (.int .i64 0),.v (.int .i64 0)]/\wC prog 38 0=some (0,1,false)/\wC prog 38 1=some (1,1,false)/\wC prog 38 2=some (2,1,false)/\wC prog 38 3=some (3,1,false)/\wC prog 38 4=some (4,1,false):=by and_intros<;>kernel_rfl
@[simp]theorem Fk2:vB prog 38=some [(0,1),(1,1),(2,1),(3,1),(4,1)]/\qY prog 41=some 1/\jx prog 41=some false/\jx prog 43=some true/\wC prog 43 0=some (0,1,false)/\wC prog 43 1=some (1,1,false)/\wC prog 43 2=some (2,1,false)/\wC prog 43 3=some (3,1,false)/\wC prog 43 4=some (4,1,false)/\vB prog 43=some [(0,1),(1,1),(2,1),(3,1),(4,1)]/\jx prog 53=some true/\wC prog 53 0=some (0,1,false)/\wC prog 53 1=some (1,5,true)/\vB prog 53=some [(0,1),(1,5)]/\y2 prog 56=some 9/\qY prog 56=some 1/\jx prog 56=some false/\y2 prog 65=some 3/\qY prog 76=some 1/\jK prog 76=some [.nil]/\jx prog 76=some false/\qY prog 82=some 4/\jK prog 82=some [.v (.string ⟨#[]⟩),.v (.int .i64 0),.v (.int .i64 0),.v (.int .i64 0)]/\wC prog 82 0=some (0,1,false)/\wC prog 82 1=some (1,1,false)/\wC prog 82 2=some (2,1,false)/\wC prog 82 3=some (3,1,false)/\vB prog 82=some [(0,1),(1,1),(2,1),(3,1)]/\qY prog 85=some 4/\jK prog 85=some [.v (.string ⟨#[]⟩),.v (.int .i64 0),.v (.int .i64 0),.v (.int .i64 0)]/\wC prog 85 0=some (0,1,false)/\wC prog 85 1=some (1,1,false)/\wC prog 85 2=some (2,1,false)/\wC prog 85 3=some (3,1,false)/\vB prog 85=some [(0,1),(1,1),(2,1),(3,1)]/\qY prog 93=some 1/\jK prog 93=some [.nil]/\jx prog 93=some false/\jx prog 97=some false/\A7 prog 101=some (3,3):=by and_intros<;>kernel_rfl
@[simp]theorem Fk3:y2 prog 101=none/\qY prog 101=some 3/\jK prog 101=some [.v (.int .i64 0),.v (.int .i64 0),.v (.int .i64 0)]/\jx prog 101=some true/\vB prog 101=none/\qY prog 103=some 5/\jK prog 103=some [.v (.int .i64 0),.v (.int .i64 0),.v (.int .i64 0),.v (.int .i64 0),.nil]/\jx prog 103=some true/\wC prog 103 0=some (0,3,true)/\wC prog 103 1=some (3,1,false)/\wC prog 103 2=some (4,1,false)/\vB prog 103=some [(0,3),(3,1),(4,1)]/\jx prog 105=some true/\wC prog 105 0=some (0,1,false)/\wC prog 105 1=some (1,5,true)/\wC prog 105 2=some (6,5,true)/\vB prog 105=some [(0,1),(1,5),(6,5)]/\qY prog 111=some 4/\jK prog 111=some [.v (.int .i64 0),.v (.int .i64 0),.v (.int .i64 0),.nil]/\jx prog 111=some true/\wC prog 111 0=some (0,1,false)/\wC prog 111 1=some (1,1,false)/\wC prog 111 2=some (2,1,false)/\wC prog 111 3=some (3,1,false)/\vB prog 111=some [(0,1),(1,1),(2,1),(3,1)]/\jx prog 113=some true/\wC prog 113 0=some (0,4,true)/\wC prog 113 1=some (4,1,false)/\vB prog 113=some [(0,4),(4,1)]/\jx prog 115=some true/\wC prog 115 0=some (0,5,true)/\wC prog 115 1=some (5,5,true)/\wC prog 115 2=some (10,1,false)/\vB prog 115=some [(0,5),(5,5),(10,1)]/\y2 prog 149=some 76/\jx prog 172=some true/\wC prog 172 0=some (0,1,false)/\wC prog 172 1=some (1,1,false)/\vB prog 172=some [(0,1),(1,1)]/\cz prog 180=some (none,4):=by and_intros<;>kernel_rfl
@[simp]theorem Fk4:cB prog 4=some (.v (.bool false))/\(Eu prog 162=true):=by and_intros<;>kernel_rfl
@[simp]theorem Fk5(cs:zb):(yd prog 3 cs=cs[0]?)/\(yd prog 4 cs=cs[0]?)/\(yd prog 9 cs=cs[0]?)/\(yd prog 22 cs=cs[0]?)/\(yd prog 23 cs=cs[0]?)/\(yd prog 25 cs=if 7<=cs.length then some (.agg (cs.take 7))else none)/\(yd prog 26 cs=cs[0]?)/\(yd prog 41 cs=cs[0]?)/\(yd prog 43 cs=if 5<=cs.length then some (.agg (cs.take 5))else none)/\(yd prog 53 cs=if 6<=cs.length then some (.agg (cs.take 6))else none)/\(yd prog 56 cs=cs[0]?)/\(yd prog 76 cs=cs[0]?)/\(yd prog 93 cs=cs[0]?)/\(yd prog 97 cs=cs[0]?)/\(yd prog 101 cs=if 3<=cs.length then some (.agg (cs.take 3))else none)/\(yd prog 103 cs=if 5<=cs.length then some (.agg (cs.take 5))else none)/\(yd prog 105 cs=if 11<=cs.length then some (.agg (cs.take 11))else none)/\(yd prog 111 cs=if 4<=cs.length then some (.agg (cs.take 4))else none)/\(yd prog 113 cs=if 5<=cs.length then some (.agg (cs.take 5))else none)/\(yd prog 115 cs=if 11<=cs.length then some (.agg (cs.take 11))else none)/\(yd prog 172 cs=if 2<=cs.length then some (.agg (cs.take 2))else none):=by and_intros<;>simp[yd]
end Go.Proofs.YtjnfibncnabkmaaGreatDoor
