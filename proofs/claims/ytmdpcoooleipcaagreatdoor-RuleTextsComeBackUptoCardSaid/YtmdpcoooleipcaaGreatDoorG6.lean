/- Lemmas. -/
import Derived.Test.YtmdpcoooleipcaaGreatDoorProg
import Derived.Test.YtmdpcoooleipcaaGreatDoorG4
set_option maxRecDepth 8000
open Go Proofs Proofs.YtmdpcoooleipcaaGreatDoor Proofs.Tryz RowKit AM SpanLaw Q Zz
namespace Go.Proofs.YtmdpcoooleipcaaGreatDoor
@[simp]theorem un4:Program.underlying prog 4=some .bool:=by kernel_rfl
@[simp]theorem un5:Program.underlying prog 5=some (.int .u8):=by kernel_rfl
@[simp]theorem sz5:qF prog 5=some 1:=by kernel_rfl
@[simp]theorem by5:vX prog 5=some 1:=by kernel_rfl
@[simp]theorem ze5:y9 prog 5=some [.v (.int .u8 0)]:=by kernel_rfl
@[simp]theorem un9:Program.underlying prog 9=some .string:=by kernel_rfl
@[simp]theorem el22:w5 prog 22=some 48:=by kernel_rfl
@[simp]theorem el23:w5 prog 23=some 25:=by kernel_rfl
@[simp]theorem sz25:qF prog 25=some 7:=by kernel_rfl
@[simp]theorem by25:vX prog 25=some 112:=by kernel_rfl
@[simp]theorem ze25:y9 prog 25=some [.v (.int .i64 0),.v (.string ⟨#[]⟩),.v (.int .i64 0),.nil,.v (.string ⟨#[]⟩),.v (.string ⟨#[]⟩),.nil]:=by kernel_rfl
@[simp]theorem un35:Program.underlying prog 35=some (.slice 5):=by kernel_rfl
@[simp]theorem el35:w5 prog 35=some 5:=by kernel_rfl
@[simp]theorem el46:w5 prog 46=some 65:=by kernel_rfl
@[simp]theorem sz48:qF prog 48=some 5:=by kernel_rfl
@[simp]theorem by48:vX prog 48=some 80:=by kernel_rfl
@[simp]theorem ze48:y9 prog 48=some [.v (.int .i64 0),.v (.int .i64 0),.v (.string ⟨#[]⟩),.nil,.nil]:=by kernel_rfl
@[simp]theorem sz65:qF prog 65=some 6:=by kernel_rfl
@[simp]theorem by65:vX prog 65=some 96:=by kernel_rfl
@[simp]theorem ze65:y9 prog 65=some [.v (.string ⟨#[]⟩),.v (.int .i64 0),.v (.int .i64 0),.v (.string ⟨#[]⟩),.nil,.nil]:=by kernel_rfl
@[simp]theorem el77:w5 prog 77=some 116:=by kernel_rfl
@[simp]theorem Ra:w5 prog 94=some 98:=by kernel_rfl
@[simp]theorem ew:w5 prog 98=some 106:=by kernel_rfl
@[simp]theorem sz98:qF prog 98=some 1:=by kernel_rfl
@[simp]theorem by98:vX prog 98=some 24:=by kernel_rfl
@[simp]theorem ze98:y9 prog 98=some [.nil]:=by kernel_rfl
@[simp]theorem J2:qF prog 106=some 11:=by kernel_rfl
@[simp]theorem J3:vX prog 106=some 128:=by kernel_rfl
@[simp]theorem J4:y9 prog 106=some [.v (.string ⟨#[]⟩),.v (.int .i64 0),.v (.int .i64 0),.v (.int .i64 0),.v (.int .i64 0),.nil,.v (.int .i64 0),.v (.int .i64 0),.v (.int .i64 0),.v (.int .i64 0),.nil]:=by kernel_rfl
@[simp]theorem Ii:qF prog 114=some 5:=by kernel_rfl
@[simp]theorem Ij:vX prog 114=some 56:=by kernel_rfl
@[simp]theorem Ik:y9 prog 114=some [.v (.int .i64 0),.v (.int .i64 0),.v (.int .i64 0),.nil,.v (.bool false)]:=by kernel_rfl
@[simp]theorem Rb:qF prog 116=some 11:=by kernel_rfl
@[simp]theorem Rc:vX prog 116=some 120:=by kernel_rfl
@[simp]theorem Re:y9 prog 116=some [.v (.int .i64 0),.v (.int .i64 0),.v (.int .i64 0),.nil,.v (.bool false),.v (.int .i64 0),.v (.int .i64 0),.v (.int .i64 0),.nil,.v (.bool false),.v (.bool false)]:=by kernel_rfl
@[simp]theorem BR:w5 prog 142=some 114:=by kernel_rfl
@[simp]theorem Rf:Program.underlying prog 162=some (.int .u64):=by kernel_rfl
@[simp]theorem Rh:Program.underlying prog 240=some (.array 20 162):=by kernel_rfl
@[simp]theorem Fk1:qF prog 3=some 1/\y9 prog 3=some [.v (.int .i64 0)]/\yr prog 3=some false/\qF prog 4=some 1/\yr prog 4=some false/\qF prog 9=some 1/\vX prog 9=some 16/\y9 prog 9=some [.v (.string ⟨#[]⟩)]/\yr prog 9=some false/\qF prog 22=some 1/\yr prog 22=some false/\qF prog 23=some 1/\yr prog 23=some false/\yr prog 25=some true/\qX prog 25 0=some (0,1,false)/\qX prog 25 1=some (1,1,false)/\qX prog 25 2=some (2,1,false)/\qX prog 25 3=some (3,1,false)/\qX prog 25 4=some (4,1,false)/\qX prog 25 5=some (5,1,false)/\qX prog 25 6=some (6,1,false)/\kV prog 25=some [(0,1),(1,1),(2,1),(3,1),(4,1),(5,1),(6,1)]/\qF prog 26=some 1/\y9 prog 26=some [.v (.int .i64 0)]/\yr prog 26=some false/\qF prog 34=some 1/\qF prog 35=some 1/\yr prog 35=some false/\qF prog 37=some 2/\y9 prog 37=some [.v (.pointer none),.nil]/\qX prog 37 1=some (1,1,false)/\qF prog 43=some 5/\y9 prog 43=some [.v (.string ⟨#[]⟩),.v (.int .i64 0),.v (.int .i64 0),.v (.int .i64 0),.v (.int .i64 0)]/\qX prog 43 0=some (0,1,false)/\qX prog 43 1=some (1,1,false)/\qX prog 43 2=some (2,1,false)/\qX prog 43 3=some (3,1,false)/\qX prog 43 4=some (4,1,false)/\kV prog 43=some [(0,1),(1,1),(2,1),(3,1),(4,1)]/\qF prog 46=some 1:=by and_intros<;>kernel_rfl
@[simp]theorem Fk2:yr prog 46=some false/\yr prog 48=some true/\qX prog 48 0=some (0,1,false)/\qX prog 48 1=some (1,1,false)/\qX prog 48 2=some (2,1,false)/\qX prog 48 3=some (3,1,false)/\qX prog 48 4=some (4,1,false)/\kV prog 48=some [(0,1),(1,1),(2,1),(3,1),(4,1)]/\w5 prog 55=some 9/\qF prog 55=some 1/\yr prog 55=some false/\yr prog 65=some true/\qX prog 65 0=some (0,1,false)/\qX prog 65 1=some (1,5,true)/\kV prog 65=some [(0,1),(1,5)]/\qF prog 77=some 1/\y9 prog 77=some [.nil]/\yr prog 77=some false/\qF prog 94=some 1/\y9 prog 94=some [.nil]/\yr prog 94=some false/\yr prog 98=some false/\lz prog 102=some (3,3)/\w5 prog 102=none/\qF prog 102=some 3/\y9 prog 102=some [.v (.int .i64 0),.v (.int .i64 0),.v (.int .i64 0)]/\yr prog 102=some true/\kV prog 102=none/\qF prog 104=some 5/\y9 prog 104=some [.v (.int .i64 0),.v (.int .i64 0),.v (.int .i64 0),.v (.int .i64 0),.nil]/\yr prog 104=some true/\qX prog 104 0=some (0,3,true)/\qX prog 104 1=some (3,1,false)/\qX prog 104 2=some (4,1,false)/\kV prog 104=some [(0,3),(3,1),(4,1)]/\yr prog 106=some true/\qX prog 106 0=some (0,1,false)/\qX prog 106 1=some (1,5,true)/\qX prog 106 2=some (6,5,true)/\kV prog 106=some [(0,1),(1,5),(6,5)]:=by and_intros<;>kernel_rfl
@[simp]theorem Fk3:qF prog 112=some 4/\y9 prog 112=some [.v (.int .i64 0),.v (.int .i64 0),.v (.int .i64 0),.nil]/\yr prog 112=some true/\qX prog 112 0=some (0,1,false)/\qX prog 112 1=some (1,1,false)/\qX prog 112 2=some (2,1,false)/\qX prog 112 3=some (3,1,false)/\kV prog 112=some [(0,1),(1,1),(2,1),(3,1)]/\yr prog 114=some true/\qX prog 114 0=some (0,4,true)/\qX prog 114 1=some (4,1,false)/\kV prog 114=some [(0,4),(4,1)]/\yr prog 116=some true/\qX prog 116 0=some (0,5,true)/\qX prog 116 1=some (5,5,true)/\qX prog 116 2=some (10,1,false)/\kV prog 116=some [(0,5),(5,5),(10,1)]/\qF prog 123=some 4/\y9 prog 123=some [.v (.string ⟨#[]⟩),.v (.int .i64 0),.v (.int .i64 0),.v (.int .i64 0)]/\qX prog 123 0=some (0,1,false)/\qX prog 123 1=some (1,1,false)/\qX prog 123 2=some (2,1,false)/\qX prog 123 3=some (3,1,false)/\kV prog 123=some [(0,1),(1,1),(2,1),(3,1)]/\w5 prog 143=some 77/\w5 prog 163=some 3/\KM prog 186=some (none,4)/\KO prog 4=some (.v (.bool false))/\(oC prog 52=true):=by and_intros<;>kernel_rfl
@[simp]theorem Fk4(cs:zb):(qW prog 3 cs=cs[0]?)/\(qW prog 4 cs=cs[0]?)/\(qW prog 9 cs=cs[0]?)/\(qW prog 22 cs=cs[0]?)/\(qW prog 23 cs=cs[0]?)/\(qW prog 25 cs=if 7<=cs.length then some (.agg (cs.take 7))else none)/\(qW prog 26 cs=cs[0]?)/\(qW prog 35 cs=cs[0]?)/\(qW prog 46 cs=cs[0]?)/\(qW prog 48 cs=if 5<=cs.length then some (.agg (cs.take 5))else none)/\(qW prog 55 cs=cs[0]?)/\(qW prog 65 cs=if 6<=cs.length then some (.agg (cs.take 6))else none)/\(qW prog 77 cs=cs[0]?)/\(qW prog 94 cs=cs[0]?)/\(qW prog 98 cs=cs[0]?)/\(qW prog 102 cs=if 3<=cs.length then some (.agg (cs.take 3))else none)/\(qW prog 104 cs=if 5<=cs.length then some (.agg (cs.take 5))else none)/\(qW prog 106 cs=if 11<=cs.length then some (.agg (cs.take 11))else none)/\(qW prog 112 cs=if 4<=cs.length then some (.agg (cs.take 4))else none)/\(qW prog 114 cs=if 5<=cs.length then some (.agg (cs.take 5))else none)/\(qW prog 116 cs=if 11<=cs.length then some (.agg (cs.take 11))else none):=by and_intros<;>simp[qW]
end Go.Proofs.YtmdpcoooleipcaaGreatDoor
