/- Lemmas. -/
import Derived.Test.YtfanbcfchamfjaaGreatDoorProg
import Derived.Test.YtfanbcfchamfjaaGreatDoorG4
set_option maxRecDepth 8000
open Go Proofs Proofs.YtfanbcfchamfjaaGreatDoor Proofs.Tryz RowKit AM SpanLaw Q Zz
namespace Go.Proofs.YtfanbcfchamfjaaGreatDoor
@[simp]theorem un4:Program.underlying prog 4=some .bool:=by kernel_rfl
@[simp]theorem un5:Program.underlying prog 5=some (.int .u8):=by kernel_rfl
@[simp]theorem sz5:qN prog 5=some 1:=by kernel_rfl
@[simp]theorem by5:vi prog 5=some 1:=by kernel_rfl
@[simp]theorem ze5:jk prog 5=some [.v (.int .u8 0)]:=by kernel_rfl
@[simp]theorem un9:Program.underlying prog 9=some .string:=by kernel_rfl
@[simp]theorem sz9:qN prog 9=some 1:=by kernel_rfl
@[simp]theorem by9:vi prog 9=some 16:=by kernel_rfl
@[simp]theorem ze9:jk prog 9=some [.v (.string ⟨#[]⟩)]:=by kernel_rfl
@[simp]theorem el22:yq prog 22=some 48:=by kernel_rfl
@[simp]theorem el23:yq prog 23=some 50:=by kernel_rfl
@[simp]theorem el24:yq prog 24=some 58:=by kernel_rfl
@[simp]theorem un36:Program.underlying prog 36=some (.slice 5):=by kernel_rfl
@[simp]theorem el36:yq prog 36=some 5:=by kernel_rfl
@[simp]theorem el39:yq prog 39=some 9:=by kernel_rfl
@[simp]theorem sz48:qN prog 48=some 3:=by kernel_rfl
@[simp]theorem by48:vi prog 48=some 40:=by kernel_rfl
@[simp]theorem ze48:jk prog 48=some [.v (.string ⟨#[]⟩),.v (.string ⟨#[]⟩),.v (.int .i64 0)]:=by kernel_rfl
@[simp]theorem fl48:nY prog 48=some [2,2,0]:=by kernel_rfl
@[simp]theorem sz50:qN prog 50=some 4:=by kernel_rfl
@[simp]theorem by50:vi prog 50=some 64:=by kernel_rfl
@[simp]theorem ze50:jk prog 50=some [.v (.string ⟨#[]⟩),.v (.string ⟨#[]⟩),.v (.int .i64 0),.nil]:=by kernel_rfl
@[simp]theorem el51:yq prog 51=some 112:=by kernel_rfl
@[simp]theorem el52:yq prog 52=some 54:=by kernel_rfl
@[simp]theorem sz54:qN prog 54=some 7:=by kernel_rfl
@[simp]theorem by54:vi prog 54=some 112:=by kernel_rfl
@[simp]theorem ze54:jk prog 54=some [.v (.int .i64 0),.v (.string ⟨#[]⟩),.v (.int .i64 0),.nil,.v (.string ⟨#[]⟩),.v (.string ⟨#[]⟩),.nil]:=by kernel_rfl
@[simp]theorem el55:yq prog 55=some 61:=by kernel_rfl
@[simp]theorem el56:yq prog 56=some 64:=by kernel_rfl
@[simp]theorem sz58:qN prog 58=some 13:=by kernel_rfl
@[simp]theorem by58:vi prog 58=some 224:=by kernel_rfl
@[simp]theorem ze58:jk prog 58=some [.v (.string ⟨#[]⟩),.v (.string ⟨#[]⟩),.v (.string ⟨#[]⟩),.v (.int .i64 0),.v (.string ⟨#[]⟩),.v (.int .i64 0),.nil,.v (.string ⟨#[]⟩),.v (.string ⟨#[]⟩),.nil,.v (.string ⟨#[]⟩),.nil,.nil]:=by kernel_rfl
@[simp]theorem sz61:qN prog 61=some 3:=by kernel_rfl
@[simp]theorem by61:vi prog 61=some 24:=by kernel_rfl
@[simp]theorem ze61:jk prog 61=some [.v (.int .i64 0),.v (.int .i64 0),.v (.int .i64 0)]:=by kernel_rfl
@[simp]theorem fl61:nY prog 61=some [0,0,0]:=by kernel_rfl
@[simp]theorem el62:yq prog 62=some 66:=by kernel_rfl
@[simp]theorem sz64:qN prog 64=some 2:=by kernel_rfl
@[simp]theorem by64:vi prog 64=some 32:=by kernel_rfl
@[simp]theorem ze64:jk prog 64=some [.v (.int .i64 0),.nil]:=by kernel_rfl
@[simp]theorem sz66:qN prog 66=some 2:=by kernel_rfl
@[simp]theorem by66:vi prog 66=some 16:=by kernel_rfl
@[simp]theorem ze66:jk prog 66=some [.v (.int .i64 0),.v (.int .i64 0)]:=by kernel_rfl
@[simp]theorem fl66:nY prog 66=some [0,0]:=by kernel_rfl
@[simp]theorem zfV:yq prog 110=some 149:=by kernel_rfl
@[simp]theorem zfW:qN prog 112=some 5:=by kernel_rfl
@[simp]theorem zfX:vi prog 112=some 80:=by kernel_rfl
@[simp]theorem zfY:jk prog 112=some [.v (.int .i64 0),.v (.int .i64 0),.v (.string ⟨#[]⟩),.nil,.nil]:=by kernel_rfl
@[simp]theorem zfZ:Program.underlying prog 129=some (.int .u64):=by kernel_rfl
@[simp]theorem zf0:qN prog 149=some 6:=by kernel_rfl
@[simp]theorem zf1:vi prog 149=some 96:=by kernel_rfl
@[simp]theorem zf2:jk prog 149=some [.v (.string ⟨#[]⟩),.v (.int .i64 0),.v (.int .i64 0),.v (.string ⟨#[]⟩),.nil,.nil]:=by kernel_rfl
@[simp]theorem zf3:Program.underlying prog 160=some (.array 20 129):=by kernel_rfl
@[simp]theorem zf4:yq prog 167=some 209:=by kernel_rfl
@[simp]theorem zaY:yq prog 187=some 191:=by kernel_rfl
@[simp]theorem Xx:yq prog 191=some 199:=by kernel_rfl
@[simp]theorem zf5:qN prog 191=some 1:=by kernel_rfl
@[simp]theorem zf6:vi prog 191=some 24:=by kernel_rfl
@[simp]theorem zf7:jk prog 191=some [.nil]:=by kernel_rfl
@[simp]theorem Xy:qN prog 199=some 11:=by kernel_rfl
@[simp]theorem Xz:vi prog 199=some 128:=by kernel_rfl
@[simp]theorem XA:jk prog 199=some [.v (.string ⟨#[]⟩),.v (.int .i64 0),.v (.int .i64 0),.v (.int .i64 0),.v (.int .i64 0),.nil,.v (.int .i64 0),.v (.int .i64 0),.v (.int .i64 0),.v (.int .i64 0),.nil]:=by kernel_rfl
@[simp]theorem zaZ:qN prog 207=some 5:=by kernel_rfl
@[simp]theorem za0:vi prog 207=some 56:=by kernel_rfl
@[simp]theorem za1:jk prog 207=some [.v (.int .i64 0),.v (.int .i64 0),.v (.int .i64 0),.nil,.v (.bool false)]:=by kernel_rfl
@[simp]theorem zf8:qN prog 209=some 11:=by kernel_rfl
@[simp]theorem zf9:vi prog 209=some 120:=by kernel_rfl
@[simp]theorem zga:jk prog 209=some [.v (.int .i64 0),.v (.int .i64 0),.v (.int .i64 0),.nil,.v (.bool false),.v (.int .i64 0),.v (.int .i64 0),.v (.int .i64 0),.nil,.v (.bool false),.v (.bool false)]:=by kernel_rfl
@[simp]theorem L5:yq prog 236=some 207:=by kernel_rfl
@[simp]theorem Fk1:qN prog 3=some 1/\jk prog 3=some [.v (.int .i64 0)]/\ya prog 3=some false/\qN prog 4=some 1/\ya prog 4=some false/\ya prog 9=some false/\qN prog 22=some 1/\ya prog 22=some false/\qN prog 23=some 1/\ya prog 23=some false/\qN prog 24=some 1/\ya prog 24=some false/\qN prog 26=some 3/\jk prog 26=some [.nil,.nil,.nil]/\ya prog 26=some true/\qF prog 26 0=some (0,1,false)/\qF prog 26 1=some (1,1,false)/\qF prog 26 2=some (2,1,false)/\qN prog 27=some 1/\jk prog 27=some [.v (.int .i64 0)]/\ya prog 27=some false/\qN prog 35=some 1/\qN prog 36=some 1/\ya prog 36=some false/\qN prog 38=some 2/\jk prog 38=some [.v (.pointer none),.nil]/\qF prog 38 1=some (1,1,false)/\qN prog 39=some 1/\ya prog 39=some false/\ya prog 48=some true/\qF prog 48 0=some (0,1,false)/\qF prog 48 1=some (1,1,false)/\qF prog 48 2=some (2,1,false)/\jV prog 48=some [(0,1),(1,1),(2,1)]/\ya prog 50=some true/\qF prog 50 0=some (0,1,false)/\qF prog 50 1=some (1,1,false)/\qF prog 50 2=some (2,1,false)/\qF prog 50 3=some (3,1,false)/\jV prog 50=some [(0,1),(1,1),(2,1),(3,1)]:=by and_intros<;>kernel_rfl
@[simp]theorem Fk2:qN prog 51=some 1/\ya prog 51=some false/\qN prog 52=some 1/\ya prog 52=some false/\ya prog 54=some true/\qF prog 54 0=some (0,1,false)/\qF prog 54 1=some (1,1,false)/\qF prog 54 2=some (2,1,false)/\qF prog 54 3=some (3,1,false)/\qF prog 54 4=some (4,1,false)/\qF prog 54 5=some (5,1,false)/\qF prog 54 6=some (6,1,false)/\jV prog 54=some [(0,1),(1,1),(2,1),(3,1),(4,1),(5,1),(6,1)]/\qN prog 55=some 1/\ya prog 55=some false/\qN prog 56=some 1/\ya prog 56=some false/\ya prog 58=some true/\qF prog 58 0=some (0,1,false)/\qF prog 58 1=some (1,1,false)/\qF prog 58 2=some (2,1,false)/\qF prog 58 3=some (3,7,true)/\qF prog 58 4=some (10,1,false)/\qF prog 58 5=some (11,1,false)/\qF prog 58 6=some (12,1,false)/\jV prog 58=some [(0,1),(1,1),(2,1),(3,7),(10,1),(11,1),(12,1)]/\ya prog 61=some true/\qF prog 61 0=some (0,1,false)/\qF prog 61 1=some (1,1,false)/\qF prog 61 2=some (2,1,false)/\jV prog 61=some [(0,1),(1,1),(2,1)]/\qN prog 62=some 1/\ya prog 62=some false/\ya prog 64=some true/\qF prog 64 0=some (0,1,false)/\qF prog 64 1=some (1,1,false)/\jV prog 64=some [(0,1),(1,1)]/\ya prog 66=some true/\qF prog 66 0=some (0,1,false)/\qF prog 66 1=some (1,1,false):=by and_intros<;>kernel_rfl
@[simp]theorem Fk3:jV prog 66=some [(0,1),(1,1)]/\qN prog 74=some 1/\ya prog 74=some false/\KL prog 76=some (none,4)/\aQ prog 4=some (.v (.bool false))/\qN prog 76=some 1/\ya prog 76=some false/\qN prog 78=some 6/\jk prog 78=some [.nil,.nil,.nil,.v (.map none),.v (.map none),.v (.bool false)]/\qF prog 78 0=some (0,3,true)/\qF prog 78 1=some (3,1,false)/\qF prog 78 3=some (5,1,false)/\jV prog 78=some [(0,3),(3,1),(4,1),(5,1)]/\qN prog 86=some 5/\jk prog 86=some [.nil,.nil,.nil,.v (.int .i64 0),.v (.int .i64 0)]/\qF prog 86 0=some (0,3,true)/\qF prog 86 1=some (3,1,false)/\qF prog 86 2=some (4,1,false)/\jV prog 86=some [(0,3),(3,1),(4,1)]/\yq prog 94=some 96/\qN prog 110=some 1/\ya prog 110=some false/\ya prog 112=some true/\qF prog 112 0=some (0,1,false)/\qF prog 112 1=some (1,1,false)/\qF prog 112 2=some (2,1,false)/\qF prog 112 3=some (3,1,false)/\qF prog 112 4=some (4,1,false)/\jV prog 112=some [(0,1),(1,1),(2,1),(3,1),(4,1)]/\KL prog 145=some (none,3)/\ya prog 149=some true/\qF prog 149 0=some (0,1,false)/\qF prog 149 1=some (1,5,true)/\jV prog 149=some [(0,1),(1,5)]/\qN prog 167=some 1/\jk prog 167=some [.nil]/\ya prog 167=some false/\qN prog 187=some 1/\jk prog 187=some [.nil]/\ya prog 187=some false:=by and_intros<;>kernel_rfl
@[simp]theorem Fk4:ya prog 191=some false/\tD prog 195=some (3,3)/\yq prog 195=none/\qN prog 195=some 3/\jk prog 195=some [.v (.int .i64 0),.v (.int .i64 0),.v (.int .i64 0)]/\ya prog 195=some true/\jV prog 195=none/\qN prog 197=some 5/\jk prog 197=some [.v (.int .i64 0),.v (.int .i64 0),.v (.int .i64 0),.v (.int .i64 0),.nil]/\ya prog 197=some true/\qF prog 197 0=some (0,3,true)/\qF prog 197 1=some (3,1,false)/\qF prog 197 2=some (4,1,false)/\jV prog 197=some [(0,3),(3,1),(4,1)]/\ya prog 199=some true/\qF prog 199 0=some (0,1,false)/\qF prog 199 1=some (1,5,true)/\qF prog 199 2=some (6,5,true)/\jV prog 199=some [(0,1),(1,5),(6,5)]/\qN prog 205=some 4/\jk prog 205=some [.v (.int .i64 0),.v (.int .i64 0),.v (.int .i64 0),.nil]/\ya prog 205=some true/\qF prog 205 0=some (0,1,false)/\qF prog 205 1=some (1,1,false)/\qF prog 205 2=some (2,1,false)/\qF prog 205 3=some (3,1,false)/\jV prog 205=some [(0,1),(1,1),(2,1),(3,1)]/\ya prog 207=some true/\qF prog 207 0=some (0,4,true)/\qF prog 207 1=some (4,1,false)/\jV prog 207=some [(0,4),(4,1)]/\ya prog 209=some true/\qF prog 209 0=some (0,5,true)/\qF prog 209 1=some (5,5,true)/\qF prog 209 2=some (10,1,false)/\jV prog 209=some [(0,5),(5,5),(10,1)]/\qN prog 216=some 5/\jk prog 216=some [.v (.string ⟨#[]⟩),.v (.int .i64 0),.v (.int .i64 0),.v (.int .i64 0),.v (.int .i64 0)]/\qF prog 216 0=some (0,1,false)/\qF prog 216 1=some (1,1,false):=by and_intros<;>kernel_rfl
@[simp]theorem Fk5:qF prog 216 2=some (2,1,false)/\qF prog 216 3=some (3,1,false)/\qF prog 216 4=some (4,1,false)/\jV prog 216=some [(0,1),(1,1),(2,1),(3,1),(4,1)]/\yq prog 237=some 167/\yq prog 252=some 3/\qN prog 297=some 4/\jk prog 297=some [.v (.string ⟨#[]⟩),.v (.int .i64 0),.v (.int .i64 0),.v (.int .i64 0)]/\qF prog 297 0=some (0,1,false)/\qF prog 297 1=some (1,1,false)/\qF prog 297 2=some (2,1,false)/\qF prog 297 3=some (3,1,false)/\jV prog 297=some [(0,1),(1,1),(2,1),(3,1)]/\(Cm prog 41=true):=by and_intros<;>kernel_rfl
@[simp]theorem Fk6(cs:zb):(qG prog 3 cs=cs[0]?)/\(qG prog 4 cs=cs[0]?)/\(qG prog 9 cs=cs[0]?)/\(qG prog 22 cs=cs[0]?)/\(qG prog 23 cs=cs[0]?)/\(qG prog 24 cs=cs[0]?)/\(qG prog 26 cs=if 3<=cs.length then some (.agg (cs.take 3))else none)/\(qG prog 27 cs=cs[0]?)/\(qG prog 36 cs=cs[0]?)/\(qG prog 39 cs=cs[0]?)/\(qG prog 48 cs=if 3<=cs.length then some (.agg (cs.take 3))else none)/\(qG prog 50 cs=if 4<=cs.length then some (.agg (cs.take 4))else none)/\(qG prog 51 cs=cs[0]?)/\(qG prog 52 cs=cs[0]?)/\(qG prog 54 cs=if 7<=cs.length then some (.agg (cs.take 7))else none)/\(qG prog 55 cs=cs[0]?)/\(qG prog 56 cs=cs[0]?)/\(qG prog 58 cs=if 13<=cs.length then some (.agg (cs.take 13))else none)/\(qG prog 61 cs=if 3<=cs.length then some (.agg (cs.take 3))else none)/\(qG prog 62 cs=cs[0]?)/\(qG prog 64 cs=if 2<=cs.length then some (.agg (cs.take 2))else none)/\(qG prog 66 cs=if 2<=cs.length then some (.agg (cs.take 2))else none)/\(qG prog 74 cs=cs[0]?)/\(qG prog 76 cs=cs[0]?)/\(qG prog 110 cs=cs[0]?)/\(qG prog 112 cs=if 5<=cs.length then some (.agg (cs.take 5))else none)/\(qG prog 149 cs=if 6<=cs.length then some (.agg (cs.take 6))else none)/\(qG prog 167 cs=cs[0]?)/\(qG prog 187 cs=cs[0]?)/\(qG prog 191 cs=cs[0]?):=by and_intros<;>simp[qG]
@[simp]theorem Fk7(cs:zb):(qG prog 195 cs=if 3<=cs.length then some (.agg (cs.take 3))else none)/\(qG prog 197 cs=if 5<=cs.length then some (.agg (cs.take 5))else none)/\(qG prog 199 cs=if 11<=cs.length then some (.agg (cs.take 11))else none)/\(qG prog 205 cs=if 4<=cs.length then some (.agg (cs.take 4))else none)/\(qG prog 207 cs=if 5<=cs.length then some (.agg (cs.take 5))else none)/\(qG prog 209 cs=if 11<=cs.length then some (.agg (cs.take 11))else none):=by and_intros<;>simp[qG]
end Go.Proofs.YtfanbcfchamfjaaGreatDoor
