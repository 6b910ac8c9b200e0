/-
Join, ReplaceAll, Repeat, TrimRight, Itoa, FormatBool off the kit's shelf, at this program (written after what the kit's tool prints).
Plain law of printing: texts in quotes, numbers of thousandths.
strings.Join of a slice of one's own, strings.ReplaceAll of a sign, strings.Repeat: what they compute. Their draws are left open.
The abstract machine, part 33: texts that are built in a strings.Builder of one's own.
-/
import Derived.Shelf.Strings.OnBuilder
import Derived.Shelf.Strings.Replace
import Derived.Shelf.Strings.Repeat
import Derived.Shelf.Strings.Trim
import Derived.Shelf.Strconv.Itoa3
import Derived.Shelf.Small.Wraps
import Derived.Ground.Names2Prog
import Derived.Test.YtpeaooooimfihaaGreatDoorProg
import Derived.Lib.Replace
import Derived.Lib.CountLaws
import Derived.Lib.TrimByte
import Derived.Lib.ItoaNum
import Derived.Lib.Repeat
import Derived.Lib.Join
import Derived.Test.YtpeaooooimfihaaGreatDoorG12
import Derived.Test.YtpeaooooimfihaaGreatDoorG10
set_option maxRecDepth 8000
namespace Go.Proofs
open Go.Shelf
def Tryz.lays156_ren:Go.Shelf.Ren:=⟨fun | 156=>19 | 165=>38 | 166=>17 | 169=>10 | 240=>37 | 241=>55 | 276=>54 | 277=>83 | n=>n,fun | 31=>45 | 9=>9 | 3=>3 | 4=>4 | 0=>0 | 20=>20 | 72=>34 | 76=>43 | 70=>31 | 37=>32 | 75=>42 | 127=>47 | 164=>73 | 5=>5 | 80=>37 | n=>n,fun | n=>n⟩
theorem Tryz.lays156:Go.Proofs.Lays.n156 prog Tryz.lays156_ren:={
 mixed:=by kernel_rfl
 f156:=func19.trans (congrArg some (by kernel_rfl))
 f165:=func38.trans (congrArg some (by kernel_rfl))
 f166:=func17.trans (congrArg some (by kernel_rfl))
 f169:=func10.trans (congrArg some (by kernel_rfl))
 f240:=func37.trans (congrArg some (by kernel_rfl))
 f241:=func55.trans (congrArg some (by kernel_rfl))
 f276:=func54.trans (congrArg some (by kernel_rfl))
 f277:=func83.trans (congrArg some (by kernel_rfl))
 t0:=underlying0
 a0:=isAgg0
 z0:=sizeOf0
 v0:=zeroValue0
 t3:=underlying3
 a3:=isAgg3
 z3:=sizeOf3
 v3:=zeroValue3
 t4:=underlying4
 a4:=isAgg4
 z4:=sizeOf4
 v4:=zeroValue4
 t9:=underlying9
 a9:=isAgg9
 z9:=sizeOf9
 v9:=zeroValue9
 t20:=underlying20
 a20:=isAgg20
 z20:=sizeOf20
 v20:=zeroValue20
 t31:=underlying45
 a31:=isAgg45
 z31:=sizeOf45
 v31:=zeroValue45
 t37:=underlying32
 a37:=isAgg32
 z37:=sizeOf32
 v37:=zeroValue32
 t70:=underlying31
 a70:=isAgg31
 z70:=sizeOf31
 v70:=zeroValue31
 t72:=underlying34
 a72:=isAgg34
 z72:=sizeOf34
 v72:=zeroValue34
 t75:=underlying42
 a75:=isAgg42
 z75:=sizeOf42
 v75:=zeroValue42
 t76:=underlying43
 a76:=isAgg43
 z76:=sizeOf43
 v76:=zeroValue43
 t127:=underlying47
 a127:=isAgg47
 z127:=sizeOf47
 v127:=zeroValue47
 t164:=underlying73
 a164:=isAgg73
 z164:=sizeOf73
 v164:=zeroValue73 }
theorem Tryz.Builder_Extra_156:Builder.Extra prog Tryz.lays156_ren:={
 sizeBuilder:=by kernel_rfl
 liesBuilder:=by kernel_rfl
 t5:=underlying5
 a5:=isAgg5
 z5:=sizeOf5
 v5:=zeroValue5
 infoByte:=by kernel_rfl
 cellsByte:=by kernel_rfl
 sizeByte:=by kernel_rfl
 neB5:=by decide }
def Tryz.lays162_ren:Go.Shelf.Ren:=⟨fun | 162=>88 | 232=>133 | 227=>134 | 234=>135 | 236=>136 | 228=>174 | 271=>175 | 151=>176 | 120=>212 | 197=>86 | 152=>213 | 260=>131 | 137=>158 | 119=>230 | 224=>171 | 225=>170 | 217=>169 | 266=>206 | n=>n,fun | 9=>9 | 4=>4 | 3=>3 | 5=>5 | 117=>158 | 116=>157 | 0=>0 | 124=>161 | 21=>21 | 105=>115 | 46=>162 | 119=>190 | 139=>193 | 138=>192 | n=>n,fun | 3=>1 | 4=>2 | n=>n⟩
theorem Tryz.lays162:Go.Proofs.Lays.n162 prog Tryz.lays162_ren:={
 mixed:=by kernel_rfl
 f119:=func230.trans (congrArg some (by kernel_rfl))
 f120:=func212.trans (congrArg some (by kernel_rfl))
 f137:=func158.trans (congrArg some (by kernel_rfl))
 f151:=func176.trans (congrArg some (by kernel_rfl))
 f152:=func213.trans (congrArg some (by kernel_rfl))
 f162:=func88.trans (congrArg some (by kernel_rfl))
 f197:=func86.trans (congrArg some (by kernel_rfl))
 f217:=func169.trans (congrArg some (by kernel_rfl))
 f224:=func171.trans (congrArg some (by kernel_rfl))
 f225:=func170.trans (congrArg some (by kernel_rfl))
 f227:=func134.trans (congrArg some (by kernel_rfl))
 f228:=func174.trans (congrArg some (by kernel_rfl))
 f232:=func133.trans (congrArg some (by kernel_rfl))
 f234:=func135.trans (congrArg some (by kernel_rfl))
 f236:=func136.trans (congrArg some (by kernel_rfl))
 f260:=func131.trans (congrArg some (by kernel_rfl))
 f266:=func206.trans (congrArg some (by kernel_rfl))
 f271:=func175.trans (congrArg some (by kernel_rfl))
 t0:=underlying0
 a0:=isAgg0
 z0:=sizeOf0
 v0:=zeroValue0
 t3:=underlying3
 a3:=isAgg3
 z3:=sizeOf3
 v3:=zeroValue3
 t4:=underlying4
 a4:=isAgg4
 z4:=sizeOf4
 v4:=zeroValue4
 t5:=underlying5
 a5:=isAgg5
 z5:=sizeOf5
 v5:=zeroValue5
 t9:=underlying9
 a9:=isAgg9
 z9:=sizeOf9
 v9:=zeroValue9
 t21:=underlying21
 a21:=isAgg21
 z21:=sizeOf21
 v21:=zeroValue21
 t46:=underlying162
 a46:=isAgg162
 z46:=sizeOf162
 v46:=zeroValue162
 t105:=underlying115
 a105:=isAgg115
 z105:=sizeOf115
 v105:=zeroValue115
 t116:=underlying157
 a116:=isAgg157
 z116:=sizeOf157
 t117:=underlying158
 a117:=isAgg158
 z117:=sizeOf158
 v117:=zeroValue158
 t119:=underlying190
 a119:=isAgg190
 z119:=sizeOf190
 t124:=underlying161
 a124:=isAgg161
 z124:=sizeOf161
 v124:=zeroValue161
 t138:=underlying192
 a138:=isAgg192
 z138:=sizeOf192
 v138:=zeroValue192
 t139:=underlying193
 a139:=isAgg193
 z139:=sizeOf193
 v139:=zeroValue193
 g3:=by kernel_rfl
 g4:=by kernel_rfl }
def Tryz.lays121_ren:Go.Shelf.Ren:=⟨fun | 121=>80 | 214=>127 | n=>n,fun | 4=>4 | 9=>9 | n=>n,fun | n=>n⟩
theorem Tryz.lays121:Go.Proofs.Lays.n121 prog Tryz.lays121_ren:={
 mixed:=by kernel_rfl
 f121:=func80.trans (congrArg some (by kernel_rfl))
 f214:=func127.trans (congrArg some (by kernel_rfl))
 t4:=underlying4
 a4:=isAgg4
 z4:=sizeOf4
 v4:=zeroValue4
 t9:=underlying9
 a9:=isAgg9
 z9:=sizeOf9
 v9:=zeroValue9 }
def Tryz.laysM171_ren:Go.Shelf.Ren:=⟨fun | 171=>87 | 243=>132 | 246=>173 | 283=>208 | 284=>209 | 285=>210 | 286=>211 | 129=>193 | 317=>226 | 318=>227 | 319=>228 | 320=>229 | 337=>239 | 338=>240 | n=>n,fun | 3=>3 | 9=>9 | 2=>2 | 4=>4 | 171=>217 | 0=>0 | 53=>199 | 37=>32 | 5=>5 | 173=>219 | 212=>230 | 51=>196 | 20=>20 | 213=>231 | 46=>162 | 232=>247 | 233=>248 | n=>n,fun | 17=>3 | 18=>6 | 19=>7 | n=>n⟩
theorem Tryz.laysM171:Go.Proofs.LaysM.n171 prog Tryz.laysM171_ren:={
 mixed:=by kernel_rfl
 f129:=func193.trans (congrArg some (by kernel_rfl))
 f171:=func87.trans (congrArg some (by kernel_rfl))
 f243:=func132.trans (congrArg some (by kernel_rfl))
 f246:=func173.trans (congrArg some (by kernel_rfl))
 f283:=func208.trans (congrArg some (by kernel_rfl))
 f284:=func209.trans (congrArg some (by kernel_rfl))
 f285:=func210.trans (congrArg some (by kernel_rfl))
 f286:=func211.trans (congrArg some (by kernel_rfl))
 f317:=func226.trans (congrArg some (by kernel_rfl))
 f318:=func227.trans (congrArg some (by kernel_rfl))
 f319:=func228.trans (congrArg some (by kernel_rfl))
 f320:=func229.trans (congrArg some (by kernel_rfl))
 f337:=func239.trans (congrArg some (by kernel_rfl))
 f338:=func240.trans (congrArg some (by kernel_rfl))
 t0:=underlying0
 a0:=isAgg0
 z0:=sizeOf0
 v0:=zeroValue0
 t2:=underlying2
 a2:=isAgg2
 z2:=sizeOf2
 v2:=zeroValue2
 t3:=underlying3
 a3:=isAgg3
 z3:=sizeOf3
 v3:=zeroValue3
 t4:=underlying4
 a4:=isAgg4
 z4:=sizeOf4
 v4:=zeroValue4
 t5:=underlying5
 a5:=isAgg5
 z5:=sizeOf5
 v5:=zeroValue5
 t9:=underlying9
 a9:=isAgg9
 z9:=sizeOf9
 v9:=zeroValue9
 t20:=underlying20
 a20:=isAgg20
 z20:=sizeOf20
 v20:=zeroValue20
 t37:=underlying32
 a37:=isAgg32
 z37:=sizeOf32
 v37:=zeroValue32
 t46:=underlying162
 a46:=isAgg162
 z46:=sizeOf162
 v46:=zeroValue162
 t51:=underlying196
 a51:=isAgg196
 z51:=sizeOf196
 v51:=zeroValue196
 t53:=underlying199
 a53:=isAgg199
 z53:=sizeOf199
 v53:=zeroValue199
 t171:=underlying217
 a171:=isAgg217
 z171:=sizeOf217
 v171:=zeroValue217
 t173:=underlying219
 a173:=isAgg219
 z173:=sizeOf219
 v173:=zeroValue219
 t212:=underlying230
 a212:=isAgg230
 z212:=sizeOf230
 v212:=zeroValue230
 t213:=underlying231
 a213:=isAgg231
 z213:=sizeOf231
 t232:=underlying247
 a232:=isAgg247
 z232:=sizeOf247
 v232:=zeroValue247
 t233:=underlying248
 a233:=isAgg248
 z233:=sizeOf248
 v233:=zeroValue248
 g17:=by kernel_rfl
 g18:=by kernel_rfl
 g19:=by kernel_rfl
 i0:=by kernel_rfl
 i2:=by kernel_rfl
 i3:=by kernel_rfl
 i4:=by kernel_rfl
 i5:=by kernel_rfl
 i9:=by kernel_rfl
 i20:=by kernel_rfl
 i37:=by kernel_rfl
 i46:=by kernel_rfl
 i51:=by kernel_rfl
 i53:=by kernel_rfl
 i171:=by kernel_rfl
 i173:=by kernel_rfl
 i212:=by kernel_rfl
 i232:=by kernel_rfl
 i233:=by kernel_rfl
 m17:=by kernel_rfl
 m18:=by kernel_rfl
 m19:=by kernel_rfl }
def Tryz.lays155_ren:Go.Shelf.Ren:=⟨fun | 155=>39 | 154=>56 | 138=>84 | 165=>38 | 143=>85 | 166=>17 | 197=>86 | 169=>10 | 195=>128 | 218=>129 | 240=>37 | 241=>55 | 219=>130 | 260=>131 | 276=>54 | 277=>83 | 217=>169 | 225=>170 | 224=>171 | 267=>172 | 266=>206 | 314=>207 | n=>n,fun | 9=>9 | 3=>3 | 4=>4 | 72=>34 | 0=>0 | 76=>43 | 105=>115 | 21=>21 | 5=>5 | 70=>31 | 20=>20 | 37=>32 | 75=>42 | 127=>47 | 164=>73 | 46=>162 | 119=>190 | 139=>193 | 138=>192 | 146=>197 | 51=>196 | 80=>37 | n=>n,fun | 1=>0 | 3=>1 | 4=>2 | n=>n⟩
theorem Tryz.lays155:Go.Proofs.Lays.n155 prog Tryz.lays155_ren:={
 mixed:=by kernel_rfl
 f138:=func84.trans (congrArg some (by kernel_rfl))
 f143:=func85.trans (congrArg some (by kernel_rfl))
 f154:=func56.trans (congrArg some (by kernel_rfl))
 f155:=func39.trans (congrArg some (by kernel_rfl))
 f165:=func38.trans (congrArg some (by kernel_rfl))
 f166:=func17.trans (congrArg some (by kernel_rfl))
 f169:=func10.trans (congrArg some (by kernel_rfl))
 f195:=func128.trans (congrArg some (by kernel_rfl))
 f197:=func86.trans (congrArg some (by kernel_rfl))
 f217:=func169.trans (congrArg some (by kernel_rfl))
 f218:=func129.trans (congrArg some (by kernel_rfl))
 f219:=func130.trans (congrArg some (by kernel_rfl))
 f224:=func171.trans (congrArg some (by kernel_rfl))
 f225:=func170.trans (congrArg some (by kernel_rfl))
 f240:=func37.trans (congrArg some (by kernel_rfl))
 f241:=func55.trans (congrArg some (by kernel_rfl))
 f260:=func131.trans (congrArg some (by kernel_rfl))
 f266:=func206.trans (congrArg some (by kernel_rfl))
 f267:=func172.trans (congrArg some (by kernel_rfl))
 f276:=func54.trans (congrArg some (by kernel_rfl))
 f277:=func83.trans (congrArg some (by kernel_rfl))
 f314:=func207.trans (congrArg some (by kernel_rfl))
 t0:=underlying0
 a0:=isAgg0
 z0:=sizeOf0
 v0:=zeroValue0
 t3:=underlying3
 a3:=isAgg3
 z3:=sizeOf3
 v3:=zeroValue3
 t4:=underlying4
 a4:=isAgg4
 z4:=sizeOf4
 v4:=zeroValue4
 t5:=underlying5
 a5:=isAgg5
 z5:=sizeOf5
 v5:=zeroValue5
 t9:=underlying9
 a9:=isAgg9
 z9:=sizeOf9
 v9:=zeroValue9
 t20:=underlying20
 a20:=isAgg20
 z20:=sizeOf20
 v20:=zeroValue20
 t21:=underlying21
 a21:=isAgg21
 z21:=sizeOf21
 v21:=zeroValue21
 t37:=underlying32
 a37:=isAgg32
 z37:=sizeOf32
 v37:=zeroValue32
 t46:=underlying162
 a46:=isAgg162
 z46:=sizeOf162
 v46:=zeroValue162
 t51:=underlying196
 a51:=isAgg196
 z51:=sizeOf196
 v51:=zeroValue196
 t70:=underlying31
 a70:=isAgg31
 z70:=sizeOf31
 v70:=zeroValue31
 t72:=underlying34
 a72:=isAgg34
 z72:=sizeOf34
 v72:=zeroValue34
 t75:=underlying42
 a75:=isAgg42
 z75:=sizeOf42
 v75:=zeroValue42
 t76:=underlying43
 a76:=isAgg43
 z76:=sizeOf43
 v76:=zeroValue43
 t105:=underlying115
 a105:=isAgg115
 z105:=sizeOf115
 v105:=zeroValue115
 t119:=underlying190
 a119:=isAgg190
 z119:=sizeOf190
 t127:=underlying47
 a127:=isAgg47
 z127:=sizeOf47
 v127:=zeroValue47
 t138:=underlying192
 a138:=isAgg192
 z138:=sizeOf192
 v138:=zeroValue192
 t139:=underlying193
 a139:=isAgg193
 z139:=sizeOf193
 v139:=zeroValue193
 t146:=underlying197
 a146:=isAgg197
 z146:=sizeOf197
 v146:=zeroValue197
 t164:=underlying73
 a164:=isAgg73
 z164:=sizeOf73
 v164:=zeroValue73
 g1:=by kernel_rfl
 g3:=by kernel_rfl
 g4:=by kernel_rfl }
theorem Tryz.Builder_Extra_155:Builder.Extra prog Tryz.lays155_ren:={
 sizeBuilder:=by kernel_rfl
 liesBuilder:=by kernel_rfl
 t5:=underlying5
 a5:=isAgg5
 z5:=sizeOf5
 v5:=zeroValue5
 infoByte:=by kernel_rfl
 cellsByte:=by kernel_rfl
 sizeByte:=by kernel_rfl
 neB5:=by decide }
def Tryz.lays105_ren:Go.Shelf.Ren:=⟨fun | 105=>89 | 212=>137 | 99=>138 | 165=>38 | 166=>17 | 170=>9 | 169=>10 | 263=>177 | 264=>178 | 206=>179 | 240=>37 | 241=>55 | 276=>54 | 277=>83 | n=>n,fun | 9=>9 | 3=>3 | 4=>4 | 20=>20 | 0=>0 | 46=>162 | 109=>163 | 5=>5 | 72=>34 | 76=>43 | 51=>196 | 146=>197 | 53=>199 | 148=>200 | 70=>31 | 37=>32 | 75=>42 | 127=>47 | 164=>73 | 80=>37 | n=>n,fun | n=>n⟩
theorem Tryz.lays105:Go.Proofs.Lays.n105 prog Tryz.lays105_ren:={
 mixed:=by kernel_rfl
 f99:=func138.trans (congrArg some (by kernel_rfl))
 f105:=func89.trans (congrArg some (by kernel_rfl))
 f165:=func38.trans (congrArg some (by kernel_rfl))
 f166:=func17.trans (congrArg some (by kernel_rfl))
 f169:=func10.trans (congrArg some (by kernel_rfl))
 f170:=func9.trans (congrArg some (by kernel_rfl))
 f206:=func179.trans (congrArg some (by kernel_rfl))
 f212:=func137.trans (congrArg some (by kernel_rfl))
 f240:=func37.trans (congrArg some (by kernel_rfl))
 f241:=func55.trans (congrArg some (by kernel_rfl))
 f263:=func177.trans (congrArg some (by kernel_rfl))
 f264:=func178.trans (congrArg some (by kernel_rfl))
 f276:=func54.trans (congrArg some (by kernel_rfl))
 f277:=func83.trans (congrArg some (by kernel_rfl))
 t0:=underlying0
 a0:=isAgg0
 z0:=sizeOf0
 v0:=zeroValue0
 t3:=underlying3
 a3:=isAgg3
 z3:=sizeOf3
 v3:=zeroValue3
 t4:=underlying4
 a4:=isAgg4
 z4:=sizeOf4
 v4:=zeroValue4
 t5:=underlying5
 a5:=isAgg5
 z5:=sizeOf5
 v5:=zeroValue5
 t9:=underlying9
 a9:=isAgg9
 z9:=sizeOf9
 v9:=zeroValue9
 t20:=underlying20
 a20:=isAgg20
 z20:=sizeOf20
 v20:=zeroValue20
 t37:=underlying32
 a37:=isAgg32
 z37:=sizeOf32
 v37:=zeroValue32
 t46:=underlying162
 a46:=isAgg162
 z46:=sizeOf162
 v46:=zeroValue162
 t51:=underlying196
 a51:=isAgg196
 z51:=sizeOf196
 v51:=zeroValue196
 t53:=underlying199
 a53:=isAgg199
 z53:=sizeOf199
 v53:=zeroValue199
 t70:=underlying31
 a70:=isAgg31
 z70:=sizeOf31
 v70:=zeroValue31
 t72:=underlying34
 a72:=isAgg34
 z72:=sizeOf34
 v72:=zeroValue34
 t75:=underlying42
 a75:=isAgg42
 z75:=sizeOf42
 v75:=zeroValue42
 t76:=underlying43
 a76:=isAgg43
 z76:=sizeOf43
 v76:=zeroValue43
 t109:=underlying163
 a109:=isAgg163
 z109:=sizeOf163
 v109:=zeroValue163
 t127:=underlying47
 a127:=isAgg47
 z127:=sizeOf47
 v127:=zeroValue47
 t146:=underlying197
 a146:=isAgg197
 z146:=sizeOf197
 v146:=zeroValue197
 t148:=underlying200
 a148:=isAgg200
 z148:=sizeOf200
 v148:=zeroValue200
 t164:=underlying73
 a164:=isAgg73
 z164:=sizeOf73
 v164:=zeroValue73 }
theorem Tryz.Builder_Extra_105:Builder.Extra prog Tryz.lays105_ren:={
 sizeBuilder:=by kernel_rfl
 liesBuilder:=by kernel_rfl
 t5:=underlying5
 a5:=isAgg5
 z5:=sizeOf5
 v5:=zeroValue5
 infoByte:=by kernel_rfl
 cellsByte:=by kernel_rfl
 sizeByte:=by kernel_rfl
 neB5:=by decide }
end Go.Proofs
namespace Go.PrLaw
open Go
def escB:List UInt8→List UInt8
 | []=>[]
 | c::l=>if (c==34||c==92)=true then 92::c::escB l else c::escB l
def quoB (s:List UInt8):List UInt8:=34::(escB s++[34])
def subB (c:UInt8) (new:List UInt8):List UInt8→List UInt8
 | []=>[]
 | x::l=>if x=c then new++subB c new l else x::subB c new l
theorem index_one (c x:UInt8) (l:List UInt8):Lib.index (x::l) [c]=if x=c then 0 else if Lib.index l [c]=-1 then -1 else Lib.index l [c]+1:=by
 rw[Lib.index]
 by_cases h:x=c
 ·subst h;simp
 ·have h':¬c=x:=fun e=>h e.symm
  simp[h,h']
theorem replaceK_sub (c:UInt8) (new:List UInt8):∀s:List UInt8,Lib.replaceK [c] new (Lib.count s [c]) s=subB c new s
 | []=>by
   have:Lib.count [] [c]=0:=Lib.count_miss (by simp[Lib.index])
   rw[this];rfl
 | x::l=>by
   have ih:=replaceK_sub c new l
   by_cases h:x=c
   ·have hi:Lib.index (x::l) [c]=(0:Nat):=by rw[index_one,if_pos h];rfl
    have hc:=Lib.count_hit (s:=x::l) (sub:=[c]) (by simp) hi
    have hd:(x::l).drop (0+[c].length)=l:=rfl
    rw[hd] at hc
    rw[hc,Nat.add_comm,Lib.replaceK_hit _ _ _ _ 0 hi,hd,ih,subB,if_pos h]
    simp
   ·rcases Int.lt_or_le (Lib.index l [c]) 0 with hneg | hpos
    ·have h1:Lib.index l [c]=-1:=by have:=Lib.index_ge l [c];omega
     have h2:Lib.index (x::l) [c]=-1:=by rw[index_one,if_neg h,if_pos h1]
     rw[Lib.count_miss h1] at ih
     rw[Lib.count_miss h2,subB,if_neg h,←ih]
     rfl
    ·obtain⟨i,hi⟩:∃i:Nat,Lib.index l [c]=i:=⟨(Lib.index l [c]).toNat,by omega⟩
     have h2:Lib.index (x::l) [c]=((i+1:Nat):Int):=by rw[index_one,if_neg h,if_neg (by omega),hi];rfl
     have c1:=Lib.count_hit (s:=l) (sub:=[c]) (by simp) hi
     have c2:=Lib.count_hit (s:=x::l) (sub:=[c]) (by simp) h2
     have e1:(x::l).drop (i+1+[c].length)=l.drop (i+[c].length):=rfl
     rw[e1] at c2
     rw[c1,Nat.add_comm,Lib.replaceK_hit _ _ _ _ i hi] at ih
     rw[c2,Nat.add_comm,Lib.replaceK_hit _ _ _ _ (i+1) h2,e1,subB,if_neg h,←ih]
     rfl
theorem replaceAll_sub (c:UInt8) (new s:List UInt8) (hn:[c]≠new):Lib.replaceAll s [c] new=subB c new s:=by
 unfold Lib.replaceAll Lib.replace
 rw[if_neg (by simpa using hn)]
 unfold Lib.replaceNum
 rw[if_pos (.inl (by decide))]
 exact replaceK_sub c new s
theorem esc_sub (s:List UInt8):subB 34 [92,34] (subB 92 [92,92] s)=escB s:=by
 induction s with
 | nil=>rfl
 | cons c l ih =>
   by_cases h1:c=92
   ·subst h1
    simp[subB,escB,ih]
   ·by_cases h2:c=34
    ·subst h2
     simp[subB,escB,ih]
    ·simp[subB,escB,ih,h1,h2]
theorem subB_len (c:UInt8) (a b:UInt8) (s:List UInt8):(subB c [a,b] s).length≤2*s.length:=by
 induction s with
 | nil=>simp[subB]
 | cons x l ih=>simp only[subB];split<;>simp<;>omega
theorem escB_len (s:List UInt8):(escB s).length≤2*s.length:=by
 induction s with
 | nil=>simp[escB]
 | cons x l ih=>simp only[escB];split<;>simp<;>omega
theorem jA (s:List UInt8):(quoB s).length≤2*s.length+2:=by
 have:=escB_len s
 simp[quoB];omega
def w9 (r:Nat):List UInt8:=Lib.trimRightB ((Lib.decDigits (1000+r)).drop 1) 48
def xm (n:Int):List UInt8:=(if n<0 then [45] else [])++(Lib.decDigits (n.natAbs / 1000)++if n.natAbs % 1000=0 then [] else 46::w9 (n.natAbs % 1000))
theorem dec_lt {u:Nat} (h:u<10):Lib.decDigits u=[UInt8.ofNat (48+u)]:=by rw[Lib.decDigits,dif_pos h]
theorem dec_ge {u:Nat} (h:10≤u):Lib.decDigits u=Lib.decDigits (u / 10)++[UInt8.ofNat (48+u % 10)]:=by rw[Lib.decDigits,dif_neg (by omega)]
theorem wQ {r:Nat} (h:r<1000):(Lib.decDigits (1000+r)).drop 1=[UInt8.ofNat (48+r / 100),UInt8.ofNat (48+r / 10 % 10),UInt8.ofNat (48+r % 10)]:=by
 rw[dec_ge (by omega),dec_ge (u:=(1000+r) / 10) (by omega),dec_ge (u:=(1000+r) / 10 / 10) (by omega),dec_lt (u:=(1000+r) / 10 / 10 / 10) (by omega)]
 simp only[List.cons_append,List.nil_append,List.drop_succ_cons,List.drop_zero]
 rw[show (1000+r) / 10 / 10 % 10=r / 100 from by omega,show (1000+r) / 10 % 10=r / 10 % 10 from by omega,show (1000+r) % 10=r % 10 from by omega]
theorem dec_pad {r:Nat} (h:r<1000):Lib.repeatL [48] (3 - (Lib.decDigits r).length)++Lib.decDigits r=(Lib.decDigits (1000+r)).drop 1:=by
 rw[wQ h]
 by_cases h1:r<10
 ·rw[dec_lt h1]
  rw[show r / 100=0 from by omega,show r / 10 % 10=0 from by omega,show r % 10=r from by omega]
  rfl
 ·by_cases h2:r<100
  ·rw[dec_ge (by omega),dec_lt (u:=r / 10) (by omega)]
   rw[show r / 100=0 from by omega,show r / 10 % 10=r / 10 from by omega]
   rfl
  ·rw[dec_ge (by omega),dec_ge (u:=r / 10) (by omega),dec_lt (u:=r / 10 / 10) (by omega)]
   rw[show r / 10 / 10=r / 100 from by omega]
   rfl
theorem ofNat48 {d:Nat} (h:d<10):(UInt8.ofNat (48+d)==48)=decide (d=0):=by
 rw[Bool.eq_iff_iff]
 simp only[beq_iff_eq,decide_eq_true_eq,←UInt8.toNat_inj,UInt8.toNat_ofNat']
 rw[Nat.mod_eq_of_lt (by omega)]
 show 48+d=48↔d=0
 omega
theorem places_nil {r:Nat} (h:r<1000):w9 r=[]↔r=0:=by
 unfold w9 Lib.trimRightB
 rw[wQ h]
 rw[List.reverse_eq_nil_iff]
 have h1:∀l:List UInt8,List.dropWhile (·==48) l=[]↔∀x∈l,(x==48)=true:=by
  intro l
  induction l with
  | nil=>simp
  | cons x l ih =>
    rw[List.dropWhile_cons]
    split
    ·rename_i hx;rw[ih];simp only[List.mem_cons,forall_eq_or_imp,hx,true_and]
    ·rename_i hx;simp only[List.mem_cons,forall_eq_or_imp];exact⟨fun e=>by simp at e,fun e=>(hx e.1).elim⟩
 rw[h1]
 simp only[List.mem_reverse,List.mem_cons,List.not_mem_nil,or_false,forall_eq_or_imp,forall_eq]
 rw[ofNat48 (by omega),ofNat48 (by omega),ofNat48 (by omega)]
 simp only[decide_eq_true_eq]
 omega
theorem dec_len:∀(k u:Nat),u<10 ^ (k+1)→(Lib.decDigits u).length≤k+1
 | 0,u,h=>by rw[dec_lt (by simpa using h)];simp
 | k+1,u,h=>by
   by_cases h1:u<10
   ·rw[dec_lt h1];simp
   ·rw[dec_ge (by omega),List.length_append]
    have:=dec_len k (u / 10) (by rw[Nat.pow_succ] at h;omega)
    simp;omega
theorem dec_ne (u:Nat):Lib.decDigits u≠[]:=by
 by_cases h:u<10
 ·rw[dec_lt h];simp
 ·rw[dec_ge (by omega)];simp
theorem trim_len (l:List UInt8) (c:UInt8):(Lib.trimRightB l c).length≤l.length:=by
 unfold Lib.trimRightB
 have:=(List.dropWhile_sublist (l:=l.reverse) (·==c)).length_le
 simpa using this
theorem places_len {r:Nat} (h:r<1000):(w9 r).length≤3:=by
 have:=trim_len ((Lib.decDigits (1000+r)).drop 1) 48
 rw[wQ h] at this
 unfold w9
 rw[wQ h]
 simpa using this
theorem thouB_len {n:Int} (h1:-1000000000000000<n) (h2:n<1000000000000000):(xm n).length≤17:=by
 unfold xm
 have d:=dec_len 11 (n.natAbs / 1000) (by omega)
 have p:=places_len (r:=n.natAbs % 1000) (by omega)
 rw[List.length_append,List.length_append]
 have e1:(if n<0 then ([45]:List UInt8) else []).length≤1:=by split<;>simp
 have e2:(if n.natAbs % 1000=0 then ([]:List UInt8) else 46::w9 (n.natAbs % 1000)).length≤4:=by split<;>simp<;>omega
 omega
def xR (sep:List UInt8) (k:Nat) (l:List (List UInt8)):List UInt8:=if k=0 then Lib.join l sep else Lib.joinTail sep l
theorem jZ (sep:List UInt8) (k:Nat):xR sep k []=[]:=by unfold xR;split<;>rfl
theorem vL (sep:List UInt8) (k:Nat) (x:List UInt8) (l:List (List UInt8)):xR sep k (x::l)=(if k=0 then [] else sep)++(x++xR sep (k+1) l):=by
 unfold xR
 rw[if_neg (Nat.succ_ne_zero k)]
 split
 ·rw[Lib.join_cons,List.nil_append]
 ·simp[Lib.joinTail]
theorem joinTail_len (sep:List UInt8):∀l:List (List UInt8),(Lib.joinTail sep l).length=(l.map fun x=>sep.length+x.length).sum
 | []=>rfl
 | x::l=>by
   have:=joinTail_len sep l
   unfold Lib.joinTail at this ⊢
   simp[this]
   omega
theorem kx (sep:List UInt8) (l:List (List UInt8)):(Lib.join l sep).length≤(l.map fun x=>sep.length+x.length).sum:=by
 cases l with
 | nil=>simp[Lib.join_nil]
 | cons x l=>rw[Lib.join_cons,List.length_append,joinTail_len];simp
end Go.PrLaw
namespace Go.Proofs.YtpeaooooimfihaaGreatDoor
open Go.Proofs.Tryz
open Go.RowKit Go.AM Go.PrLaw
theorem fr_below {w w':World} (h:Below w.heap.size w w'):Fr False w (fun _=>False) w':=⟨h.os,h.tape,h.output,h.size,fun e=>e.elim,fun k hk _=>h.block k hk⟩
def unStr:List (List PV)→Option (List (List UInt8))
 | []=>some []
 | [.v (.string s)]::l=>(unStr l).map (s.data.toList::·)
 | _=>none
@[simp] theorem unStr_encT (l:List (List UInt8)):unStr (encT l)=some l:=by
 induction l with
 | nil=>rfl
 | cons c l ih=>simp[unStr,ih]
theorem unStr_inv:∀{es:List (List PV)} {l:List (List UInt8)},unStr es=some l→es=encT l
 | [],l,h=>by simp only[unStr] at h;injection h with h;subst h;rfl
 | e::es,l,h=>by
   unfold unStr at h
   split at h
   ·rename_i he;cases he
   ·rename_i s l' he
    injection he with e1 e2
    subst e1;subst e2
    obtain⟨l2,h1,h2⟩:=zq h
    have:=unStr_inv h1
    subst this;subst h2
    rfl
   ·cases h
def hJn:AM.Spec:=fun args hp nx=>match args with
 | [.own id 0 n,.v (.string sep)]=>(hp id).bind fun b=>if b.s=1∧b.arr=true∧b.es.length=n∧n≤140737488355328 then (unStr b.es).bind fun xs=>if (Lib.join xs sep.data.toList).length≤140737488355328 then some (str (Lib.join xs sep.data.toList),hp,nx) else none else none
 | [.nil,.v (.string _)]=>some (str [],hp,nx)
 | _=>none
theorem jn_own {hp:Hp} {nx e:Nat} {v:PV} {xs:List (List UInt8)} (sep:List UInt8) (h:OwnS hp nx e 1 v (encT xs)) (hx:xs.length≤140737488355328) (hl:(Lib.join xs sep).length≤140737488355328) (nx':Nat):hJn [v,str sep] hp nx'=some (str (Lib.join xs sep),hp,nx'):=by
 rcases h with⟨rfl,hy⟩ | ⟨id,_,rfl,hh⟩
 ·have:xs=[]:=by cases xs with
   | nil=>rfl
   | cons a l=>simp at hy
  subst this
  rfl
 ·simp[hJn,hh,hl,hx]
theorem join_sound:SpecD False prog 19 hJn:=by
 refine⟨⟨_,func19,by kernel_rfl,by kernel_rfl⟩,?_⟩
 intro args hp nx r hp' nx' h w S G vs hi hz
 unfold hJn at h
 split at h
 ·rename_i id n sep
  obtain⟨u,us,rfl,hu,hz'⟩:=hz.uncons
  obtain⟨u2,us2,rfl,hu2,hz''⟩:=hz'.uncons
  have hus:us2=[]:=List.eq_nil_of_length_eq_zero (by simpa using hz''.1.symm)
  subst hus
  obtain⟨rfl,_⟩:=hu2.v_inv
  obtain⟨b,hb,h⟩:=Option.bind_eq_some_iff.1 h
  split at h
  case isFalse=>cases h
  rename_i hc
  obtain⟨c1,c2,c3,c4⟩:=hc
  obtain⟨xs,hx,h⟩:=Option.bind_eq_some_iff.1 h
  split at h
  case isFalse=>cases h
  rename_i hlen
  injection h with h
  injection h with e1 h
  injection h with e2 e3
  subst e1;subst e2;subst e3
  have hop:=hu.own_pos
  obtain⟨cap,a1,a2,a3,a4,rfl⟩:=hu.own_inv
  have hbr:=hi.live id _ hb
  obtain⟨cg,p1,p2,p3⟩:=hbr.row hop
  have hs1:(G id).s=1:=by rw[←c1];exact hbr.bs.symm
  have hes:=unStr_inv hx
  have hn:xs.length=n:=by rw[←c3,hes];simp
  have hlt:(G id).g<w.heap.size:=(Array.getElem?_eq_some_iff.1 p1).1
  subst hn
  have hxl:(xs.map fun x=>(⟨x.toArray⟩:ByteArray)).length=xs.length:=by simp
  have hmm:((xs.map fun x=>(⟨x.toArray⟩:ByteArray)).map fun y=>y.data.toList)=xs:=by rw[List.map_map];exact List.map_id' _
  have hC:=Any.strings_Join Tryz.lays156 Tryz.Builder_Extra_156 (G id).g (0*(G id).s) cap (xs.map fun x=>⟨x.toArray⟩) sep w (fun j x hj=>?_) hlt (by rw[hxl];exact c4) (by rw[hxl];exact a2) (by rw[hmm];exact hlen)
  ·rw[hmm,hxl] at hC
   refine hC.mono fun e w' hh=>?_
   obtain⟨rfl,hw⟩:=hh
   exact⟨_,_,G,rfl,Stp.outer hi (fr_below hw),.c (.v rfl)⟩
  ·rw[List.getElem?_map] at hj
   obtain⟨y,hy,rfl⟩:=Option.map_eq_some_iff.1 hj
   obtain⟨u,g1,g2⟩:=p3 j 0 [str y] (str y) (by rw[hes];simp[encT,hy]) rfl
   obtain⟨rfl,_⟩:=g2.2.1.v_inv
   rw[hs1] at g1
   simp only[World.cell?,p1,Nat.zero_mul,Nat.zero_add]
   simpa using g1
 ·rename_i sep
  obtain⟨u,us,rfl,hu,hz'⟩:=hz.uncons
  obtain⟨u2,us2,rfl,hu2,hz''⟩:=hz'.uncons
  have hus:us2=[]:=List.eq_nil_of_length_eq_zero (by simpa using hz''.1.symm)
  subst hus
  obtain⟨rfl,_⟩:=hu2.v_inv
  obtain rfl:=hu.nil_inv
  injection h with h
  injection h with e1 h
  injection h with e2 e3
  subst e1;subst e2;subst e3
  refine (Any.strings_Join_none Tryz.lays156 Tryz.Builder_Extra_156 none 0 sep w).mono fun e w' hh=>?_
  obtain⟨rfl,rfl⟩:=hh
  exact⟨_,_,_,rfl,Stp.refl hi,.c (.v rfl)⟩
 ·cases h
noncomputable def FRp:List PV→Option PV:=zH (α:=List UInt8×UInt8×List UInt8) (fun a=>[str a.1,str [a.2.1],str a.2.2]) (fun a=>a.1.length≤4194304∧a.2.2.length≤2∧[a.2.1]≠a.2.2) (fun a=>str (subB a.2.1 a.2.2 a.1))
theorem rp_inj:∀a b:List UInt8×UInt8×List UInt8,[str a.1,str [a.2.1],str a.2.2]=[str b.1,str [b.2.1],str b.2.2]→a=b:=by
 rintro⟨a1,a2,a3⟩ ⟨b1,b2,b3⟩ e
 simp only[List.cons.injEq,and_true] at e
 obtain⟨e1,e2,e3⟩:=e
 have e4:=qt e2
 injection e4 with e4
 rw[qt e1,e4,qt e3]
theorem rp_call (s:List UInt8) (c:UInt8) (new:List UInt8) (hp:Hp) (nx:Nat) (h:s.length≤4194304) (h2:new.length≤2) (h3:[c]≠new):zf false [] FRp [str s,str [c],str new] hp nx=some (str (subB c new s),hp,nx) :=
 zK rfl (zn (enc:=fun a:List UInt8×UInt8×List UInt8=>[str a.1,str [a.2.1],str a.2.2]) (a:=(s,c,new)) rp_inj ⟨h,h2,h3⟩) (.inl rfl)
theorem replaceAll_sound:SpecD False prog 39 (zf false [] FRp) :=
 qm ⟨_,func39,by kernel_rfl,by kernel_rfl⟩ fun xs r h=>by
  obtain⟨⟨s,c,new⟩,rfl,⟨h1,h2,h3⟩,rfl⟩:=ze h
  simp only at h1 h2 h3
  refine⟨[.string ⟨s.toArray⟩,.string ⟨#[c]⟩,.string ⟨new.toArray⟩],rfl,by simp[lit],rfl,.string ⟨(subB c new s).toArray⟩,fun w S=>.v rfl,fun w S hg=>?_⟩
  obtain⟨_,m,hm⟩:=hg.1 0 intVarM
  have hcn:Lib.countB ⟨s.toArray⟩ ⟨#[c]⟩≤s.length:=by simpa using Lib.countB_le ⟨#[c]⟩ (by simp[ByteArray.size]) s.length ⟨s.toArray⟩ (by simp)
  have hml:Lib.countB ⟨s.toArray⟩ ⟨#[c]⟩*new.length≤s.length*2:=Nat.mul_le_mul hcn h2
  refine (Any.strings_ReplaceAll Tryz.lays155 Tryz.Builder_Extra_155 ⟨s.toArray⟩ ⟨#[c]⟩ ⟨new.toArray⟩ m w (by simp;omega) hm (by simp[ByteArray.size]) (by simp;omega)).mono fun e w' hh=>?_
  obtain⟨rfl,hw⟩:=hh
  refine⟨?_,fr_below hw⟩
  simp only[List.toList_toArray]
  rw[replaceAll_sub c new s h3]
noncomputable def FRt:List PV→Option PV:=zH (α:=UInt8×Int) (fun a=>[str [a.1],int a.2]) (fun a=>0≤a.2∧a.2≤1000) (fun a=>str (Lib.repeatL [a.1] a.2.toNat))
theorem rt_call (c:UInt8) (n:Int) (hp:Hp) (nx:Nat) (h:0≤n) (h2:n≤1000):zf false [] FRt [str [c],int n] hp nx=some (str (Lib.repeatL [c] n.toNat),hp,nx) :=
 zK rfl (zn (enc:=fun a:UInt8×Int=>[str [a.1],int a.2]) (a:=(c,n)) (fun x y e=>by
  obtain⟨x1,x2⟩:=x;obtain⟨y1,y2⟩:=y
  simp only[List.cons.injEq,and_true] at e
  have e1:=qt e.1
  injection e1 with e1
  rw[e1,zG e.2]) ⟨h,h2⟩) (.inl rfl)
theorem repeat_sound:SpecD False prog 89 (zf false [] FRt) :=
 qm ⟨_,func89,by kernel_rfl,by kernel_rfl⟩ fun xs r h=>by
  obtain⟨⟨c,n⟩,rfl,⟨h1,h2⟩,rfl⟩:=ze h
  simp only at h1 h2
  refine⟨[.string ⟨#[c]⟩,.int .i64 n],rfl,by simp[lit],rfl,.string ⟨(Lib.repeatL [c] n.toNat).toArray⟩,fun w S=>.v rfl,fun w S hg=>?_⟩
  have hn:((n.toNat:Nat):Int)=n:=by omega
  have hC:=Any.strings_Repeat Tryz.lays105 Tryz.Builder_Extra_105 ⟨#[c]⟩ n.toNat w (by omega) (by simp[ByteArray.size];omega)
  rw[hn] at hC
  refine hC.mono fun e w' hh=>?_
  obtain⟨rfl,hw⟩:=hh
  exact⟨rfl,fr_below hw⟩
end Go.Proofs.YtpeaooooimfihaaGreatDoor
namespace Go.AM
open Go.RowKit
variable {dr:Prop}
def byC (c:UInt8):List PV:=[.v (.int .u8 c.toNat)]
def bufB (U:TypeId) (l:List UInt8):Blk:=⟨U,1,true,l.map byC⟩
def newB (T:TypeId):Blk:=⟨T,2,false,[[.v (.pointer none),.nil]]⟩
def useB (T:TypeId) (id m n:Nat):Blk:=⟨T,2,false,[[.ref id 0 0,.own m 0 n]]⟩
def unBy:List (List PV)→Option (List UInt8)
 | []=>some []
 | [.v (.int .u8 z)]::l=>if z=(UInt8.ofNat z.toNat).toNat then (unBy l).map (UInt8.ofNat z.toNat::·) else none
 | _=>none
@[simp] theorem unBy_map (l:List UInt8):unBy (l.map byC)=some l:=by
 induction l with
 | nil=>rfl
 | cons c l ih=>simp[unBy,byC] at ih ⊢;simp[ih]
theorem unBy_inv:∀{es:List (List PV)} {l:List UInt8},unBy es=some l→es=l.map byC
 | [],l,h=>by simp only[unBy] at h;injection h with h;subst h;rfl
 | e::es,l,h=>by
   unfold unBy at h
   split at h
   ·rename_i he;cases he
   ·rename_i z l' he
    injection he with e1 e2
    subst e1;subst e2
    split at h
    ·rename_i hz
     obtain⟨l2,h1,h2⟩:=zq h
     have:=unBy_inv h1
     subst this;subst h2
     simp only[List.map_cons,byC]
     rw[←hz]
    ·cases h
   ·cases h
def bldBuf (U:TypeId) (hp:Hp) (m n:Nat) (c:Blk):Option (List UInt8×Hp) :=
 if c.e=U∧c.s=1∧c.arr=true then (unBy c.es).bind fun l=>if n=l.length then some (l,upd hp m none) else none else none
def bldOf (T U:TypeId) (hp:Hp) (id:Nat) (b:Blk):Option (List UInt8×Hp) :=
 if b.e=T∧b.s=2∧b.arr=false then match b.es with
  | [[.v (.pointer none),.nil]]=>some ([],hp)
  | [[.ref i 0 0,.own m 0 n]]=>if i=id∧m≠id then (hp m).bind (bldBuf U hp m n) else none
  | _=>none
 else none
def putB (T U:TypeId) (hp:Hp) (id nx:Nat) (l t:List UInt8) (r:PV):Option (PV×Hp×Nat) :=
 if l.length+t.length≤140737488355328 then some (r,upd (upd hp nx (some (bufB U (l++t)))) id (some (useB T id nx (l++t).length)),nx+1) else none
def hBld (T U:TypeId) (F:List PV→Option (List UInt8×PV)):AM.Spec:=fun args hp nx=>match args with
 | .ref id 0 0::rest=>if rest.all PV.noOwn=true then (zi hp rest).bind fun p=>(F p.1).bind fun q=>(hp id).bind fun b=>(bldOf T U hp id b).bind fun s=>putB T U s.2 id nx s.1 q.1 q.2 else none
 | _=>none
theorem hBld_eq {T U:TypeId} {F:List PV→Option (List UInt8×PV)} {rest aZ:List PV} {hp hp1:Hp} {id nx:Nat} {t:List UInt8} {r:PV} (h1:zi hp rest=some (aZ,hp1)) (h2:rest.all PV.noOwn=true) (h3:F aZ=some (t,r)) :
  hBld T U F (.ref id 0 0::rest) hp nx=(hp id).bind fun b=>(bldOf T U hp id b).bind fun s=>putB T U s.2 id nx s.1 t r:=by
 simp[hBld,h1,h2,h3]
@[simp] theorem bldOf_new (T U:TypeId) (hp:Hp) (id:Nat):bldOf T U hp id (newB T)=some ([],hp):=by simp[bldOf,newB]
@[simp] theorem bldOf_use (T U:TypeId) (hp:Hp) (id m n:Nat) (h:¬m=id):bldOf T U hp id (useB T id m n)=(hp m).bind (bldBuf U hp m n):=by simp[bldOf,useB,h]
@[simp] theorem bldBuf_buf (U:TypeId) (hp:Hp) (m n:Nat) (l:List UInt8) (h:n=l.length):bldBuf U hp m n (bufB U l)=some (l,upd hp m none):=by simp[bldBuf,bufB,h]
theorem xS {T U:TypeId} {hp hp1:Hp} {id:Nat} {b:Blk} {l:List UInt8} (h:bldOf T U hp id b=some (l,hp1)) :
  (b=newB T∧l=[]∧hp1=hp)∨∃m,m≠id∧b=useB T id m l.length∧hp m=some (bufB U l)∧hp1=upd hp m none:=by
 unfold bldOf at h
 split at h
 ·rename_i hc
  obtain⟨c1,c2,c3⟩:=hc
  obtain⟨e,s,a,es⟩:=b
  simp only at c1 c2 c3 h
  subst c1;subst c2;subst c3
  split at h
  ·injection h with h
   injection h with e1 e2
   exact .inl ⟨rfl,e1.symm,e2.symm⟩
  ·rename_i i m n
   split at h
   ·rename_i hi
    obtain⟨rfl,hm⟩:=hi
    cases hh:hp m with
    | none=>rw[hh] at h;cases h
    | some c =>
      rw[hh] at h
      simp only[Option.bind_some] at h
      unfold bldBuf at h
      split at h
      ·rename_i hc
       obtain⟨c1,c2,c3⟩:=hc
       cases hu:unBy c.es with
       | none=>rw[hu] at h;cases h
       | some l' =>
         rw[hu] at h
         simp only[Option.bind_some] at h
         split at h
         ·rename_i hn
          injection h with h
          injection h with e1 e2
          subst e1;subst e2;subst hn
          refine .inr ⟨m,hm,rfl,?_,rfl⟩
          obtain⟨e,s,a,es⟩:=c
          simp only at c1 c2 c3 hu
          rw[hh,c1,c2,c3,unBy_inv hu]
          rfl
         ·cases h
      ·cases h
   ·cases h
  ·cases h
 ·cases h
section
variable {P:Program} {w w':World} {S S':Nat→Prop} {G G':Nat→GI} {hp hp':Hp} {nx nx':Nat}
theorem flat_close {r:PV} {v:Value} (h:RepO w S G nx r v) (hf:r.flat=true):RepC w S r v:=by
 cases h with
 | c h=>exact h
 | tup hl hh =>
   refine .tup hl fun j pv u hj hu=>?_
   simp only[PV.flat,List.all_eq_true] at hf
   have h1:=hf pv (List.mem_of_getElem? hj)
   have h2:=hh j pv u hj hu
   cases pv with
   | v x=>cases h2 with | c h=>exact h
   | _=>simp[PV.isV] at h1
 | _=>simp[PV.flat] at hf
theorem Stp.revive {w2:World} {S2:Nat→Prop} {G2:Nat→GI} {hp2:Hp} {nx2:Nat} (h:Stp dr P hp nx S G w hp2 nx2 S2 G2 w2) {id:Nat} {b0 b:Blk} (h0:hp id=some b0) (hid:id<nx) (hb:BlkRep P w2 S2 G2 nx2 (G2 id) b) (ha:¬S2 (G2 id).g)
  (hd:∀k c,hp2 k=some c→k≠id→(G2 k).g≠(G2 id).g):Stp dr P hp nx S G w (upd hp2 id (some b)) nx2 S2 G2 w2:=by
 have hx:∀k c,upd hp2 id (some b) k=some c→(k=id∧c=b)∨(k≠id∧hp2 k=some c):=by
  intro k c hk
  by_cases hki:k=id
  ·subst hki;simp at hk;exact .inl ⟨rfl,hk.symm⟩
  ·rw[zp _ _ _ _ hki] at hk;exact .inr ⟨hki,hk⟩
 have hup:=h.up
 refine⟨⟨h.inv.st,fun k c hk=>?_,fun k c hk=>?_,fun k c hk=>?_,fun k k' c c' hk hk' he=>?_,h.inv.glo⟩,h.up,h.loc,h.keep,h.from_,fun k c hk=>?_,h.fr⟩
 ·rcases hx k c hk with⟨rfl,_⟩ | ⟨_,hk⟩
  ·omega
  ·exact h.inv.top k c hk
 ·rcases hx k c hk with⟨rfl,rfl⟩ | ⟨_,hk⟩
  ·exact hb
  ·exact h.inv.live k c hk
 ·rcases hx k c hk with⟨rfl,rfl⟩ | ⟨_,hk⟩
  ·exact ha
  ·exact h.inv.apart k c hk
 ·rcases hx k c hk with⟨a1,_⟩ | ⟨a1,b1⟩<;>rcases hx k' c' hk' with⟨a2,_⟩ | ⟨a2,b2⟩
  ·rw[a1,a2]
  ·exact (hd k' c' b2 a2 (by rw[←he,a1])).elim
  ·exact (hd k c b1 a1 (by rw[he,a2])).elim
  ·exact h.inv.inj k k' c c' b1 b2 he
 ·rcases hx k c hk with⟨rfl,rfl⟩ | ⟨_,hk⟩
  ·exact .inl ⟨k,b0,h0,by rw[h.loc k hid]⟩
  ·exact h.own k c hk
end
structure BStart (T U:TypeId) (hp:Hp) (nx:Nat) (l:List UInt8) (b0:Blk) (K:Hp→Hp):Prop where
 pos:0<nx
 top:∀j b,hp j=some b→j<nx
 at0:hp 0=some b0
 ok:∀h:Hp,(∀j,j<nx→h j=hp j)→bldOf T U h 0 b0=some (l,K h)
 keep:∀(h:Hp) (j:Nat),nx≤j→K h j=h j
theorem BStart.new (T U:TypeId):BStart T U (upd (fun _=>none) 0 (some (newB T))) 1 [] (newB T) (fun h=>h) :=
 ⟨by omega,fun j b h=>by by_cases e:j=0<;>simp_all,by simp,fun h _=>by simp,fun _ _ _=>rfl⟩
theorem BStart.use (T U:TypeId) (l:List UInt8):BStart T U (upd (upd (fun _=>none) 0 (some (useB T 0 1 l.length))) 1 (some (bufB U l))) 2 l (useB T 0 1 l.length) (fun h=>upd h 1 none) :=
 ⟨by omega,fun j b h=>by by_cases e:j=0<;>by_cases e':j=1<;>simp_all,by rw[zp _ _ _ _ (by omega)];simp,fun h hh=>by
  rw[bldOf_use _ _ _ _ _ _ (by omega),hh 1 (by omega)]
  simp,fun h j hj=>zp _ _ _ _ (by omega)⟩
def BEnds (T U:TypeId) (o:Option (PV×Hp×Nat)) (l:List UInt8) (r:PV):Prop:=∃hp nx m,o=some (r,hp,nx)∧hp 0=some (useB T 0 m l.length)∧hp m=some (bufB U l)
theorem jB {T U:TypeId} {C:Ctx} {fn:Func} {code:Code} {args:List PV} {hp:Hp} {nx:Nat} {l:List UInt8} {r:PV} (hb:fn.body=some code)
  (h:EvC C code ⟨yH args,hp,nx⟩ (retK C.P fn fun x hp' _=>x=r∧∃m,hp' 0=some (useB T 0 m l.length)∧hp' m=some (bufB U l))):BEnds T U (qj C fn args hp nx) l r:=by
 obtain⟨x,hp',nx',h1,rfl,m,h2,h3⟩:=zN hb h
 exact⟨hp',nx',m,h1,h2,h3⟩
section
variable {C:Ctx} {pf:FuncId→Bool} {f:FuncId} {fn:Func} {code:Code}
theorem ym (hg:GoodD dr C pf) (hk:Known C pf f fn code) (T U:TypeId) (F:List PV→Option (List UInt8×PV))
  (hF:∀aZ t r,F aZ=some (t,r)→r.flat=true∧aZ.length+1≤fn.ntmps∧∀hp nx l b0 K,BStart T U hp nx l b0 K→l.length+t.length≤140737488355328→BEnds T U (qj C fn (.ref 0 0 0::aZ) hp nx) (l++t) r):SpecD dr C.P f (hBld T U F):=by
 refine⟨⟨fn,hk.func,hk.name,by rw[hk.body];rfl⟩,?_⟩
 intro args hp nx r hp' nx' h w S G vs hi hz
 unfold hBld at h
 split at h
 case h_2=>cases h
 rename_i id rest
 obtain⟨u,us,rfl,hu,hz'⟩:=hz.uncons
 split at h
 case isFalse=>cases h
 rename_i hno
 obtain⟨⟨aZ,hpx⟩,hfr,h⟩:=Option.bind_eq_some_iff.1 h
 obtain rfl:=vd hfr hno
 obtain⟨⟨t,r0⟩,hF0,h⟩:=Option.bind_eq_some_iff.1 h
 obtain⟨b,hb,h⟩:=Option.bind_eq_some_iff.1 h
 obtain⟨⟨l,hp2⟩,hbo,h⟩:=Option.bind_eq_some_iff.1 h
 simp only at h hbo
 unfold putB at h
 split at h
 case isFalse=>cases h
 rename_i hlen
 injection h with h
 injection h with e1 h
 injection h with e2 e3
 subst e1;subst e2;subst e3
 obtain⟨S1,k1,hz1,hSS⟩:=qz (dr:=dr) hi hfr hz'
 obtain rfl:=hSS hno
 obtain⟨hflat,hn,hE⟩:=hF aZ t r0 hF0
 have hrp:=hu.ref_pos
 obtain⟨hid,rfl⟩:=hu.ref_inv
 have hbr:=hi.live id b hb
 obtain⟨hps,nxs,Gs,b0,K,hstart,hinv,hG0,hlive,hD,hp2n,hp2s⟩:∃(hps:Hp) (nxs:Nat) (Gs:Nat→GI) (b0:Blk) (K:Hp→Hp),BStart T U hps nxs l b0 K∧Inv C.P w S1 Gs hps nxs∧Gs 0=G id ∧
   (∀x,qZ hps Gs x→qZ hpx G x)∧(∀k c,hp2 k=some c→k≠id→hpx k=some c∧¬qZ hps Gs (G k).g)∧True∧True:=by
  rcases xS hbo with⟨rfl,rfl,rfl⟩ | ⟨m,hmid,rfl,hm,rfl⟩
  ·have hx:∀k c,upd (fun _=>none) 0 (some (newB T)) k=some c→k=0∧c=newB T:=by
    intro k c hk
    unfold upd at hk
    split at hk
    ·injection hk with hk;exact⟨by assumption,hk.symm⟩
    ·cases hk
   refine⟨_,_,fun _=>G id,_,_,BStart.new T U,⟨hi.st,fun k c hk=>by rw[(hx k c hk).1];omega,fun k c hk=>?_,fun k c hk=>?_,fun k k' c c' hk hk' _=>by rw[(hx k c hk).1,(hx k' c' hk').1],hi.glo⟩,rfl,?_,fun k c hk hne=>⟨hk,?_⟩,trivial,trivial⟩
   ·rw[(hx k c hk).2]
    refine⟨hbr.bs,fun h0=>⟨hbr.size h0,hbr.len h0,hbr.fit h0,?_⟩,hbr.ent⟩
    obtain⟨cur,q1,q2,q3⟩:=hbr.row h0
    refine⟨cur,q1,q2,fun i j c pv hi' hj=>?_⟩
    obtain⟨u,h4,h5⟩:=q3 i j c pv hi' hj
    refine⟨u,h4,fun h=>by simp[newB] at h,?_,h5.2.2⟩
    have hc:RepC w S1 pv u:=by
     have h6:=h5.2.1
     obtain rfl:i=0:=by have:=(List.getElem?_eq_some_iff.1 hi').1;simpa[newB] using this
     simp only[newB,List.getElem?_cons_zero,Option.some.injEq] at hi'
     subst hi'
     match j,hj with
     | 0,hj=>simp at hj;subst hj;cases h6 with | c h=>exact h
     | 1,hj=>simp at hj;subst hj;cases h6 with | c h=>exact h
     | j+2,hj=>simp at hj
    exact .c hc
   ·exact hi.apart id _ hb
   ·rintro x ⟨k,c,hk,rfl⟩
    exact⟨id,_,hb,rfl⟩
   ·rintro⟨k',c',hk',he⟩
    exact hne (hi.inj k id c _ hk hb he.symm)
  ·have hx:∀k c,upd (upd (fun _=>none) 0 (some (useB T 0 1 l.length))) 1 (some (bufB U l)) k=some c→(k=0∧c=useB T 0 1 l.length)∨(k=1∧c=bufB U l):=by
    intro k c hk
    unfold upd at hk
    split at hk
    ·injection hk with hk;exact .inr ⟨by assumption,hk.symm⟩
    ·split at hk
     ·injection hk with hk;exact .inl ⟨by assumption,hk.symm⟩
     ·cases hk
   have hmr:=hi.live m _ hm
   have hgne:(G id).g≠(G m).g:=fun he=>hmid (hi.inj m id _ _ hm hb he.symm)
   have g1:∀k,k=1→(fun k=>if k=0 then G id else G m) k=G m:=fun k hk=>by subst hk;rfl
   refine⟨_,_,fun k=>if k=0 then G id else G m,_,_,BStart.use T U l,⟨hi.st,fun k c hk=>?_,fun k c hk=>?_,fun k c hk=>?_,fun k k' c c' hk hk' he=>?_,hi.glo⟩,rfl,?_,fun k c hk hne=>?_,trivial,trivial⟩
   ·rcases hx k c hk with⟨rfl,_⟩ | ⟨rfl,_⟩<;>omega
   ·rcases hx k c hk with⟨rfl,rfl⟩ | ⟨rfl,rfl⟩
    ·refine⟨hbr.bs,fun h0=>⟨hbr.size h0,?_,hbr.fit h0,?_⟩,fun h0=>(Nat.lt_irrefl 0 (by rw[if_pos rfl] at h0;omega)).elim⟩
     ·intro c hc
      have:=hbr.len h0 [.ref id 0 0,.own m 0 l.length] (by simp[useB])
      simp only[useB,List.mem_singleton] at hc
      subst hc
      simpa using this
     ·obtain⟨cur,q1,q2,q3⟩:=hbr.row h0
      refine⟨cur,q1,q2,fun i j c pv hi' hj=>?_⟩
      obtain rfl:i=0:=by have:=(List.getElem?_eq_some_iff.1 hi').1;simpa[useB] using this
      simp only[useB,List.getElem?_cons_zero,Option.some.injEq] at hi'
      subst hi'
      match j,hj with
      | 0,hj =>
        obtain⟨u,h4,h5⟩:=q3 0 0 _ (.ref id 0 0) (by simp[useB];rfl) rfl
        simp at hj;subst hj
        refine⟨u,h4,fun h=>by simp[useB] at h,?_,h5.2.2⟩
        obtain⟨_,rfl⟩:=h5.2.1.ref_inv
        exact RepO.ref (G:=fun k=>if k=0 then G id else G m) (id:=0) (by omega) h5.2.1.ref_pos
      | 1,hj =>
        obtain⟨u,h4,h5⟩:=q3 0 1 _ (.own m 0 l.length) (by simp[useB];rfl) rfl
        simp at hj;subst hj
        refine⟨u,h4,fun h=>by simp[useB] at h,?_,h5.2.2⟩
        obtain⟨cap,a1,a2,a3,a4,rfl⟩:=h5.2.1.own_inv
        exact RepO.own (G:=fun k=>if k=0 then G id else G m) (id:=1) (by omega) a2 a3 a4 h5.2.1.own_pos
      | j+2,hj=>simp at hj
    ·refine⟨hmr.bs,fun h0=>⟨hmr.size h0,hmr.len h0,hmr.fit h0,?_⟩,hmr.ent⟩
     obtain⟨cur,q1,q2,q3⟩:=hmr.row h0
     refine⟨cur,q1,q2,fun i j c pv hi' hj=>?_⟩
     obtain⟨u,h4,h5⟩:=q3 i j c pv hi' hj
     exact⟨u,h4,h5.1,.c (h5.1 rfl),h5.2.2⟩
   ·rcases hx k c hk with⟨rfl,rfl⟩ | ⟨rfl,rfl⟩
    ·exact hi.apart id _ hb
    ·exact hi.apart m _ hm
   ·rcases hx k c hk with⟨rfl,rfl⟩ | ⟨rfl,rfl⟩<;>rcases hx k' c' hk' with⟨rfl,rfl⟩ | ⟨rfl,rfl⟩
    ·rfl
    ·exact (hgne he).elim
    ·exact (hgne he.symm).elim
    ·rfl
   ·rintro x ⟨k,c,hk,rfl⟩
    rcases hx k c hk with⟨rfl,rfl⟩ | ⟨rfl,rfl⟩
    ·exact⟨id,_,hb,rfl⟩
    ·exact⟨m,_,hm,rfl⟩
   ·have hkm:k≠m:=by rintro rfl;simp at hk
    refine⟨wW hk,?_⟩
    rintro⟨k',c',hk',he⟩
    rcases hx k' c' hk' with⟨rfl,rfl⟩ | ⟨rfl,rfl⟩
    ·exact hne (hi.inj k id c _ (wW hk) hb he.symm)
    ·exact hkm (hi.inj k m c _ (wW hk) hm he.symm)
 obtain⟨hpe,nxe,m',hef,he0,hem⟩:=hE _ _ _ _ _ hstart hlen
 have hz2:Zip (RepO w S1 Gs nxs) (.ref 0 0 0::aZ) (.pointer (some ⟨(G id).g,0*(G id).s+0,none⟩)::us) :=
  .cons (by rw[←hG0];exact .ref hstart.pos (by rw[hG0];exact hrp)) hz1.closed
 refine (func_calls hg.spec hg.quiet hg.box hg.iter hg.mixed hk.func hk.body hk.ok hef hinv hz2 (by simpa using hn)).mono fun e w' hh=>?_
 obtain⟨v,S',G',he,k,hx⟩:=hh
 have hG0':G' 0=G id:=by rw[k.loc 0 hstart.pos,hG0]
 have hm0:m'≠0:=by
  rintro rfl
  rw[he0] at hem
  injection hem with hem
  have:=congrArg Blk.arr hem
  simp[useB,bufB] at this
 have hsub:∀k c,upd hp2 id none k=some c→hpx k=some c∧¬qZ hps Gs (G k).g:=fun k c hk=>by
  have hne:k≠id:=by rintro rfl;simp at hk
  exact hD k c (wW hk) hne
 have kk:=back_own (dr:=dr) (D:=qZ hps Gs) (hp2:=upd hp2 id none) hi hsub hlive k.fr k.inv k.keep k.from_ hem rfl (k.own m' _ hem)
 have hGid:upd G nx (G' m') id=G id:=zp _ _ _ _ (by omega)
 have h0r:=k.inv.live 0 _ he0
 have hfin:=kk.revive (id:=id) (b:=useB T id nx (l++t).length) hb hid ?_ ?_ ?_
 ·have hpe':upd (upd (upd hp2 id none) nx (some (bufB U (l++t)))) id (some (useB T id nx (l++t).length))=upd (upd hp2 nx (some (bufB U (l++t)))) id (some (useB T id nx (l++t).length)):=by
   funext j
   by_cases h1:j=id
   ·subst h1;simp
   ·rw[zp _ _ _ _ h1,zp _ _ _ _ h1]
    by_cases h2:j=nx
    ·subst h2;simp
    ·rw[zp _ _ _ _ h2,zp _ _ _ _ h2,zp _ _ _ _ h1]
  rw[hpe'] at hfin
  exact⟨v,_,_,he,hfin,.c (flat_close hx hflat)⟩
 ·rw[hGid,←hG0']
  refine⟨h0r.bs,fun h0=>⟨h0r.size h0,?_,h0r.fit h0,?_⟩,fun h0=>by rw[hG0'] at h0;omega⟩
  ·intro c hc
   have:=h0r.len h0 [.ref 0 0 0,.own m' 0 (l++t).length] (by simp[useB])
   simp only[useB,List.mem_singleton] at hc
   subst hc
   simpa using this
  ·obtain⟨cur,q1,q2,q3⟩:=h0r.row h0
   refine⟨cur,q1,q2,fun i j c pv hi' hj=>?_⟩
   obtain rfl:i=0:=by have:=(List.getElem?_eq_some_iff.1 hi').1;simpa[useB] using this
   simp only[useB,List.getElem?_cons_zero,Option.some.injEq] at hi'
   subst hi'
   match j,hj with
   | 0,hj =>
     obtain⟨u,h4,h5⟩:=q3 0 0 _ (.ref 0 0 0) (by simp[useB];rfl) rfl
     simp at hj;subst hj
     refine⟨u,h4,fun h=>by simp[useB] at h,?_,h5.2.2⟩
     obtain⟨_,rfl⟩:=h5.2.1.ref_inv
     have:=RepO.ref (w:=w') (S:=S') (G:=upd G nx (G' m')) (nx:=nx+1) (id:=id) (i:=0) (j:=0) (by omega) (by rw[hGid];exact hrp)
     rw[hGid] at this
     rw[hG0']
     exact this
   | 1,hj =>
     obtain⟨u,h4,h5⟩:=q3 0 1 [.ref 0 0 0,.own m' 0 (l++t).length] (.own m' 0 (l++t).length) (by simp[useB]) rfl
     injection hj with hj;subst hj
     exact⟨u,h4,fun h=>by simp[useB] at h,own_back h5.2.1,h5.2.2⟩
   | j+2,hj=>simp at hj
 ·rw[hGid,←hG0']
  exact k.inv.apart 0 _ he0
 ·intro j c hj hne
  rw[hGid]
  by_cases hjn:j=nx
  ·subst hjn
   simp only[zQ]
   rw[←hG0']
   exact fun he'=>hm0 (k.inv.inj m' 0 _ _ hem he0 he')
  ·rw[zp _ _ _ _ hjn] at hj ⊢
   obtain⟨a1,a2⟩:=hsub j c hj
   exact fun he'=>hne (hi.inj j id c b a1 hb he')
end
end Go.AM
