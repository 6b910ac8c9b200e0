/-
Library functions on strings, off the kit's shelf, at this program (written after what the kit's tool prints): Index, Count, Trim, TrimLeft, IndexByte, Atoi.
Functions of package strings on lists of bytes: Index, Count, Contains, Cut, HasPrefix, CutPrefix, Split, Trim, TrimLeft, IndexByte.
strings.Split at a separator that is not empty.
Numbers and parts of versions: allDigits, whole, versionNumber, isPre, CheckVersion, open.
Versions: their cells, CheckVersion, ReadVersion.
-/
import Derived.Shelf.Strings.Search2
import Derived.Shelf.Strings.Split
import Derived.Shelf.Strings.Trim
import Derived.Shelf.Strconv.Atoi
import Derived.Ground.Names2Prog
import Derived.Test.YtanbabpnlgfcpaaGreatDoorProg
import Derived.Test.YtanbabpnlgfcpaaGreatDoorG10
import Derived.Lib.Split
import Derived.Test.YtanbabpnlgfcpaaGreatDoorG11
set_option maxRecDepth 8000
namespace Go.Proofs
open Go.Shelf
def Tryz.lays161_ren:Go.Shelf.Ren:=⟨fun | 161=>236 | 231=>160 | 227=>162 | 233=>163 | 235=>165 | 228=>196 | 197=>197 | 151=>198 | 260=>215 | 152=>216 | 137=>237 | 119=>238 | 224=>194 | 225=>193 | 217=>192 | 266=>213 | n=>n,fun | 9=>9 | 4=>4 | 3=>3 | 5=>5 | 117=>226 | 116=>225 | 0=>0 | 124=>229 | 105=>257 | 21=>21 | 119=>288 | 46=>154 | 139=>291 | 138=>290 | n=>n,fun | 3=>1 | 4=>2 | n=>n⟩
theorem Tryz.lays161:Go.Proofs.Lays.n161 prog Tryz.lays161_ren:={
 mixed:=by kernel_rfl
 f119:=func238.trans (congrArg some (by kernel_rfl))
 f137:=func237.trans (congrArg some (by kernel_rfl))
 f151:=func198.trans (congrArg some (by kernel_rfl))
 f152:=func216.trans (congrArg some (by kernel_rfl))
 f161:=func236.trans (congrArg some (by kernel_rfl))
 f197:=func197.trans (congrArg some (by kernel_rfl))
 f217:=func192.trans (congrArg some (by kernel_rfl))
 f224:=func194.trans (congrArg some (by kernel_rfl))
 f225:=func193.trans (congrArg some (by kernel_rfl))
 f227:=func162.trans (congrArg some (by kernel_rfl))
 f228:=func196.trans (congrArg some (by kernel_rfl))
 f231:=func160.trans (congrArg some (by kernel_rfl))
 f233:=func163.trans (congrArg some (by kernel_rfl))
 f235:=func165.trans (congrArg some (by kernel_rfl))
 f260:=func215.trans (congrArg some (by kernel_rfl))
 f266:=func213.trans (congrArg some (by kernel_rfl))
 t0:=underlying0
 a0:=isAgg0
 z0:=sizeOf0
 v0:=zeroValue0
 t3:=underlying3
 a3:=isAgg3
 z3:=sizeOf3
 v3:=zeroValue3
 t4:=underlying4
 a4:=isAgg4
 z4:=sizeOf4
 v4:=zeroValue4
 t5:=underlying5
 a5:=isAgg5
 z5:=sizeOf5
 v5:=zeroValue5
 t9:=underlying9
 a9:=isAgg9
 z9:=sizeOf9
 v9:=zeroValue9
 t21:=underlying21
 a21:=isAgg21
 z21:=sizeOf21
 v21:=zeroValue21
 t46:=underlying154
 a46:=isAgg154
 z46:=sizeOf154
 v46:=zeroValue154
 t105:=underlying257
 a105:=isAgg257
 z105:=sizeOf257
 v105:=zeroValue257
 t116:=underlying225
 a116:=isAgg225
 z116:=sizeOf225
 t117:=underlying226
 a117:=isAgg226
 z117:=sizeOf226
 v117:=zeroValue226
 t119:=underlying288
 a119:=isAgg288
 z119:=sizeOf288
 t124:=underlying229
 a124:=isAgg229
 z124:=sizeOf229
 v124:=zeroValue229
 t138:=underlying290
 a138:=isAgg290
 z138:=sizeOf290
 v138:=zeroValue290
 t139:=underlying291
 a139:=isAgg291
 z139:=sizeOf291
 v139:=zeroValue291
 g3:=by kernel_rfl
 g4:=by kernel_rfl }
def Tryz.lays160_ren:Go.Shelf.Ren:=⟨fun | 160=>138 | 232=>161 | 231=>160 | 227=>162 | 234=>164 | 233=>163 | 236=>166 | 235=>165 | 228=>196 | 271=>199 | 151=>198 | 197=>197 | 120=>217 | 152=>216 | 260=>215 | 137=>237 | 119=>238 | 224=>194 | 225=>193 | 217=>192 | 266=>213 | n=>n,fun | 9=>9 | 4=>4 | 3=>3 | 5=>5 | 117=>226 | 116=>225 | 0=>0 | 124=>229 | 21=>21 | 105=>257 | 46=>154 | 119=>288 | 139=>291 | 138=>290 | n=>n,fun | 3=>1 | 4=>2 | n=>n⟩
theorem Tryz.lays160:Go.Proofs.Lays.n160 prog Tryz.lays160_ren:={
 mixed:=by kernel_rfl
 f119:=func238.trans (congrArg some (by kernel_rfl))
 f120:=func217.trans (congrArg some (by kernel_rfl))
 f137:=func237.trans (congrArg some (by kernel_rfl))
 f151:=func198.trans (congrArg some (by kernel_rfl))
 f152:=func216.trans (congrArg some (by kernel_rfl))
 f160:=func138.trans (congrArg some (by kernel_rfl))
 f197:=func197.trans (congrArg some (by kernel_rfl))
 f217:=func192.trans (congrArg some (by kernel_rfl))
 f224:=func194.trans (congrArg some (by kernel_rfl))
 f225:=func193.trans (congrArg some (by kernel_rfl))
 f227:=func162.trans (congrArg some (by kernel_rfl))
 f228:=func196.trans (congrArg some (by kernel_rfl))
 f231:=func160.trans (congrArg some (by kernel_rfl))
 f232:=func161.trans (congrArg some (by kernel_rfl))
 f233:=func163.trans (congrArg some (by kernel_rfl))
 f234:=func164.trans (congrArg some (by kernel_rfl))
 f235:=func165.trans (congrArg some (by kernel_rfl))
 f236:=func166.trans (congrArg some (by kernel_rfl))
 f260:=func215.trans (congrArg some (by kernel_rfl))
 f266:=func213.trans (congrArg some (by kernel_rfl))
 f271:=func199.trans (congrArg some (by kernel_rfl))
 t0:=underlying0
 a0:=isAgg0
 z0:=sizeOf0
 v0:=zeroValue0
 t3:=underlying3
 a3:=isAgg3
 z3:=sizeOf3
 v3:=zeroValue3
 t4:=underlying4
 a4:=isAgg4
 z4:=sizeOf4
 v4:=zeroValue4
 t5:=underlying5
 a5:=isAgg5
 z5:=sizeOf5
 v5:=zeroValue5
 t9:=underlying9
 a9:=isAgg9
 z9:=sizeOf9
 v9:=zeroValue9
 t21:=underlying21
 a21:=isAgg21
 z21:=sizeOf21
 v21:=zeroValue21
 t46:=underlying154
 a46:=isAgg154
 z46:=sizeOf154
 v46:=zeroValue154
 t105:=underlying257
 a105:=isAgg257
 z105:=sizeOf257
 v105:=zeroValue257
 t116:=underlying225
 a116:=isAgg225
 z116:=sizeOf225
 t117:=underlying226
 a117:=isAgg226
 z117:=sizeOf226
 v117:=zeroValue226
 t119:=underlying288
 a119:=isAgg288
 z119:=sizeOf288
 t124:=underlying229
 a124:=isAgg229
 z124:=sizeOf229
 v124:=zeroValue229
 t138:=underlying290
 a138:=isAgg290
 z138:=sizeOf290
 v138:=zeroValue290
 t139:=underlying291
 a139:=isAgg291
 z139:=sizeOf291
 v139:=zeroValue291
 g3:=by kernel_rfl
 g4:=by kernel_rfl }
def Tryz.lays172_ren:Go.Shelf.Ren:=⟨fun | 172=>170 | 244=>202 | 245=>203 | 247=>220 | 279=>221 | 280=>222 | 281=>223 | 282=>224 | 287=>239 | 316=>240 | 171=>242 | 205=>241 | 321=>248 | 322=>249 | 243=>250 | 246=>252 | 283=>253 | 284=>254 | 285=>255 | 286=>256 | 129=>235 | 317=>257 | 318=>258 | 319=>259 | 320=>260 | 337=>261 | 338=>262 | n=>n,fun | 9=>9 | 3=>3 | 75=>232 | 76=>233 | 4=>4 | 5=>5 | 167=>273 | 37=>274 | 0=>0 | 85=>275 | 2=>2 | 168=>277 | 53=>123 | 175=>293 | 46=>154 | 210=>297 | 127=>307 | 145=>310 | 143=>308 | 21=>21 | 171=>314 | 173=>316 | 212=>319 | 51=>268 | 20=>20 | 213=>320 | 232=>321 | 233=>322 | 80=>323 | n=>n,fun | 15=>3 | 16=>4 | 17=>5 | 18=>6 | 19=>7 | n=>n⟩
theorem Tryz.lays172:Go.Proofs.Lays.n172 prog Tryz.lays172_ren:={
 mixed:=by kernel_rfl
 f129:=func235.trans (congrArg some (by kernel_rfl))
 f171:=func242.trans (congrArg some (by kernel_rfl))
 f172:=func170.trans (congrArg some (by kernel_rfl))
 f205:=func241.trans (congrArg some (by kernel_rfl))
 f243:=func250.trans (congrArg some (by kernel_rfl))
 f244:=func202.trans (congrArg some (by kernel_rfl))
 f245:=func203.trans (congrArg some (by kernel_rfl))
 f246:=func252.trans (congrArg some (by kernel_rfl))
 f247:=func220.trans (congrArg some (by kernel_rfl))
 f279:=func221.trans (congrArg some (by kernel_rfl))
 f280:=func222.trans (congrArg some (by kernel_rfl))
 f281:=func223.trans (congrArg some (by kernel_rfl))
 f282:=func224.trans (congrArg some (by kernel_rfl))
 f283:=func253.trans (congrArg some (by kernel_rfl))
 f284:=func254.trans (congrArg some (by kernel_rfl))
 f285:=func255.trans (congrArg some (by kernel_rfl))
 f286:=func256.trans (congrArg some (by kernel_rfl))
 f287:=func239.trans (congrArg some (by kernel_rfl))
 f316:=func240.trans (congrArg some (by kernel_rfl))
 f317:=func257.trans (congrArg some (by kernel_rfl))
 f318:=func258.trans (congrArg some (by kernel_rfl))
 f319:=func259.trans (congrArg some (by kernel_rfl))
 f320:=func260.trans (congrArg some (by kernel_rfl))
 f321:=func248.trans (congrArg some (by kernel_rfl))
 f322:=func249.trans (congrArg some (by kernel_rfl))
 f337:=func261.trans (congrArg some (by kernel_rfl))
 f338:=func262.trans (congrArg some (by kernel_rfl))
 t0:=underlying0
 a0:=isAgg0
 z0:=sizeOf0
 v0:=zeroValue0
 t2:=underlying2
 a2:=isAgg2
 z2:=sizeOf2
 v2:=zeroValue2
 t3:=underlying3
 a3:=isAgg3
 z3:=sizeOf3
 v3:=zeroValue3
 t4:=underlying4
 a4:=isAgg4
 z4:=sizeOf4
 v4:=zeroValue4
 t5:=underlying5
 a5:=isAgg5
 z5:=sizeOf5
 v5:=zeroValue5
 t9:=underlying9
 a9:=isAgg9
 z9:=sizeOf9
 v9:=zeroValue9
 t20:=underlying20
 a20:=isAgg20
 z20:=sizeOf20
 v20:=zeroValue20
 t21:=underlying21
 a21:=isAgg21
 z21:=sizeOf21
 v21:=zeroValue21
 t37:=underlying274
 a37:=isAgg274
 z37:=sizeOf274
 v37:=zeroValue274
 t46:=underlying154
 a46:=isAgg154
 z46:=sizeOf154
 v46:=zeroValue154
 t51:=underlying268
 a51:=isAgg268
 z51:=sizeOf268
 v51:=zeroValue268
 t53:=underlying123
 a53:=isAgg123
 z53:=sizeOf123
 v53:=zeroValue123
 t75:=underlying232
 a75:=isAgg232
 z75:=sizeOf232
 v75:=zeroValue232
 t76:=underlying233
 a76:=isAgg233
 z76:=sizeOf233
 v76:=zeroValue233
 t85:=underlying275
 a85:=isAgg275
 z85:=sizeOf275
 v85:=zeroValue275
 t127:=underlying307
 a127:=isAgg307
 z127:=sizeOf307
 v127:=zeroValue307
 t143:=underlying308
 a143:=isAgg308
 z143:=sizeOf308
 v143:=zeroValue308
 t145:=underlying310
 a145:=isAgg310
 z145:=sizeOf310
 v145:=zeroValue310
 t167:=underlying273
 a167:=isAgg273
 z167:=sizeOf273
 v167:=zeroValue273
 t168:=underlying277
 a168:=isAgg277
 z168:=sizeOf277
 v168:=zeroValue277
 t171:=underlying314
 a171:=isAgg314
 z171:=sizeOf314
 v171:=zeroValue314
 t173:=underlying316
 a173:=isAgg316
 z173:=sizeOf316
 v173:=zeroValue316
 t175:=underlying293
 a175:=isAgg293
 z175:=sizeOf293
 v175:=zeroValue293
 t210:=underlying297
 a210:=isAgg297
 z210:=sizeOf297
 v210:=zeroValue297
 t212:=underlying319
 a212:=isAgg319
 z212:=sizeOf319
 v212:=zeroValue319
 t213:=underlying320
 a213:=isAgg320
 z213:=sizeOf320
 t232:=underlying321
 a232:=isAgg321
 z232:=sizeOf321
 v232:=zeroValue321
 t233:=underlying322
 a233:=isAgg322
 z233:=sizeOf322
 v233:=zeroValue322
 g15:=by kernel_rfl
 g16:=by kernel_rfl
 g17:=by kernel_rfl
 g18:=by kernel_rfl
 g19:=by kernel_rfl }
def Tryz.lays219_ren:Go.Shelf.Ren:=⟨fun | 219=>159 | 217=>192 | 225=>193 | 224=>194 | 267=>195 | 266=>213 | 314=>214 | n=>n,fun | 9=>9 | 3=>3 | 4=>4 | 5=>5 | 46=>154 | 146=>269 | 51=>268 | n=>n,fun | 1=>0 | n=>n⟩
theorem Tryz.lays219:Go.Proofs.Lays.n219 prog Tryz.lays219_ren:={
 mixed:=by kernel_rfl
 f217:=func192.trans (congrArg some (by kernel_rfl))
 f219:=func159.trans (congrArg some (by kernel_rfl))
 f224:=func194.trans (congrArg some (by kernel_rfl))
 f225:=func193.trans (congrArg some (by kernel_rfl))
 f266:=func213.trans (congrArg some (by kernel_rfl))
 f267:=func195.trans (congrArg some (by kernel_rfl))
 f314:=func214.trans (congrArg some (by kernel_rfl))
 t3:=underlying3
 a3:=isAgg3
 z3:=sizeOf3
 v3:=zeroValue3
 t4:=underlying4
 a4:=isAgg4
 z4:=sizeOf4
 v4:=zeroValue4
 t5:=underlying5
 a5:=isAgg5
 z5:=sizeOf5
 v5:=zeroValue5
 t9:=underlying9
 a9:=isAgg9
 z9:=sizeOf9
 v9:=zeroValue9
 t46:=underlying154
 a46:=isAgg154
 z46:=sizeOf154
 v46:=zeroValue154
 t51:=underlying268
 a51:=isAgg268
 z51:=sizeOf268
 v51:=zeroValue268
 t146:=underlying269
 a146:=isAgg269
 z146:=sizeOf269
 v146:=zeroValue269
 g1:=by kernel_rfl }
def Tryz.lays138_ren:Go.Shelf.Ren:=⟨fun | 138=>201 | 195=>218 | 218=>219 | 143=>137 | 219=>159 | 217=>192 | 225=>193 | 224=>194 | 267=>195 | 266=>213 | 314=>214 | n=>n,fun | 9=>9 | 3=>3 | 4=>4 | 5=>5 | 0=>0 | 46=>154 | 146=>269 | 51=>268 | n=>n,fun | 1=>0 | n=>n⟩
theorem Tryz.lays138:Go.Proofs.Lays.n138 prog Tryz.lays138_ren:={
 mixed:=by kernel_rfl
 f138:=func201.trans (congrArg some (by kernel_rfl))
 f143:=func137.trans (congrArg some (by kernel_rfl))
 f195:=func218.trans (congrArg some (by kernel_rfl))
 f217:=func192.trans (congrArg some (by kernel_rfl))
 f218:=func219.trans (congrArg some (by kernel_rfl))
 f219:=func159.trans (congrArg some (by kernel_rfl))
 f224:=func194.trans (congrArg some (by kernel_rfl))
 f225:=func193.trans (congrArg some (by kernel_rfl))
 f266:=func213.trans (congrArg some (by kernel_rfl))
 f267:=func195.trans (congrArg some (by kernel_rfl))
 f314:=func214.trans (congrArg some (by kernel_rfl))
 t0:=underlying0
 a0:=isAgg0
 z0:=sizeOf0
 v0:=zeroValue0
 t3:=underlying3
 a3:=isAgg3
 z3:=sizeOf3
 v3:=zeroValue3
 t4:=underlying4
 a4:=isAgg4
 z4:=sizeOf4
 v4:=zeroValue4
 t5:=underlying5
 a5:=isAgg5
 z5:=sizeOf5
 v5:=zeroValue5
 t9:=underlying9
 a9:=isAgg9
 z9:=sizeOf9
 v9:=zeroValue9
 t46:=underlying154
 a46:=isAgg154
 z46:=sizeOf154
 v46:=zeroValue154
 t51:=underlying268
 a51:=isAgg268
 z51:=sizeOf268
 v51:=zeroValue268
 t146:=underlying269
 a146:=isAgg269
 z146:=sizeOf269
 v146:=zeroValue269
 g1:=by kernel_rfl }
end Go.Proofs
namespace Go.Proofs.YtanbabpnlgfcpaaGreatDoor
open Go.Proofs.Tryz
open Go.RowKit Go.AM
noncomputable def FTT (f:List UInt8→List UInt8→PV) (pre:List UInt8→List UInt8→Prop):List PV→Option PV:=zG (α:=List UInt8×List UInt8) (fun a=>[str a.1,str a.2]) (fun a=>a.1.length≤lim∧a.2.length≤lim∧pre a.1 a.2) (fun a=>f a.1 a.2)
theorem ss_inj:∀a b:List UInt8×List UInt8,[str a.1,str a.2]=[str b.1,str b.2]→a=b:=by
 rintro⟨a1,a2⟩ ⟨b1,b2⟩ e
 simp only[List.cons.injEq,and_true] at e
 rw[zM e.1,zM e.2]
theorem ww (f:List UInt8→List UInt8→PV) (pre:List UInt8→List UInt8→Prop) (a b:List UInt8) (hp:Hp) (nx:Nat) (h:a.length≤lim) (h2:b.length≤lim) (h3:pre a b) (hf:(f a b).flat=true):zc false [] (FTT f pre) [str a,str b] hp nx=some (f a b,hp,nx) :=
 zt rfl (zn (enc:=fun a:List UInt8×List UInt8=>[str a.1,str a.2]) (a:=(a,b)) ss_inj ⟨h,h2,h3⟩) (.inl hf)
theorem wq {f:List UInt8→List UInt8→PV} {pre:List UInt8→List UInt8→Prop} {args:List PV} {r:PV} (h:FTT f pre args=some r):∃a b,args=[str a,str b]∧a.length≤lim∧b.length≤lim∧pre a b∧r=f a b:=by
 obtain⟨⟨a,b⟩,rfl,⟨h1,h2,h3⟩,rfl⟩:=zf h
 exact⟨a,b,rfl,h1,h2,h3,rfl⟩
theorem intVarM:IntVar prog 0:=by
 refine⟨of_decide_eq_true (by kernel_rfl),#[.int .i64 0],3,by kernel_rfl,rfl,by kernel_rfl,by kernel_rfl,by kernel_rfl⟩
def idxP (a b:List UInt8):PV:=int (Lib.index a b)
def cntP (a b:List UInt8):PV:=int (Lib.count a b)
theorem index_sound:za prog 159 (zc false [] (FTT idxP fun _ _=>True)) :=
 wD ⟨_,func159,by kernel_rfl,by kernel_rfl⟩ fun args r h=>by
  obtain⟨a,b,rfl,h1,h2,_,rfl⟩:=wq h
  unfold lim at h1 h2
  refine⟨[.string ⟨a.toArray⟩,.string ⟨b.toArray⟩],rfl,by simp[lit],rfl,.int .i64 (Lib.index a b),fun w S=>.v rfl,fun w S hg=>?_⟩
  obtain⟨_,m,hm⟩:=hg.1 0 intVarM
  refine (Any.stringslite_Index Tryz.lays219 ⟨a.toArray⟩ ⟨b.toArray⟩ m w (by simp;omega) hm).mono fun e w' hh=>?_
  obtain⟨rfl,rfl⟩:=hh
  exact⟨by simp,Fr.refl _ _⟩
theorem sCount_sound:za prog 201 (zc false [] (FTT cntP fun _ b=>1≤b.length)) :=
 wD ⟨_,func201,by kernel_rfl,by kernel_rfl⟩ fun args r h=>by
  obtain⟨a,b,rfl,h1,h2,h3,rfl⟩:=wq h
  unfold lim at h1 h2
  refine⟨[.string ⟨a.toArray⟩,.string ⟨b.toArray⟩],rfl,by simp[lit],rfl,.int .i64 (Lib.count a b),fun w S=>.v rfl,fun w S hg=>?_⟩
  obtain⟨_,m,hm⟩:=hg.1 0 intVarM
  refine (Any.strings_Count_any Tryz.lays138 ⟨a.toArray⟩ ⟨b.toArray⟩ m w (by simp;omega) hm (by simpa using h3)).mono fun e w' hh=>?_
  obtain⟨rfl,rfl⟩:=hh
  exact⟨by simp[Lib.countB],Fr.refl _ _⟩
noncomputable abbrev Ci:Ctx:=zA prog [(159,zc false [] (FTT idxP fun _ _=>True))]
theorem goodi:AM.Good Ci (fun g=>[159].contains g):=zk mixed ⟨index_sound,fun _=>zg _ _,trivial⟩
theorem vD (a b:List UInt8) (hp:Hp) (nx:Nat) (h:a.length≤lim) (h2:b.length≤lim):zc false [] (FTT idxP fun _ _=>True) [str a,str b] hp nx=some (int (Lib.index a b),hp,nx):=ww _ _ a b hp nx h h2 trivial rfl
theorem sIndex_sound:za prog 137 (zc false [] (FTT idxP fun _ _=>True)) :=
 zJ (fn:=f137) goodi ⟨_,func137,by kernel_rfl,rfl,by kernel_rfl⟩ false [] _ fun args r h=>by
  obtain⟨a,b,rfl,h1,h2,_,rfl⟩:=wq h
  exact⟨by simp[f137],_,zb rfl (by simp[vD,h1,h2,idxP,f137]),zI _⟩
noncomputable abbrev Ci2:Ctx:=zA prog [(137,zc false [] (FTT idxP fun _ _=>True)),(201,zc false [] (FTT cntP fun _ b=>1≤b.length))]
theorem goodi2:AM.Good Ci2 (fun g=>[137].contains g):=zk mixed ⟨sIndex_sound,fun _=>zg _ _,sCount_sound,fun _=>zg _ _,trivial⟩
def hasP (a b:List UInt8):PV:=boo (Lib.contains a b)
theorem xa:za prog 119 (zc false [] (FTT hasP fun _ _=>True)) :=
 zJ (fn:=f119) goodi2 ⟨_,func119,by kernel_rfl,rfl,by kernel_rfl⟩ false [] _ fun args r h=>by
  obtain⟨a,b,rfl,h1,h2,_,rfl⟩:=wq h
  exact⟨by simp[f119],_,zb rfl (by simp[vD,h1,h2,hasP,Lib.contains,f119]),zI _⟩
def cutP (a b:List UInt8):PV:=.tup [str (Lib.cut a b).1,str (Lib.cut a b).2.1,boo (Lib.cut a b).2.2]
theorem cut_eval (a b:List UInt8) (h1:a.length≤lim) (h2:b.length≤lim):zi Ci f167 [str a,str b]=some (cutP a b):=by
 refine zb rfl ?_
 unfold lim at h1 h2
 by_cases h:0≤Lib.index a b
 ·have hr:=Lib.index_room a b h
  have hc:Lib.cut a b=(a.take (Lib.index a b).toNat,a.drop ((Lib.index a b).toNat+b.length),true):=by unfold Lib.cut;rw[if_pos h]
  have w1:IntKind.i64.wrap (Lib.index a b+b.length)=Lib.index a b+b.length:=zd (by omega) (by omega)
  have e1:(Lib.index a b+b.length).toNat=(Lib.index a b).toNat+b.length:=by omega
  have e2:0≤Lib.index a b+b.length:=by omega
  have e3:(Lib.index a b).toNat≤a.length:=by omega
  have e4:(Lib.index a b).toNat+b.length≤a.length:=by omega
  simp[vD,lim,h1,h2,h,w1,e1,e2,e3,e4,cutP,hc,zU,f167]
  rw[List.take_of_length_le (by simp)]
 ·have hc:Lib.cut a b=(a,[],false):=by unfold Lib.cut;rw[if_neg h]
  simp[vD,lim,h1,h2,h,cutP,hc,zU,f167]
theorem cut_sound:za prog 167 (zc false [] (FTT cutP fun _ _=>True)) :=
 zJ (fn:=f167) goodi ⟨_,func167,by kernel_rfl,rfl,by kernel_rfl⟩ false [] _ fun args r h=>by
  obtain⟨a,b,rfl,h1,h2,_,rfl⟩:=wq h
  exact⟨by simp[f167],_,cut_eval a b h1 h2,zI _⟩
def hpP (a b:List UInt8):PV:=boo (b.isPrefixOf a)
theorem prefix_take (a b:List UInt8):(decide (b.length≤a.length)&&(a.take b.length==b))=b.isPrefixOf a:=by
 rw[Bool.eq_iff_iff]
 simp only[Bool.and_eq_true,decide_eq_true_eq,beq_iff_eq,List.isPrefixOf_iff_prefix]
 constructor
 ·rintro⟨_,h⟩;exact List.prefix_iff_eq_take.2 h.symm
 ·intro h;exact⟨h.length_le,(List.prefix_iff_eq_take.1 h).symm⟩
noncomputable abbrev Cw0:Ctx:=zA prog []
theorem goodw0:AM.Good Cw0 (fun g=>([]:List Nat).contains g):=zk mixed trivial
theorem hasPrefix0_eval (a b:List UInt8):zi Cw0 f135 [str a,str b]=some (hpP a b):=by
 refine zb rfl ?_
 have hp:=prefix_take a b
 by_cases h:b.length≤a.length
 ·rw[decide_eq_true h,Bool.true_and] at hp
  simp[h,hpP,←hp,f135]
 ·rw[decide_eq_false h,Bool.false_and] at hp
  have h':¬((b.length:Int)≤a.length):=by omega
  simp[h,h',hpP,←hp,f135]
theorem hasPrefix0_sound:za prog 135 (zc false [] (FTT hpP fun _ _=>True)) :=
 zJ (fn:=f135) goodw0 ⟨_,func135,by kernel_rfl,rfl,by kernel_rfl⟩ false [] _ fun args r h=>by
  obtain⟨a,b,rfl,h1,h2,_,rfl⟩:=wq h
  exact⟨by simp[f135],_,hasPrefix0_eval a b,zI _⟩
noncomputable abbrev Cw1:Ctx:=zA prog [(135,zc false [] (FTT hpP fun _ _=>True)),(167,zc false [] (FTT cutP fun _ _=>True))]
theorem goodw1:AM.Good Cw1 (fun g=>[135].contains g):=zk mixed ⟨hasPrefix0_sound,fun _=>zg _ _,cut_sound,fun _=>zg _ _,trivial⟩
theorem hp_call (a b:List UInt8) (hp:Hp) (nx:Nat) (h:a.length≤lim) (h2:b.length≤lim):zc false [] (FTT hpP fun _ _=>True) [str a,str b] hp nx=some (boo (b.isPrefixOf a),hp,nx):=ww _ _ a b hp nx h h2 trivial rfl
theorem cut_call (a b:List UInt8) (hp:Hp) (nx:Nat) (h:a.length≤lim) (h2:b.length≤lim):zc false [] (FTT cutP fun _ _=>True) [str a,str b] hp nx=some (.tup [str (Lib.cut a b).1,str (Lib.cut a b).2.1,boo (Lib.cut a b).2.2],hp,nx):=ww _ _ a b hp nx h h2 trivial rfl
theorem hasPrefix_sound:za prog 117 (zc false [] (FTT hpP fun _ _=>True)) :=
 zJ (fn:=f117) goodw1 ⟨_,func117,by kernel_rfl,rfl,by kernel_rfl⟩ false [] _ fun args r h=>by
  obtain⟨a,b,rfl,h1,h2,_,rfl⟩:=wq h
  exact⟨by simp[f117],_,zb rfl (by simp[hp_call,h1,h2,hpP,f117]),zI _⟩
theorem sCut_sound:za prog 139 (zc false [] (FTT cutP fun _ _=>True)) :=
 zJ (fn:=f139) goodw1 ⟨_,func139,by kernel_rfl,rfl,by kernel_rfl⟩ false [] _ fun args r h=>by
  obtain⟨a,b,rfl,h1,h2,_,rfl⟩:=wq h
  exact⟨by simp[f139],_,zb rfl (by simp[cut_call,h1,h2,cutP,zU,f139]),zI _⟩
def cpP (a b:List UInt8):PV:=.tup [str (if b.isPrefixOf a then a.drop b.length else a),boo (b.isPrefixOf a)]
theorem cutPrefix0_eval (a b:List UInt8) (h1:a.length≤lim) (h2:b.length≤lim):zi Cw1 f225 [str a,str b]=some (cpP a b):=by
 refine zb rfl ?_
 cases h:b.isPrefixOf a
 ·simp[hp_call,h1,h2,h,cpP,zU,f225]
 ·have hl:=(List.isPrefixOf_iff_prefix.1 h).length_le
  simp[hp_call,h1,h2,h,hl,cpP,zU,f225]
  rw[List.take_of_length_le (by simp)]
theorem cutPrefix0_sound:za prog 225 (zc false [] (FTT cpP fun _ _=>True)) :=
 zJ (fn:=f225) goodw1 ⟨_,func225,by kernel_rfl,rfl,by kernel_rfl⟩ false [] _ fun args r h=>by
  obtain⟨a,b,rfl,h1,h2,_,rfl⟩:=wq h
  exact⟨by simp[f225],_,cutPrefix0_eval a b h1 h2,zI _⟩
noncomputable abbrev Cw2:Ctx:=zA prog [(225,zc false [] (FTT cpP fun _ _=>True))]
theorem goodw2:AM.Good Cw2 (fun g=>([]:List Nat).contains g):=zk mixed ⟨cutPrefix0_sound,fun _=>zg _ _,trivial⟩
theorem cp_call (a b:List UInt8) (hp:Hp) (nx:Nat) (h:a.length≤lim) (h2:b.length≤lim):zc false [] (FTT cpP fun _ _=>True) [str a,str b] hp nx=some (.tup [str (if b.isPrefixOf a then a.drop b.length else a),boo (b.isPrefixOf a)],hp,nx):=ww _ _ a b hp nx h h2 trivial rfl
theorem cutPrefix_sound:za prog 205 (zc false [] (FTT cpP fun _ _=>True)) :=
 zJ (fn:=f205) goodw2 ⟨_,func205,by kernel_rfl,rfl,by kernel_rfl⟩ false [] _ fun args r h=>by
  obtain⟨a,b,rfl,h1,h2,_,rfl⟩:=wq h
  exact⟨by simp[f205],_,zb rfl (by simp[cp_call,h1,h2,cpP,zU,f205]),zI _⟩
def tlP (a b:List UInt8):PV:=str (Lib.trimLeftB a (b.headD 0))
def tbP (a b:List UInt8):PV:=str (Lib.trimB a (b.headD 0))
def one7 (b:List UInt8):Prop:=∃c:UInt8,b=[c]∧c.toNat<128
theorem trimLeft_sound:za prog 236 (zc false [] (FTT tlP fun _ b=>one7 b)) :=
 wD ⟨_,func236,by kernel_rfl,by kernel_rfl⟩ fun args r h=>by
  obtain⟨a,b,rfl,h1,h2,⟨c,rfl,hc⟩,rfl⟩:=wq h
  refine⟨[.string ⟨a.toArray⟩,.string ⟨#[c]⟩],rfl,by simp[lit],rfl,.string ⟨(Lib.trimLeftB a c).toArray⟩,fun w S=>.v rfl,fun w S _=>?_⟩
  refine (Any.strings_TrimLeft_one Tryz.lays161 ⟨a.toArray⟩ c hc w).mono fun e w' hh=>?_
  obtain⟨rfl,rfl⟩:=hh
  exact⟨by simp,Fr.refl _ _⟩
theorem sTrim_sound:za prog 138 (zc false [] (FTT tbP fun _ b=>one7 b)) :=
 wD ⟨_,func138,by kernel_rfl,by kernel_rfl⟩ fun args r h=>by
  obtain⟨a,b,rfl,h1,h2,⟨c,rfl,hc⟩,rfl⟩:=wq h
  unfold lim at h1
  refine⟨[.string ⟨a.toArray⟩,.string ⟨#[c]⟩],rfl,by simp[lit],rfl,.string ⟨(Lib.trimB a c).toArray⟩,fun w S=>.v rfl,fun w S _=>?_⟩
  refine (Any.strings_Trim_one Tryz.lays160 ⟨a.toArray⟩ c hc w (by simp;omega)).mono fun e w' hh=>?_
  obtain⟨rfl,rfl | rfl⟩:=hh
  ·exact⟨by simp,Fr.refl _ _⟩
  ·exact⟨by simp,Fr.drew _ _⟩
def srow (done:List (List UInt8)) (k:Nat):List (List PV):=done.map (fun p=>[str p])++List.replicate k [str []]
theorem srow_set (done:List (List UInt8)) (k:Nat) (p:List UInt8):(srow done (k+1)).set done.length [str p]=srow (done++[p]) k:=by
 unfold srow
 rw[List.set_append_right _ _ (by simp)]
 simp[List.replicate_succ]
theorem srow_get (done:List (List UInt8)) (k:Nat):(srow done (k+1))[done.length]?=some [str []]:=by
 unfold srow
 rw[List.getElem?_append_right (by simp)]
 simp[List.replicate_succ]
theorem srow_full (done:List (List UInt8)):srow done 0=done.map fun p=>[str p]:=by simp[srow]
def zO (s sep:List UInt8):List (List UInt8):=Lib.split s sep
theorem splitK_hit {sep s:List UInt8} {i k:Nat} (h:Lib.index s sep=i):Lib.splitK sep 0 (k+1) s=s.take i::Lib.splitK sep 0 k (s.drop (i+sep.length)):=by
 have h1:¬(Lib.index s sep==-1)=true:=by rw[beq_iff_eq];omega
 rw[Lib.splitK,if_neg h1,h]
 simp
theorem count_len {s sep:List UInt8} (h:sep≠[]):Lib.count s sep≤s.length:=by
 have:=Lib.countB_le ⟨sep.toArray⟩ (by cases sep<;>simp_all) s.length ⟨s.toArray⟩ (by simp)
 simpa[Lib.countB] using this
theorem cnt_call (a b:List UInt8) (hp:Hp) (nx:Nat) (h:a.length≤lim) (h2:b.length≤lim) (h3:1≤b.length):zc false [] (FTT cntP fun _ b=>1≤b.length) [str a,str b] hp nx=some (int (Lib.count a b),hp,nx):=ww _ _ a b hp nx h h2 h3 rfl
def blkT (xs:List (List UInt8)):Blk:=⟨9,1,true,xs.map fun p=>[str p]⟩
theorem genSplit_eval (s sep:List UInt8) (h1:s.length≤lim) (h2:sep.length≤lim) (h3:1≤sep.length) :
  ∃x hp nx,wu Ci2 f168 [str s,str sep,int 0,int (-1)] (fun _=>none) 0=some (x,hp,nx)∧OwnR (some (blkT (zO s sep))) x hp nx:=by
 have hne:sep≠[]:=by intro e;subst e;simp at h3
 have hcl:=count_len (s:=s) hne
 unfold lim at h1 h2
 refine evalFuncR_of rfl ?_
 have hse:(sep==[])=false:=by simpa using hne
 have w1:IntKind.i64.wrap ((Lib.count s sep:Int)+1)=(Lib.count s sep:Int)+1:=zd (by omega) (by omega)
 have w2:IntKind.i64.wrap ((s.length:Int)+1)=(s.length:Int)+1:=zd (by omega) (by omega)
 have w3:(if (s.length:Int)+1<(Lib.count s sep:Int)+1 then (s.length:Int)+1 else (Lib.count s sep:Int)+1)=(Lib.count s sep:Int)+1:=if_neg (by omega)
 have w4:IntKind.i64.wrap ((Lib.count s sep:Int)+1 - 1)=(Lib.count s sep:Int):=by rw[zd (by omega) (by omega)];omega
 have w5:IntKind.i64.wrap (Lib.count s sep:Int)=Lib.count s sep:=zd (by omega) (by omega)
 have c1:((Lib.count s sep:Int)+1).toNat=Lib.count s sep+1:=by omega
 have c2:0≤(Lib.count s sep:Int)+1:=by omega
 have c3:Lib.count s sep+1≤maxLen:=by simp[maxLen];omega
 have c4:(Lib.count s sep+1)*16≤140737488355328:=by omega
 have hcc:=fun hp nx=>cnt_call s sep hp nx (by unfold lim;omega) (by unfold lim;omega) h3
 have hnl:¬s.length<Lib.count s sep:=by omega
 have c5:(Lib.count s sep:Int)+1≤(maxLen:Int):=by simp[maxLen];omega
 simp[hse,hcc,w1,w2,hnl,w4,w5,y9,c1,c2,c5,c4]
 refine zC (fun j σ hp nx=>∃done cur,done.length=j∧σ 0=str cur∧σ 1=str sep∧σ 2=int 0∧σ 3=int (Lib.count s sep)∧σ 9=.own 0 0 (Lib.count s sep+1)∧σ 10=int j ∧
   hp 0=some ⟨9,1,true,srow done (Lib.count s sep+1 - j)⟩∧j+Lib.count cur sep=Lib.count s sep∧zO s sep=done++zO cur sep∧cur.length≤s.length) (Lib.count s sep)
  ⟨[],s,rfl,by simp,by simp,by simp,by simp[w5],by simp,by simp,by simp[srow],by simp,by simp,Nat.le_refl _⟩ ?_
 rintro j σ hp nx hj ⟨done,cur,hd,h0,g1,g2,g3,g9,g10,hb,hc,hs,hl⟩
 have hii:∀hp nx,zc false [] (FTT idxP fun _ _=>True) [str cur,str sep] hp nx=some (int (Lib.index cur sep),hp,nx):=fun hp nx=>vD cur sep hp nx (by unfold lim;omega) (by unfold lim;omega)
 by_cases hlt:j<Lib.count s sep
 ·have hm:Lib.index cur sep≠-1:=fun e=>by have:=Lib.count_miss e;omega
  have hge:0≤Lib.index cur sep:=by
   rcases Lib.index_spec cur sep with⟨h,_⟩ | ⟨i,h,_⟩
   ·exact absurd h hm
   ·omega
  obtain⟨i,hi⟩:∃i:Nat,Lib.index cur sep=i:=⟨(Lib.index cur sep).toNat,by omega⟩
  have hr:=Lib.index_room cur sep hge
  rw[hi] at hr hii
  have hch:=Lib.count_hit hne hi
  have hsk:zO cur sep=cur.take i::zO (cur.drop (i+sep.length)) sep:=by
   unfold zO Lib.split
   rw[hch,Nat.add_comm 1,splitK_hit hi]
  have k1:¬((i:Int)<0):=by omega
  have k2:IntKind.i64.wrap (i:Int)=i:=zd (by omega) (by omega)
  have k3:IntKind.i64.wrap ((i:Int)+sep.length)=(i:Int)+sep.length:=zd (by omega) (by omega)
  have k4:IntKind.i64.wrap ((j:Int)+1)=(j:Int)+1:=zd (by omega) (by omega)
  have k5:((i:Int)+sep.length).toNat=i+sep.length:=by omega
  have k6:i+sep.length≤cur.length:=by omega
  have k7:i≤cur.length:=by omega
  have k8:0≤(i:Int)+sep.length:=by omega
  have k9:j<Lib.count s sep+1:=by omega
  have hq:Lib.count s sep+1 - j=(Lib.count s sep - j)+1:=by omega
  have hg:=srow_get done (Lib.count s sep - j)
  rw[hd] at hg
  have hst:=srow_set done (Lib.count s sep - j) (cur.take i)
  rw[hd] at hst
  rw[hq] at hb
  simp[h0,g1,g2,g3,g9,g10,hb,hlt,hii,k1,k2,k3,k4,k5,k6,k7,k8,k9,hg,hst]
  have ht:List.take (cur.length - (i+sep.length)) (List.drop (i+sep.length) cur)=List.drop (i+sep.length) cur:=List.take_of_length_le (by simp)
  rw[ht]
  exact⟨by omega,done++[cur.take i],by simp[hd],rfl,by omega,by rw[hs,hsk];simp,by omega⟩
 ·obtain rfl:j=Lib.count s sep:=by omega
  have hz:Lib.count cur sep=0:=by omega
  have hsk:zO cur sep=[cur]:=by unfold zO Lib.split;rw[hz];rfl
  have hq:Lib.count s sep+1 - Lib.count s sep=0+1:=by omega
  have hg:=srow_get done 0
  have hst:=srow_set done 0 cur
  rw[hd] at hg hst
  rw[hq] at hb
  simp[h0,g1,g2,g3,g9,g10,hb,hg,hst,w1,w5,c1,c2,OwnR,wo,f168]
  rw[hs,hsk]
  exact⟨0,⟨by omega,by simp[blkT,hd]⟩,by simp[blkT,srow_full]⟩
noncomputable def FGs:List PV→Option (Option Blk):=zG (α:=List UInt8×List UInt8) (fun a=>[str a.1,str a.2,int 0,int (-1)]) (fun a=>a.1.length≤lim∧a.2.length≤lim∧1≤a.2.length) (fun a=>some (blkT (zO a.1 a.2)))
noncomputable def FSp:List PV→Option (Option Blk):=zG (α:=List UInt8×List UInt8) (fun a=>[str a.1,str a.2]) (fun a=>a.1.length≤lim∧a.2.length≤lim∧1≤a.2.length) (fun a=>some (blkT (zO a.1 a.2)))
theorem gs_inj:∀a b:List UInt8×List UInt8,[str a.1,str a.2,int 0,int (-1)]=[str b.1,str b.2,int 0,int (-1)]→a=b:=by
 rintro⟨a1,a2⟩ ⟨b1,b2⟩ e
 simp only[List.cons.injEq,and_true] at e
 rw[zM e.1,zM e.2]
theorem genSplit_sound:za prog 168 (wR [] FGs) :=
 kU (fn:=f168) (code:=_) goodi2 ⟨func168,by kernel_rfl,rfl,by kernel_rfl⟩ [] _ fun args r h=>by
  obtain⟨⟨a,b⟩,rfl,⟨h1,h2,h3⟩,rfl⟩:=zf h
  exact⟨by simp[f168],genSplit_eval a b h1 h2 h3⟩
theorem gs_call (a b:List UInt8) (hp:Hp) (nx:Nat) (h1:a.length≤lim) (h2:b.length≤lim) (h3:1≤b.length):wR [] FGs [str a,str b,int 0,int (-1)] hp nx=some (.own nx 0 (zO a b).length,upd hp nx (some (blkT (zO a b))),nx+1):=by
 have e:FGs (qG [] [str a,str b,int 0,int (-1)])=some (some (blkT (zO a b))):=zn (enc:=fun a:List UInt8×List UInt8=>[str a.1,str a.2,int 0,int (-1)]) (a:=(a,b)) gs_inj ⟨h1,h2,h3⟩
 simp[wR,e,blkT]
noncomputable abbrev Csp:Ctx:=zA prog [(168,wR [] FGs)]
theorem goodsp:AM.Good Csp (fun g=>([]:List Nat).contains g):=zk mixed ⟨genSplit_sound,by simp,trivial⟩
theorem xo:za prog 140 (wR [] FSp) :=
 kU (fn:=f140) (code:=_) goodsp ⟨func140,by kernel_rfl,rfl,by kernel_rfl⟩ [] _ fun args r h=>by
  obtain⟨⟨a,b⟩,rfl,⟨h1,h2,h3⟩,rfl⟩:=zf h
  have hc:=fun hp nx=>gs_call a b hp nx h1 h2 h3
  exact⟨by simp[f140],evalFuncR_of rfl (by simp[hc,OwnR,blkT,f140])⟩
theorem vE (a b:List UInt8) (hp:Hp) (nx:Nat) (h1:a.length≤lim) (h2:b.length≤lim) (h3:1≤b.length):wR [] FSp [str a,str b] hp nx=some (.own nx 0 (zO a b).length,upd hp nx (some (blkT (zO a b))),nx+1):=by
 have e:FSp (qG [] [str a,str b])=some (some (blkT (zO a b))):=zn (enc:=fun a:List UInt8×List UInt8=>[str a.1,str a.2]) (a:=(a,b)) ss_inj ⟨h1,h2,h3⟩
 simp[wR,e,blkT]
def digB (c:UInt8):Bool:=pr 48 57 c
def digs (l:List UInt8):Bool:=l.all digB
def wN (l:List UInt8):Bool:=!(l==[])&&!(decide (1<l.length)&&l.headD 0==48)&&digs l
def jQ (l:List UInt8):Bool:=l==[120]||l==[88]||l==[42]
def preC (c:UInt8):Bool:=pr 97 122 c||pr 65 90 c||pr 48 57 c||c==45
def preB (l:List UInt8):Bool:=l.all preC&&!(l==[])
theorem digs_drop {l:List UInt8} {k:Nat} (h:k<l.length):digs (l.drop k)=(digB l[k]&&digs (l.drop (k+1))):=all_drop h
theorem pres_drop {l:List UInt8} {k:Nat} (h:k<l.length):(l.drop k).all preC=(preC l[k]&&(l.drop (k+1)).all preC):=all_drop h
theorem allDigits_eval (l:List UInt8) (hl:l.length≤lim):zi C0 f173 [str l]=some (boo (digs l)):=by
 refine zb rfl ?_
 unfold lim at hl
 simp
 refine zC (fun k σ hp nx=>σ 0=str l∧σ 5=int l.length∧σ 6=int k∧digs l=digs (l.drop k)) l.length ⟨by simp,by simp,by simp,by simp⟩ ?_
 rintro k σ hp nx hk ⟨h0,h5,h6,he⟩
 by_cases hlt:k<l.length
 ·have hw:IntKind.i64.wrap ((k:Int)+1)=(k:Int)+1:=zd (by omega) (by omega)
  rw[digs_drop hlt] at he
  have ho:=pr_out 48 57 l[k]
  simp only[Int.cast_ofNat_Int] at ho
  cases hc:digB l[k]
  ·have he:digs l=false:=by rw[he,hc];rfl
   have hc':pr 48 57 l[k]=false:=hc
   simp[h0,h5,h6,hlt,he,ho,hc',f173]
  ·have hc':pr 48 57 l[k]=true:=hc
   simp[h0,h5,h6,hlt,ho,hc',hw]
   exact⟨hlt,by rw[he,hc];rfl⟩
 ·obtain rfl:k=l.length:=by omega
  have he:digs l=true:=by rw[he,List.drop_length];rfl
  simp[h0,h5,h6,he,f173]
theorem jo:za prog 173 (zc false [] (FS digs)) :=
 zJ (fn:=f173) wA ⟨_,func173,by kernel_rfl,rfl,by kernel_rfl⟩ false [] _ fun args r h=>by
  obtain⟨l,rfl,hp,rfl⟩:=zf h
  exact⟨by simp[f173],_,allDigits_eval l hp,zI _⟩
noncomputable abbrev Cdg:Ctx:=zA prog [(173,zc false [] (FS digs))]
theorem gooddg:AM.Good Cdg (fun g=>[173].contains g):=zk mixed ⟨jo,fun _=>zg _ _,trivial⟩
theorem whole_eval (l:List UInt8) (hl:l.length≤lim):zi Cdg f169 [str l]=some (boo (wN l)):=by
 refine zb rfl ?_
 have hd:=fun hp nx=>yM digs l hp nx hl
 cases l with
 | nil=>simp[wN,f169]
 | cons c l =>
   by_cases h1:0<l.length
   ·have h1':l≠[]:=by intro e;subst e;simp at h1
    have h4:(1:Int)<(l.length:Int)+1:=by omega
    by_cases h2:c=48
    ·subst h2
     simp[hd,h1,h1',h4,wN,f169]
    ·have h3:((c.toNat:Int)==48)=false:=by
      rw[beq_eq_false_iff_ne];intro e;apply h2;rw[←UInt8.toNat_inj];simp;omega
     simp[hd,h1,h1',h2,h3,h4,wN,f169]
   ·have h1':l=[]:=by cases l<;>simp_all
    subst h1'
    simp[hd,wN,f169]
theorem whole_sound:za prog 169 (zc false [] (FS wN)) :=
 zJ (fn:=f169) gooddg ⟨_,func169,by kernel_rfl,rfl,by kernel_rfl⟩ false [] _ fun args r h=>by
  obtain⟨l,rfl,hp,rfl⟩:=zf h
  exact⟨by simp[f169],_,whole_eval l hp,zI _⟩
theorem open_eval (l:List UInt8):zi C0 f179 [str l]=some (boo (jQ l)):=by
 refine zb rfl ?_
 cases h1:(l==[120])
 ·cases h2:(l==[88])
  ·simp[h1,h2,jQ,f179]
  ·simp[h1,h2,jQ,f179]
 ·simp[h1,jQ,f179]
theorem open_sound:za prog 179 (zc false [] (FS jQ)) :=
 zJ (fn:=f179) wA ⟨_,func179,by kernel_rfl,rfl,by kernel_rfl⟩ false [] _ fun args r h=>by
  obtain⟨l,rfl,hp,rfl⟩:=zf h
  exact⟨by simp[f179],_,open_eval l,zI _⟩
def numB (l:List UInt8):Int:=((Lib.decNat l).getD 0:Nat)
theorem kY:∀(l:List UInt8) (a:Nat),digs l=true→∃n,Lib.decFrom a l=some n∧n<(a+1)*10 ^ l.length
 | [],a,_=>⟨a,rfl,by simp⟩
 | c::l,a,h=>by
   simp only[digs,List.all_cons,Bool.and_eq_true] at h
   have hc:48≤c.toNat∧c.toNat≤57:=by have:=h.1;simpa[digB,pr] using this
   obtain⟨n,h1,h2⟩:=kY l (a*10+(c.toNat - 48)) h.2
   refine⟨n,?_,?_⟩
   ·simp only[Lib.decFrom,Lib.digitVal,hc,and_self,if_true]
    exact h1
   ·have h3:a*10+(c.toNat - 48)+1≤(a+1)*10:=by omega
    calc n<(a*10+(c.toNat - 48)+1)*10 ^ l.length:=h2
     _≤(a+1)*10*10 ^ l.length:=Nat.mul_le_mul_right _ h3
     _=(a+1)*10 ^ (c::l).length:=by rw[List.length_cons,Nat.pow_succ,Nat.mul_assoc,Nat.mul_comm 10]
theorem whole_ne {l:List UInt8} (h:wN l=true):l≠[]∧digs l=true:=by
 simp only[wN,Bool.and_eq_true] at h
 exact⟨by intro e;subst e;simp at h,h.2⟩
theorem atoi_whole {l:List UInt8} (h:wN l=true):Lib.atoi l=some (numB l):=by
 obtain⟨h1,h2⟩:=whole_ne h
 obtain⟨n,h3,_⟩:=kY l 0 h2
 have h4:Lib.decNat l=some n:=by
  unfold Lib.decNat
  rw[if_neg (by simpa using h1)]
  exact h3
 cases l with
 | nil=>exact absurd rfl h1
 | cons c l =>
   have hc:48≤c.toNat∧c.toNat≤57:=by
    have:=h2
    simp only[digs,List.all_cons,Bool.and_eq_true] at this
    simpa[digB,pr] using this.1
   have hn:numB (c::l)=n:=by unfold numB;rw[h4];rfl
   rw[hn]
   have hx:∀d:UInt8,d.toNat<48→(c==d)=false:=fun d hd=>by
    rw[beq_eq_false_iff_ne];intro e;subst e;omega
   unfold Lib.atoi
   simp only[]
   rw[hx 45 (by decide),hx 43 (by decide),h4]
   rfl
noncomputable def FAt:List PV→Option PV:=zG (α:=List UInt8) (fun l=>[str l]) (fun l=>l.length≤18∧wN l=true) (fun l=>.tup [int (numB l),.v .nilIface])
theorem fr_bytes {dr:Prop} (w:World) (e:TypeId) (s:ByteArray):Fr dr w (fun _=>False) (Lib.bytesWorld w e s):=by
 have h1:∀(w1:World) (a:Addr) (n k:Nat),k≠a.block→(w1.freeze a n).heap[k]?=w1.heap[k]?:=by
  intro w1 a n k hk
  unfold World.freeze
  split
  ·rfl
  ·simp[Array.getElem?_modify,Ne.symm hk]
 have h2:∀(w1:World) (a:Addr) (n:Nat),(w1.freeze a n).heap.size=w1.heap.size:=by
  intro w1 a n
  unfold World.freeze
  split<;>simp
 unfold Lib.bytesWorld
 refine⟨rfl,rfl,rfl,?_,?_,fun k hk _=>?_⟩
 ·rw[h2];simp
 ·exact fun _=>Nat.le_succ _
 ·rw[h1 _ _ _ k (by simpa using Nat.ne_of_lt hk)]
  exact (Below.heap_alloc w.drew _ k hk)
@[simp] theorem get_nilI (σ:Nat→PV):AM.get σ (.const .nilIface)=some (.v .nilIface):=rfl
theorem atoi_sound:za prog 170 (zc false [] FAt) :=
 wD ⟨_,func170,by kernel_rfl,by kernel_rfl⟩ fun args r h=>by
  obtain⟨l,rfl,⟨h1,h2⟩,rfl⟩:=zf h
  refine⟨[.string ⟨l.toArray⟩],rfl,by simp[lit],rfl,.tuple #[.int .i64 (numB l),.nilIface],fun w S=>.tup rfl fun j pv u hj hu=>?_,fun w S _=>?_⟩
  ·match j,hj,hu with
   | 0,hj,hu=>simp at hj hu;subst hj;subst hu;exact .v rfl
   | 1,hj,hu=>simp at hj hu;subst hj;subst hu;exact .v rfl
   | j+2,hj,hu=>simp at hj
  refine (Any.strconv_Atoi Tryz.lays172 ⟨l.toArray⟩ (numB l) (by simpa using h1) (by simpa using atoi_whole h2) w).mono fun e w' hh=>?_
  obtain⟨rfl,t,rfl⟩:=hh
  exact⟨rfl,fr_bytes _ _ _⟩
theorem atoi_call (l:List UInt8) (hp:Hp) (nx:Nat) (h1:l.length≤18) (h2:wN l=true):zc false [] FAt [str l] hp nx=some (.tup [int (numB l),.v .nilIface],hp,nx) :=
 zt rfl (zn (enc:=fun l:List UInt8=>[str l]) (a:=l) (fun a b e=>by simp only[List.cons.injEq,and_true] at e;exact zM e) ⟨h1,h2⟩) (.inl rfl)
def vnum (l:List UInt8):Option Int:=if wN l=true∧l.length≤6 then some (numB l) else none
def vnumP (l:List UInt8):PV:=.tup [int ((vnum l).getD 0),boo (vnum l).isSome]
noncomputable def FSP (f:List UInt8→PV):List PV→Option PV:=zG (α:=List UInt8) (fun l=>[str l]) (fun l=>l.length≤lim) f
theorem FSP_call (f:List UInt8→PV) (l:List UInt8) (hp:Hp) (nx:Nat) (h:l.length≤lim) (hf:(f l).flat=true):zc false [] (FSP f) [str l] hp nx=some (f l,hp,nx) :=
 zt rfl (zn (enc:=fun l:List UInt8=>[str l]) (a:=l) (fun a b e=>by simp only[List.cons.injEq,and_true] at e;exact zM e) h) (.inl hf)
noncomputable abbrev Cvn:Ctx:=zA prog [(169,zc false [] (FS wN)),(170,zc false [] FAt)]
theorem goodvn:AM.Good Cvn (fun g=>[169].contains g):=zk mixed ⟨whole_sound,fun _=>zg _ _,atoi_sound,fun _=>zg _ _,trivial⟩
theorem versionNumber_eval (l:List UInt8) (hl:l.length≤lim):zi Cvn f141 [str l]=some (vnumP l):=by
 refine zb rfl ?_
 have hw:=fun hp nx=>yM wN l hp nx hl
 cases h1:wN l
 ·simp[hw,h1,vnumP,vnum,zU,f141]
 ·by_cases h2:l.length≤6
  ·have h3:¬((6:Int)<l.length):=by omega
   have ha:=fun hp nx=>atoi_call l hp nx (by omega) h1
   simp[hw,h1,h2,h3,ha,nilIA,vnumP,vnum,zU,f141]
  ·have h3:(6:Int)<l.length:=by omega
   have h2':6<l.length:=by omega
   simp[hw,h1,h2,h2',h3,vnumP,vnum,zU,f141]
theorem jp:za prog 141 (zc false [] (FSP vnumP)) :=
 zJ (fn:=f141) goodvn ⟨_,func141,by kernel_rfl,rfl,by kernel_rfl⟩ false [] _ fun args r h=>by
  obtain⟨l,rfl,hp,rfl⟩:=zf h
  exact⟨by simp[f141],_,versionNumber_eval l hp,zI _⟩
@[simp] theorem ixArr_ref (P:Program) (hp:Hp) (t:TypeId) (id a b:Nat) (k:IntKind) (i:Int) (h:qw P t=none):zE P hp t (.ref id a b) (.v (.int k i))=(arrA P t).bind fun me=>(zQ P me.2).bind fun n=>if 0≤i∧i<me.1 then some (.ref id a (b+i.toNat*n)) else none:=by
 simp only[zE,h,wZ]
 cases arrA P t with
 | none=>rfl
 | some me =>
   obtain⟨m,e⟩:=me
   simp only[Option.bind_some]
   cases zQ P e<;>rfl
@[simp] theorem ixArr_ptr (P:Program) (hp:Hp) (t:TypeId) (cs:List PV) (k:IntKind) (i:Int) (h:qw P t=none):zE P hp t (.ptr cs) (.v (.int k i))=(arrA P t).bind fun me=>(zQ P me.2).bind fun n=>if 0≤i∧i<me.1 then some (.ptr (cs.drop (i.toNat*n))) else none:=by
 simp only[zE,h,wZ]
 cases arrA P t with
 | none=>rfl
 | some me =>
   obtain⟨m,e⟩:=me
   simp only[Option.bind_some]
   cases zQ P e<;>rfl
@[simp] theorem wrl1:IntKind.i64.wrap 1=1:=zd (by decide) (by decide)
@[simp] theorem wrl2:IntKind.i64.wrap 2=2:=zd (by decide) (by decide)
@[simp] theorem wrl3:IntKind.i64.wrap 3=3:=zd (by decide) (by decide)
theorem isPre_eval (l:List UInt8) (hl:l.length≤lim):zi C0 f172 [str l]=some (boo (preB l)):=by
 refine zb rfl ?_
 unfold lim at hl
 simp
 refine zC (fun k σ hp nx=>σ 0=str l∧σ 6=int l.length∧σ 7=int k∧l.all preC=(l.drop k).all preC) l.length ⟨by simp,by simp,by simp,by simp⟩ ?_
 rintro k σ hp nx hk ⟨h0,h5,h6,he⟩
 by_cases hlt:k<l.length
 ·have hw:IntKind.i64.wrap ((k:Int)+1)=(k:Int)+1:=zd (by omega) (by omega)
  rw[pres_drop hlt] at he
  have ho:(decide ((97:Int)≤l[k].toNat)&&decide ((l[k].toNat:Int)≤122)||decide ((65:Int)≤l[k].toNat)&&decide ((l[k].toNat:Int)≤90)||decide ((48:Int)≤l[k].toNat)&&decide ((l[k].toNat:Int)≤57)||((l[k].toNat:Int)==45))=preC l[k]:=by
   have e1:((l[k].toNat:Int)==45)=(l[k]==45):=by
    rw[Bool.eq_iff_iff];simp[←UInt8.toNat_inj];omega
   rw[e1,Bool.eq_iff_iff]
   simp[preC,pr,←UInt8.toNat_inj]
   omega
  cases hc:preC l[k]
  ·have he:l.all preC=false:=by rw[he,hc];rfl
   rw[hc] at ho
   simp[h0,h5,h6,hlt,ho,preB,he,-List.all_eq_true,-List.all_eq_false,f172]
  ·rw[hc] at ho
   simp[h0,h5,h6,hlt,ho,hw,-List.all_eq_true,-List.all_eq_false]
   exact⟨hlt,by rw[he,hc];rfl⟩
 ·obtain rfl:k=l.length:=by omega
  have he:l.all preC=true:=by rw[he,List.drop_length];rfl
  simp[h0,h5,h6,he,preB,-List.all_eq_true,f172]
theorem isPre_sound:za prog 172 (zc false [] (FS preB)) :=
 zJ (fn:=f172) wA ⟨_,func172,by kernel_rfl,rfl,by kernel_rfl⟩ false [] _ fun args r h=>by
  obtain⟨l,rfl,hp,rfl⟩:=zf h
  exact⟨by simp[f172],_,isPre_eval l hp,zI _⟩
theorem vwithin_sound:za prog 171 (zc false [] (F3 inB)) :=
 zJ (fn:=f171) wA ⟨_,func171,by kernel_rfl,rfl,by kernel_rfl⟩ false [] _ fun args r h=>by
  obtain⟨a,b,c,rfl,rfl⟩:=F3_inv h
  exact⟨by simp[f171],_,zb rfl (by simp[f171,inB]),zI _⟩
structure Ver where
 a:Int
 b:Int
 c:Int
 pre:List (List UInt8)
def encT (l:List (List UInt8)):List (List PV):=l.map fun p=>[str p]
theorem qT {a b:List (List UInt8)} (h:encT a=encT b):a=b:=qH (fun x y e=>by simp only[List.cons.injEq,and_true] at e;exact zM e) h
@[simp] theorem encT_length (l:List (List UInt8)):(encT l).length=l.length:=by simp[encT]
@[simp] theorem encT_nil:encT []=[]:=rfl
@[simp] theorem encT_take (l:List (List UInt8)):(encT l).take l.length=encT l:=List.take_of_length_le (by simp)
@[simp] theorem xO (p:List UInt8) (l:List (List UInt8)):encT (p::l)=[str p]::encT l:=rfl
@[simp] theorem blkT_eq (l:List (List UInt8)):blkT l=⟨9,1,true,encT l⟩:=rfl
@[simp] theorem encT_at {l:List (List UInt8)} {k:Nat} (h:k<(encT l).length):(encT l)[k]=[str (l[k]'(by simpa using h))]:=by simp[encT]
theorem encT_get {l:List (List UInt8)} {k:Nat} (h:k<l.length):(encT l)[k]?=some [str l[k]]:=by simp[encT,h]
def Ver.enc (v:Ver):List PV:=[int v.a,int v.b,int v.c,.sl 1 (encT v.pre)]
theorem vF {a b:Ver} (h:a.enc=b.enc):a=b:=by
 cases a;cases b
 simp only[Ver.enc,List.cons.injEq,and_true] at h
 obtain⟨h1,h2,h3,h4⟩:=h
 injection h4 with _ h4
 rw[zD h1,zD h2,zD h3,qT h4]
abbrev vpat:List (Option Nat):=[none,none,none,some 1]
def Ver.small (v:Ver):Prop:=v.pre.length≤lim∧∀p∈v.pre,p.length≤lim
def yB (p:List UInt8):Bool:=decide (20<p.length)||!preB p||(digs p&&!wN p)
def chkV (v:Ver):Int:=if inB v.a 0 999999=true∧inB v.b 0 999999=true∧inB v.c 0 999999=true then (if 10<v.pre.length then 2 else if v.pre.any yB then 3 else 0) else 1
noncomputable def FVr (f:Ver→PV):List PV→Option PV:=zG (α:=Ver) (fun v=>[.agg v.enc]) Ver.small f
theorem FVr_call (f:Ver→PV) (v:Ver) (x:PV) (hp hp1:Hp) (nx:Nat) (y:PV) (hf:zh hp [x]=some ([y],hp1)) (hy:(Sh.g vpat).fix y=.agg v.enc) (h:v.small) (hfl:(f v).flat=true):zR [.g vpat] (FVr f) [x] hp nx=some (f v,hp,nx):=by
 have e:FVr f (fixL [.g vpat] (qG [] [y]))=some (f v):=by
  show FVr f [(Sh.g vpat).fix y]=_
  rw[hy]
  exact zn (enc:=fun v:Ver=>[PV.agg v.enc]) (a:=v) (fun a b e=>by simp only[List.cons.injEq,and_true] at e;injection e with e;exact vF e) h
 unfold zR zc
 simp only[hf,e,hfl,true_or,if_true]
noncomputable abbrev Cckv:Ctx:=zA prog [(171,zc false [] (F3 inB)),(172,zc false [] (FS preB)),(173,zc false [] (FS digs)),(169,zc false [] (FS wN))]
theorem goodckv:AM.Good Cckv (fun g=>[171,172,173,169].contains g):=zk mixed ⟨vwithin_sound,fun _=>zg _ _,isPre_sound,fun _=>zg _ _,jo,fun _=>zg _ _,whole_sound,fun _=>zg _ _,trivial⟩
@[simp] theorem quietckv1:wy Cckv 172:=qr (by rfl) (zg _ _)
@[simp] theorem quietckv2:wy Cckv 173:=qr (by rfl) (zg _ _)
@[simp] theorem quietckv3:wy Cckv 169:=qr (by rfl) (zg _ _)
theorem checkVersion_eval (v:Ver) (h:v.small):zi Cckv f142 [.agg v.enc]=some (int (chkV v)):=by
 obtain⟨a,b,c,pre⟩:=v
 obtain⟨hl,hpl⟩:=h
 simp only at hl hpl
 unfold lim at hl
 refine zb rfl ?_
 simp[Ver.enc,zl,zx,zm]
 rw[zq]
 cases h1:inB a 0 999999
 ·simp[h1,chkV,f142]
 simp[h1]
 rw[zq]
 cases h2:inB b 0 999999
 ·simp[h1,h2,chkV,f142]
 simp[h2]
 rw[zq]
 cases h3:inB c 0 999999
 ·simp[h1,h2,h3,chkV,f142]
 simp[h3]
 rw[zq]
 simp
 by_cases h4:10<pre.length
 ·have h4':(10:Int)<pre.length:=by omega
  simp[h1,h2,h3,h4,h4',chkV,f142]
 have h4':¬(10:Int)<pre.length:=by omega
 simp[h4,h4']
 have hck:chkV ⟨a,b,c,pre⟩=if pre.any yB then 3 else 0:=by simp[chkV,h1,h2,h3,h4]
 rw[hck]
 refine zC (fun k σ hp nx=>σ 28=.sl 1 (encT pre)∧σ 29=int pre.length∧σ 30=int k∧pre.any yB=(pre.drop k).any yB) pre.length ⟨by simp,by simp,by simp,by simp⟩ ?_
 rintro k σ hp nx hkk ⟨h28,h29,h30,he⟩
 by_cases hlt:k<pre.length
 ·have hw:IntKind.i64.wrap ((k:Int)+1)=(k:Int)+1:=zd (by omega) (by omega)
  have hg:=encT_get hlt
  rw[List.drop_eq_getElem_cons hlt,List.any_cons] at he
  have hpk:=hpl _ (List.getElem_mem hlt)
  have f1:=fun hp nx=>yM preB pre[k] hp nx hpk
  have f2:=fun hp nx=>yM digs pre[k] hp nx hpk
  have f3:=fun hp nx=>yM wN pre[k] hp nx hpk
  have hbp:yB pre[k]=(decide (20<pre[k].length)||!preB pre[k]||(digs pre[k]&&!wN pre[k])):=rfl
  have hb1:(decide ((20:Int)<pre[k].length)||!preB pre[k]||digs pre[k]&&!wN pre[k])=yB pre[k]:=by
   rw[hbp]
   congr 2
   rw[Bool.eq_iff_iff];simp;omega
  cases hc:yB pre[k]
  ·rw[hc] at hb1
   simp[h28,h29,h30,hlt,hg,f1,f2,f3,hb1,hw]
   exact⟨hlt,by rw[he,hc];rfl⟩
  ·rw[hc] at hb1
   have he:pre.any yB=true:=by rw[he,hc];rfl
   simp[h28,h29,h30,hlt,hg,f1,f2,f3,hb1,he,-List.any_eq_true,f142]
 ·obtain rfl:k=pre.length:=by omega
  have he:pre.any yB=false:=by rw[he,List.drop_length];rfl
  simp[h28,h29,h30,he,-List.any_eq_false,f142]
theorem FVr_inv {f:Ver→PV} {args:List PV} {r:PV} (h:FVr f args=some r):∃v:Ver,args=[.agg v.enc]∧v.small∧r=f v:=zf h
theorem ya:za prog 142 (zR [.g vpat] (FVr fun v=>int (chkV v))) :=
 qB (fn:=f142) goodckv ⟨_,func142,by kernel_rfl,rfl,by kernel_rfl⟩ _ _ fun args r h=>by
  obtain⟨v,rfl,hv,rfl⟩:=FVr_inv h
  exact⟨by simp[f142],_,checkVersion_eval v hv,Stands.refl _⟩
end Go.Proofs.YtanbabpnlgfcpaaGreatDoor
