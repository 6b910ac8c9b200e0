/- Lemmas. -/
import Derived.Shelf.Strings.Search2
import Derived.Shelf.Strings.Split
import Derived.Shelf.Strings.Trim
import Derived.Shelf.Strconv.Atoi
import Derived.Ground.Names2Prog
import Derived.Test.YtnjndeeldhifoaaGreatDoorProg
import Derived.Lib.Split
import Derived.Lib.Bytealg
import Derived.Test.YtnjndeeldhifoaaGreatDoorG5
set_option maxRecDepth 100000
open Go Proofs Proofs.YtnjndeeldhifoaaGreatDoor Proofs.Tryz RowKit AM SpanLaw Q Zz
open Go.IntKind renaming i64→i6
namespace Go.Q
abbrev int(n:Int):O:=.v (.int .i64 n)
abbrev qO(b:Bool):O:=.v (.bool b)
abbrev zw:Nat:=2097152
theorem mixed:prog.follows .mixedOrders=true:=by kernel_rfl
noncomputable abbrev C0:Ctx:=zG prog []
theorem y7:Gd C0:=qc mixed trivial
def F3(f:Int->Int->Int->Bool):zb->Option O
 |[.v (.int .i64 a),.v (.int .i64 b),.v (.int .i64 c)]=>some (.v (.bool (f a b c)))
 |_=>none
def F1b(f:Int->Bool):zb->Option O
 |[.v (.int .u8 a)]=>some (.v (.bool (f a)))
 |_=>none
def vG(n a b:Int):Bool:=decide (a<=n)&&decide (n<=b)
def gF(n:Int):Bool:=decide (97<=n)&&decide (n<=122)||decide (48<=n)&&decide (n<=57)||n==45||n==95
@[simp]theorem zcb(f:Int->Int->Int->Bool)(a b c:Int)(Y:Hp)(Z:Nat):zg false [] (F3 f) [.v (.int .i64 a),.v (.int .i64 b),.v (.int .i64 c)] Y Z=some (.v (.bool (f a b c)),Y,Z):=wR rfl rfl (.inl rfl)
@[simp]theorem zaE(f:Int->Bool)(a:Int)(Y:Hp)(Z:Nat):zg false [] (F1b f) [.v (.int .u8 a)] Y Z=some (.v (.bool (f a)),Y,Z):=wR rfl rfl (.inl rfl)
theorem cT{f:Int->Int->Int->Bool}{args:zb}{r:O}(h:F3 f args=some r):∃a b c,args=[int a,int b,int c]/\r=qO (f a b c):=by
 unfold F3 at h;split at h
 ·injection h with h;exact⟨_,_,_,rfl,h.symm⟩
 ·cases h
theorem LR{f:Int->Bool}{args:zb}{r:O}(h:F1b f args=some r):∃a,args=[.v (.int .u8 a)]/\r=qO (f a):=by
 unfold F1b at h;split at h
 ·injection h with h;exact⟨_,rfl,h.symm⟩
 ·cases h
theorem ZR:zf prog 52 (zg false [] (F3 vG)):=
 yt (fn:=f52) y7 (qW func52) false [] _ fun args r h=>by obtain⟨a,b,c,rfl,rfl⟩:=cT h;exact⟨by simp[f52],_,zl rfl (by simp[f52,vG]),qa _⟩
theorem ln:zf prog 53 (zg false [] (F1b gF)):=
 yt (fn:=f53) y7 (qW func53) false [] _ fun args r h=>by obtain⟨a,rfl,rfl⟩:=LR h;exact⟨by simp[f53],_,zl rfl (by simp[f53,gF]),qa _⟩
noncomputable def FS (f:za->Bool):zb->Option O:=zS (α:=za) (fun l=>[str l]) (fun l=>l.length<=zw) (fun l=>qO (f l))
@[simp]theorem ke(f:za->Bool)(l:za)(Y:Hp)(Z:Nat)(h:l.length<=zw):zg false [] (FS f) [str l] Y Z=some (qO (f l),Y,Z):=
 Zc l _ _ rfl (fun a b e=>by simp only[zc,zs]at e;exact qv e) h (.inl rfl)
def pr(a b:Nat)(c:UInt8):Bool:=decide (a<=c.toNat)&&decide (c.toNat<=b)
theorem lp(a b:Nat)(c:UInt8):(decide ((c.toNat:Int)<a)||decide ((b:Int)<c.toNat))=!pr a b c:=by rw[yg];simp[pr]
def yv(a b:Nat)(l:za):Bool:=l.all (pr a b)
def kM(l:za):Bool:=yv 33 126 l&&vG l.length 1 100
def Y9(l:za):Bool:=l.all fun c=>gF c.toNat
def As:za->Bool
 |[]=>false
 |c::_=>decide ((97:Int)<=c.toNat)&&decide ((c.toNat:Int)<=(122:Int))
def qK(l:za):Bool:=vG l.length 1 40&&As l&&Y9 l
noncomputable abbrev C1:Ctx:=zG prog [(52,zg false [] (F3 vG)),(53,zg false [] (F1b gF))]
abbrev qRl1:List Nat:=[52,53]
theorem Fo:AM.Good C1 (fun g=>qRl1.contains g):=qc mixed ⟨ZR,fun _=>zr _ _,ln,fun _=>zr _ _,trivial⟩
theorem Vc{l:za}{p:UInt8->Bool}{k:Nat}(h:k<l.length):(l.drop k).all p=(p l[k]&&(l.drop (k+1)).all p):=by rw[zd h,wJ]
theorem WY{a b:Nat}{l:za}{k:Nat}(h:k<l.length):yv a b (l.drop k)=(pr a b l[k]&&yv a b (l.drop (k+1))):=Vc h
theorem nS{l:za}{k:Nat}(h:k<l.length):Y9 (l.drop k)=(gF l[k].toNat&&Y9 (l.drop (k+1))):=Vc h
@[simp]theorem Oz(a b:Nat):yv a b []=true:=rfl
@[simp]theorem PL:Y9 []=true:=rfl
theorem Ch(l:za)(h:l.length<=zw):zt C1 f94 [str l]=some (qO (yv 32 126 l)):=by
 refine zl rfl ?_;unfold zw at h;simp;refine zP (fun k U Y Z=>U 0=str l/\U 5=int l.length/\U 6=int k/\yv 32 126 l=yv 32 126 (l.drop k)) l.length ⟨by simp,by simp,by simp,by simp⟩ ?_;rintro k U Y Z j ⟨d,e,f,b⟩;by_cases a:k<l.length
 ·have i:=qz k;rw[WY a]at b;have g:=lp 32 126 l[k];simp only[rW]at g;cases c:pr 32 126 l[k]
  ·have b:yv 32 126 l=false:=by rw[b,c];rfl
   simp[d,e,f,a,b,g,c,f94]
  ·simp[d,e,f,a,g,c,i];exact⟨a,by rw[b,c];rfl⟩
 ·obtain rfl:k=l.length:=by omega
  have b:yv 32 126 l=true:=by rw[b,zp];rfl
  simp[d,e,f,b,f94]
theorem sY(l:za)(h:l.length<=zw):zt C1 f29 [str l]=some (qO (kM l)):=by
 refine zl rfl ?_;unfold zw at h;simp;refine zP (fun k U Y Z=>U 0=str l/\U 5=int l.length/\U 6=int k/\yv 33 126 l=yv 33 126 (l.drop k)) l.length ⟨by simp,by simp,by simp,by simp⟩ ?_;rintro k U Y Z j ⟨d,e,f,b⟩;by_cases a:k<l.length
 ·have i:=qz k;rw[WY a]at b;have g:=lp 33 126 l[k];simp only[rW]at g;cases c:pr 33 126 l[k]
  ·have b:yv 33 126 l=false:=by rw[b,c];rfl
   simp[d,e,f,a,b,g,c,kM,f29]
  ·simp[d,e,f,a,g,c,i];exact⟨a,by rw[b,c];rfl⟩
 ·obtain rfl:k=l.length:=by omega
  have b:yv 33 126 l=true:=by rw[b,zp];rfl
  simp[d,e,f,b,kM,f29]
theorem nT(l:za)(n:l.length<=zw):zt C1 f30 [str l]=some (qO (qK l)):=by
 refine zl rfl ?_;unfold zw at n;cases e:vG l.length 1 40
 ·simp[e,qK,f30]
 have a:0<l.length:=by simp[vG]at e;omega
 have o:As l=(decide ((97:Int)<=l[0].toNat)&&decide ((l[0].toNat:Int)<=(122:Int))):=by
  cases l with
  |nil=>simp at a
  |cons c l=>rfl
 have m:(decide ((l[0].toNat:Int)<(97:Int))||decide ((122:Int)<l[0].toNat))=!As l:=by rw[o,yg];simp
 cases g:As l
 ·simp[e,a,m,g,qK,f30]
 simp[e,a,m,g];refine zP (fun k U Y Z=>U 0=str l/\U 19=int l.length/\U 20=int k/\Y9 l=Y9 (l.drop k)) l.length ⟨by simp,by simp,by simp,by simp⟩ ?_;rintro k U Y Z q ⟨h,i,j,d⟩;by_cases b:k<l.length
 ·have p:=qz k;rw[nS b]at d;cases f:gF l[k].toNat
  ·have d:Y9 l=false:=by rw[d,f];rfl
   simp[h,i,j,b,d,f,qK,f30]
  ·simp[h,i,j,b,f,p];exact⟨b,by rw[d,f];rfl⟩
 ·obtain rfl:k=l.length:=by omega
  have d:Y9 l=true:=by rw[d,zp];rfl
  simp[h,i,j,d,e,g,qK,f30]
theorem sZ:zf prog 94 (zg false [] (FS (yv 32 126))):=
 kL Fo func94 false [] fun l Y=>⟨by simp[f94],_,Ch l Y,qa _⟩
theorem QG:zf prog 29 (zg false [] (FS kM)):=
 kL Fo func29 false [] fun l Y=>⟨by simp[f29],_,sY l Y,qa _⟩
theorem jK:zf prog 30 (zg false [] (FS qK)):=
 kL Fo func30 false [] fun l Y=>⟨by simp[f30],_,nT l Y,qa _⟩
end Go.Q
namespace Go.Proofs
open Go.Shelf
def Tryz.r9:Go.Shelf.Ren:=⟨fun|161=>270|231=>197|227=>199|233=>200|235=>202|228=>233|197=>234|151=>235|260=>251|152=>252|137=>271|119=>272|224=>231|225=>230|217=>229|266=>249|n=>n,fun|9=>9|4=>4|3=>3|5=>5|117=>270|116=>269|0=>0|124=>273|105=>301|21=>21|119=>327|46=>152|139=>330|138=>329|n=>n,fun|3=>1|4=>2|n=>n⟩
theorem Tryz.NZ:Go.Proofs.Lays.n161 prog Tryz.r9:={
 mixed:=by kernel_rfl
 f119:=func272.trans (zo some (by kernel_rfl))
 f137:=func271.trans (zo some (by kernel_rfl))
 f151:=func235.trans (zo some (by kernel_rfl))
 f152:=func252.trans (zo some (by kernel_rfl))
 f161:=func270.trans (zo some (by kernel_rfl))
 f197:=func234.trans (zo some (by kernel_rfl))
 f217:=func229.trans (zo some (by kernel_rfl))
 f224:=func231.trans (zo some (by kernel_rfl))
 f225:=func230.trans (zo some (by kernel_rfl))
 f227:=func199.trans (zo some (by kernel_rfl))
 f228:=func233.trans (zo some (by kernel_rfl))
 f231:=func197.trans (zo some (by kernel_rfl))
 f233:=func200.trans (zo some (by kernel_rfl))
 f235:=func202.trans (zo some (by kernel_rfl))
 f260:=func251.trans (zo some (by kernel_rfl))
 f266:=func249.trans (zo some (by kernel_rfl))
 t0:=underlying0
 a0:=isAgg0
 z0:=sizeOf0
 v0:=zeroValue0
 t3:=underlying3
 a3:=isAgg3
 z3:=sizeOf3
 v3:=zeroValue3
 t4:=underlying4
 a4:=isAgg4
 z4:=sizeOf4
 v4:=zeroValue4
 t5:=underlying5
 a5:=isAgg5
 z5:=sizeOf5
 v5:=zeroValue5
 t9:=underlying9
 a9:=isAgg9
 z9:=sizeOf9
 v9:=zeroValue9
 t21:=underlying21
 a21:=isAgg21
 z21:=sizeOf21
 v21:=zeroValue21
 t46:=underlying152
 a46:=isAgg152
 z46:=sizeOf152
 v46:=zeroValue152
 t105:=underlying301
 a105:=isAgg301
 z105:=sizeOf301
 v105:=zeroValue301
 t116:=underlying269
 a116:=isAgg269
 z116:=sizeOf269
 t117:=underlying270
 a117:=isAgg270
 z117:=sizeOf270
 v117:=zeroValue270
 t119:=underlying327
 a119:=isAgg327
 z119:=sizeOf327
 t124:=underlying273
 a124:=isAgg273
 z124:=sizeOf273
 v124:=zeroValue273
 t138:=underlying329
 a138:=isAgg329
 z138:=sizeOf329
 v138:=zeroValue329
 t139:=underlying330
 a139:=isAgg330
 z139:=sizeOf330
 v139:=zeroValue330
 g3:=by kernel_rfl
 g4:=by kernel_rfl}
def Tryz.sa:Go.Shelf.Ren:=⟨fun|160=>176|232=>198|231=>197|227=>199|234=>201|233=>200|236=>203|235=>202|228=>233|271=>236|151=>235|197=>234|120=>253|152=>252|260=>251|137=>271|119=>272|224=>231|225=>230|217=>229|266=>249|n=>n,fun|9=>9|4=>4|3=>3|5=>5|117=>270|116=>269|0=>0|124=>273|21=>21|105=>301|46=>152|119=>327|139=>330|138=>329|n=>n,fun|3=>1|4=>2|n=>n⟩
theorem Tryz.N0:Go.Proofs.Lays.n160 prog Tryz.sa:={
 mixed:=by kernel_rfl
 f119:=func272.trans (zo some (by kernel_rfl))
 f120:=func253.trans (zo some (by kernel_rfl))
 f137:=func271.trans (zo some (by kernel_rfl))
 f151:=func235.trans (zo some (by kernel_rfl))
 f152:=func252.trans (zo some (by kernel_rfl))
 f160:=func176.trans (zo some (by kernel_rfl))
 f197:=func234.trans (zo some (by kernel_rfl))
 f217:=func229.trans (zo some (by kernel_rfl))
 f224:=func231.trans (zo some (by kernel_rfl))
 f225:=func230.trans (zo some (by kernel_rfl))
 f227:=func199.trans (zo some (by kernel_rfl))
 f228:=func233.trans (zo some (by kernel_rfl))
 f231:=func197.trans (zo some (by kernel_rfl))
 f232:=func198.trans (zo some (by kernel_rfl))
 f233:=func200.trans (zo some (by kernel_rfl))
 f234:=func201.trans (zo some (by kernel_rfl))
 f235:=func202.trans (zo some (by kernel_rfl))
 f236:=func203.trans (zo some (by kernel_rfl))
 f260:=func251.trans (zo some (by kernel_rfl))
 f266:=func249.trans (zo some (by kernel_rfl))
 f271:=func236.trans (zo some (by kernel_rfl))
 t0:=underlying0
 a0:=isAgg0
 z0:=sizeOf0
 v0:=zeroValue0
 t3:=underlying3
 a3:=isAgg3
 z3:=sizeOf3
 v3:=zeroValue3
 t4:=underlying4
 a4:=isAgg4
 z4:=sizeOf4
 v4:=zeroValue4
 t5:=underlying5
 a5:=isAgg5
 z5:=sizeOf5
 v5:=zeroValue5
 t9:=underlying9
 a9:=isAgg9
 z9:=sizeOf9
 v9:=zeroValue9
 t21:=underlying21
 a21:=isAgg21
 z21:=sizeOf21
 v21:=zeroValue21
 t46:=underlying152
 a46:=isAgg152
 z46:=sizeOf152
 v46:=zeroValue152
 t105:=underlying301
 a105:=isAgg301
 z105:=sizeOf301
 v105:=zeroValue301
 t116:=underlying269
 a116:=isAgg269
 z116:=sizeOf269
 t117:=underlying270
 a117:=isAgg270
 z117:=sizeOf270
 v117:=zeroValue270
 t119:=underlying327
 a119:=isAgg327
 z119:=sizeOf327
 t124:=underlying273
 a124:=isAgg273
 z124:=sizeOf273
 v124:=zeroValue273
 t138:=underlying329
 a138:=isAgg329
 z138:=sizeOf329
 v138:=zeroValue329
 t139:=underlying330
 a139:=isAgg330
 z139:=sizeOf330
 v139:=zeroValue330
 g3:=by kernel_rfl
 g4:=by kernel_rfl}
def Tryz.sb:Go.Shelf.Ren:=⟨fun|172=>207|244=>239|245=>240|247=>256|279=>257|280=>258|281=>259|282=>260|287=>273|316=>274|171=>276|205=>275|321=>280|322=>281|243=>282|246=>284|283=>285|284=>286|285=>287|286=>288|129=>121|317=>289|318=>290|319=>291|320=>292|337=>293|338=>294|n=>n,fun|9=>9|3=>3|75=>276|76=>277|4=>4|5=>5|167=>315|37=>316|0=>0|85=>317|2=>2|168=>319|53=>134|175=>332|46=>152|210=>336|127=>342|145=>345|143=>343|21=>21|171=>348|173=>350|212=>353|51=>193|20=>20|213=>354|232=>355|233=>356|80=>357|n=>n,fun|15=>3|16=>4|17=>5|18=>6|19=>7|n=>n⟩
theorem Tryz.N1:Go.Proofs.Lays.n172 prog Tryz.sb:={
 mixed:=by kernel_rfl
 f129:=func121.trans (zo some (by kernel_rfl))
 f171:=func276.trans (zo some (by kernel_rfl))
 f172:=func207.trans (zo some (by kernel_rfl))
 f205:=func275.trans (zo some (by kernel_rfl))
 f243:=func282.trans (zo some (by kernel_rfl))
 f244:=func239.trans (zo some (by kernel_rfl))
 f245:=func240.trans (zo some (by kernel_rfl))
 f246:=func284.trans (zo some (by kernel_rfl))
 f247:=func256.trans (zo some (by kernel_rfl))
 f279:=func257.trans (zo some (by kernel_rfl))
 f280:=func258.trans (zo some (by kernel_rfl))
 f281:=func259.trans (zo some (by kernel_rfl))
 f282:=func260.trans (zo some (by kernel_rfl))
 f283:=func285.trans (zo some (by kernel_rfl))
 f284:=func286.trans (zo some (by kernel_rfl))
 f285:=func287.trans (zo some (by kernel_rfl))
 f286:=func288.trans (zo some (by kernel_rfl))
 f287:=func273.trans (zo some (by kernel_rfl))
 f316:=func274.trans (zo some (by kernel_rfl))
 f317:=func289.trans (zo some (by kernel_rfl))
 f318:=func290.trans (zo some (by kernel_rfl))
 f319:=func291.trans (zo some (by kernel_rfl))
 f320:=func292.trans (zo some (by kernel_rfl))
 f321:=func280.trans (zo some (by kernel_rfl))
 f322:=func281.trans (zo some (by kernel_rfl))
 f337:=func293.trans (zo some (by kernel_rfl))
 f338:=func294.trans (zo some (by kernel_rfl))
 t0:=underlying0
 a0:=isAgg0
 z0:=sizeOf0
 v0:=zeroValue0
 t2:=underlying2
 a2:=isAgg2
 z2:=sizeOf2
 v2:=zeroValue2
 t3:=underlying3
 a3:=isAgg3
 z3:=sizeOf3
 v3:=zeroValue3
 t4:=underlying4
 a4:=isAgg4
 z4:=sizeOf4
 v4:=zeroValue4
 t5:=underlying5
 a5:=isAgg5
 z5:=sizeOf5
 v5:=zeroValue5
 t9:=underlying9
 a9:=isAgg9
 z9:=sizeOf9
 v9:=zeroValue9
 t20:=underlying20
 a20:=isAgg20
 z20:=sizeOf20
 v20:=zeroValue20
 t21:=underlying21
 a21:=isAgg21
 z21:=sizeOf21
 v21:=zeroValue21
 t37:=underlying316
 a37:=isAgg316
 z37:=sizeOf316
 v37:=zeroValue316
 t46:=underlying152
 a46:=isAgg152
 z46:=sizeOf152
 v46:=zeroValue152
 t51:=underlying193
 a51:=isAgg193
 z51:=sizeOf193
 v51:=zeroValue193
 t53:=underlying134
 a53:=isAgg134
 z53:=sizeOf134
 v53:=zeroValue134
 t75:=underlying276
 a75:=isAgg276
 z75:=sizeOf276
 v75:=zeroValue276
 t76:=underlying277
 a76:=isAgg277
 z76:=sizeOf277
 v76:=zeroValue277
 t85:=underlying317
 a85:=isAgg317
 z85:=sizeOf317
 v85:=zeroValue317
 t127:=underlying342
 a127:=isAgg342
 z127:=sizeOf342
 v127:=zeroValue342
 t143:=underlying343
 a143:=isAgg343
 z143:=sizeOf343
 v143:=zeroValue343
 t145:=underlying345
 a145:=isAgg345
 z145:=sizeOf345
 v145:=zeroValue345
 t167:=underlying315
 a167:=isAgg315
 z167:=sizeOf315
 v167:=zeroValue315
 t168:=underlying319
 a168:=isAgg319
 z168:=sizeOf319
 v168:=zeroValue319
 t171:=underlying348
 a171:=isAgg348
 z171:=sizeOf348
 v171:=zeroValue348
 t173:=underlying350
 a173:=isAgg350
 z173:=sizeOf350
 v173:=zeroValue350
 t175:=underlying332
 a175:=isAgg332
 z175:=sizeOf332
 v175:=zeroValue332
 t210:=underlying336
 a210:=isAgg336
 z210:=sizeOf336
 v210:=zeroValue336
 t212:=underlying353
 a212:=isAgg353
 z212:=sizeOf353
 v212:=zeroValue353
 t213:=underlying354
 a213:=isAgg354
 z213:=sizeOf354
 t232:=underlying355
 a232:=isAgg355
 z232:=sizeOf355
 v232:=zeroValue355
 t233:=underlying356
 a233:=isAgg356
 z233:=sizeOf356
 v233:=zeroValue356
 g15:=by kernel_rfl
 g16:=by kernel_rfl
 g17:=by kernel_rfl
 g18:=by kernel_rfl
 g19:=by kernel_rfl}
def Tryz.sc:Go.Shelf.Ren:=⟨fun|219=>196|217=>229|225=>230|224=>231|267=>232|266=>249|314=>250|n=>n,fun|9=>9|3=>3|4=>4|5=>5|46=>152|146=>311|51=>193|n=>n,fun|1=>0|n=>n⟩
theorem Tryz.N2:Go.Proofs.Lays.n219 prog Tryz.sc:={
 mixed:=by kernel_rfl
 f217:=func229.trans (zo some (by kernel_rfl))
 f219:=func196.trans (zo some (by kernel_rfl))
 f224:=func231.trans (zo some (by kernel_rfl))
 f225:=func230.trans (zo some (by kernel_rfl))
 f266:=func249.trans (zo some (by kernel_rfl))
 f267:=func232.trans (zo some (by kernel_rfl))
 f314:=func250.trans (zo some (by kernel_rfl))
 t3:=underlying3
 a3:=isAgg3
 z3:=sizeOf3
 v3:=zeroValue3
 t4:=underlying4
 a4:=isAgg4
 z4:=sizeOf4
 v4:=zeroValue4
 t5:=underlying5
 a5:=isAgg5
 z5:=sizeOf5
 v5:=zeroValue5
 t9:=underlying9
 a9:=isAgg9
 z9:=sizeOf9
 v9:=zeroValue9
 t46:=underlying152
 a46:=isAgg152
 z46:=sizeOf152
 v46:=zeroValue152
 t51:=underlying193
 a51:=isAgg193
 z51:=sizeOf193
 v51:=zeroValue193
 t146:=underlying311
 a146:=isAgg311
 z146:=sizeOf311
 v146:=zeroValue311
 g1:=by kernel_rfl}
def Tryz.sd:Go.Shelf.Ren:=⟨fun|138=>238|195=>254|218=>255|143=>175|219=>196|217=>229|225=>230|224=>231|267=>232|266=>249|314=>250|n=>n,fun|9=>9|3=>3|4=>4|5=>5|0=>0|46=>152|146=>311|51=>193|n=>n,fun|1=>0|n=>n⟩
theorem Tryz.N3:Go.Proofs.Lays.n138 prog Tryz.sd:={
 mixed:=by kernel_rfl
 f138:=func238.trans (zo some (by kernel_rfl))
 f143:=func175.trans (zo some (by kernel_rfl))
 f195:=func254.trans (zo some (by kernel_rfl))
 f217:=func229.trans (zo some (by kernel_rfl))
 f218:=func255.trans (zo some (by kernel_rfl))
 f219:=func196.trans (zo some (by kernel_rfl))
 f224:=func231.trans (zo some (by kernel_rfl))
 f225:=func230.trans (zo some (by kernel_rfl))
 f266:=func249.trans (zo some (by kernel_rfl))
 f267:=func232.trans (zo some (by kernel_rfl))
 f314:=func250.trans (zo some (by kernel_rfl))
 t0:=underlying0
 a0:=isAgg0
 z0:=sizeOf0
 v0:=zeroValue0
 t3:=underlying3
 a3:=isAgg3
 z3:=sizeOf3
 v3:=zeroValue3
 t4:=underlying4
 a4:=isAgg4
 z4:=sizeOf4
 v4:=zeroValue4
 t5:=underlying5
 a5:=isAgg5
 z5:=sizeOf5
 v5:=zeroValue5
 t9:=underlying9
 a9:=isAgg9
 z9:=sizeOf9
 v9:=zeroValue9
 t46:=underlying152
 a46:=isAgg152
 z46:=sizeOf152
 v46:=zeroValue152
 t51:=underlying193
 a51:=isAgg193
 z51:=sizeOf193
 v51:=zeroValue193
 t146:=underlying311
 a146:=isAgg311
 z146:=sizeOf311
 v146:=zeroValue311
 g1:=by kernel_rfl}
end Go.Proofs
namespace Go.Q
noncomputable def xR (f:za->za->O) (pre:za->za->Prop):zb->Option O:=zS (α:=za×za) (fun a=>[str a.1,str a.2]) (fun a=>a.1.length<=zw/\a.2.length<=zw/\pre a.1 a.2) (fun a=>f a.1 a.2)
theorem s8:∀a b:za×za,[str a.1,str a.2]=[str b.1,str b.2]->a=b:=by rintro⟨c,d⟩ ⟨f,g⟩ e;simp only[zc,zs]at e;rw[qv e.1,qv e.2]
theorem jL(f:za->za->O)(pre:za->za->Prop)(a b:za)(Y:Hp)(Z:Nat)(h:a.length<=zw)(c:b.length<=zw)(d:pre a b)(e:(f a b).flat=true):zg false [] (xR f pre) [str a,str b] Y Z=some (f a b,Y,Z):=
 Zc (a,b) _ _ rfl s8 ⟨h,c,d⟩ (.inl e)
theorem jB{f:za->za->O}{pre:za->za->Prop}{args:zb}{r:O}(h:xR f pre args=some r):∃a b,args=[str a,str b]/\a.length<=zw/\b.length<=zw/\pre a b/\r=f a b:=by obtain⟨⟨a,b⟩,rfl,⟨c,d,e⟩,rfl⟩:=qd h;exact⟨a,b,rfl,c,d,e,rfl⟩
theorem Au:EB prog 0:=by refine⟨yK (by kernel_rfl),#[.int .i64 0],3,by kernel_rfl,rfl,by kernel_rfl,by kernel_rfl,by kernel_rfl⟩
def s9(a b:za):O:=int (Lib.index a b)
def PM(a b:za):O:=int (Lib.count a b)
theorem nU:zf prog 196 (zg false [] (xR s9 fun _ _=>True)):=
 kK ⟨_,func196,by kernel_rfl,by kernel_rfl⟩ fun args r h=>by
  obtain⟨a,b,rfl,c,d,_,rfl⟩:=jB h;unfold zw at c d;refine⟨[.string ⟨a.toArray⟩,.string ⟨b.toArray⟩],rfl,by simp[lit],rfl,.int .i64 (Lib.index a b),fun w S=>.v rfl,fun w S f=>?_⟩;obtain⟨_,m,g⟩:=f.1 0 Au;refine(Any.stringslite_Index Tryz.N2 ⟨a.toArray⟩ ⟨b.toArray⟩ m w (by simp;omega) g).mono fun e j i=>?_
  obtain⟨rfl,rfl⟩:=i;exact⟨by simp,Fr.refl _ _⟩
theorem lq:zf prog 238 (zg false [] (xR PM fun _ b=>1<=b.length)):=
 kK ⟨_,func238,by kernel_rfl,by kernel_rfl⟩ fun args r h=>by
  obtain⟨a,b,rfl,c,d,f,rfl⟩:=jB h;unfold zw at c d;refine⟨[.string ⟨a.toArray⟩,.string ⟨b.toArray⟩],rfl,by simp[lit],rfl,.int .i64 (Lib.count a b),fun w S=>.v rfl,fun w S g=>?_⟩;obtain⟨_,m,i⟩:=g.1 0 Au;refine(Any.strings_Count_any Tryz.N3 ⟨a.toArray⟩ ⟨b.toArray⟩ m w (by simp;omega) i (by simpa using f)).mono fun e k j=>?_
  obtain⟨rfl,rfl⟩:=j;exact⟨by simp[Lib.countB],Fr.refl _ _⟩
noncomputable abbrev Ci:Ctx:=zG prog [(196,zg false [] (xR s9 fun _ _=>True))]
theorem OA:AM.Good Ci (fun g=>[196].contains g):=qc mixed ⟨nU,fun _=>zr _ _,trivial⟩
theorem Wk(a b:za)(Y:Hp)(Z:Nat)(h:a.length<=zw)(c:b.length<=zw):zg false [] (xR s9 fun _ _=>True) [str a,str b] Y Z=some (int (Lib.index a b),Y,Z):=jL _ _ a b Y Z h c trivial rfl
theorem Vd:zf prog 175 (zg false [] (xR s9 fun _ _=>True)):=
 yt (fn:=f175) OA (qW func175) false [] _ fun args r h=>by obtain⟨a,b,rfl,c,d,_,rfl⟩:=jB h;exact⟨by simp[f175],_,zl rfl (by simp[Wk,c,d,s9,f175]),qa _⟩
noncomputable abbrev Ci2:Ctx:=zG prog [(175,zg false [] (xR s9 fun _ _=>True)),(238,zg false [] (xR PM fun _ b=>1<=b.length))]
theorem Fp:AM.Good Ci2 (fun g=>[175].contains g):=qc mixed ⟨Vd,fun _=>zr _ _,lq,fun _=>zr _ _,trivial⟩
def Cj(a b:za):O:=qO (Lib.contains a b)
theorem Ja:zf prog 150 (zg false [] (xR Cj fun _ _=>True)):=
 yt (fn:=f150) Fp (qW func150) false [] _ fun args r h=>by obtain⟨a,b,rfl,c,d,_,rfl⟩:=jB h;exact⟨by simp[f150],_,zl rfl (by simp[Wk,c,d,Cj,Lib.contains,f150]),qa _⟩
def lr(a b:za):O:=.q8 [str (Lib.cut a b).1,str (Lib.cut a b).2.1,qO (Lib.cut a b).2.2]
theorem Fq(a b:za)(c:a.length<=zw)(d:b.length<=zw):zt Ci f204 [str a,str b]=some (lr a b):=by
 refine zl rfl ?_;unfold zw at c d;by_cases h:0<=Lib.index a b
 ·have l:=Lib.index_room a b h;have e:Lib.cut a b=(a.take (Lib.index a b).toNat,a.drop ((Lib.index a b).toNat+b.length),true):=by unfold Lib.cut;rw[ze h]
  have f:=wo (Lib.index a b+b.length);have g:(Lib.index a b+b.length).toNat=(Lib.index a b).toNat+b.length:=by omega
  have i:0<=Lib.index a b+b.length:=by omega
  have j:(Lib.index a b).toNat<=a.length:=by omega
  have k:(Lib.index a b).toNat+b.length<=a.length:=by omega
  simp[Wk,zw,c,d,h,f,g,i,j,k,lr,e,qU,f204];rw[q6 (by simp)]
 ·have e:Lib.cut a b=(a,[],false):=by unfold Lib.cut;rw[zj h]
  simp[Wk,zw,c,d,h,lr,e,qU,f204]
theorem Cl:zf prog 204 (zg false [] (xR lr fun _ _=>True)):=
 yt (fn:=f204) OA (qW func204) false [] _ fun args r h=>by obtain⟨a,b,rfl,c,d,_,rfl⟩:=jB h;exact⟨by simp[f204],_,Fq a b c d,qa _⟩
def LS(a b:za):O:=qO (b.isPrefixOf a)
theorem nV(a b:za):(decide (b.length<=a.length)&&(a.take b.length==b))=b.isPrefixOf a:=by
 rw[yg];simp only[zx,qG,jh,List.isPrefixOf_iff_prefix];constructor
 ·rintro⟨_,h⟩;exact List.prefix_iff_eq_take.2 h.symm
 ·intro h;exact⟨h.length_le,(List.prefix_iff_eq_take.1 h).symm⟩
noncomputable abbrev Cw0:Ctx:=zG prog []
theorem ta:Gd Cw0:=qc mixed trivial
theorem aV(a b:za):zt Cw0 f173 [str a,str b]=some (LS a b):=by
 refine zl rfl ?_;have Y:=nV a b;by_cases h:b.length<=a.length
 ·rw[Zv h,Ej]at Y;simp[h,LS,<-Y,f173]
 ·rw[Qo h,Bool.false_and]at Y;have c:¬((b.length:Int)<=a.length):=by omega
  simp[h,c,LS,<-Y,f173]
theorem Xn:zf prog 173 (zg false [] (xR LS fun _ _=>True)):=
 yt (fn:=f173) ta (qW func173) false [] _ fun args r h=>by obtain⟨a,b,rfl,c,d,_,rfl⟩:=jB h;exact⟨by simp[f173],_,aV a b,qa _⟩
noncomputable abbrev Cw1:Ctx:=zG prog [(173,zg false [] (xR LS fun _ _=>True)),(204,zg false [] (xR lr fun _ _=>True))]
theorem tc:AM.Good Cw1 (fun g=>[173].contains g):=qc mixed ⟨Xn,fun _=>zr _ _,Cl,fun _=>zr _ _,trivial⟩
theorem bI(a b:za)(Y:Hp)(Z:Nat)(h:a.length<=zw)(c:b.length<=zw):zg false [] (xR LS fun _ _=>True) [str a,str b] Y Z=some (qO (b.isPrefixOf a),Y,Z):=jL _ _ a b Y Z h c trivial rfl
theorem nW(a b:za)(Y:Hp)(Z:Nat)(h:a.length<=zw)(c:b.length<=zw):zg false [] (xR lr fun _ _=>True) [str a,str b] Y Z=some (.q8 [str (Lib.cut a b).1,str (Lib.cut a b).2.1,qO (Lib.cut a b).2.2],Y,Z):=jL _ _ a b Y Z h c trivial rfl
theorem aW:zf prog 148 (zg false [] (xR LS fun _ _=>True)):=
 yt (fn:=f148) tc (qW func148) false [] _ fun args r h=>by obtain⟨a,b,rfl,c,d,_,rfl⟩:=jB h;exact⟨by simp[f148],_,zl rfl (by simp[bI,c,d,LS,f148]),qa _⟩
theorem td:zf prog 177 (zg false [] (xR lr fun _ _=>True)):=
 yt (fn:=f177) tc (qW func177) false [] _ fun args r h=>by obtain⟨a,b,rfl,c,d,_,rfl⟩:=jB h;exact⟨by simp[f177],_,zl rfl (by simp[nW,c,d,lr,qU,f177]),qa _⟩
def LU(a b:za):O:=.q8 [str (if b.isPrefixOf a then a.drop b.length else a),qO (b.isPrefixOf a)]
theorem aX(a b:za)(c:a.length<=zw)(d:b.length<=zw):zt Cw1 f261 [str a,str b]=some (LU a b):=by
 refine zl rfl ?_;cases h:b.isPrefixOf a
 ·simp[bI,c,d,h,LU,qU,f261]
 ·have e:=(List.isPrefixOf_iff_prefix.1 h).length_le;simp[bI,c,d,h,e,LU,qU,f261];rw[q6 (by simp)]
theorem Xo:zf prog 261 (zg false [] (xR LU fun _ _=>True)):=
 yt (fn:=f261) tc (qW func261) false [] _ fun args r h=>by obtain⟨a,b,rfl,c,d,_,rfl⟩:=jB h;exact⟨by simp[f261],_,aX a b c d,qa _⟩
noncomputable abbrev Cw2:Ctx:=zG prog [(261,zg false [] (xR LU fun _ _=>True))]
theorem PN:Gd Cw2:=qc mixed ⟨Xo,fun _=>zr _ _,trivial⟩
theorem Av(a b:za)(Y:Hp)(Z:Nat)(h:a.length<=zw)(c:b.length<=zw):zg false [] (xR LU fun _ _=>True) [str a,str b] Y Z=some (.q8 [str (if b.isPrefixOf a then a.drop b.length else a),qO (b.isPrefixOf a)],Y,Z):=jL _ _ a b Y Z h c trivial rfl
theorem aY:zf prog 242 (zg false [] (xR LU fun _ _=>True)):=
 yt (fn:=f242) PN (qW func242) false [] _ fun args r h=>by obtain⟨a,b,rfl,c,d,_,rfl⟩:=jB h;exact⟨by simp[f242],_,zl rfl (by simp[Av,c,d,LU,qU,f242]),qa _⟩
def tlP(a b:za):O:=str (Lib.trimLeftB a (b.headD 0))
def tbP(a b:za):O:=str (Lib.trimB a (b.headD 0))
def Cm(b:za):Prop:=∃c:UInt8,b=[c]/\c.toNat<128
theorem cU:zf prog 270 (zg false [] (xR tlP fun _ b=>Cm b)):=
 kK ⟨_,func270,by kernel_rfl,by kernel_rfl⟩ fun args r h=>by
  obtain⟨a,b,rfl,g,i,⟨c,rfl,d⟩,rfl⟩:=jB h;refine⟨[.string ⟨a.toArray⟩,.string ⟨#[c]⟩],rfl,by simp[lit],rfl,.string ⟨(Lib.trimLeftB a c).toArray⟩,fun w S=>.v rfl,fun w S _=>?_⟩;refine(Any.strings_TrimLeft_one Tryz.NZ ⟨a.toArray⟩ c d w).mono fun e j f=>?_
  obtain⟨rfl,rfl⟩:=f;exact⟨by simp,Fr.refl _ _⟩
theorem nX:zf prog 176 (zg false [] (xR tbP fun _ b=>Cm b)):=
 kK ⟨_,func176,by kernel_rfl,by kernel_rfl⟩ fun args r h=>by
  obtain⟨a,b,rfl,d,i,⟨c,rfl,f⟩,rfl⟩:=jB h;unfold zw at d;refine⟨[.string ⟨a.toArray⟩,.string ⟨#[c]⟩],rfl,by simp[lit],rfl,.string ⟨(Lib.trimB a c).toArray⟩,fun w S=>.v rfl,fun w S _=>?_⟩;refine(Any.strings_Trim_one Tryz.N0 ⟨a.toArray⟩ c f w (by simp;omega)).mono fun e j g=>?_
  obtain⟨rfl,rfl|rfl⟩:=g
  ·exact⟨by simp,Fr.refl _ _⟩
  ·exact⟨by simp,Fr.drew _ _⟩
def lu(done:List za)(k:Nat):List zb:=done.map (fun p=>[str p])++List.replicate k [str []]
theorem nY(done:List za)(k:Nat)(p:za):(lu done (k+1)).set done.length [str p]=lu (done++[p]) k:=by unfold lu;rw[List.set_append_right _ _ (by simp)];simp[List.replicate_succ]
theorem nZ(done:List za)(k:Nat):(lu done (k+1))[done.length]?=some [str []]:=by unfold lu;rw[qZ (by simp)];simp[List.replicate_succ]
theorem Cn(done:List za):lu done 0=done.map fun p=>[str p]:=by simp[lu]
def qy(s sep:za):List za:=Lib.split s sep
theorem cV{sep s:za}{i k:Nat}(h:Lib.index s sep=i):Lib.splitK sep 0 (k+1) s=s.take i::Lib.splitK sep 0 k (s.drop (i+sep.length)):=by
 have a:¬(Lib.index s sep==-1)=true:=by rw[jh];omega
 rw[Lib.splitK,zj a,h];simp
theorem gG{s sep:za}(h:sep≠[]):Lib.count s sep<=s.length:=by have:=Lib.countB_le ⟨sep.toArray⟩ (by cases sep<;>simp_all) s.length ⟨s.toArray⟩ (by simp);simpa[Lib.countB]using this
theorem Fs(a b:za)(Y:Hp)(Z:Nat)(h:a.length<=zw)(c:b.length<=zw)(d:1<=b.length):zg false [] (xR PM fun _ b=>1<=b.length) [str a,str b] Y Z=some (int (Lib.count a b),Y,Z):=jL _ _ a b Y Z h c d rfl
def Ky(xs:List za):jV:=⟨9,1,true,xs.map fun p=>[str p]⟩
theorem fx(s sep:za)(F:s.length<=zw)(G:sep.length<=zw)(v:1<=sep.length) :
  ∃x Y Z,jG Ci2 f205 [str s,str sep,int 0,int (-1)] (fun _=>none) 0=some (x,Y,Z)/\cN (some (Ky (qy s sep))) x Y Z:=by
 have b:sep≠[]:=by intro e;subst e;simp at v
 have H:=gG (s:=s) b;unfold zw at F G;refine Vb rfl ?_;have l:=jr b;have w:=wo ((Lib.count s sep:Int)+1);have I:=wo ((s.length:Int)+1);have w3:(if(s.length:Int)+1<(Lib.count s sep:Int)+1 then(s.length:Int)+1 else(Lib.count s sep:Int)+1)=(Lib.count s sep:Int)+1:=zj (by omega);have J:i6.wrap ((Lib.count s sep:Int)+1-1)=(Lib.count s sep:Int):=by rw[qE (by omega) (by omega)];omega
 have m:=wo (Lib.count s sep:Int);have y:((Lib.count s sep:Int)+1).toNat=Lib.count s sep+1:=by omega
 have z:0<=(Lib.count s sep:Int)+1:=by omega
 have c3:Lib.count s sep+1<=maxLen:=by simp[maxLen];omega
 have K:(Lib.count s sep+1)*16<=140737488355328:=by omega
 have n:=fun Y Z=>Fs s sep Y Z (by unfold zw;omega) (by unfold zw;omega) v
 have o:¬s.length<Lib.count s sep:=by omega
 have L:(Lib.count s sep:Int)+1<=(maxLen:Int):=by simp[maxLen];omega
 simp[l,n,w,I,o,J,m,xL,y,z,L,K];refine zP (fun j U Y Z=>∃done cur,done.length=j/\U 0=str cur/\U 1=str sep/\U 2=int 0/\U 3=int (Lib.count s sep)/\U 9=.own 0 0 (Lib.count s sep+1)/\U 10=int j /\
   Y 0=some ⟨9,1,true,lu done (Lib.count s sep+1-j)⟩/\j+Lib.count cur sep=Lib.count s sep/\qy s sep=done++qy cur sep/\cur.length<=s.length) (Lib.count s sep)
  ⟨[],s,rfl,by simp,by simp,by simp,by simp[m],by simp,by simp,by simp[lu],by simp,by simp,zi _⟩ ?_
 rintro j U Y Z hj ⟨done,cur,hd,A,B,C,D,E,d,k,hc,hs,hl⟩;have f:∀Y Z,zg false [] (xR s9 fun _ _=>True) [str cur,str sep] Y Z=some (int (Lib.index cur sep),Y,Z):=fun Y Z=>Wk cur sep Y Z (by unfold zw;omega) (by unfold zw;omega)
 by_cases p:j<Lib.count s sep
 ·have M:Lib.index cur sep≠-1:=fun e=>by have:=Lib.count_miss e;omega
  have q:0<=Lib.index cur sep:=by
   rcases Lib.index_spec cur sep with⟨h,_⟩|⟨i,h,_⟩
   ·exact absurd h M
   ·omega
  obtain⟨i,r⟩:∃i:Nat,Lib.index cur sep=i:=⟨(Lib.index cur sep).toNat,by omega⟩;have N:=Lib.index_room cur sep q;rw[r]at N f;have t:=Lib.count_hit b r;have c:qy cur sep=cur.take i::qy (cur.drop (i+sep.length)) sep:=by unfold qy Lib.split;rw[t,NV 1,cV r]
  have P:¬((i:Int)<0):=by omega
  have Q:=wo (i:Int);have R:=wo ((i:Int)+sep.length);have S:=qz j;have T:((i:Int)+sep.length).toNat=i+sep.length:=by omega
  have W:i+sep.length<=cur.length:=by omega
  have X:i<=cur.length:=by omega
  have k8:0<=(i:Int)+sep.length:=by omega
  have k9:j<Lib.count s sep+1:=by omega
  have u:Lib.count s sep+1-j=(Lib.count s sep-j)+1:=by omega
  have g:=nZ done (Lib.count s sep-j);rw[hd]at g;have a:=nY done (Lib.count s sep-j) (cur.take i);rw[hd]at a;rw[u]at k;simp[A,B,C,D,E,d,k,p,f,P,Q,R,S,T,W,X,k8,k9,g,a];have ht:List.take (cur.length-(i+sep.length)) (List.drop (i+sep.length) cur)=List.drop (i+sep.length) cur:=q6 (by simp);rw[ht];exact⟨by omega,done++[cur.take i],by simp[hd],rfl,by omega,by rw[hs,c];simp,by omega⟩
 ·obtain rfl:j=Lib.count s sep:=by omega
  have hz:Lib.count cur sep=0:=by omega
  have c:qy cur sep=[cur]:=by unfold qy Lib.split;rw[hz];rfl
  have u:Lib.count s sep+1-Lib.count s sep=0+1:=by omega
  have g:=nZ done 0;have a:=nY done 0 cur;rw[hd]at g a;rw[u]at k;simp[A,B,C,D,E,d,k,g,a,w,m,y,z,cN,yX,f205];rw[hs,c];exact⟨0,⟨by omega,by simp[Ky,hd]⟩,by simp[Ky,Cn]⟩
noncomputable def FGs:zb->Option (Option jV):=zS (α:=za×za) (fun a=>[str a.1,str a.2,int 0,int (-1)]) (fun a=>a.1.length<=zw/\a.2.length<=zw/\1<=a.2.length) (fun a=>some (Ky (qy a.1 a.2)))
noncomputable def TP:zb->Option (Option jV):=zS (α:=za×za) (fun a=>[str a.1,str a.2]) (fun a=>a.1.length<=zw/\a.2.length<=zw/\1<=a.2.length) (fun a=>some (Ky (qy a.1 a.2)))
theorem PO:∀a b:za×za,[str a.1,str a.2,int 0,int (-1)]=[str b.1,str b.2,int 0,int (-1)]->a=b:=by rintro⟨c,d⟩ ⟨f,g⟩ e;simp only[zc,zs]at e;rw[qv e.1,qv e.2]
theorem cW:zf prog 205 (km [] FGs):=
 WV (fn:=f205) (code:=_) Fp ⟨func205,by kernel_rfl,rfl,by kernel_rfl⟩ [] _ fun args r h=>by obtain⟨⟨a,b⟩,rfl,⟨c,d,e⟩,rfl⟩:=qd h;exact⟨by simp[f205],fx a b c d e⟩
theorem LV(a b:za)(Y:Hp)(Z:Nat)(c:a.length<=zw)(d:b.length<=zw)(f:1<=b.length):km [] FGs [str a,str b,int 0,int (-1)] Y Z=some (.own Z 0 (qy a b).length,ql Y Z (some (Ky (qy a b))),Z+1):=by have e:FGs (yr [] [str a,str b,int 0,int (-1)])=some (some (Ky (qy a b))):=qx (V:=fun a:List UInt8×za=>[str a.1,str a.2,int 0,int (-1)]) (a:=(a,b)) PO ⟨c,d,f⟩;simp[km,e,Ky]
noncomputable abbrev Csp:Ctx:=zG prog [(205,km [] FGs)]
theorem PQ:Gd Csp:=zM mixed ⟨cW,trivial⟩
theorem Jb:zf prog 178 (km [] TP):=
 WV (fn:=f178) (code:=_) PQ ⟨func178,by kernel_rfl,rfl,by kernel_rfl⟩ [] _ fun args r h=>by
  obtain⟨⟨a,b⟩,rfl,⟨c,d,e⟩,rfl⟩:=qd h;have f:=fun Y Z=>LV a b Y Z c d e
  exact⟨by simp[f178],Vb rfl (by simp[f,cN,Ky,f178])⟩
theorem WZ(a b:za)(Y:Hp)(Z:Nat)(c:a.length<=zw)(d:b.length<=zw)(f:1<=b.length):km [] TP [str a,str b] Y Z=some (.own Z 0 (qy a b).length,ql Y Z (some (Ky (qy a b))),Z+1):=by have e:TP (yr [] [str a,str b])=some (some (Ky (qy a b))):=qx (V:=fun a:List UInt8×za=>[str a.1,str a.2]) (a:=(a,b)) s8 ⟨c,d,f⟩;simp[km,e,Ky]
def Co(c:UInt8):Bool:=pr 48 57 c
def xS(l:za):Bool:=l.all Co
def jZ(l:za):Bool:=!(l==[])&&!(decide (1<l.length)&&l.headD 0==48)&&xS l
def xh(l:za):Bool:=l==[120]||l==[88]||l==[42]
def a6(c:UInt8):Bool:=pr 97 122 c||pr 65 90 c||pr 48 57 c||c==45
def fy(l:za):Bool:=l.all a6&&!(l==[])
theorem Cp{l:za}{k:Nat}(h:k<l.length):xS (l.drop k)=(Co l[k]&&xS (l.drop (k+1))):=Vc h
theorem Cq{l:za}{k:Nat}(h:k<l.length):(l.drop k).all a6=(a6 l[k]&&(l.drop (k+1)).all a6):=Vc h
theorem cX(l:za)(i:l.length<=zw):zt C0 f210 [str l]=some (qO (xS l)):=by
 refine zl rfl ?_;unfold zw at i;simp;refine zP (fun k U Y Z=>U 0=str l/\U 5=int l.length/\U 6=int k/\xS l=xS (l.drop k)) l.length ⟨by simp,by simp,by simp,by simp⟩ ?_;rintro k U Y Z m ⟨e,f,g,b⟩;by_cases a:k<l.length
 ·have j:=qz k;rw[Cp a]at b;have h:=lp 48 57 l[k];simp only[rW]at h;cases d:Co l[k]
  ·have b:xS l=false:=by rw[b,d];rfl
   have c:pr 48 57 l[k]=false:=d;simp[e,f,g,a,b,h,c,f210]
  ·have c:pr 48 57 l[k]=true:=d;simp[e,f,g,a,h,c,j];exact⟨a,by rw[b,d];rfl⟩
 ·obtain rfl:k=l.length:=by omega
  have b:xS l=true:=by rw[b,zp];rfl
  simp[e,f,g,b,f210]
theorem Zz:zf prog 210 (zg false [] (FS xS)):=
 kL y7 func210 false [] fun l Y=>⟨by simp[f210],_,cX l Y,qa _⟩
noncomputable abbrev Cdg:Ctx:=zG prog [(210,zg false [] (FS xS))]
theorem PR:AM.Good Cdg (fun g=>[210].contains g):=qc mixed ⟨Zz,fun _=>zr _ _,trivial⟩
theorem te(l:za)(g:l.length<=zw):zt Cdg f206 [str l]=some (qO (jZ l)):=by
 refine zl rfl ?_;have hd:=fun Y Z=>ke xS l Y Z g
 cases l with
 |nil=>simp[jZ,f206]
 |cons c l=>
  by_cases b:0<l.length
  ·have a:l≠[]:=by intro e;subst e;simp at b
   have f:(1:Int)<(l.length:Int)+1:=by omega
   by_cases d:c=48
   ·subst d;simp[hd,b,a,f,jZ,f206]
   ·have h:((c.toNat:Int)==48)=false:=by rw[yC];intro e;apply d;rw[<-O0];simp;omega
    simp[hd,b,a,d,h,f,jZ,f206]
  ·have a:l=[]:=by cases l<;>simp_all
   subst a;simp[hd,jZ,f206]
theorem aj:zf prog 206 (zg false [] (FS jZ)):=
 kL PR func206 false [] fun l Y=>⟨by simp[f206],_,te l Y,qa _⟩
theorem Cr(l:za):zt C0 f216 [str l]=some (qO (xh l)):=by
 refine zl rfl ?_;cases a:(l==[120])
 ·cases b:(l==[88])
  ·simp[a,b,xh,f216]
  ·simp[a,b,xh,f216]
 ·simp[a,xh,f216]
theorem cY:zf prog 216 (zg false [] (FS xh)):=
 kL y7 func216 false [] fun l Y=>⟨by simp[f216],_,Cr l,qa _⟩
def lv(l:za):Int:=((Lib.decNat l).getD 0:Nat)
theorem W0:∀(l:za) (a:Nat),xS l=true->∃n,Lib.decFrom a l=some n/\n<(a+1)*10 ^ l.length
 |[],a,_=>⟨a,rfl,by simp⟩
 |c::l,a,h=>by
  simp only[xS,wJ,zx]at h;have b:48<=c.toNat/\c.toNat<=57:=by have:=h.1;simpa[Co,pr]using this
  obtain⟨n,d,e⟩:=W0 l (a*10+(c.toNat-48)) h.2;refine⟨n,?_,?_⟩
  ·simp only[Lib.decFrom,Lib.digitVal,b,and_self,qI];exact d
  ·have f:a*10+(c.toNat-48)+1<=(a+1)*10:=by omega
   calc n<(a*10+(c.toNat-48)+1)*10 ^ l.length:=e
    _<=(a+1)*10*10 ^ l.length:=qt _ f
    _=(a+1)*10 ^ (c::l).length:=by rw[zU,Nat.pow_succ,Nat.mul_assoc,Nat.mul_comm 10]
theorem n9{l:za}(h:jZ l=true):l≠[]/\xS l=true:=by simp only[jZ,zx]at h;exact⟨by intro e;subst e;simp at h,h.2⟩
theorem tf{l:za}(h:jZ l=true):Lib.atoi l=some (lv l):=by
 obtain⟨a,b⟩:=n9 h;obtain⟨n,i,_⟩:=W0 l 0 b;have f:Lib.decNat l=some n:=by unfold Lib.decNat;rw[zj (by simpa using a)];exact i
 cases l with
 |nil=>exact absurd rfl a
 |cons c l=>
  have k:48<=c.toNat/\c.toNat<=57:=by have:=b;simp only[xS,wJ,zx]at this;simpa[Co,pr]using this.1
  have j:lv (c::l)=n:=by unfold lv;rw[f];rfl
  rw[j];have g:∀d:UInt8,d.toNat<48->(c==d)=false:=fun d hd=>by rw[yC];intro e;subst e;omega
  unfold Lib.atoi;simp only[];rw[g 45 (by decide),g 43 (by decide),f];rfl
noncomputable def FAt:zb->Option O:=zS (α:=za) (fun l=>[str l]) (fun l=>l.length<=18/\jZ l=true) (fun l=>.q8 [int (lv l),.v .nilIface])
theorem Ft{dr:Prop}(w:World)(e:TypeId)(s:ByteArray):Fr dr w (fun _=>False) (Lib.bytesWorld w e s):=by
 have d:∀(b:World) (a:Addr) (n k:Nat),k≠a.block->(b.freeze a n).heap[k]?=b.heap[k]?:=by
  intro b a n k c;unfold World.freeze;split
  ·rfl
  ·simp[vR,Ne.symm c]
 have f:∀(b:World) (a:Addr) (n:Nat),(b.freeze a n).heap.size=b.heap.size:=by intro b a n;unfold World.freeze;split<;>simp
 unfold Lib.bytesWorld;refine⟨rfl,rfl,rfl,?_,?_,fun k c _=>?_⟩
 ·rw[f];simp
 ·exact fun _=>Bv _
 ·rw[d _ _ _ k (by simpa using Nat.ne_of_lt c)];exact(Below.heap_alloc w.drew _ k c)
@[simp]theorem IA(U:Nat->O):AM.get U (.const .nilIface)=some (.v .nilIface):=rfl
theorem th:zf prog 207 (zg false [] FAt):=
 kK ⟨_,func207,by kernel_rfl,by kernel_rfl⟩ fun args r h=>by
  obtain⟨l,rfl,⟨c,d⟩,rfl⟩:=qd h;refine⟨[.string ⟨l.toArray⟩],rfl,by simp[lit],rfl,.tuple #[.int .i64 (lv l),.nilIface],fun w S=>.q8 rfl fun j g u a b=>?_,fun w S _=>?_⟩
  ·match j,a,b with
   | 0,a,b=>simp at a b;subst a;subst b;exact .v rfl
   | 1,a,b=>simp at a b;subst a;subst b;exact .v rfl
   |j+2,a,b=>simp at a
  refine(Any.strconv_Atoi Tryz.N1 ⟨l.toArray⟩ (lv l) (by simpa using c) (by simpa using tf d) w).mono fun e i f=>?_
  obtain⟨rfl,t,rfl⟩:=f;exact⟨rfl,Ft _ _ _⟩
theorem Cs(l:za)(Y:Hp)(Z:Nat)(c:l.length<=18)(d:jZ l=true):zg false [] FAt [str l] Y Z=some (.q8 [int (lv l),.v .nilIface],Y,Z):=
 Zc l _ _ rfl (fun a b e=>by simp only[zc,zs]at e;exact qv e) ⟨c,d⟩ (.inl rfl)
def W4(l:za):Option Int:=if jZ l=true/\l.length<=6 then some (lv l)else none
def Ve(l:za):O:=.q8 [int ((W4 l).getD 0),qO (W4 l).isSome]
noncomputable def PS (f:za->O):zb->Option O:=zS (α:=za) (fun l=>[str l]) (fun l=>l.length<=zw) f
theorem cZ(f:za->O)(l:za)(Y:Hp)(Z:Nat)(h:l.length<=zw)(c:(f l).flat=true):zg false [] (PS f) [str l] Y Z=some (f l,Y,Z):=
 Zc l _ _ rfl (fun a b e=>by simp only[zc,zs]at e;exact qv e) h (.inl c)
noncomputable abbrev Cvn:Ctx:=zG prog [(206,zg false [] (FS jZ)),(207,zg false [] FAt)]
theorem PT:AM.Good Cvn (fun g=>[206].contains g):=qc mixed ⟨aj,fun _=>zr _ _,th,fun _=>zr _ _,trivial⟩
theorem Kz(l:za)(f:l.length<=zw):zt Cvn f179 [str l]=some (Ve l):=by
 refine zl rfl ?_;have b:=fun Y Z=>ke jZ l Y Z f
 cases a:jZ l
 ·simp[b,a,Ve,W4,qU,f179]
 ·by_cases e:l.length<=6
  ·have c:¬((6:Int)<l.length):=by omega
   have g:=fun Y Z=>Cs l Y Z (by omega) a
   simp[b,a,e,c,g,Ah,Ve,W4,qU,f179]
  ·have c:(6:Int)<l.length:=by omega
   have d:6<l.length:=by omega
   simp[b,a,e,d,c,Ve,W4,qU,f179]
theorem ZF:zf prog 179 (zg false [] (PS Ve)):=
 kL PT func179 false [] fun l Y=>⟨by simp[f179],_,Kz l Y,qa _⟩
@[simp]theorem TQ(P:Program)(Y:Hp)(t:TypeId)(id a b:Nat)(k:IntKind)(i:Int)(h:wC P t=none):qi P Y t (.ref id a b) (.v (.int k i))=(nf P t).bind fun c=>(qj P c.2).bind fun n=>if 0<=i/\i<c.1 then some (.ref id a (b+i.toNat*n))else none:=by
 simp only[qi,h,vn];cases nf P t with
 |none=>rfl
 |some c=>obtain⟨m,e⟩:=c;simp only[zV];cases qj P e<;>rfl
@[simp]theorem TR(P:Program)(Y:Hp)(t:TypeId)(cs:zb)(k:IntKind)(i:Int)(h:wC P t=none):qi P Y t (.ptr cs) (.v (.int k i))=(nf P t).bind fun a=>(qj P a.2).bind fun n=>if 0<=i/\i<a.1 then some (.ptr (cs.drop (i.toNat*n)))else none:=by
 simp only[qi,h,vn];cases nf P t with
 |none=>rfl
 |some a=>obtain⟨m,e⟩:=a;simp only[zV];cases qj P e<;>rfl
@[simp]theorem wrl1:i6.wrap 1=1:=qE (by decide) (by decide)
@[simp]theorem wrl2:i6.wrap 2=2:=qE (by decide) (by decide)
@[simp]theorem wrl3:i6.wrap 3=3:=qE (by decide) (by decide)
theorem ti(l:za)(h:l.length<=zw):zt C0 f209 [str l]=some (qO (fy l)):=by
 refine zl rfl ?_;unfold zw at h;simp;refine zP (fun k U Y Z=>U 0=str l/\U 6=int l.length/\U 7=int k/\l.all a6=(l.drop k).all a6) l.length ⟨by simp,by simp,by simp,by simp⟩ ?_;rintro k U Y Z m ⟨e,f,g,b⟩;by_cases a:k<l.length
 ·have i:=qz k;rw[Cq a]at b;have c:(decide ((97:Int)<=l[k].toNat)&&decide ((l[k].toNat:Int)<=122)||decide ((65:Int)<=l[k].toNat)&&decide ((l[k].toNat:Int)<=90)||decide ((48:Int)<=l[k].toNat)&&decide ((l[k].toNat:Int)<=57)||((l[k].toNat:Int)==45))=a6 l[k]:=by
   have j:((l[k].toNat:Int)==45)=(l[k]==45):=by rw[yg];simp[<-O0];omega
   rw[j,yg];simp[a6,pr,<-O0];omega
  cases d:a6 l[k]
  ·have b:l.all a6=false:=by rw[b,d];rfl
   rw[d]at c;simp[e,f,g,a,c,fy,b,-List.all_eq_true,-List.all_eq_false,f209]
  ·rw[d]at c;simp[e,f,g,a,c,i,-List.all_eq_true,-List.all_eq_false];exact⟨a,by rw[b,d];rfl⟩
 ·obtain rfl:k=l.length:=by omega
  have b:l.all a6=true:=by rw[b,zp];rfl
  simp[e,f,g,b,fy,-List.all_eq_true,f209]
theorem oa:zf prog 209 (zg false [] (FS fy)):=
 kL y7 func209 false [] fun l Y=>⟨by simp[f209],_,ti l Y,qa _⟩
theorem fA:zf prog 208 (zg false [] (F3 vG)):=
 yt (fn:=f208) y7 (qW func208) false [] _ fun args r h=>by obtain⟨a,b,c,rfl,rfl⟩:=cT h;exact⟨by simp[f208],_,zl rfl (by simp[f208,vG]),qa _⟩
structure yE where
 a:Int
 b:Int
 c:Int
 pre:List (List UInt8)
def zZ(l:List za):List zb:=l.map fun p=>[str p]
theorem jd{a b:List za}(h:zZ a=zZ b):a=b:=yF (fun x y e=>by simp only[zc,zs]at e;exact qv e) h
@[simp]theorem OB(l:List za):(zZ l).length=l.length:=by simp[zZ]
@[simp]theorem Fu:zZ []=[]:=rfl
@[simp]theorem Ct(l:List za):(zZ l).take l.length=zZ l:=q6 (by simp)
@[simp]theorem JG(p:za)(l:List za):zZ (p::l)=[str p]::zZ l:=rfl
@[simp]theorem zcc(l:List za):Ky l=⟨9,1,true,zZ l⟩:=rfl
@[simp]theorem zcd{l:List za}{k:Nat}(h:k<(zZ l).length):(zZ l)[k]=[str (l[k]'(by simpa using h))]:=by simp[zZ]
theorem Fv{l:List za}{k:Nat}(h:k<l.length):(zZ l)[k]?=some [str l[k]]:=by simp[zZ,h]
def yE.V(v:yE):zb:=[int v.a,int v.b,int v.c,.sl 1 (zZ v.pre)]
theorem Wl{a b:yE}(h:a.V=b.V):a=b:=by
 cases a;cases b;simp only[yE.V,zc,zs]at h;obtain⟨d,e,f,c⟩:=h;injection c with _ c
 rw[zT d,zT e,zT f,jd c]
abbrev Zn:List (Option Nat):=[none,none,none,some 1]
def yE.small(v:yE):Prop:=v.pre.length<=zw/\∀p∈v.pre,p.length<=zw
def vc(p:za):Bool:=decide (20<p.length)||!fy p||(xS p&&!jZ p)
def jM(v:yE):Int:=if vG v.a 0 999999=true/\vG v.b 0 999999=true/\vG v.c 0 999999=true then(if 10<v.pre.length then 2 else if v.pre.any vc then 3 else 0)else 1
noncomputable def I7 (f:yE->O):zb->Option O:=zS (α:=yE) (fun v=>[.agg v.V]) yE.small f
theorem c7(f:yE->O)(v:yE)(x:O)(Y Y1:Hp)(Z:Nat)(y:O)(d:zy Y [x]=some ([y],Y1))(i:(Sh.g Zn).fix y=.agg v.V)(h:v.small)(c:(f v).flat=true):qH [.g Zn] (I7 f) [x] Y Z=some (f v,Y,Z):=by
 have e:I7 f (aU [.g Zn] (yr [] [y]))=some (f v):=by show I7 f [(Sh.g Zn).fix y]=_;rw[i];exact qx (V:=fun v:yE=>[O.agg v.V]) (a:=v) (fun a b e=>by simp only[zc,zs]at e;injection e with e;exact Wl e) h
 unfold qH zg;simp only[d,e,c,true_or,qI]
noncomputable abbrev Fw:Ctx:=zG prog [(208,zg false [] (F3 vG)),(209,zg false [] (FS fy)),(210,zg false [] (FS xS)),(206,zg false [] (FS jZ))]
theorem LW:AM.Good Fw (fun g=>[208,209,210,206].contains g):=qc mixed ⟨fA,fun _=>zr _ _,oa,fun _=>zr _ _,Zz,fun _=>zr _ _,aj,fun _=>zr _ _,trivial⟩
@[simp]theorem TT:jJ Fw 209:=yA (by rfl) (zr _ _)
@[simp]theorem TU:jJ Fw 210:=yA (by rfl) (zr _ _)
@[simp]theorem TV:jJ Fw 206:=yA (by rfl) (zr _ _)
theorem Vf(v:yE)(h:v.small):zt Fw f180 [.agg v.V]=some (int (jM v)):=by
 obtain⟨a,b,c,pre⟩:=v;obtain⟨w,o⟩:=h;simp only at w o;unfold zw at w;refine zl rfl ?_;simp[yE.V,zu,zX,zv];rw[zO];cases n:vG a 0 999999
 ·simp[n,jM,f180]
 simp[n];rw[zO];cases p:vG b 0 999999
 ·simp[n,p,jM,f180]
 simp[p];rw[zO];cases q:vG c 0 999999
 ·simp[n,p,q,jM,f180]
 simp[q];rw[zO];simp;by_cases s:10<pre.length
 ·have g:(10:Int)<pre.length:=by omega
  simp[n,p,q,s,g,jM,f180]
 have g:¬(10:Int)<pre.length:=by omega
 simp[s,g];have t:jM ⟨a,b,c,pre⟩=if pre.any vc then 3 else 0:=by simp[jM,n,p,q,s]
 rw[t];refine zP (fun k U Y Z=>U 28=.sl 1 (zZ pre)/\U 29=int pre.length/\U 30=int k/\pre.any vc=(pre.drop k).any vc) pre.length ⟨by simp,by simp,by simp,by simp⟩ ?_;rintro k U Y Z B ⟨i,j,l,f⟩;by_cases d:k<pre.length
 ·have C:=qz k;have x:=Fv d;rw[zd d,xF]at f;have m:=o _ (zm d);have y:=fun Y Z=>ke fy pre[k] Y Z m
  have z:=fun Y Z=>ke xS pre[k] Y Z m
  have A:=fun Y Z=>ke jZ pre[k] Y Z m
  have u:vc pre[k]=(decide (20<pre[k].length)||!fy pre[k]||(xS pre[k]&&!jZ pre[k])):=rfl;have e:(decide ((20:Int)<pre[k].length)||!fy pre[k]||xS pre[k]&&!jZ pre[k])=vc pre[k]:=by rw[u];congr 2;rw[yg];simp;omega
  cases r:vc pre[k]
  ·rw[r]at e;simp[i,j,l,d,x,y,z,A,e,C];exact⟨d,by rw[f,r];rfl⟩
  ·rw[r]at e;have f:pre.any vc=true:=by rw[f,r];rfl
   simp[i,j,l,d,x,y,z,A,e,f,-List.any_eq_true,f180]
 ·obtain rfl:k=pre.length:=by omega
  have f:pre.any vc=false:=by rw[f,zp];rfl
  simp[i,j,l,f,-List.any_eq_false,f180]
theorem LX{f:yE->O}{args:zb}{r:O}(h:I7 f args=some r):∃v:yE,args=[.agg v.V]/\v.small/\r=f v:=qd h
theorem vY:zf prog 180 (qH [.g Zn] (I7 fun v=>int (jM v))):=
 yN (fn:=f180) LW (qW func180) _ _ fun args r h=>by obtain⟨v,rfl,a,rfl⟩:=LX h;exact⟨by simp[f180],_,Vf v a,wu.refl _⟩
theorem c8(sep:za):∀(k:Nat) (s p:za),p∈Lib.splitK sep 0 k s->p.length<=s.length
 | 0,s,p,h=>by simp[Lib.splitK]at h;rw[h];exact zi _
 |k+1,s,p,h=>by
  unfold Lib.splitK at h;split at h
  ·simp at h;rw[h];exact zi _
  ·rcases zC.1 h with rfl|h
   ·simp;omega
   ·have:=c8 sep k _ p h;simp at this;omega
theorem c9(sep:za):∀(k:Nat) (s:za),(Lib.splitK sep 0 k s).length<=k+1
 | 0,s=>by simp[Lib.splitK]
 |k+1,s=>by
  unfold Lib.splitK;split
  ·simp
  ·have:=c9 sep k (s.drop ((Lib.index s sep).toNat+sep.length));simp;omega
theorem xT{s sep p:za}(h:p∈qy s sep):p.length<=s.length:=c8 _ _ _ _ h
theorem Qb{s sep:za}(h:sep≠[]):(qy s sep).length<=s.length+1:=by have a:=c9 sep (Lib.count s sep) s;have b:=gG (s:=s) h;exact zA a (by omega)
theorem PU(s sep:za):(Lib.cut s sep).1.length<=s.length/\(Lib.cut s sep).2.1.length<=s.length:=by
 unfold Lib.cut;split
 ·simp;omega
 ·simp
noncomputable def da (f:za->O):zb->Option O:=zS (α:=za) (fun l=>[str l]) (fun l=>l.length+1<=zw) f
theorem Z2(f:za->O)(l:za)(Y:Hp)(Z:Nat)(h:l.length+1<=zw):zg false [] (da f) [str l] Y Z=some (f l,Y,Z):=
 Zc l _ _ rfl (fun a b e=>by simp only[zc,zs]at e;exact qv e) h (.inr (by simp))
def mV:yE:=⟨0,0,0,[]⟩
def gH(t:za):List za:=if(Lib.cut t [45]).2.2 then qy (Lib.cut t [45]).2.1 [46]else[]
def mZ(t:za):Option yE:=match qy (Lib.cut t [45]).1 [46]with
 |[d,e,f]=>match W4 d,W4 e,W4 f with
  |some a,some b,some c=>if jM ⟨a,b,c,gH t⟩=0 then some ⟨a,b,c,gH t⟩else none
  |_,_,_=>none
 |_=>none
def na(t:za):O:=match mZ t with
 |some v=>.q8 [.agg v.V,int 0]
 |none=>.q8 [.agg mV.V,int 10]
noncomputable abbrev Crv:Ctx:=zG prog [(177,zg false [] (xR lr fun _ _=>True)),(178,km [] TP),(179,zg false [] (PS Ve)),(180,qH [.g Zn] (I7 fun v=>int (jM v)))]
theorem PW:Gd Crv:=zM mixed ⟨td,Jb,ZF,vY,trivial⟩
theorem JH(l:za)(Y:Hp)(Z:Nat)(h:l.length<=zw):zg false [] (PS Ve) [str l] Y Z=some (.q8 [int ((W4 l).getD 0),qO (W4 l).isSome],Y,Z):=cZ Ve l Y Z h rfl
theorem zaF{α:Type}{l:List α}(h:l.length=3):∃a b c,l=[a,b,c]:=by
 match l,h with
 |[a,b,c],_=>exact⟨a,b,c,rfl⟩
theorem Xq(t:za)(N:t.length+1<=zw):∃I,zt Crv f152 [str t]=some I/\wu I (na t):=by
 refine kJ (sh:=.g Zn) rfl ?_;have J:=PU t [45];have m:=fun Y Z=>nW t [45] Y Z (by omega) (by decide)
 have r:=fun Y Z=>WZ (Lib.cut t [45]).1 [46] Y Z (by omega) (by decide) (by decide)
 have o:=fun Y Z=>WZ (Lib.cut t [45]).2.1 [46] Y Z (by omega) (by decide) (by decide)
 have h:∀p∈qy (Lib.cut t [45]).1 [46],p.length<=zw:=fun p Y=>by have:=xT Y;omega
 have A:∀p∈qy (Lib.cut t [45]).2.1 [46],p.length<=zw:=fun p Y=>by have:=xT Y;omega
 have B:(qy (Lib.cut t [45]).2.1 [46]).length<=zw:=by have:=Qb (s:=(Lib.cut t [45]).2.1) (sep:=[46]) (by simp);omega
 by_cases y:(qy (Lib.cut t [45]).1 [46]).length=3
 ·obtain⟨C,D,E,d⟩:=zaF y;rw[d]at r h;have i:=fun Y Z=>JH C Y Z (h C (by simp))
  have j:=fun Y Z=>JH D Y Z (h D (by simp))
  have k:=fun Y Z=>JH E Y Z (h E (by simp))
  simp[m,r];rw[zO];cases l:W4 C with
  |none=>rw[l]at i;simp[i,na,mZ,d,l,qg,qF,qV,mV,yE.V,f152]
  |some a=>
   rw[l]at i;simp[i];rw[zO];cases q:W4 D with
   |none=>rw[q]at j;simp[j,na,mZ,d,l,q,qg,qF,qV,mV,yE.V,f152]
   |some b=>
    rw[q]at j;simp[j];rw[zO];cases u:W4 E with
    |none=>rw[u]at k;simp[k,na,mZ,d,l,q,u,qg,qF,qV,mV,yE.V,f152]
    |some c=>
     rw[u]at k;simp[k];rw[zO];simp[qg,qF];have F:(⟨a,b,c,[]⟩:yE).small:=⟨by simp,by simp⟩;have G:(⟨a,b,c,qy (Lib.cut t [45]).2.1 [46]⟩:yE).small:=⟨B,A⟩;cases z:(Lib.cut t [45]).2.2
     ·have f:=fun Y Z=>c7 (fun v=>int (jM v)) ⟨a,b,c,[]⟩ (.agg [int a,int b,int c,.nil]) Y Y Z _ rfl rfl F rfl
      by_cases w:jM ⟨a,b,c,[]⟩=0
      ·simp[f,w,na,mZ,gH,d,l,q,u,z,qV,yE.V,f152]
      ·have x:=xE w;simp[f,w,x,na,mZ,gH,d,l,q,u,z,qg,qF,qV,mV,yE.V,f152]
     ·have f:∀(Y:Hp) (Z id n:Nat),Y id=some ⟨9,1,true,zZ (qy (Lib.cut t [45]).2.1 [46])⟩->n=(qy (Lib.cut t [45]).2.1 [46]).length->qH [.g Zn] (I7 fun v=>int (jM v)) [.agg [int a,int b,int c,.own id 0 n]] Y Z=some (int (jM ⟨a,b,c,qy (Lib.cut t [45]).2.1 [46]⟩),Y,Z):=by intro Y Z id n K L;subst L;exact c7 (fun v=>int (jM v)) ⟨a,b,c,qy (Lib.cut t [45]).2.1 [46]⟩ _ Y (ql Y id none) Z (.agg [int a,int b,int c,.sl 1 (zZ (qy (Lib.cut t [45]).2.1 [46]))]) (by simp[K]) rfl G rfl
      by_cases w:jM ⟨a,b,c,qy (Lib.cut t [45]).2.1 [46]⟩=0
      ·simp[o,f,w,na,mZ,gH,d,l,q,u,z,qV,yE.V,f152]
      ·have x:=xE w;simp[o,f,w,x,na,mZ,gH,d,l,q,u,z,qg,qF,qV,mV,yE.V,f152]
 ·have H:(((qy (Lib.cut t [45]).1 [46]).length:Int) != 3)=true:=by simp;omega
  have M:mZ t=none:=by
   unfold mZ;split
   ·rename_i e;rw[e]at y;simp at y
   ·rfl
  simp[m,r,H,y,na,M,qg,qF,qV,mV,yE.V,f152]
theorem QH:zf prog 152 (zg false [] (da na)):=
 YF (fn:=f152) PW (qW func152) false [] _ fun args r h w S vs a=>by obtain⟨l,rfl,Y,rfl⟩:=qd h;obtain⟨b,c,d⟩:=Xq l Y;exact⟨_,b,a,by simp[f152],c,d⟩
structure Part where
 n0:Int
 n1:Int
 n2:Int
 has:Int
 pre:List (List UInt8)
def Part.V(p:Part):zb:=[int p.n0,int p.n1,int p.n2,int p.has,.sl 1 (zZ p.pre)]
abbrev Jc:List (Option Nat):=[none,none,none,none,some 1]
def vB:Part:=⟨0,0,0,0,[]⟩
def Part.put(p:Part)(i:Nat)(n:Int):Part:=match i with
 | 0=>{p with n0:=n,has:=p.has+1}
 | 1=>{p with n1:=n,has:=p.has+1}
 |_=>{p with n2:=n,has:=p.has+1}
def je(p:Part)(i:Nat)(t:za):Option Part:=if(W4 t).isSome=true/\p.has=i then some (p.put i ((W4 t).getD 0))else if xh t=true/\i≠0 then some p else none
def vd:Part->Nat->List za->Option Part
 |p,_,[]=>some p
 |p,i,t::l=>match je p i t with
  |some q=>vd q (i+1) l
  |none=>none
def zK(t:za):Part×Bool:=if Lib.contains t [45]=true then(match mZ t with
    |some v=>(⟨v.a,v.b,v.c,3,v.pre⟩,true)
    |none=>(⟨0,0,0,3,[]⟩,false))
 else if 3<(qy t [46]).length then(vB,false)else match vd vB 0 (qy t [46])with
  |some p=>(p,true)
  |none=>(vB,false)
def y8(t:za):O:=.q8 [.agg (zK t).1.V,qO (zK t).2]
noncomputable abbrev Crpv:Ctx:=zG prog [(150,zg false [] (xR Cj fun _ _=>True)),(152,zg false [] (da na)),(178,km [] TP),(179,zg false [] (PS Ve)),(216,zg false [] (FS xh))]
theorem PX:AM.Good Crpv (fun g=>[216].contains g):=qc mixed ⟨Ja,by simp,QH,by simp,Jb,by simp,ZF,by simp,cY,fun _=>zr _ _,trivial⟩
theorem Fx(a b:za)(Y:Hp)(Z:Nat)(h:a.length<=zw)(c:b.length<=zw):zg false [] (xR Cj fun _ _=>True) [str a,str b] Y Z=some (qO (Lib.contains a b),Y,Z):=jL _ _ a b Y Z h c trivial rfl
def Part.raw(p:Part):zb:=[int p.n0,int p.n1,int p.n2,int p.has,.nil]
theorem fB{p:Part}{k:Nat}{l:List za}(h:k<l.length):vd p k (l.drop k)=match je p k l[k]with
  |some q=>vd q (k+1) (l.drop (k+1))
  |none=>none:=by
 rw[zd h];rfl
theorem Xr(t:za)(W:t.length+1<=zw):∃S,zt Crpv f214 [str t]=some S/\wu S (y8 t):=by
 refine kJ (sh:=.g Jc) rfl ?_;have B:=fun Y Z=>Fx t [45] Y Z (by omega) (by decide)
 cases I:Lib.contains t [45]
 ·have J:=fun Y Z=>WZ t [46] Y Z (by omega) (by decide) (by decide)
  have E:∀p∈qy t [46],p.length<=zw:=fun p Y=>by have:=xT Y;omega
  by_cases M:3<(qy t [46]).length
  ·have F:(3:Int)<(qy t [46]).length:=by omega
   simp[B,I,J,M,F,y8,zK,qg,qF,qV,vB,Part.V,f214]
  have F:¬(3:Int)<(qy t [46]).length:=by omega
  simp[B,I,J,M,F];obtain⟨l,N⟩:=kC (qy t [46]);rw[N]at E M;have e:zK t=match vd vB 0 l with
   |some p=>(p,true)
   |none=>(vB,false):=by
   unfold zK;rw[zj (by rw[I];simp),N,zj M]
   try rfl
  simp only[N];refine zP (fun k U Y Z=>∃p:Part,p.pre=[]/\U 2=.ref 0 0 0/\U 7=.ref 2 0 0/\U 37=.own 1 0 l.length/\U 38=int l.length/\U 39=int k/\p.has<=k/\0<=p.has /\
    Y 0=some ⟨248,5,false,[vB.raw]⟩/\Y 1=some ⟨9,1,true,zZ l⟩/\Y 2=some ⟨248,5,false,[p.raw]⟩/\vd vB 0 l=vd p k (l.drop k)) l.length
   ⟨vB,rfl,by simp,by simp,by simp,by simp,by simp,by simp[vB],by simp[vB],by simp[vB,Part.raw],by simp,by simp[vB,Part.raw],by simp⟩ ?_
  rintro k U Y Z X ⟨p,G,w,x,f,h,i,P,H,y,z,A,j⟩;by_cases b:k<l.length
  ·have C:=fun Y Z=>JH l[k] Y Z (E _ (zm b))
   have D:=fun Y Z=>ke xh l[k] Y Z (E _ (zm b))
   have K:=qz k;have Q:=wo (p.has+1);rw[fB b]at j;have R:k=0\/k=1\/k=2:=by omega
   obtain⟨r,n1,s,a,pre⟩:=p;simp only at G P H Q;subst G;cases q:(W4 l[k]).isSome
   ·cases c:xh l[k]
    ·have hs:je ⟨r,n1,s,a,[]⟩ k l[k]=none:=by simp[je,q,c]
     rw[hs]at j;rw[j]at e;simp[w,x,f,h,i,y,z,A,b,C,D,q,c,y8,e,qg,qF,qV,vB,Part.raw,Part.V,f214]
    ·by_cases m:k=0
     ·subst m;have hs:je ⟨r,n1,s,a,[]⟩ 0 l[0]=none:=by simp[je,q]
      rw[hs]at j;rw[j]at e;simp[w,x,f,h,i,y,z,A,b,C,D,q,c,y8,e,qg,qF,qV,vB,Part.raw,Part.V,f214]
     ·have hs:je ⟨r,n1,s,a,[]⟩ k l[k]=some ⟨r,n1,s,a,[]⟩:=by simp[je,q,c,m]
      have u:((k:Int)==0)=false:=by simpa using m
      rw[hs]at j;simp[w,x,f,h,i,y,z,A,b,C,D,q,c,K,u,m];exact⟨b,⟨r,n1,s,a,[]⟩,rfl,Int.le_trans P (by omega),H,rfl,j⟩
   ·by_cases d:a=k
    ·have hs:je ⟨r,n1,s,a,[]⟩ k l[k]=some ((⟨r,n1,s,a,[]⟩:Part).put k ((W4 l[k]).getD 0)):=by simp[je,q,d]
     rw[hs]at j;rcases R with rfl|rfl|rfl
     ·obtain rfl:a=0:=by simpa using d
      have n:(0:Int)<(l.length:Int):=by omega
      simp[w,x,f,h,i,y,z,A,b,n,C,D,q,K,Part.raw];refine⟨b,_,?_,?_,?_,?_,(by simpa using j)⟩<;>simp[Part.put]
     ·obtain rfl:a=1:=by simpa using d
      have n:(1:Int)<(l.length:Int):=by omega
      simp[w,x,f,h,i,y,z,A,b,n,C,D,q,K,Part.raw];refine⟨b,_,?_,?_,?_,?_,(by simpa using j)⟩<;>simp[Part.put]
     ·obtain rfl:a=2:=by simpa using d
      have n:(2:Int)<(l.length:Int):=by omega
      simp[w,x,f,h,i,y,z,A,b,n,C,D,q,K,Part.raw];refine⟨b,_,?_,?_,?_,?_,(by simpa using j)⟩<;>simp[Part.put]
    ·cases c:xh l[k]
     ·have hs:je ⟨r,n1,s,a,[]⟩ k l[k]=none:=by simp[je,q,c,d]
      have o:(a==(k:Int))=false:=by simpa using d
      rw[hs]at j;rw[j]at e;simp[w,x,f,h,i,y,z,A,b,C,D,q,c,o,y8,e,qg,qF,qV,vB,Part.raw,Part.V,f214]
     ·by_cases m:k=0
      ·subst m;have hs:je ⟨r,n1,s,a,[]⟩ 0 l[0]=none:=by simp[je,d];intro _;exact d
       have o:(a==0)=false:=by simpa using d
       rw[hs]at j;rw[j]at e;simp[w,x,f,h,i,y,z,A,b,C,D,q,c,o,y8,e,qg,qF,qV,vB,Part.raw,Part.V,f214]
      ·have hs:je ⟨r,n1,s,a,[]⟩ k l[k]=some ⟨r,n1,s,a,[]⟩:=by simp[je,q,c,m,d]
       have u:((k:Int)==0)=false:=by simpa using m
       have o:(a==(k:Int))=false:=by simpa using d
       rw[hs]at j;simp[w,x,f,h,i,y,z,A,b,C,D,q,c,K,u,m,o,Part.raw];exact⟨b,⟨r,n1,s,a,[]⟩,rfl,Int.le_trans P (by omega),H,⟨rfl,rfl,rfl,rfl⟩,j⟩
  ·obtain rfl:k=l.length:=by omega
   rw[zp]at j;simp only[vd]at j;rw[j]at e;simp[w,x,f,h,i,y,z,A,y8,e,G,qV,Part.raw,Part.V,f214]
 ·have L:=fun Y Z=>Z2 na t Y Z W
  cases T:mZ t with
  |none=>simp[B,I,L,na,T,y8,zK,qg,qF,qV,mV,yE.V,Part.V,f214]
  |some v=>simp[B,I,L,na,T,y8,zK,qg,qF,qV,yE.V,Part.V,f214]
theorem Vg:zf prog 214 (zg false [] (da y8)):=
 YF (fn:=f214) PX (qW func214) false [] _ fun args r h w S vs a=>by obtain⟨l,rfl,Y,rfl⟩:=qd h;obtain⟨b,c,d⟩:=Xr l Y;exact⟨_,b,a,by simp[f214],c,d⟩
inductive qp where
 |mk (kind n:Int) (s:List UInt8) (items:List qp) (fields:List (List UInt8×qp))
namespace qp
def kind:qp->Int|.mk k _ _ _ _=>k
def n:qp->Int|.mk _ n _ _ _=>n
def s:qp->za|.mk _ _ s _ _=>s
def items:qp->List qp|.mk _ _ _ l _=>l
def fields:qp->List (za×qp)|.mk _ _ _ _ l=>l
end qp
theorem qp.ind{P:qp->Prop}(h:∀k n s e g,(∀x∈e,P x)->(∀f∈g,P f.2)->P (.mk k n s e g))(v:qp):P v:=
 qp.rec (motive_1:=P) (motive_2:=fun l=>∀x∈l,P x) (motive_3:=fun l=>∀f∈l,P f.2) (motive_4:=fun f=>P f.2) (fun k n s e g i j=>h k n s e g i j)
  (by simp) (fun x l c d y b=>by rcases zC.1 b with rfl|b;(first|exact c|exact d y b);(first|exact c|exact d y b)) (by simp) (fun x l c d y b=>by rcases zC.1 b with rfl|b;(first|exact c|exact d y b);(first|exact c|exact d y b)) (fun a v m=>m) v
mutual
def qp.V:qp->zb
 | .mk k n s a b=>[int k,int n,str s,.sl 5 (BC a),.sl 6 (BD b)]
def BC:List qp->List zb
 |[]=>[]
 |v::l=>v.V::BC l
def BD:List (za×qp)->List zb
 |[]=>[]
 |(a,v)::l=>(str a::v.V)::BD l
end
abbrev wS(f:za×qp):zb:=str f.1::f.2.V
theorem gI:∀l:List qp,BC l=l.map qp.V
 |[]=>rfl
 |v::l=>by simp[BC,gI l]
theorem gJ:∀l:List (za×qp),BD l=l.map wS
 |[]=>rfl
 |(a,v)::l=>by simp[BD,gJ l]
theorem vD(v:qp):v.V=[int v.kind,int v.n,str v.s,.sl 5 (v.items.map qp.V),.sl 6 (v.fields.map wS)]:=by
 cases v with
 |mk k n s a b=>simp[qp.V,gI,gJ,qp.kind,qp.n,qp.s,qp.items,qp.fields]
@[simp]theorem PY(v:qp):v.V.length=5:=by rw[vD];rfl
@[simp]theorem Cu(v:qp):v.V.all O.wz=true:=by rw[vD];rfl
@[simp]theorem PZ(v:qp):(∀x,x∈v.V->O.wz x=true)=True:=by have:=Cu v;rw[zQ]at this;exact eq_true this
@[simp]theorem zaG(v:qp):v.V.take 5=v.V:=q6 (by simp)
@[simp]theorem zc4(v:qp)(h:0<v.V.length):v.V[0]=int v.kind:=by simp[vD v]
@[simp]theorem zc5(v:qp)(h:1<v.V.length):v.V[1]=int v.n:=by simp[vD v]
@[simp]theorem zc6(v:qp)(h:2<v.V.length):v.V[2]=str v.s:=by simp[vD v]
@[simp]theorem zc7(v:qp)(h:3<v.V.length):v.V[3]=.sl 5 (v.items.map qp.V):=by simp[vD v]
@[simp]theorem zc8(v:qp)(h:4<v.V.length):v.V[4]=.sl 6 (v.fields.map wS):=by simp[vD v]
theorem W5{α a:Type}{f:α->a}:∀{xs ys:List α},(∀x∈xs,∀y,f x=f y->x=y)->xs.map f=ys.map f->xs=ys
 |[],[],_,_=>rfl
 |[],y::ys,_,e=>by simp at e
 |x::xs,[],_,e=>by simp at e
 |x::xs,y::ys,h,e=>by simp only[z6,zc]at e;rw[h x (by simp) y e.1,W5 (fun z b=>h z (by simp[b])) e.2]
theorem ZS:∀{a b:qp},a.V=b.V->a=b:=by
 intro a
 induction a using qp.ind with
 |h k n s q r g i=>
  intro b e;cases b with
  |mk t u v j l=>
   simp only[vD,qp.kind,qp.n,qp.s,qp.items,qp.fields,zc,zs]at e;obtain⟨m,o,p,c,d⟩:=e;obtain rfl:=zT m;obtain rfl:=zT o;obtain rfl:=qv p;injection c with _ c
   injection d with _ d;obtain rfl:=W5 (fun x f y=>g x f) c;obtain rfl:=W5 (fun x f y e=>by simp only[wS,zc]at e;exact Prod.ext (qv e.1) (i x f e.2)) d
   rfl
mutual
def qp.vb:qp->Nat
 | .mk _ _ s a b=>1+s.length+Ju a+V8 b
def Ju:List qp->Nat
 |[]=>0
 |v::l=>v.vb+Ju l
def V8:List (za×qp)->Nat
 |[]=>0
 |(a,v)::l=>a.length+v.vb+V8 l
end
theorem Kf(v:qp):v.vb=1+v.s.length+Ju v.items+V8 v.fields:=by cases v;rfl
theorem lx(v:qp):0<v.vb:=by rw[Kf];omega
theorem Zd:∀{l:List qp} {x:qp},x∈l->x.vb<=Ju l
 |y::l,x,h=>by
  simp only[Ju];rcases zC.1 h with rfl|h
  ·omega
  ·have:=Zd h;omega
theorem W6:∀{l:List (za×qp)} {x:za×qp},x∈l->x.1.length+x.2.vb<=V8 l
 |(a,y)::l,x,h=>by
  simp only[V8];rcases zC.1 h with rfl|h
  ·simp only;omega
  ·have:=W6 h;omega
theorem ve:∀l:List qp,l.length<=Ju l
 |[]=>by simp[Ju]
 |v::l=>by have:=ve l;have:=lx v;simp only[Ju,zU];omega
theorem vZ:∀l:List (za×qp),l.length<=V8 l
 |[]=>by simp[V8]
 |(a,v)::l=>by have:=vZ l;have:=lx v;simp only[V8,zU];omega
noncomputable def FV (out:qp->O) (n:Nat):zb->Option O:=zS (α:=qp) (fun v=>[.agg v.V]) (fun v=>v.vb<=zw/\v.vb<=n) out
theorem zaH(out:qp->O)(n:Nat)(v:qp)(h:v.vb<=zw/\v.vb<=n):FV out n [.agg v.V]=some (out v):=
 qx (V:=fun v:qp=>[.agg v.V]) (a:=v) (fun a b e=>by simp only[zc,zs,O.agg.injEq]at e;exact ZS e) h
@[simp]theorem Eu(Y:Hp)(v:qp):qJ Y v.V=some (v.V,Y):=by rw[vD];simp
theorem db(Y:Hp)(v:qp):qe Y (.agg v.V)=some (.agg v.V,Y):=by rw[vD];simp
theorem gK(v:qp):O.noOwn (.agg v.V)=true:=by rw[vD];simp
theorem bJ(out:qp->O)(n:Nat)(v:qp)(Y:Hp)(Z:Nat)(h:v.vb<=zw/\v.vb<=n):zg false [] (FV out n) [.agg v.V] Y Z=some (out v,Y,Z):=
 wR (Y1:=Y) (show zy Y [.agg v.V]=some ([.agg v.V],Y) by simp only[zy,db]) (zaH out n v h) (.inr (by simp only[wJ,gK,mQ,Bool.and_self]))
mutual
def qp.parts:qp->Nat
 | .mk _ _ _ a b=>1+j7 a+ku b
def j7:List qp->Nat
 |[]=>0
 |v::l=>v.parts+j7 l
def ku:List (za×qp)->Nat
 |[]=>0
 |(_,v)::l=>v.parts+ku l
end
mutual
def qp.levels:qp->Nat
 | .mk _ _ _ a b=>max (jC a) (jU b)+1
def jC:List qp->Nat
 |[]=>0
 |v::l=>max v.levels (jC l)
def jU:List (za×qp)->Nat
 |[]=>0
 |(_,v)::l=>max v.levels (jU l)
end
theorem Fy(v:qp):v.parts=1+j7 v.items+ku v.fields:=by cases v;rfl
theorem Cv(v:qp):v.levels=max (jC v.items) (jU v.fields)+1:=by cases v;rfl
theorem ob(v:qp):v.parts<=v.vb:=by
 induction v using qp.ind with
 |h k n s e f g i=>
  have a:∀l:List qp,(∀x∈l,x.parts<=x.vb)->j7 l<=Ju l:=by
   intro l
   induction l with
   |nil=>simp[j7]
   |cons v l c=>intro h;have:=h v (by simp);have:=c fun x d=>h x (by simp[d]);simp only[j7,Ju];omega
  have b:∀l:List (za×qp),(∀x∈l,x.2.parts<=x.2.vb)->ku l<=V8 l:=by
   intro l
   induction l with
   |nil=>simp[ku]
   |cons v l c=>intro h;have:=h v (by simp);have:=c fun x d=>h x (by simp[d]);obtain⟨a,v⟩:=v;simp only[ku,V8];simp only at *;omega
  have:=a e g;have:=b f i;simp only[qp.parts,qp.vb];omega
theorem gL(v:qp):v.levels<=v.parts:=by
 induction v using qp.ind with
 |h k n s e f g i=>
  have a:∀l:List qp,(∀x∈l,x.levels<=x.parts)->jC l<=j7 l:=by
   intro l
   induction l with
   |nil=>simp[jC]
   |cons v l c=>intro h;have:=h v (by simp);have:=c fun x d=>h x (by simp[d]);simp only[jC,j7];omega
  have b:∀l:List (za×qp),(∀x∈l,x.2.levels<=x.2.parts)->jU l<=ku l:=by
   intro l
   induction l with
   |nil=>simp[jU]
   |cons v l c=>intro h;have:=h v (by simp);have:=c fun x d=>h x (by simp[d]);obtain⟨a,v⟩:=v;simp only[jU,ku];simp only at *;omega
  have:=a e g;have:=b f i;simp only[qp.parts,qp.levels];omega
noncomputable abbrev Cc (n:Nat):Ctx:=WW prog [(54,zg false [] (FV (fun v=>.q8 [int v.parts,int v.levels]) n))] (nO 2 [(2,1)])
theorem wx{C:Ctx}{fn:Func}{code:Code}{args:zb}{Y:Hp}{Z:Nat}{x:O}{a:Hp}{Z':Nat}(b:fn.body=some code)
  (h:vU C code ⟨jX args,Y,Z⟩ (YX C.P fn (fun y h m=>y=x/\h=a/\m=Z'))):jG C fn args Y Z=some (x,a,Z'):=by
 obtain⟨y,d,n1,c,rfl,rfl,rfl⟩:=zY b h;exact c
theorem dc(n:Nat)(v:qp)(h:v.vb<=zw/\v.vb<=n)(Y:Hp)(Z i j:Nat)(s:i<Z)(t:j<Z)(b:i≠j)(p q:Nat)(c:Y i=some ⟨3,1,false,[[int p]]⟩)(d:Y j=some ⟨3,1,false,[[int q]]⟩)(f:p<=zw) :
  qq (Cc n) f92 [.agg v.V,.ref i 0 0,.ref j 0 0] Y Z =
   some (.q8 [],ql (ql (ql Y Z (some ⟨94,5,false,[v.V]⟩)) i (some ⟨3,1,false,[[int ((p+v.parts:Nat):Int)]]⟩)) j (some ⟨3,1,false,[[int ((max q v.levels:Nat):Int)]]⟩),Z+1):=by
 have g:=ob v;have k:=gL v;unfold zw at *;have l:=wo ((p:Int)+v.parts);unfold qq;rw[ze (by simp[f92])];refine wx rfl ?_;have a:=fun Y Z=>bJ (fun v=>.q8 [int v.parts,int v.levels]) n v Y Z h
 have e:¬i=Z:=by omega
 have m:¬j=Z:=by omega
 have o:¬j=i:=by omega
 have r:(if q<v.levels then(v.levels:Int)else q)=((max q v.levels:Nat):Int):=by split<;>omega
 simp[a];rw[Zl _ _ _ _ _ _ (cP (blk:=⟨3,1,false,[[int p]]⟩) (id:=j) (i:=0) (j:=0) (id':=i) (i':=0) (j':=0) (by simp) (by simp) (Ne.symm b) (by simp[e,c]) rfl) (fun _ h=>by cases h)];simp[c,d,e,m,o,b,l,r,f92]
theorem Kg(a b:List qp):j7 (a++b)=j7 a+j7 b:=by
 induction a with
 |nil=>simp[j7]
 |cons v a c=>simp only[q7,j7,c];omega
theorem dd(a b:List qp):jC (a++b)=max (jC a) (jC b):=by
 induction a with
 |nil=>simp[jC]
 |cons v a c=>simp only[q7,jC,c];omega
theorem Kh(a b:List (za×qp)):ku (a++b)=ku a+ku b:=by
 induction a with
 |nil=>simp[ku]
 |cons v a c=>obtain⟨x,v⟩:=v;simp only[q7,ku,c];omega
theorem de(a b:List (za×qp)):jU (a++b)=max (jU a) (jU b):=by
 induction a with
 |nil=>simp[jU]
 |cons v a c=>obtain⟨x,v⟩:=v;simp only[q7,jU,c];omega
theorem zaI{l:List qp}{k:Nat}(h:k<l.length):j7 (l.take (k+1))=j7 (l.take k)+l[k].parts/\jC (l.take (k+1))=max (jC (l.take k)) l[k].levels:=by rw[qo h,Kg,dd];simp[j7,jC]
theorem zaJ{l:List (za×qp)}{k:Nat}(h:k<l.length):ku (l.take (k+1))=ku (l.take k)+l[k].2.parts/\jU (l.take (k+1))=max (jU (l.take k)) l[k].2.levels:=by rw[qo h,Kh,de];simp[ku,jU]
theorem Cw(l:List qp)(k:Nat):j7 (l.take k)<=j7 l:=by have:=Kg (l.take k) (l.drop k);rw[Qy]at this;omega
theorem Cx(l:List (za×qp))(k:Nat):ku (l.take k)<=ku l:=by have:=Kh (l.take k) (l.drop k);rw[Qy]at this;omega
noncomputable abbrev Cd (n:Nat):Ctx:=WW prog [(92,qq (Cc n) f92)] (nO 13 [(3,2)])
theorem tj(n:Nat)(v:qp)(h:v.vb<=zw/\v.vb<=n+1):zt (Cd n) f54 [.agg v.V]=some (.q8 [int v.parts,int v.levels]):=by
 have z:=ob v;have A:=Fy v;have B:=Kf v;have t:=Cv v;have C:=ve v.items;have D:=vZ v.fields;obtain⟨E,H⟩:=h;unfold zw at E;refine zl rfl ?_;simp;refine zP (fun k U Y Z=>U 1=.ref 0 0 0/\U 2=.ref 1 0 0/\U 3=.ref 2 0 0/\U 4=.fn (.func 92) [] [.ref 1 0 0,.ref 2 0 0]/\U 11=.sl 5 (v.items.map qp.V)/\U 12=int v.items.length/\U 13=int k/\3<=Z/\Y 0=some ⟨94,5,false,[v.V]⟩ /\
   Y 1=some ⟨3,1,false,[[int ((1+j7 (v.items.take k):Nat):Int)]]⟩/\Y 2=some ⟨3,1,false,[[int (jC (v.items.take k))]]⟩) v.items.length
  ⟨by simp,by simp,by simp,by simp,by simp,by simp,by simp,by simp,by simp,by simp[j7],by simp[jC]⟩ ?_
 rintro k U Y Z y ⟨m,f,g,p,c,d,e,q,u,l,o⟩;by_cases a:k<v.items.length
 ·obtain⟨w,x⟩:=zaI a;have F:=Zd (zm a);have r:=qz k;have s:=Cw v.items k;have b:=dc n v.items[k] ⟨by unfold zw;omega,by omega⟩ (ql Y Z (some ⟨94,5,false,[v.items[k].V]⟩)) (Z+1) 1 2 (by omega) (by omega) (by omega) _ _ (by rw[zk _ _ _ _ (by omega)];exact l) (by rw[zk _ _ _ _ (by omega)];exact o) (by unfold zw;omega);simp[m,f,g,p,c,d,e,a,b,r];refine⟨a,by omega,?_,?_,?_⟩
  ·simp[u,show¬0=Z by omega,show¬0=Z+1 by omega]
  ·rw[w];omega
  ·rw[x]
 ·obtain rfl:k=v.items.length:=by omega
  rw[ja]at l o;simp[m,f,g,p,c,d,e,u];refine zP (fun k U Y Z=>U 1=.ref 0 0 0/\U 2=.ref 1 0 0/\U 3=.ref 2 0 0/\U 4=.fn (.func 92) [] [.ref 1 0 0,.ref 2 0 0]/\U 22=.sl 6 (v.fields.map wS)/\U 23=int v.fields.length/\U 24=int k/\3<=Z /\
    Y 1=some ⟨3,1,false,[[int ((1+j7 v.items+ku (v.fields.take k):Nat):Int)]]⟩/\Y 2=some ⟨3,1,false,[[int ((max (jC v.items) (jU (v.fields.take k)):Nat):Int)]]⟩) v.fields.length
   ⟨by simp[m],by simp[f],by simp[g],by simp[p],by simp,by simp,by simp,q,by simp[l,ku],by simp[o,jU]⟩ ?_
  clear m f g p c d e q u l o a y Z Y U;rintro k U Y Z y ⟨m,f,g,p,c,d,e,q,l,o⟩;by_cases a:k<v.fields.length
  ·obtain⟨w,x⟩:=zaJ a;have F:=W6 (zm a);have r:=qz k;have s:=Cx v.fields k;have b:=dc n v.fields[k].2 ⟨by unfold zw;omega,by omega⟩ (ql Y Z (some ⟨168,6,false,[wS v.fields[k]]⟩)) (Z+1) 1 2 (by omega) (by omega) (by omega) _ _ (by rw[zk _ _ _ _ (by omega)];exact l) (by rw[zk _ _ _ _ (by omega)];exact o) (by unfold zw;omega);simp[wS]at b;simp[m,f,g,p,c,d,e,a,r,b];refine⟨a,by omega,?_,?_⟩
   ·rw[w];omega
   ·rw[x]
  ·obtain rfl:k=v.fields.length:=by omega
   rw[ja]at l o;have G:=gL v;have r:i6.wrap (((max (jC v.items) (jU v.fields):Nat):Int)+1)=(v.levels:Int):=by rw[qE (by omega) (by omega),t];omega
   simp[m,f,g,p,c,d,e];rw[Zl _ _ _ _ _ _ (cP (id:=2) (i:=0) (j:=0) (id':=1) (i':=0) (j':=0) (by simp[g]) (by simp[f]) (by omega) (by exact l) rfl) (fun _ h=>by cases h)];simp[m,f,g,l,o,r,f54,qU];omega
theorem df{out:qp->O}{n:Nat}{args:zb}{r:O}(h:FV out n args=some r):∃v:qp,args=[.agg v.V]/\(v.vb<=zw/\v.vb<=n)/\r=out v:=qd h
theorem LY{out:qp->O}:∀args r,FV out 0 args=some r->False:=fun args r h=>by obtain⟨v,rfl,a,rfl⟩:=df h;have:=lx v;omega
theorem Aw{out:qp->O}{f:FuncId}(a:∃fn,prog.funcs[f]?=some fn/\(fn.name== "runtime.NumGoroutine")=false/\fn.body.isNone=false):zf prog f (zg false [] (FV out 0)):=by
 refine⟨a,fun args Y Z r b Z' h=>?_⟩;unfold zg at h;split at h
 ·split at h
  ·rename_i c hF;exact(LY _ _ hF).elim
  ·cases h
 ·cases h
theorem oc:∀n,zf prog 54 (zg false [] (FV (fun v=>.q8 [int v.parts,int v.levels]) n)):=by
 intro n
 induction n with
 |zero=>exact Aw ⟨_,func54,by kernel_rfl,by kernel_rfl⟩
 |succ n a=>
  have b:Gd (Cc n):=nN _ mixed ⟨a,by simp,trivial⟩;have c:zf prog 92 (qq (Cc n) f92):=w8 b func92;have hd:Gd (Cd n):=nN _ mixed ⟨c,by simp,trivial⟩;exact yt (fn:=f54) hd (qW func54) false [] _ fun args r h=>by obtain⟨v,rfl,d,rfl⟩:=df h;exact⟨zA (zi 1) (by decide),_,tj n v d,qa _⟩
noncomputable abbrev GV (out:qp->O):AM.Spec:=zg false [] (FV out zw)
theorem Vh(out:qp->O)(v:qp)(Y:Hp)(Z:Nat)(h:v.vb<=zw):GV out [.agg v.V] Y Z=some (out v,Y,Z):=bJ out zw v Y Z ⟨h,h⟩
def Fz(k:Int):Bool:=decide (k<0)||decide (5<k)
def Xs(k n:Int)(s:za)(i f:Nat):Bool:=n != 0&&k != 1&&k != 2||!(s==[])&&k != 3||decide (0<i)&&k != 4||decide (0<f)&&k != 5
def lz(k n:Int):Bool:=k==1&&n != 0&&n != 1
def lA(k n:Int):Bool:=k==2&&(decide (n<=-1000000000000000)||decide (1000000000000000<=n))
def FA(i f:Nat):Bool:=decide ((100:Int)<i)||decide ((100:Int)<f)
def FB(s:za):Bool:=decide ((500:Int)<s.length)
def Wm(k n:Int)(s:za)(i f:Nat):Int:=
 if Fz k then 4 else if Xs k n s i f then 3 else if lz k n||lA k n then 1 else if FB s then 2 else if yv 32 126 s then(if FA i f then 2 else 0)else 1
def fC(a b:za):Bool:=Op.bytesLess a b||a==b
def Ax(a:za):Bool:=a.isEmpty||decide ((60:Int)<a.length)||!yv 32 126 a
def vH(b:Option za)(a:za):Bool:=match b with
 |none=>false
 |some p=>fC a p
mutual
def qp.fault:qp->Int
 | .mk k n s a b=>if Wm k n s a.length b.length=0 then(if Qt a=0 then K0 none b else Qt a)else Wm k n s a.length b.length
def Qt:List qp->Int
 |[]=>0
 |v::l=>if v.fault=0 then Qt l else v.fault
def K0:Option za->List (za×qp)->Int
 |_,[]=>0
 |prev,(a,v)::l=>if Ax a then 5 else if vH prev a then 8 else if v.fault=0 then K0 (some a) l else v.fault
end
theorem FD(v:qp):v.fault=if Wm v.kind v.n v.s v.items.length v.fields.length=0 then(if Qt v.items=0 then K0 none v.fields else Qt v.items)else Wm v.kind v.n v.s v.items.length v.fields.length:=by cases v;rfl
theorem od:zf prog 93 (GV fun v=>qO (Xs v.kind v.n v.s v.items.length v.fields.length)):=
 yt (fn:=f93) y7 (qW func93) false [] _ fun args r h=>by obtain⟨v,rfl,a,rfl⟩:=df h;exact⟨by simp[f93],_,zl rfl (by simp[f93,Xs]),qa _⟩
noncomputable abbrev Ck (n:Nat):Ctx:=zG prog [(55,zg false [] (FV (fun v=>int v.fault) n)),(93,GV fun v=>qO (Xs v.kind v.n v.s v.items.length v.fields.length)),(94,zg false [] (FS (yv 32 126)))]
@[simp]theorem qk(n:Nat):jJ (Ck n) 94:=yA (by rfl) (zr _ _)
theorem oe{l:List qp}{k:Nat}(h:k<l.length):Qt (l.drop k)=if l[k].fault=0 then Qt (l.drop (k+1))else l[k].fault:=by rw[zd h,Qt]
theorem og{l:List (za×qp)}{k:Nat}(h:k<l.length)(p:Option za):K0 p (l.drop k)=if Ax l[k].1 then 5 else if vH p l[k].1 then 8 else if l[k].2.fault=0 then K0 (some l[k].1) (l.drop (k+1))else l[k].2.fault:=by rw[zd h,K0]
def xr(l:List (za×qp))(k:Nat):Option za:=if k=0 then none else(l[k-1]?).map (·.1)
theorem dh(n:Nat)(v:qp)(h:v.vb<=zw/\v.vb<=n+1):zt (Ck n) f55 [.agg v.V]=some (int v.fault):=by
 have hvb:=Kf v;have hl1:=ve v.items;have hl2:=vZ v.fields;obtain⟨ha,hb⟩:=h;unfold zw at ha;have b:=FD v;have d:=fun Y Z=>Vh (fun v=>qO (Xs v.kind v.n v.s v.items.length v.fields.length)) v Y Z ha
 have A:v.s.length<=zw:=by unfold zw;omega
 refine zl rfl ?_;have x:(decide (v.kind<0)||decide (5<v.kind))=Fz v.kind:=rfl;have F:(v.kind==1&&v.n != 0&&v.n != 1)=lz v.kind v.n:=rfl;have H:(v.kind==2&&(decide (v.n<=-1000000000000000)||decide (1000000000000000<=v.n)))=lA v.kind v.n:=rfl;have e4:(decide ((100:Int)<v.items.length)||decide ((100:Int)<v.fields.length))=FA v.items.length v.fields.length:=rfl;have L:decide ((500:Int)<v.s.length)=FB v.s:=rfl;cases q:Fz v.kind
 case true=>simp[x,q,b,Wm,f55]
 cases y:Xs v.kind v.n v.s v.items.length v.fields.length
 case true=>simp[x,q,d,y,b,Wm,f55]
 cases B:lz v.kind v.n
 case true=>simp[x,q,d,y,F,B,b,Wm,f55]
 cases G:lA v.kind v.n
 case true=>simp[x,q,d,y,F,B,H,G,b,Wm,f55]
 cases I:FB v.s
 case true=>simp[x,q,d,y,F,B,H,G,L,I,b,Wm,f55]
 cases M:yv 32 126 v.s
 case false=>simp[x,q,d,y,F,B,H,G,L,I,M,A,b,Wm,f55]
 cases P:FA v.items.length v.fields.length
 case true=>simp[x,q,d,y,F,B,H,G,L,I,M,A,e4,P,b,Wm,f55]
 have hh:Wm v.kind v.n v.s v.items.length v.fields.length=0:=by simp[Wm,q,y,B,G,I,M,P]
 rw[hh,ze rfl]at b;simp[x,q,d,y,F,B,H,G,L,I,M,A,e4,P];refine zP (fun k U Y Z=>U 1=.ref 0 0 0/\U 70=.sl 5 (v.items.map qp.V)/\U 71=int v.items.length/\U 72=int k/\1<=Z/\Y 0=some ⟨94,5,false,[v.V]⟩/\Qt v.items=Qt (v.items.drop k)) v.items.length
  ⟨by simp,by simp,by simp,by simp,by simp,by simp,by simp⟩ ?_
 rintro k U Y Z hk ⟨l,r,t,u,C,p,w⟩;have z:¬0=Z:=by omega
 by_cases c:k<v.items.length
 ·have hm:=Zd (zm c);have hw:=qz k;have a:=fun Y Z=>bJ (fun v=>int v.fault) n v.items[k] Y Z ⟨by unfold zw;omega,by omega⟩
  rw[oe c]at w;by_cases e:v.items[k].fault=0
  ·rw[ze e]at w;simp[l,r,t,u,c,a,e,hw]
   and_intros<;>first|omega|exact w|simp[z,p]
  ·rw[zj e]at w;have o:=xE e;rw[w,zj e]at b;simp[l,r,t,u,c,a,o,b,f55]
 ·obtain rfl:k=v.items.length:=by omega
  rw[zp]at w;have w:Qt v.items=0:=by rw[w];rfl
  rw[w,ze rfl]at b;simp[l,r,t,u,p];refine zP (fun k U Y Z=>U 1=.ref 0 0 0/\U 83=.sl 6 (v.fields.map wS)/\U 84=int v.fields.length/\U 85=int k/\1<=Z/\Y 0=some ⟨94,5,false,[v.V]⟩/\v.fault=K0 (xr v.fields k) (v.fields.drop k)) v.fields.length
   ⟨by simp[l],by simp,by simp,by simp,C,p,by simp[b,xr]⟩ ?_
  clear l r t u C p c hk z Z Y U b;rintro k U Y Z hk ⟨l,f,g,i,C,p,b⟩;have z:¬0=Z:=by omega
  by_cases c:k<v.fields.length
  ·have hm:=W6 (zm c);have hw:=qz k;have m:v.fields[k].1.length<=zw:=by unfold zw;omega
   have a:=fun Y Z=>bJ (fun v=>int v.fault) n v.fields[k].2 Y Z ⟨by unfold zw;omega,by omega⟩
   have en:(v.fields[k].1.isEmpty||decide ((60:Int)<v.fields[k].1.length)||!yv 32 126 v.fields[k].1)=Ax v.fields[k].1:=rfl;rw[og c]at b;cases D:Ax v.fields[k].1
   case true=>simp[l,f,g,i,c,m,en,D,b,f55]
   have J:xr v.fields (k+1)=some v.fields[k].1:=by simp[xr,c]
   simp only[D,zE,wE]at b;by_cases k0:k=0
   ·subst k0;simp only[xr,vH,qI,zE,wE]at b;by_cases e:v.fields[0].2.fault=0
    ·rw[ze e]at b;have w1:=wo 1;simp[l,f,g,i,c,m,en,D,a,e,w1]
     and_intros<;>first|omega|(rw[b];rw[J];simp;done)|simp[z,p]
    ·rw[zj e]at b;have o:=xE e;simp[l,f,g,i,c,m,en,D,a,o,b,f55]
   ·obtain⟨j,rfl⟩:∃j,k=j+1:=⟨k-1,by omega⟩;have N:j<v.fields.length:=by omega
    have Q:i6.wrap ((j:Int)+1-1)=(j:Int):=by rw[qE (by omega) (by omega)];omega
    have E:=wo (j:Int);have R:((j:Int)+1).toNat=j+1:=by omega
    have S:0<(j:Int)+1:=by omega
    have T:0<=(j:Int)+1:=by omega
    have W:(j:Int)+1<v.fields.length:=by omega
    have wk:=wo ((j:Int)+1+1);have X:(Op.bytesLess v.fields[j+1].1 v.fields[j].1||v.fields[j+1].1==v.fields[j].1)=fC v.fields[j+1].1 v.fields[j].1:=rfl;have hpj:xr v.fields (j+1)=some v.fields[j].1:=by simp[xr,N]
    simp only[hpj,vH]at b;cases K:fC v.fields[j+1].1 v.fields[j].1
    case true=>simp only[K,qI]at b;simp[l,f,g,i,c,N,m,en,D,a,p,z,Q,E,R,S,T,W,X,K,b,f55]
    simp only[K,zE,wE]at b;by_cases e:v.fields[j+1].2.fault=0
    ·rw[ze e]at b;simp[l,f,g,i,c,N,m,en,D,a,p,z,Q,E,R,S,T,W,X,K,e,wk]
     and_intros<;>first|omega|(rw[b];rw[J])|simp[z,p]
    ·rw[zj e]at b;have o:=xE e;simp[l,f,g,i,c,N,m,en,D,a,p,z,Q,E,R,S,T,W,X,K,o,b,f55]
  ·obtain rfl:k=v.fields.length:=by omega
   rw[zp]at b;have b:v.fault=0:=by rw[b];rfl
   simp[l,f,g,i,b,f55]
theorem a7:∀n,zf prog 55 (zg false [] (FV (fun v=>int v.fault) n)):=by
 intro n
 induction n with
 |zero=>exact Aw ⟨_,func55,by kernel_rfl,by kernel_rfl⟩
 |succ n a=>
  have b:AM.Good (Ck n) (fun g=>[94].contains g):=qc mixed ⟨a,by simp,od,by simp,sZ,fun _=>zr _ _,trivial⟩;exact yt (fn:=f55) b (qW func55) false [] _ fun args r h=>by obtain⟨v,rfl,c,rfl⟩:=df h;exact⟨zA (zi 1) (by decide),_,dh n v c,qa _⟩
def qp.check(v:qp):Int:=if decide ((1000:Int)<v.parts)||decide ((8:Int)<v.levels)then 2 else v.fault
noncomputable abbrev Cch:Ctx:=zG prog [(55,GV fun v=>int v.fault),(54,GV fun v=>.q8 [int v.parts,int v.levels])]
theorem ak:zf prog 31 (GV fun v=>int v.check):=
 yt (fn:=f31) (zM mixed ⟨a7 zw,oc zw,trivial⟩:AM.Good Cch _) (qW func31) false [] _ fun args r h=>by
  obtain⟨v,rfl,a,rfl⟩:=df h;have b:=fun Y Z=>Vh (fun v=>int v.fault) v Y Z a.1
  have c:=fun Y Z=>Vh (fun v=>.q8 [int v.parts,int v.levels]) v Y Z a.1
  refine⟨by simp[f31],_,zl rfl ?_,qa _⟩;cases d:(decide ((1000:Int)<v.parts)||decide ((8:Int)<v.levels))
  ·simp[b,c,d,f31,qp.check]
  ·simp[b,c,d,f31,qp.check]
def KA(e s:Nat):zb->Option (Option jV)
 |[.nil]=>some none
 |[.em]=>some (some ⟨e,s,true,[]⟩)
 |[.sl a es]=>if a=s/\es≠[]/\es.length<=zw then some (some ⟨e,s,true,es⟩)else none
 |_=>none
def cutB(s:Int×Bool):Bool:=s.2||decide (1000<s.1)
def OC(s r:Int×Bool):Int×Bool:=if cutB s then s else(s.1+r.1,s.2||r.2)
mutual
def qp.rp:qp->Int->Int×Bool
 | .mk _ _ _ a b,l=>rpF b l (rpV a l (1,decide (8<l)))
def rpV:List qp->Int->Int×Bool->Int×Bool
 |[],_,s=>s
 |v::vs,l,s=>rpV vs l (OC s (v.rp (l+1)))
def rpF:List (za×qp)->Int->Int×Bool->Int×Bool
 |[],_,s=>s
 |(_,v)::vs,l,s=>rpF vs l (OC s (v.rp (l+1)))
end
def FE(xs:List qp):Nat:=(xs.map qp.parts).sum
def lB:List qp->Nat
 |[]=>0
 |v::l=>max v.levels (lB l)
structure RP (xs:List qp) (l:Int) (s r:Int×Bool):Prop where
 lo:s.1<=r.1
 hi:r.1<=s.1+FE xs
 deep:r.2=true->s.2=true\/8<l+(lB xs:Int)
 all:cutB r=false->r.1=s.1+FE xs/\(xs≠[]->l+(lB xs:Int)<=8)
def yj(a b:Int):Int:=if a<b then -1 else if b<a then 1 else 0
def OD(f:Int->Int->Int):zb->Option O
 |[.v (.int .i64 a),.v (.int .i64 b)]=>some (int (f a b))
 |_=>none
theorem LZ{f:Int->Int->Int}{args:zb}{r:O}(h:OD f args=some r):∃a b,args=[int a,int b]/\r=int (f a b):=by
 unfold OD at h;split at h
 ·injection h with h;exact⟨_,_,rfl,h.symm⟩
 ·cases h
@[simp]theorem zaK(f:Int->Int->Int)(a b:Int)(Y:Hp)(Z:Nat):zg false [] (OD f) [.v (.int .i64 a),.v (.int .i64 b)] Y Z=some (int (f a b),Y,Z):=wR rfl rfl (.inl rfl)
def lC:zb->Option O
 |[.v (.int .i64 _)]=>some (qO false)
 |_=>none
def Jd:zb->Option O
 |[.v (.string _)]=>some (qO false)
 |_=>none
@[simp]theorem OE(a:Int)(Y:Hp)(Z:Nat):zg false [] lC [.v (.int .i64 a)] Y Z=some (qO false,Y,Z):=wR rfl rfl (.inl rfl)
@[simp]theorem OG(a:ByteArray)(Y:Hp)(Z:Nat):zg false [] Jd [.v (.string a)] Y Z=some (qO false,Y,Z):=wR rfl rfl (.inl rfl)
theorem lD:zf prog 155 (zg false [] lC):=
 yt (fn:=f155) y7 (qW func155) false [] _ fun args r h=>by
  unfold lC at h;split at h
  ·injection h with h;subst h;exact⟨by simp[f155],_,zl rfl (by simp[f155]),qa _⟩
  ·cases h
theorem Vi:zf prog 164 (zg false [] Jd):=
 yt (fn:=f164) y7 (qW func164) false [] _ fun args r h=>by
  unfold Jd at h;split at h
  ·injection h with h;subst h;exact⟨by simp[f164],_,zl rfl (by simp[f164]),qa _⟩
  ·cases h
noncomputable abbrev Cnn:Ctx:=zG prog [(155,zg false [] lC),(164,zg false [] Jd)]
theorem P0:AM.Good Cnn (fun g=>[155,164].contains g):=qc mixed ⟨lD,fun _=>zr _ _,Vi,fun _=>zr _ _,trivial⟩
theorem W7:zf prog 111 (zg false [] (OD yj)):=
 yt (fn:=f111) P0 (qW func111) false [] _ fun args r h=>by
  obtain⟨a,b,rfl,rfl⟩:=LZ h;refine⟨by simp[f111],_,zl rfl ?_,qa _⟩;unfold yj;by_cases c:a<b
  ·simp[c,f111]
  ·by_cases d:b<a
   ·simp[c,d,f111]
   ·simp[c,d,f111]
noncomputable def Cy (f:za->za->Int):zb->Option O:=zS (α:=za×za) (fun a=>[str a.1,str a.2]) (fun _=>True) (fun a=>int (f a.1 a.2))
@[simp]theorem zaL(f:za->za->Int)(a b:za)(Y:Hp)(Z:Nat):zg false [] (Cy f) [str a,str b] Y Z=some (int (f a b),Y,Z):=
 Zc (a,b) _ _ rfl (fun a b e=>by obtain⟨c,d⟩:=a;obtain⟨g,h⟩:=b;simp only[zc,zs]at e;rw[qv e.1,qv e.2]) trivial (.inl rfl)
@[simp]theorem TW(a:Int):yj a a=0:=by simp[yj]
noncomputable abbrev wX:=Lib.compareBytes
theorem a8:zf prog 73 (zg false [] (Cy wX)):=
 lj ⟨_,func73,by kernel_rfl,by kernel_rfl⟩ fun args r h=>by obtain⟨⟨a,b⟩,rfl,_,rfl⟩:=qd h;exact⟨[.string ⟨a.toArray⟩,.string ⟨b.toArray⟩],rfl,by simp[lit],_,rfl,rfl,fun w=>by simpa using Tryz.bytealg_CompareString ⟨a.toArray⟩ ⟨b.toArray⟩ w⟩
noncomputable abbrev Cstr:Ctx:=zG prog [(73,zg false [] (Cy wX))]
theorem yd:zf prog 41 (zg false [] (Cy wX)):=
 kL (zM mixed ⟨a8,trivial⟩:AM.Good Cstr _) func41 false [] fun⟨a,b⟩ _=>⟨by simp[f41],_,zl rfl (by simp[f41]),qa _⟩
def fD:List Int->Int
 |[]=>0
 |n::l=>if n=0 then fD l else n
def KB(l:List Int):List zb:=l.map fun n=>[int n]
@[simp]theorem OH(l:List Int):(KB l).length=l.length:=by simp[KB]
@[simp]theorem zce{l:List Int}{k:Nat}(h:k<(KB l).length):(KB l)[k]=[int (l[k]'(by simpa using h))]:=by simp[KB]
theorem FF{a b:List Int}(h:KB a=KB b):a=b:=yF (fun x y e=>by simp only[zc,zs]at e;exact zT e) h
noncomputable def OI:zb->Option O:=zS (α:=List Int) (fun l=>[.sl 1 (KB l)]) (fun l=>l.length<=zw) (fun l=>int (fD l))
theorem L0(l:List Int)(i:l.length<=zw):zt C0 f110 [.sl 1 (KB l)]=some (int (fD l)):=by
 refine zl rfl ?_;unfold zw at i;simp;refine zP (fun k U Y Z=>U 3=int 0/\U 6=.sl 1 (KB l)/\U 7=int l.length/\U 8=int k/\fD l=fD (l.drop k)) l.length ⟨by simp,by simp,by simp,by simp,by simp⟩ ?_;rintro k U Y Z m ⟨d,e,f,g,b⟩;by_cases a:k<l.length
 ·have j:=qz k;rw[zd a]at b;simp only[fD]at b;by_cases c:l[k]=0
  ·rw[ze c]at b;simp[d,e,f,g,a,c,j];exact⟨a,b⟩
  ·rw[zj c]at b;have h:=xE c;simp[d,e,f,g,a,h,b,f110]
 ·obtain rfl:k=l.length:=by omega
  rw[zp]at b;simp[d,e,f,g,b,fD,f110]
theorem di:zf prog 110 (zg false [] OI):=
 kL y7 func110 false [] fun l Y=>⟨by simp[f110],_,L0 l Y,qa _⟩
theorem lE(l:List Int)(Y:Hp)(Z id:Nat)(e:Nat)(h:l.length<=zw)(c:Y id=some ⟨e,1,true,KB l⟩):zg false [] OI [.own id 0 l.length] Y Z=some (int (fD l),Y,Z):=by have d:(KB l).take l.length=KB l:=q6 (by simp);refine wR (show zy Y [.own id 0 l.length]=some ([.sl 1 (KB l)],ql Y id none) by simp[c,d]) ?_ (.inl rfl);exact qx (V:=fun l:List Int=>[O.sl 1 (KB l)]) (a:=l) (fun a b e=>by simp only[zc,zs]at e;injection e with _ e;exact FF e) h
def Ki(l:za):Bool:=!l.isEmpty&&xS l
noncomputable def yG (a b:za):Int:=if Ki a=true then(if Ki b=true then fD [yj (Lib.trimLeftB a 48).length (Lib.trimLeftB b 48).length,wX (Lib.trimLeftB a 48) (Lib.trimLeftB b 48)]else -1)else if Ki b=true then 1 else wX a b
noncomputable abbrev Ccp:Ctx:=zG prog [(210,zg false [] (FS xS)),(270,zg false [] (xR tlP fun _ b=>Cm b)),(111,zg false [] (OD yj)),(41,zg false [] (Cy wX)),(110,zg false [] OI)]
theorem P1:AM.Good Ccp (fun g=>[210].contains g):=qc mixed ⟨Zz,fun _=>zr _ _,cU,by simp,W7,by simp,yd,by simp,di,by simp,trivial⟩
@[simp]theorem zcf:jJ Ccp 210:=yA (by rfl) (zr _ _)
theorem Ay(a:za)(Y:Hp)(Z:Nat)(h:a.length<=zw):zg false [] (xR tlP fun _ b=>Cm b) [str a,str [48]] Y Z=some (str (Lib.trimLeftB a 48),Y,Z):=jL _ _ a [48] Y Z h (by decide) ⟨48,rfl,by decide⟩ rfl
theorem ba(a b:za)(i:a.length<=zw)(j:b.length<=zw):zt Ccp f248 [str a,str b]=some (int (yG a b)):=by
 refine zl rfl ?_;have c:=fun Y Z=>ke xS a Y Z i
 have d:=fun Y Z=>ke xS b Y Z j
 have k:=fun Y Z=>Ay a Y Z i
 have tb:=fun Y Z=>Ay b Y Z j
 have e:(!a.isEmpty&&xS a)=Ki a:=rfl;have f:(!b.isEmpty&&xS b)=Ki b:=rfl;cases g:Ki a<;>cases h:Ki b
 ·simp[c,d,e,f,g,h,yG,f248]
 ·simp[c,d,e,f,g,h,yG,f248]
 ·simp[c,d,e,f,g,h,yG,f248]
 ·have l:∀(Y:Hp) (Z id:Nat),Y id=some ⟨3,1,true,[[int (yj (Lib.trimLeftB a 48).length (Lib.trimLeftB b 48).length)],[int (wX (Lib.trimLeftB a 48) (Lib.trimLeftB b 48))]]⟩->zg false [] OI [.own id 0 2] Y Z=some (int (fD [yj (Lib.trimLeftB a 48).length (Lib.trimLeftB b 48).length,wX (Lib.trimLeftB a 48) (Lib.trimLeftB b 48)]),Y,Z):=fun Y Z id m=>lE [_,_] Y Z id _ (by show 2<=zw;decide) m
  simp[c,d,k,tb,e,f,g,h,l,zu,zX,zv,yG,f248]
theorem Xt:zf prog 248 (zg false [] (xR (fun a b=>int (yG a b)) fun _ _=>True)):=
 yt (fn:=f248) P1 (qW func248) false [] _ fun args r h=>by obtain⟨a,b,rfl,c,d,_,rfl⟩:=jB h;exact⟨by simp[f248],_,ba a b c d,qa _⟩
theorem Cz(a b:za)(Y:Hp)(Z:Nat)(h:a.length<=zw)(c:b.length<=zw):zg false [] (xR (fun a b=>int (yG a b)) fun _ _=>True) [str a,str b] Y Z=some (int (yG a b),Y,Z):=jL _ _ a b Y Z h c trivial rfl
def jj{α:Type}(c:α->α->Int):List α->List α->Int
 |[],[]=>0
 |[],_::_=>-1
 |_::_,[]=>1
 |x::a,y::b=>if c x y=0 then jj c a b else c x y
noncomputable abbrev Ccf:Ctx:=zG prog [(248,zg false [] (xR (fun a b=>int (yG a b)) fun _ _=>True))]
theorem P2:Gd Ccf:=zM mixed ⟨Xt,trivial⟩
def vE(l:List za):Prop:=l.length<=zw/\∀p∈l,p.length<=zw
theorem Vj(a b:List za)(o:vE a)(p:vE b):zt Ccf f247 [.sl 1 (zZ a),.sl 1 (zZ b),.fn (.func 248) [] []]=some (int (jj yG a b)):=by
 refine zl rfl ?_;obtain⟨o,q⟩:=o;obtain⟨p,r⟩:=p;unfold zw at o p;simp;refine zP (fun k U Y Z=>U 0=.sl 1 (zZ a)/\U 1=.sl 1 (zZ b)/\U 2=.fn (.func 248) [] []/\U 11=.sl 1 (zZ a)/\U 12=int a.length/\U 13=int k/\k<=b.length/\jj yG a b=jj yG (a.drop k) (b.drop k)) a.length
  ⟨by simp,by simp,by simp,by simp,by simp,by simp,by simp,by simp⟩ ?_
 rintro k U Y Z y ⟨j,l,m,f,g,h,v,c⟩;by_cases d:k<a.length
 ·have w:=qz k;by_cases e:k<b.length
  ·have i:¬b.length<=k:=by omega
   have u:=fun Y Z=>Cz a[k] b[k] Y Z (q _ (zm d)) (r _ (zm e))
   rw[zd d,zd e]at c;simp only[jj]at c;by_cases n:yG a[k] b[k]=0
   ·rw[ze n]at c;simp[j,l,m,f,g,h,d,e,i,u,n,w];exact⟨d,by omega,c⟩
   ·rw[zj n]at c;have s:=xE n;simp[j,l,m,f,g,h,d,e,i,u,s,c,f247]
  ·obtain rfl:k=b.length:=by omega
   rw[zd d,zp]at c;simp only[jj]at c;simp[j,l,m,f,g,h,d,c,f247]
 ·obtain rfl:k=a.length:=by omega
  rw[zp]at c;by_cases t:a.length<b.length
  ·rw[zd t]at c;simp only[jj]at c;simp[j,l,m,f,g,h,t,c,f247]
  ·rw[V4 (by omega)]at c;simp only[jj]at c;have x:¬((a.length:Int)<b.length):=by omega
   simp[j,l,m,f,g,h,t,c,f247]
noncomputable def FCf:zb->Option O:=zS (α:=List za×List za) (fun a=>[.sl 1 (zZ a.1),.sl 1 (zZ a.2),.fn (.func 248) [] []]) (fun a=>vE a.1/\vE a.2) (fun a=>int (jj yG a.1 a.2))
theorem P3:∀a b:List za×List za,[O.sl 1 (zZ a.1),.sl 1 (zZ a.2),.fn (.func 248) [] []]=[.sl 1 (zZ b.1),.sl 1 (zZ b.2),.fn (.func 248) [] []]->a=b:=by rintro⟨f,g⟩ ⟨h,i⟩ e;simp only[zc,zs]at e;obtain⟨c,d⟩:=e;injection c with _ c;injection d with _ d;rw[jd c,jd d]
theorem KC:zf prog 247 (zg false [] FCf):=
 kL P2 func247 false [] fun⟨a,b⟩ ⟨c,d⟩=>⟨by simp[f247],_,Vj a b c d,qa _⟩
theorem L1(a b:List za)(Y:Hp)(Z:Nat)(c:vE a)(d:vE b):zg false [] FCf [.sl 1 (zZ a),.sl 1 (zZ b),.fn (.func 248) [] []] Y Z=some (int (jj yG a b),Y,Z):=
 wR (Y1:=Y) (by simp) (qx (V:=fun a:List za×List za=>[O.sl 1 (zZ a.1),.sl 1 (zZ a.2),.fn (.func 248) [] []]) (a:=(a,b)) P3 ⟨c,d⟩) (.inl rfl)
noncomputable def Wn (v w:yE):Int:=if fD [yj v.a w.a,yj v.b w.b,yj v.c w.c]=0 then(if v.pre.length=0 then(if w.pre.length=0 then 0 else 1)else if w.pre.length=0 then -1 else jj yG v.pre w.pre)else fD [yj v.a w.a,yj v.b w.b,yj v.c w.c]
noncomputable abbrev Ccv:Ctx:=zG prog [(111,zg false [] (OD yj)),(110,zg false [] OI),(247,zg false [] FCf)]
theorem P4:AM.Good Ccv (fun g=>[111,110].contains g):=qc mixed ⟨W7,fun _=>zr _ _,di,fun _=>zr _ _,KC,by simp,trivial⟩
theorem Je(v w:yE)(t:v.small)(u:w.small):zt Ccv f228 [.agg v.V,.agg w.V]=some (int (Wn v w)):=by
 obtain⟨a,b,c,p⟩:=v;obtain⟨k,l,m,e⟩:=w;refine zl rfl ?_;have n:=fun Y Z=>L1 p e Y Z t u
 obtain⟨o,s⟩:=kC (fD [yj a k,yj b l,yj c m]);have d:∀(Y:Hp) (Z id:Nat),Y id=some ⟨3,1,true,[[int (yj a k)],[int (yj b l)],[int (yj c m)]]⟩->zg false [] OI [.own id 0 3] Y Z=some (int o,Y,Z):=fun Y Z id x=>s ▸ lE [_,_,_] Y Z id _ (by show 3<=zw;decide) x
 have j:Wn ⟨a,b,c,p⟩ ⟨k,l,m,e⟩=if o=0 then(if p.length=0 then(if e.length=0 then 0 else 1)else if e.length=0 then -1 else jj yG p e)else o:=by rw[<-s];rfl
 rw[j];by_cases q:o=0
 ·subst q;by_cases h:p.length=0<;>by_cases i:e.length=0
  ·simp[yE.V,d,zu,zX,zv,h,i,f228]
  ·have f:((e.length:Int)==0)=false:=by simpa using i
   simp[yE.V,d,zu,zX,zv,h,i,f,f228]
  ·have g:((p.length:Int)==0)=false:=by simpa using h
   simp[yE.V,d,zu,zX,zv,h,i,g,f228]
  ·have g:((p.length:Int)==0)=false:=by simpa using h
   have f:((e.length:Int)==0)=false:=by simpa using i
   simp[yE.V,d,zu,zX,zv,h,i,g,f,n,f228]
 ·have r:=xE q;simp[yE.V,d,zu,zX,zv,q,r,f228]
noncomputable def P5 (f:yE->yE->O):zb->Option O:=zS (α:=yE×yE) (fun a=>[.agg a.1.V,.agg a.2.V]) (fun a=>a.1.small/\a.2.small) (fun a=>f a.1 a.2)
theorem P6:∀a b:yE×yE,[O.agg a.1.V,.agg a.2.V]=[.agg b.1.V,.agg b.2.V]->a=b:=by rintro⟨f,g⟩ ⟨h,i⟩ e;simp only[zc,zs]at e;obtain⟨c,d⟩:=e;injection c with c;injection d with d;rw[Wl c,Wl d]
theorem YL:zf prog 228 (qH [.g Zn,.g Zn] (P5 fun v w=>int (Wn v w))):=
 yN (fn:=f228) P4 (qW func228) _ _ fun args r h=>by obtain⟨⟨v,w⟩,rfl,⟨a,b⟩,rfl⟩:=qd h;exact⟨by simp[f228],_,Je v w a b,wu.refl _⟩
theorem Az(v w:yE)(Y:Hp)(Z:Nat)(b:v.small)(c:w.small):qH [.g Zn,.g Zn] (P5 fun v w=>int (Wn v w)) [.agg v.V,.agg w.V] Y Z=some (int (Wn v w),Y,Z):=
 va (show zy Y [.agg v.V,.agg w.V]=some ([.agg v.V,.agg w.V],Y) by simp[yE.V]) (qx (V:=fun a:yE×yE=>[O.agg a.1.V,.agg a.2.V]) (a:=(v,w)) P6 ⟨b,c⟩) (.inl rfl)
structure Cut where
 v:yE
 after:Bool
def Cut.V(c:Cut):zb:=[int c.v.a,int c.v.b,int c.v.c,.sl 1 (zZ c.v.pre),qO c.after]
abbrev v7:List (Option Nat):=[none,none,none,some 1,none]
theorem xi{a b:Cut}(h:a.V=b.V):a=b:=by obtain⟨⟨i,j,k,l⟩,m⟩:=a;obtain⟨⟨n,o,p,q⟩,r⟩:=b;simp only[Cut.V,zc,zs]at h;obtain⟨d,e,f,c,g⟩:=h;injection c with _ c;rw[zT d,zT e,zT f,jd c,Z1 g]
noncomputable def xl (a b:Cut):Int:=if Wn a.v b.v=0 then(if a.after=b.after then 0 else if b.after=true then -1 else 1)else Wn a.v b.v
noncomputable def FG (f:Cut->Cut->O):zb->Option O:=zS (α:=Cut×Cut) (fun a=>[.agg a.1.V,.agg a.2.V]) (fun a=>a.1.v.small/\a.2.v.small) (fun a=>f a.1 a.2)
theorem FH:∀a b:Cut×Cut,[O.agg a.1.V,.agg a.2.V]=[.agg b.1.V,.agg b.2.V]->a=b:=by rintro⟨f,g⟩ ⟨h,i⟩ e;simp only[zc,zs]at e;obtain⟨c,d⟩:=e;injection c with c;injection d with d;rw[xi c,xi d]
noncomputable abbrev Ccu:Ctx:=zG prog [(228,qH [.g Zn,.g Zn] (P5 fun v w=>int (Wn v w)))]
theorem FJ:Gd Ccu:=zM mixed ⟨YL,trivial⟩
theorem Xu(x y:Cut)(l:x.v.small)(m:y.v.small):zt Ccu f223 [.agg x.V,.agg y.V]=some (int (xl x y)):=by
 obtain⟨⟨a,b,c,p⟩,f⟩:=x;obtain⟨⟨h,i,j,k⟩,f'⟩:=y;refine zl rfl ?_;have d:=fun Y Z=>Az ⟨a,b,c,p⟩ ⟨h,i,j,k⟩ Y Z l m
 simp only[yE.V]at d;by_cases e:Wn ⟨a,b,c,p⟩ ⟨h,i,j,k⟩=0
 ·cases f<;>cases f'<;>simp[Cut.V,d,e,xl,f223]
 ·have g:=xE e;simp[Cut.V,d,e,g,xl,f223]
theorem kR:zf prog 223 (qH [.g v7,.g v7] (FG fun v w=>int (xl v w))):=
 yN (fn:=f223) FJ (qW func223) _ _ fun args r h=>by obtain⟨⟨v,w⟩,rfl,⟨a,b⟩,rfl⟩:=qd h;exact⟨by simp[f223],_,Xu v w a b,wu.refl _⟩
theorem AA(x y:Cut)(u v:O)(Y:Hp)(Z:Nat)(b:(Sh.g v7).fix u=.agg x.V)(c:(Sh.g v7).fix v=.agg y.V)(d:zy Y [u,v]=some ([u,v],Y))(e:x.v.small)(f:y.v.small):qH [.g v7,.g v7] (FG fun v w=>int (xl v w)) [u,v] Y Z=some (int (xl x y),Y,Z):=
 va d (by show FG _ [(Sh.g v7).fix u,(Sh.g v7).fix v]=_;rw[b,c];exact qx (V:=fun a:Cut×Cut=>[O.agg a.1.V,.agg a.2.V]) (a:=(x,y)) FH ⟨e,f⟩) (.inl rfl)
mutual
noncomputable def yH:qp->qp->Int
 | .mk k n s a b,w=>if k=w.kind then(if k=1\/k=2 then yj n w.n else if k=3 then wX s w.s else if k=4 then b5 a w.items else if k=5 then b6 b w.fields else 0)else yj k w.kind
noncomputable def b5:List qp->List qp->Int
 |[],[]=>0
 |[],_::_=>-1
 |_::_,[]=>1
 |a::xs,b::ys=>if yH a b=0 then b5 xs ys else yH a b
noncomputable def b6:List (za×qp)->List (za×qp)->Int
 |[],[]=>0
 |[],_::_=>-1
 |_::_,[]=>1
 |(x,a)::xs,g::ys=>if fD [wX x g.1,yH a g.2]=0 then b6 xs ys else fD [wX x g.1,yH a g.2]
end
noncomputable def xU (f g:za×qp):Int:=fD [wX f.1 g.1,yH f.2 g.2]
theorem dj:∀a b:List qp,b5 a b=jj yH a b
 |[],[]=>rfl
 |[],_::_=>rfl
 |_::_,[]=>rfl
 |a::xs,b::ys=>by simp only[b5,jj,dj xs ys]
theorem dk:∀a b:List (za×qp),b6 a b=jj xU a b
 |[],[]=>rfl
 |[],_::_=>rfl
 |_::_,[]=>rfl
 |(x,a)::xs,g::ys=>by simp only[b6,jj,dk xs ys,xU];rfl
theorem CA(a b:qp):yH a b=if a.kind=b.kind then(if a.kind=1\/a.kind=2 then yj a.n b.n else if a.kind=3 then wX a.s b.s else if a.kind=4 then jj yH a.items b.items else if a.kind=5 then jj xU a.fields b.fields else 0)else yj a.kind b.kind:=by
 cases a with
 |mk k n s e f=>
  cases b with
  |mk g h i c d=>simp only[yH,dj,dk,qp.kind,qp.n,qp.s,qp.items,qp.fields];rfl
noncomputable def P7 (n:Nat):zb->Option O:=zS (α:=qp×qp) (fun a=>[.agg a.1.V,.agg a.2.V]) (fun a=>a.1.vb<=zw/\a.1.vb<=n/\a.2.vb<=zw) (fun a=>int (yH a.1 a.2))
theorem Vk(n:Nat)(a b:qp)(Y:Hp)(Z:Nat)(h:a.vb<=zw/\a.vb<=n/\b.vb<=zw):zg false [] (P7 n) [.agg a.V,.agg b.V] Y Z=some (int (yH a b),Y,Z):=
 wR (Y1:=Y) (show zy Y [.agg a.V,.agg b.V]=some ([.agg a.V,.agg b.V],Y) by simp only[zy,db])
  (qx (V:=fun a:qp×qp=>[.agg a.1.V,.agg a.2.V]) (a:=(a,b)) (fun x y e=>by obtain⟨c,d⟩:=x;obtain⟨f,g⟩:=y;simp only[zc,zs,O.agg.injEq]at e;rw[ZS e.1,ZS e.2]) h) (.inl rfl)
theorem CB{f:FuncId}{F:zb->Option O}(b:∃fn,prog.funcs[f]?=some fn/\(fn.name== "runtime.NumGoroutine")=false/\fn.body.isNone=false)(h:∀args r,F args=some r->False):zf prog f (zg false [] F):=by
 refine⟨b,fun args Y Z r c Z' a=>?_⟩;unfold zg at a;split at a
 ·split at a
  ·rename_i d hF;exact(h _ _ hF).elim
  ·cases a
 ·cases a
theorem Xv{a b:za×qp}(h:wS a=wS b):a=b:=by obtain⟨c,d⟩:=a;obtain⟨e,f⟩:=b;simp only[wS,zc]at h;rw[qv h.1,ZS h.2]
theorem gM{a b:List (za×qp)}(h:a.map wS=b.map wS):a=b:=yF (fun _ _=>Xv) h
theorem Xw{a b:List qp}(h:a.map qp.V=b.map qp.V):a=b:=yF (fun _ _=>ZS) h
noncomputable abbrev Ccfv (n:Nat):Ctx:=zG prog [(146,zg false []<|P7 n)]
theorem Vl(n:Nat)(a b:List (qp))(p:Ju a<=zw/\Ju a<=n)(t:Ju b<=zw):zt (Ccfv n) f170 [.sl 5 (a.map qp.V),.sl 5 (b.map qp.V),.fn (.func 146) [] []]=some (int (jj yH a b)):=by
 refine zl rfl ?_;obtain⟨p,u⟩:=p;have y:=ve a;have z:=ve b;unfold zw at p t;simp;refine zP (fun k U Y Z=>U 0=.sl 5 (a.map qp.V)/\U 1=.sl 5 (b.map qp.V)/\U 2=.fn (.func 146) [] []/\U 11=.sl 5 (a.map qp.V)/\U 12=int a.length/\U 13=int k/\k<=b.length/\jj yH a b=jj yH (a.drop k) (b.drop k)) a.length
  ⟨by simp,by simp,by simp,by simp,by simp,by simp,by simp,by simp⟩ ?_
 rintro k U Y Z A ⟨j,l,m,f,g,h,v,c⟩;by_cases d:k<a.length
 ·have w:=qz k;by_cases e:k<b.length
  ·have i:¬b.length<=k:=by omega
   have B:=Zd (zm d);have C:=Zd (zm e);have s:=fun Y Z=>Vk n a[k] b[k] Y Z ⟨by unfold zw;omega,by omega,by unfold zw;omega⟩
   skip
   rw[zd d,zd e]at c;simp only[jj]at c;by_cases o:yH a[k] b[k]=0
   ·rw[ze o]at c;simp[j,l,m,f,g,h,d,e,i,s,o,w];exact⟨d,by omega,c⟩
   ·rw[zj o]at c;have q:=xE o;simp[j,l,m,f,g,h,d,e,i,s,q,c,f170]
  ·obtain rfl:k=b.length:=by omega
   rw[zd d,zp]at c;simp only[jj]at c;simp[j,l,m,f,g,h,d,c,f170]
 ·obtain rfl:k=a.length:=by omega
  rw[zp]at c;by_cases r:a.length<b.length
  ·rw[zd r]at c;simp only[jj]at c;simp[j,l,m,f,g,h,r,c,f170]
  ·rw[V4 (by omega)]at c;simp only[jj]at c;have x:¬((a.length:Int)<b.length):=by omega
   simp[j,l,m,f,g,h,r,c,f170]
noncomputable def FLV (n:Nat):zb->Option O:=zS (α:=List (qp)×List (qp)) (fun a=>[.sl 5 (a.1.map qp.V),.sl 5 (a.2.map qp.V),.fn (.func 146) [] []]) (fun a=>(Ju a.1<=zw/\Ju a.1<=n)/\Ju a.2<=zw) (fun a=>int (jj yH a.1 a.2))
theorem FK(n:Nat)(a b:List (qp))(Y:Hp)(Z:Nat)(h:(Ju a<=zw/\Ju a<=n)/\Ju b<=zw):zg false [] (FLV n) [.sl 5 (a.map qp.V),.sl 5 (b.map qp.V),.fn (.func 146) [] []] Y Z=some (int (jj yH a b),Y,Z):=
 wR (Y1:=Y) (by simp) (qx (V:=fun a:List (qp)×List (qp)=>[O.sl 5 (a.1.map qp.V),.sl 5 (a.2.map qp.V),.fn (.func 146) [] []]) (a:=(a,b)) (fun x y e=>by obtain⟨f,g⟩:=x;obtain⟨i,j⟩:=y;simp only[zc,zs]at e;obtain⟨c,d⟩:=e;injection c with _ c;injection d with _ d;rw[Xw c,Xw d]) h) (.inl rfl)
noncomputable def FFF (n:Nat):zb->Option O:=zS (α:=(za×qp)×(za×qp)) (fun a=>[.agg (wS a.1),.agg (wS a.2)]) (fun a=>(a.1.2.vb<=zw/\a.1.2.vb<=n/\a.2.2.vb<=zw)) (fun a=>int (xU a.1 a.2))
theorem FL(n:Nat)(a b:za×qp)(Y:Hp)(Z:Nat)(h:a.2.vb<=zw/\a.2.vb<=n/\b.2.vb<=zw):zg false [] (FFF n) [.agg (wS a),.agg (wS b)] Y Z=some (int (xU a b),Y,Z):=
 wR (Y1:=Y) (show zy Y [.agg (wS a),.agg (wS b)]=some ([.agg (wS a),.agg (wS b)],Y) by simp[wS])
  (qx (V:=fun a:(za×qp)×(za×qp)=>[.agg (wS a.1),.agg (wS a.2)]) (a:=(a,b)) (fun x y e=>by
   obtain⟨d,f⟩:=x;obtain⟨g,i⟩:=y;have c:wS d=wS g/\wS f=wS i:=by simp only[zc,zs,O.agg.injEq]at e;exact⟨zc .. ▸ e.1,zc .. ▸ e.2⟩
   rw[Xv c.1,Xv c.2]) h) (.inl rfl)
noncomputable abbrev Ccfl (n:Nat):Ctx:=zG prog [(41,zg false [] (Cy wX)),(146,zg false [] (P7 n)),(110,zg false [] OI)]
theorem KD(n:Nat)(a b:za×qp)(h:a.2.vb<=zw/\a.2.vb<=n/\b.2.vb<=zw):zt (Ccfl n) f172 [.agg (wS a),.agg (wS b)]=some (int (xU a b)):=by
 refine zl rfl ?_;have c:=fun Y Z=>Vk n a.2 b.2 Y Z h
 have d:∀(Y:Hp) (Z id:Nat),Y id=some ⟨3,1,true,[[int (wX a.1 b.1)],[int (yH a.2 b.2)]]⟩->zg false [] OI [.own id 0 2] Y Z=some (int (xU a b),Y,Z):=fun Y Z id e=>lE [_,_] Y Z id _ (by show 2<=zw;decide) e
 simp[wS,c,d,zu,zX,zv,f172]
noncomputable abbrev Ccff (n:Nat):Ctx:=zG prog [(172,zg false []<|FFF n)]
theorem Vm(n:Nat)(a b:List (za×qp))(p:V8 a<=zw/\V8 a<=n)(t:V8 b<=zw):zt (Ccff n) f171 [.sl 6 (a.map wS),.sl 6 (b.map wS),.fn (.func 172) [] []]=some (int (jj xU a b)):=by
 refine zl rfl ?_;obtain⟨p,u⟩:=p;have y:=vZ a;have z:=vZ b;unfold zw at p t;simp;refine zP (fun k U Y Z=>U 0=.sl 6 (a.map wS)/\U 1=.sl 6 (b.map wS)/\U 2=.fn (.func 172) [] []/\U 11=.sl 6 (a.map wS)/\U 12=int a.length/\U 13=int k/\k<=b.length/\jj xU a b=jj xU (a.drop k) (b.drop k)) a.length
  ⟨by simp,by simp,by simp,by simp,by simp,by simp,by simp,by simp⟩ ?_
 rintro k U Y Z A ⟨j,l,m,f,g,h,v,c⟩;by_cases d:k<a.length
 ·have w:=qz k;by_cases e:k<b.length
  ·have i:¬b.length<=k:=by omega
   have B:=W6 (zm d);have C:=W6 (zm e);have q:=fun Y Z=>FL n a[k] b[k] Y Z ⟨by unfold zw;omega,by omega,by unfold zw;omega⟩
   simp only[wS]at q;rw[zd d,zd e]at c;simp only[jj]at c;by_cases o:xU a[k] b[k]=0
   ·rw[ze o]at c;simp[j,l,m,f,g,h,d,e,i,q,o,w];exact⟨d,by omega,c⟩
   ·rw[zj o]at c;have r:=xE o;simp[j,l,m,f,g,h,d,e,i,q,r,c,f171]
  ·obtain rfl:k=b.length:=by omega
   rw[zd d,zp]at c;simp only[jj]at c;simp[j,l,m,f,g,h,d,c,f171]
 ·obtain rfl:k=a.length:=by omega
  rw[zp]at c;by_cases s:a.length<b.length
  ·rw[zd s]at c;simp only[jj]at c;simp[j,l,m,f,g,h,s,c,f171]
  ·rw[V4 (by omega)]at c;simp only[jj]at c;have x:¬((a.length:Int)<b.length):=by omega
   simp[j,l,m,f,g,h,s,c,f171]
noncomputable def FLF (n:Nat):zb->Option O:=zS (α:=List (za×qp)×List (za×qp)) (fun a=>[.sl 6 (a.1.map wS),.sl 6 (a.2.map wS),.fn (.func 172) [] []]) (fun a=>(V8 a.1<=zw/\V8 a.1<=n)/\V8 a.2<=zw) (fun a=>int (jj xU a.1 a.2))
theorem FM(n:Nat)(a b:List (za×qp))(Y:Hp)(Z:Nat)(h:(V8 a<=zw/\V8 a<=n)/\V8 b<=zw):zg false [] (FLF n) [.sl 6 (a.map wS),.sl 6 (b.map wS),.fn (.func 172) [] []] Y Z=some (int (jj xU a b),Y,Z):=
 wR (Y1:=Y) (by simp) (qx (V:=fun a:List (za×qp)×List (za×qp)=>[O.sl 6 (a.1.map wS),.sl 6 (a.2.map wS),.fn (.func 172) [] []]) (a:=(a,b)) (fun x y e=>by obtain⟨f,g⟩:=x;obtain⟨i,j⟩:=y;simp only[zc,zs]at e;obtain⟨c,d⟩:=e;injection c with _ c;injection d with _ d;rw[gM c,gM d]) h) (.inl rfl)
noncomputable abbrev Ccmv (n:Nat):Ctx:=zG prog [(111,zg false [] (OD yj)),(41,zg false [] (Cy wX)),(170,zg false [] (FLV n)),(171,zg false [] (FLF n))]
theorem fE(n:Nat)(a b:qp)(h:a.vb<=zw/\a.vb<=n+1/\b.vb<=zw):zt (Ccmv n) f146 [.agg a.V,.agg b.V]=some (int (yH a b)):=by
 obtain⟨u,v,w⟩:=h;have x:=Kf a;have y:=Kf b;have m:=fun Y Z=>FK n a.items b.items Y Z ⟨⟨by omega,by omega⟩,by omega⟩
 have o:=fun Y Z=>FM n a.fields b.fields Y Z ⟨⟨by omega,by omega⟩,by omega⟩
 refine zl rfl ?_;have c:=CA a b;by_cases e:a.kind=b.kind
 ·rw[ze e]at c;by_cases j:a.kind=1
  ·rw[ze (.inl j)]at c;have d:b.kind=1:=by omega
   simp[j,d,c,f146]
  by_cases k:a.kind=2
  ·rw[ze (.inr k)]at c;have d:b.kind=2:=by omega
   simp[k,d,c,f146]
  rw[zj (by omega)]at c;by_cases f:a.kind=3
  ·rw[ze f]at c;have d:b.kind=3:=by omega
   simp[f,d,c,f146]
  rw[zj f]at c;by_cases g:a.kind=4
  ·rw[ze g]at c;have d:b.kind=4:=by omega
   simp[g,d,c,m,f146]
  rw[zj g]at c;by_cases i:a.kind=5
  ·rw[ze i]at c;have d:b.kind=5:=by omega
   simp[i,d,c,o,f146]
  rw[zj i]at c;have l:(a.kind != b.kind)=false:=by simpa using e
  have p:=jr j;have q:=jr k;have r:=jr f;have s:=jr g;have t:=jr i;simp[l,p,q,r,s,t,c,f146]
 ·rw[zj e]at c;have l:(a.kind != b.kind)=true:=by simpa using e
  simp[l,c,f146]
theorem AB{n:Nat}{args:zb}{r:O}(h:P7 n args=some r):∃a b:qp,args=[.agg a.V,.agg b.V]/\(a.vb<=zw/\a.vb<=n/\b.vb<=zw)/\r=int (yH a b):=by obtain⟨⟨a,b⟩,c,d,e⟩:=qd h;exact⟨a,b,c,d,e⟩
theorem Jf:∀n,zf prog 146 (zg false [] (P7 n)):=by
 intro n
 induction n with
 |zero=>
  exact CB ⟨_,func146,by kernel_rfl,by kernel_rfl⟩ fun args r h=>by obtain⟨a,b,_,d,_⟩:=AB h;have:=lx a;omega
 |succ n e=>
  have f:Gd (Ccfv n):=zM mixed ⟨e,trivial⟩;have i:zf prog 170 (zg false [] (FLV n)):=
   kL f func170 false [] fun⟨a,b⟩ ⟨c,d⟩=>by exact⟨zA (zi 3) (by decide),_,Vl n a b c d,qa _⟩
  have j:AM.Good (Ccfl n) (fun g=>[41,146,110].contains g):=qc mixed ⟨yd,fun _=>zr _ _,e,fun _=>zr _ _,di,fun _=>zr _ _,trivial⟩;have k:zf prog 172 (zg false [] (FFF n)):=
   kL j func172 false [] fun⟨a,b⟩ c=>by exact⟨zA (zi 2) (by decide),_,KD n a b c,qa _⟩
  have l:Gd (Ccff n):=zM mixed ⟨k,trivial⟩;have m:zf prog 171 (zg false [] (FLF n)):=
   kL l func171 false [] fun⟨a,b⟩ ⟨c,d⟩=>by exact⟨zA (zi 3) (by decide),_,Vm n a b c d,qa _⟩
  have o:Gd (Ccmv n):=zM mixed ⟨W7,yd,i,m,trivial⟩;exact yt (fn:=f146) o (qW func146) false [] _ fun args r h=>by obtain⟨a,b,rfl,c,rfl⟩:=AB h;exact⟨zA (zi 2) (by decide),_,fE n a b c,qa _⟩
inductive qT where
 |mk (kind:Int) (attr:List UInt8) (op:Int) (kc:List qp) (pat name:List UInt8) (args:List qT)
namespace qT
def kind:qT->Int|.mk k _ _ _ _ _ _=>k
def attr:qT->za|.mk _ a _ _ _ _ _=>a
def op:qT->Int|.mk _ _ o _ _ _ _=>o
def kc:qT->List qp|.mk _ _ _ v _ _ _=>v
def pat:qT->za|.mk _ _ _ _ p _ _=>p
def name:qT->za|.mk _ _ _ _ _ n _=>n
def args:qT->List qT|.mk _ _ _ _ _ _ l=>l
end qT
theorem qT.ind{P:qT->Prop}(h:∀k a o v p n l,(∀x∈l,P x)->P (.mk k a o v p n l))(c:qT):P c:=
 qT.rec (motive_1:=P) (motive_2:=fun l=>∀x∈l,P x) (fun k a o v p n l b=>h k a o v p n l b) (by simp)
  (fun x l e b y d=>by
   rcases zC.1 d with rfl|d
   ·exact e
   ·exact b y d) c
mutual
def qT.V:qT->zb
 | .mk k a o v p n l=>[int k,str a,int o,.sl 5 (v.map qp.V),str p,str n,.sl 7 (mW l)]
def mW:List qT->List zb
 |[]=>[]
 |c::l=>c.V::mW l
end
theorem dm:∀l:List qT,mW l=l.map qT.V
 |[]=>rfl
 |c::l=>by simp[mW,dm l]
theorem wY(c:qT):c.V=[int c.kind,str c.attr,int c.op,.sl 5 (c.kc.map qp.V),str c.pat,str c.name,.sl 7 (c.args.map qT.V)]:=by
 cases c with
 |mk k a o v p n l=>simp[qT.V,dm,qT.kind,qT.attr,qT.op,qT.kc,qT.pat,qT.name,qT.args]
@[simp]theorem OJ(c:qT):c.V.length=7:=by rw[wY];rfl
@[simp]theorem tk(c:qT):c.V.all O.wz=true:=by rw[wY];rfl
@[simp]theorem OK(c:qT):(∀x,x∈c.V->O.wz x=true)=True:=by have:=tk c;rw[zQ]at this;exact eq_true this
@[simp]theorem TX(c:qT):c.V.take 7=c.V:=q6 (by simp)
@[simp]theorem zcD(c:qT)(h:0<c.V.length):c.V[0]=int c.kind:=by simp[wY c]
@[simp]theorem zcE(c:qT)(h:1<c.V.length):c.V[1]=str c.attr:=by simp[wY c]
@[simp]theorem zcF(c:qT)(h:2<c.V.length):c.V[2]=int c.op:=by simp[wY c]
@[simp]theorem zcG(c:qT)(h:3<c.V.length):c.V[3]=.sl 5 (c.kc.map qp.V):=by simp[wY c]
@[simp]theorem zcH(c:qT)(h:4<c.V.length):c.V[4]=str c.pat:=by simp[wY c]
@[simp]theorem zcI(c:qT)(h:5<c.V.length):c.V[5]=str c.name:=by simp[wY c]
@[simp]theorem zcJ(c:qT)(h:6<c.V.length):c.V[6]=.sl 7 (c.args.map qT.V):=by simp[wY c]
theorem oh{a b:List qp}(h:a.map qp.V=b.map qp.V):a=b:=yF (fun _ _=>ZS) h
theorem Jg:∀{a b:qT},a.V=b.V->a=b:=by
 intro a
 induction a using qT.ind with
 |h k a o v p n l f=>
  intro b e;cases b with
  |mk s t o' u w z l'=>
   simp only[wY,qT.kind,qT.attr,qT.op,qT.kc,qT.pat,qT.name,qT.args,zc,zs]at e;obtain⟨g,i,j,c,m,q,d⟩:=e;obtain rfl:=zT g;obtain rfl:=qv i;obtain rfl:=zT j;injection c with _ c
   obtain rfl:=oh c;obtain rfl:=qv m;obtain rfl:=qv q;injection d with _ d;rw[W5 (fun x r y=>f x r) d]
mutual
def qT.cb:qT->Nat
 | .mk _ a _ v p n l=>1+a.length+Ju v+p.length+n.length+En l
def En:List qT->Nat
 |[]=>0
 |c::l=>c.cb+En l
end
theorem Kj(c:qT):c.cb=1+c.attr.length+Ju c.kc+c.pat.length+c.name.length+En c.args:=by cases c;rfl
theorem Xx(c:qT):0<c.cb:=by rw[Kj];omega
theorem W8:∀{l:List qT} {x:qT},x∈l->x.cb<=En l
 |y::l,x,h=>by
  simp only[En];rcases zC.1 h with rfl|h
  ·omega
  ·have:=W8 h;omega
theorem xV:∀l:List qT,l.length<=En l
 |[]=>by simp[En]
 |c::l=>by have:=xV l;have:=Xx c;simp only[En,zU];omega
mutual
def qT.parts:qT->Nat
 | .mk _ _ _ _ _ _ l=>1+jo l
def jo:List qT->Nat
 |[]=>0
 |c::l=>c.parts+jo l
end
mutual
def qT.levels:qT->Nat
 | .mk _ _ _ _ _ _ l=>yT l+1
def yT:List qT->Nat
 |[]=>0
 |c::l=>max c.levels (yT l)
end
theorem Xy(c:qT):c.parts=1+jo c.args:=by cases c;rfl
theorem dn(c:qT):c.levels=yT c.args+1:=by cases c;rfl
theorem dp(l:List qT)(h:∀x∈l,x.parts<=x.cb):jo l<=En l:=by
 induction l with
 |nil=>simp[jo]
 |cons v l a=>have:=h v (by simp);have:=a fun x b=>h x (by simp[b]);simp only[jo,En];omega
theorem gN(c:qT):c.parts<=c.cb:=by
 induction c using qT.ind with
 |h k a o v p n l b=>have:=dp l b;rw[Xy,Kj];simp only[qT.args];omega
theorem oi(l:List qT)(h:∀x∈l,x.levels<=x.parts):yT l<=jo l:=by
 induction l with
 |nil=>simp[yT]
 |cons v l a=>have:=h v (by simp);have:=a fun x b=>h x (by simp[b]);simp only[jo,yT];omega
theorem tm(c:qT):c.levels<=c.parts:=by
 induction c using qT.ind with
 |h k a o v p n l b=>have:=oi l b;rw[Xy,dn];simp only[qT.args];omega
theorem Kk(a b:List qT):jo (a++b)=jo a+jo b:=by
 induction a with
 |nil=>simp[jo]
 |cons v a c=>simp only[q7,jo,c];omega
theorem dq(a b:List qT):yT (a++b)=max (yT a) (yT b):=by
 induction a with
 |nil=>simp[yT]
 |cons v a c=>simp only[q7,yT,c];omega
theorem zaM{l:List qT}{k:Nat}(h:k<l.length):jo (l.take (k+1))=jo (l.take k)+l[k].parts/\yT (l.take (k+1))=max (yT (l.take k)) l[k].levels:=by rw[qo h,Kk,dq];simp[jo,yT]
theorem gO(l:List qT)(k:Nat):jo (l.take k)<=jo l:=by have:=Kk (l.take k) (l.drop k);rw[Qy]at this;omega
noncomputable def FC (out:qT->O) (n:Nat):zb->Option O:=zS (α:=qT) (fun c=>[.agg c.V]) (fun c=>c.cb<=zw/\c.cb<=n) out
theorem zaN(out:qT->O)(n:Nat)(c:qT)(h:c.cb<=zw/\c.cb<=n):FC out n [.agg c.V]=some (out c):=
 qx (V:=fun c:qT=>[.agg c.V]) (a:=c) (fun a b e=>by simp only[zc,zs,O.agg.injEq]at e;exact Jg e) h
@[simp]theorem CC(Y:Hp)(c:qT):qJ Y c.V=some (c.V,Y):=by rw[wY];simp
theorem oj(Y:Hp)(c:qT):qe Y (.agg c.V)=some (.agg c.V,Y):=by rw[wY];simp
theorem tn(c:qT):O.noOwn (.agg c.V)=true:=by rw[wY];simp
theorem bK(out:qT->O)(n:Nat)(c:qT)(Y:Hp)(Z:Nat)(h:c.cb<=zw/\c.cb<=n):zg false [] (FC out n) [.agg c.V] Y Z=some (out c,Y,Z):=
 wR (Y1:=Y) (show zy Y [.agg c.V]=some ([.agg c.V],Y) by simp only[zy,oj]) (zaN out n c h) (.inr (by simp only[wJ,tn,mQ,Bool.and_self]))
theorem dt{out:qT->O}{n:Nat}{args:zb}{r:O}(h:FC out n args=some r):∃c:qT,args=[.agg c.V]/\(c.cb<=zw/\c.cb<=n)/\r=out c:=qd h
theorem AD{out:qT->O}{f:FuncId}(a:∃fn,prog.funcs[f]?=some fn/\(fn.name== "runtime.NumGoroutine")=false/\fn.body.isNone=false):zf prog f (zg false [] (FC out 0)):=by
 refine⟨a,fun args Y Z r b Z' h=>?_⟩;unfold zg at h;split at h
 ·split at h
  ·rename_i d hF;obtain⟨c,_,e,_⟩:=dt hF;have:=Xx c;omega
  ·cases h
 ·cases h
noncomputable abbrev GC (out:qT->O):AM.Spec:=zg false [] (FC out zw)
theorem JI(out:qT->O)(c:qT)(Y:Hp)(Z:Nat)(h:c.cb<=zw):GC out [.agg c.V] Y Z=some (out c,Y,Z):=bK out zw c Y Z ⟨h,h⟩
end Go.Q
