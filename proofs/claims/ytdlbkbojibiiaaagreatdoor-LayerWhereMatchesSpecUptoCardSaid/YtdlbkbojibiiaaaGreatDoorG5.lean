/- Lemmas. -/
import Derived.Shelf.Strings.Search2
import Derived.Shelf.Strings.Split
import Derived.Shelf.Strings.Trim
import Derived.Shelf.Strconv.Atoi
import Derived.Ground.Names2Prog
import Derived.Test.YtdlbkbojibiiaaaGreatDoorProg
import Derived.Lib.Split
import Derived.Shelf.Bits.Mul64
import Derived.Shelf.SlSortCmp.InsertionK
import Derived.Sort.AssemblyPlain
import Derived.Shelf.Spec.SlicesGrow
import Derived.Deep.AppendSrc
import Derived.Lib.ConvBytes
import Derived.Shelf.SlSortCmp.WholeK
import Derived.Shelf.SlSortCmp.NoneTotal
import Derived.Test.YtdlbkbojibiiaaaGreatDoorG4
set_option maxRecDepth 100000
set_option maxHeartbeats 4000000
open Go Proofs Proofs.YtdlbkbojibiiaaaGreatDoor Proofs.Tryz RowKit AM SpanLaw Q Zz
open Go.IntKind renaming i64→i6
namespace Go.Q
abbrev int(n:Int):O:=.v (.int .i64 n)
abbrev qz(b:Bool):O:=.v (.bool b)
abbrev TV(c:UInt8):O:=.v (.int .u8 c.toNat)
abbrev zx:Nat:=2097152
theorem mixed:prog.follows .mixedOrders=true:=by kernel_rfl
noncomputable abbrev C0:Ctx:=zQ prog []
theorem yz:Gd C0:=zw mixed trivial
def F3(f:Int->Int->Int->Bool):zb->Option O
 |[.v (.int .i64 a),.v (.int .i64 b),.v (.int .i64 c)]=>some (.v (.bool (f a b c)))
 |_=>none
def F1b(f:Int->Bool):zb->Option O
 |[.v (.int .u8 a)]=>some (.v (.bool (f a)))
 |_=>none
def jD(n a b:Int):Bool:=decide (a<=n)&&decide (n<=b)
def cD(n:Int):Bool:=decide (97<=n)&&decide (n<=122)||decide (48<=n)&&decide (n<=57)||n==45||n==95
@[simp]theorem zmj(f:Int->Int->Int->Bool)(a b c:Int)(Y:Hp)(Z:Nat):zf false [] (F3 f) [.v (.int .i64 a),.v (.int .i64 b),.v (.int .i64 c)] Y Z=some (.v (.bool (f a b c)),Y,Z):=zU rfl rfl (.inl rfl)
@[simp]theorem zkg(f:Int->Bool)(a:Int)(Y:Hp)(Z:Nat):zf false [] (F1b f) [.v (.int .u8 a)] Y Z=some (.v (.bool (f a)),Y,Z):=zU rfl rfl (.inl rfl)
theorem oR{f:Int->Int->Int->Bool}{args:zb}{r:O}(h:F3 f args=some r):∃a b c,args=[int a,int b,int c]/\r=qz (f a b c):=by
 unfold F3 at h;split at h
 ·injection h with h;exact⟨_,_,_,rfl,h.symm⟩
 ·cases h
theorem BI{f:Int->Bool}{args:zb}{r:O}(h:F1b f args=some r):∃a,args=[.v (.int .u8 a)]/\r=qz (f a):=by
 unfold F1b at h;split at h
 ·injection h with h;exact⟨_,rfl,h.symm⟩
 ·cases h
theorem Wc:zg prog 46 (zf false [] (F3 jD)):=
 zX (fn:=f46) yz (zpi func46) false [] _ fun args r h=>by obtain⟨a,b,c,rfl,rfl⟩:=oR h;exact⟨by simp[f46],_,zm rfl (by simp[f46,jD]),zW _⟩
theorem Zh:zg prog 138 (zf false [] (F3 jD)):=
 zX (fn:=f138) yz (zpi func138) false [] _ fun args r h=>by obtain⟨a,b,c,rfl,rfl⟩:=oR h;exact⟨by simp[f138],_,zm rfl (by simp[f138,jD]),zW _⟩
theorem BJ:zg prog 58 (zf false [] (F1b cD)):=
 zX (fn:=f58) yz (zpi func58) false [] _ fun args r h=>by obtain⟨a,rfl,rfl⟩:=BI h;exact⟨by simp[f58],_,zm rfl (by simp[f58,cD]),zW _⟩
theorem oS:zg prog 135 (zf false [] (F1b cD)):=
 zX (fn:=f135) yz (zpi func135) false [] _ fun args r h=>by obtain⟨a,rfl,rfl⟩:=BI h;exact⟨by simp[f135],_,zm rfl (by simp[f135,cD]),zW _⟩
noncomputable def FS (f:za->Bool):zb->Option O:=z6 (α:=za) (fun l=>[str l]) (fun l=>l.length<=zx) (fun l=>qz (f l))
@[simp]theorem kX(f:za->Bool)(l:za)(Y:Hp)(Z:Nat)(h:l.length<=zx):zf false [] (FS f) [str l] Y Z=some (qz (f l),Y,Z):=
 hPc l _ _ rfl (fun a b e=>by simp only[zh,zD]at e;exact q9 e) h (.inl rfl)
def pr(a b:Nat)(c:UInt8):Bool:=decide (a<=c.toNat)&&decide (c.toNat<=b)
theorem VX(a b:Nat)(c:UInt8):(decide ((c.toNat:Int)<a)||decide ((b:Int)<c.toNat))=!pr a b c:=by rw[qc];simp[pr]
def wi(a b:Nat)(l:za):Bool:=l.all (pr a b)
def j8(l:za):Bool:=wi 33 126 l&&jD l.length 1 100
def oT(l:za):Bool:=wi 33 126 l&&!(l==[])
def Wd(l:za):Bool:=l.all fun c=>cD c.toNat
def Km(l:za):Bool:=Wd l&&!(l==[])
def uN:za->Bool
 |[]=>false
 |c::_=>decide ((97:Int)<=c.toNat)&&decide ((c.toNat:Int)<=(122:Int))
def wb(l:za):Bool:=jD l.length 1 40&&uN l&&Wd l
noncomputable abbrev C1:Ctx:=zQ prog [(46,zf false [] (F3 jD)),(58,zf false [] (F1b cD)),(138,zf false [] (F3 jD)),(135,zf false [] (F1b cD))]
abbrev qRl1:List Nat:=[46,58,138,135]
theorem uO:AM.Good C1 (fun g=>qRl1.contains g):=zw mixed ⟨Wc,fun _=>zu _ _,BJ,fun _=>zu _ _,Zh,fun _=>zu _ _,oS,fun _=>zu _ _,trivial⟩
theorem eJ{l:za}{p:UInt8->Bool}{k:Nat}(h:k<l.length):(l.drop k).all p=(p l[k]&&(l.drop (k+1)).all p):=by rw[zc h,q8]
theorem xV{a b:Nat}{l:za}{k:Nat}(h:k<l.length):wi a b (l.drop k)=(pr a b l[k]&&wi a b (l.drop (k+1))):=eJ h
theorem lT{l:za}{k:Nat}(h:k<l.length):Wd (l.drop k)=(cD l[k].toNat&&Wd (l.drop (k+1))):=eJ h
@[simp]theorem zfr(a b:Nat):wi a b []=true:=rfl
@[simp]theorem zgF:Wd []=true:=rfl
theorem Pk(l:za)(h:l.length<=zx):zr C1 f109 [str l]=some (qz (wi 32 126 l)):=by
 refine zm rfl ?_;unfold zx at h;simp;refine zI (fun k U Y Z=>U 0=str l/\U 5=int l.length/\U 6=int k/\wi 32 126 l=wi 32 126 (l.drop k)) l.length ⟨by simp,by simp,by simp,by simp⟩ ?_;rintro k U Y Z j ⟨d,e,f,b⟩;by_cases a:k<l.length
 ·have i:=zlL k;rw[xV a]at b;have g:=VX 32 126 l[k];simp only[vm]at g;cases c:pr 32 126 l[k]
  ·have b:wi 32 126 l=false:=by rw[b,c];rfl
   simp[d,e,f,a,b,g,c,f109]
  ·simp[d,e,f,a,g,c,i];exact⟨a,by rw[b,c];rfl⟩
 ·obtain rfl:k=l.length:=by omega
  have b:wi 32 126 l=true:=by rw[b,zo];rfl
  simp[d,e,f,b,f109]
theorem oU(l:za)(h:l.length<=zx):zr C1 f139 [str l]=some (qz (wi 32 126 l)):=by
 refine zm rfl ?_;unfold zx at h;simp;refine zI (fun k U Y Z=>U 0=str l/\U 5=int l.length/\U 6=int k/\wi 32 126 l=wi 32 126 (l.drop k)) l.length ⟨by simp,by simp,by simp,by simp⟩ ?_;rintro k U Y Z j ⟨d,e,f,b⟩;by_cases a:k<l.length
 ·have i:=zlL k;rw[xV a]at b;have g:=VX 32 126 l[k];simp only[vm]at g;cases c:pr 32 126 l[k]
  ·have b:wi 32 126 l=false:=by rw[b,c];rfl
   simp[d,e,f,a,b,g,c,f139]
  ·simp[d,e,f,a,g,c,i];exact⟨a,by rw[b,c];rfl⟩
 ·obtain rfl:k=l.length:=by omega
  have b:wi 32 126 l=true:=by rw[b,zo];rfl
  simp[d,e,f,b,f139]
theorem I5(l:za)(h:l.length<=zx):zr C1 f18 [str l]=some (qz (j8 l)):=by
 refine zm rfl ?_;unfold zx at h;simp;refine zI (fun k U Y Z=>U 0=str l/\U 5=int l.length/\U 6=int k/\wi 33 126 l=wi 33 126 (l.drop k)) l.length ⟨by simp,by simp,by simp,by simp⟩ ?_;rintro k U Y Z j ⟨d,e,f,b⟩;by_cases a:k<l.length
 ·have i:=zlL k;rw[xV a]at b;have g:=VX 33 126 l[k];simp only[vm]at g;cases c:pr 33 126 l[k]
  ·have b:wi 33 126 l=false:=by rw[b,c];rfl
   simp[d,e,f,a,b,g,c,j8,f18]
  ·simp[d,e,f,a,g,c,i];exact⟨a,by rw[b,c];rfl⟩
 ·obtain rfl:k=l.length:=by omega
  have b:wi 33 126 l=true:=by rw[b,zo];rfl
  simp[d,e,f,b,j8,f18]
theorem I6(l:za)(h:l.length<=zx):zr C1 f50 [str l]=some (qz (oT l)):=by
 refine zm rfl ?_;unfold zx at h;simp;refine zI (fun k U Y Z=>U 0=str l/\U 5=int l.length/\U 6=int k/\wi 33 126 l=wi 33 126 (l.drop k)) l.length ⟨by simp,by simp,by simp,by simp⟩ ?_;rintro k U Y Z j ⟨d,e,f,b⟩;by_cases a:k<l.length
 ·have i:=zlL k;rw[xV a]at b;have g:=VX 33 126 l[k];simp only[vm]at g;cases c:pr 33 126 l[k]
  ·have b:wi 33 126 l=false:=by rw[b,c];rfl
   simp[d,e,f,a,b,g,c,oT,f50]
  ·simp[d,e,f,a,g,c,i];exact⟨a,by rw[b,c];rfl⟩
 ·obtain rfl:k=l.length:=by omega
  have b:wi 33 126 l=true:=by rw[b,zo];rfl
  simp[d,e,f,b,oT,f50]
theorem BK(l:za)(g:l.length<=zx):zr C1 f79 [str l]=some (qz (Km l)):=by
 refine zm rfl ?_;unfold zx at g;simp;refine zI (fun k U Y Z=>U 0=str l/\U 5=int l.length/\U 6=int k/\Wd l=Wd (l.drop k)) l.length ⟨by simp,by simp,by simp,by simp⟩ ?_;rintro k U Y Z i ⟨d,e,f,b⟩;by_cases a:k<l.length
 ·have h:=zlL k;rw[lT a]at b;cases c:cD l[k].toNat
  ·have b:Wd l=false:=by rw[b,c];rfl
   simp[d,e,f,a,b,c,Km,f79]
  ·simp[d,e,f,a,c,h];exact⟨a,by rw[b,c];rfl⟩
 ·obtain rfl:k=l.length:=by omega
  have b:Wd l=true:=by rw[b,zo];rfl
  simp[d,e,f,b,Km,f79]
theorem EB(l:za)(n:l.length<=zx):zr C1 f27 [str l]=some (qz (wb l)):=by
 refine zm rfl ?_;unfold zx at n;cases e:jD l.length 1 40
 ·simp[e,wb,f27]
 have a:0<l.length:=by simp[jD]at e;omega
 have o:uN l=(decide ((97:Int)<=l[0].toNat)&&decide ((l[0].toNat:Int)<=(122:Int))):=by
  cases l with
  |nil=>simp at a
  |cons c l=>rfl
 have m:(decide ((l[0].toNat:Int)<(97:Int))||decide ((122:Int)<l[0].toNat))=!uN l:=by rw[o,qc];simp
 cases g:uN l
 ·simp[e,a,m,g,wb,f27]
 simp[e,a,m,g];refine zI (fun k U Y Z=>U 0=str l/\U 19=int l.length/\U 20=int k/\Wd l=Wd (l.drop k)) l.length ⟨by simp,by simp,by simp,by simp⟩ ?_;rintro k U Y Z q ⟨h,i,j,d⟩;by_cases b:k<l.length
 ·have p:=zlL k;rw[lT b]at d;cases f:cD l[k].toNat
  ·have d:Wd l=false:=by rw[d,f];rfl
   simp[h,i,j,b,d,f,wb,f27]
  ·simp[h,i,j,b,f,p];exact⟨b,by rw[d,f];rfl⟩
 ·obtain rfl:k=l.length:=by omega
  have d:Wd l=true:=by rw[d,zo];rfl
  simp[h,i,j,d,e,g,wb,f27]
theorem oV:zg prog 109 (zf false [] (FS (wi 32 126))):=
 pS1 uO func109 false [] fun l Y=>⟨by simp[f109],_,Pk l Y,zW _⟩
theorem YZ:zg prog 139 (zf false [] (FS (wi 32 126))):=
 pS1 uO func139 false [] fun l Y=>⟨by simp[f139],_,oU l Y,zW _⟩
theorem YB:zg prog 18 (zf false [] (FS j8)):=
 pS1 uO func18 false [] fun l Y=>⟨by simp[f18],_,I5 l Y,zW _⟩
theorem EC:zg prog 50 (zf false [] (FS oT)):=
 pS1 uO func50 false [] fun l Y=>⟨by simp[f50],_,I6 l Y,zW _⟩
theorem tc:zg prog 79 (zf false [] (FS Km)):=
 pS1 uO func79 false [] fun l Y=>⟨by simp[f79],_,BK l Y,zW _⟩
theorem xW:zg prog 27 (zf false [] (FS wb)):=
 pS1 uO func27 false [] fun l Y=>⟨by simp[f27],_,EB l Y,zW _⟩
noncomputable abbrev CRw:Ctx:=zQ prog [(109,zf false [] (FS (wi 32 126))),(139,zf false [] (FS (wi 32 126))),(18,zf false [] (FS j8)),(50,zf false [] (FS oT)),(79,zf false [] (FS Km)),(27,zf false [] (FS wb)),(46,zf false [] (F3 jD)),(138,zf false [] (F3 jD))]
abbrev qRw:List Nat:=[109,139,18,50,79,27,46,138]
theorem TW:AM.Good CRw (fun g=>qRw.contains g):=zw mixed ⟨oV,fun _=>zu _ _,YZ,fun _=>zu _ _,YB,fun _=>zu _ _,EC,fun _=>zu _ _,tc,fun _=>zu _ _,xW,fun _=>zu _ _,Wc,fun _=>zu _ _,Zh,fun _=>zu _ _,trivial⟩
theorem Pm(l:za):(oT l&&decide ((l.length:Int)<=100))=j8 l:=by
 cases l with
 |nil=>rfl
 |cons c l=>rw[qc];simp[oT,j8,jD];omega
theorem ED(l:za)(a:l.length<=zx):zr CRw f21 [str l]=some (qz (j8 l)):=by refine zm rfl ?_;simp[a,f21,Pm]
theorem BL(l:za)(h:0<l.length):(Km l&&decide ((l.length:Int)<=40)&&decide ((97:Int)<=l[0].toNat)&&decide ((l[0].toNat:Int)<=(122:Int)))=wb l:=by
 cases l with
 |nil=>simp at h
 |cons c l=>unfold Km wb;generalize Wd (c::l)=w;rw[qc];cases w<;>simp[jD,uN]<;>omega
theorem BM(l:za)(b:l.length<=zx):zr CRw f37 [str l]=some (qz (wb l)):=by
 refine zm rfl ?_;cases l with
 |nil=>simp[f37,Km,wb,uN]
 |cons c l=>
  have a:0<(c::l).length:=by simp
  have:=BL (c::l) a;generalize d:c::l=m at *;simp[b,a,f37,this]
theorem VY:zg prog 21 (zf false [] (FS j8)):=
 pS1 TW func21 false [] fun l Y=>⟨by simp[f21],_,ED l Y,zW _⟩
theorem Zi:zg prog 37 (zf false [] (FS wb)):=
 pS1 TW func37 false [] fun l Y=>⟨by simp[f37],_,BM l Y,zW _⟩
end Go.Q
namespace Go.Proofs
open Go.Shelf
def Tryz.H9:Go.Shelf.Ren:=⟨fun|161=>334|231=>227|227=>229|233=>230|235=>232|228=>281|197=>282|151=>283|260=>315|152=>316|137=>339|119=>347|224=>279|225=>278|217=>277|266=>313|n=>n,fun|9=>9|4=>4|3=>3|5=>5|117=>247|116=>246|0=>0|124=>250|105=>291|21=>21|119=>339|46=>137|139=>342|138=>341|n=>n,fun|3=>1|4=>2|n=>n⟩
theorem Tryz.zeU:Go.Proofs.Lays.n161 prog Tryz.H9:={
 mixed:=by kernel_rfl
 f119:=func347.trans (zC some (by kernel_rfl))
 f137:=func339.trans (zC some (by kernel_rfl))
 f151:=func283.trans (zC some (by kernel_rfl))
 f152:=func316.trans (zC some (by kernel_rfl))
 f161:=func334.trans (zC some (by kernel_rfl))
 f197:=func282.trans (zC some (by kernel_rfl))
 f217:=func277.trans (zC some (by kernel_rfl))
 f224:=func279.trans (zC some (by kernel_rfl))
 f225:=func278.trans (zC some (by kernel_rfl))
 f227:=func229.trans (zC some (by kernel_rfl))
 f228:=func281.trans (zC some (by kernel_rfl))
 f231:=func227.trans (zC some (by kernel_rfl))
 f233:=func230.trans (zC some (by kernel_rfl))
 f235:=func232.trans (zC some (by kernel_rfl))
 f260:=func315.trans (zC some (by kernel_rfl))
 f266:=func313.trans (zC some (by kernel_rfl))
 t0:=underlying0
 a0:=isAgg0
 z0:=sizeOf0
 v0:=zeroValue0
 t3:=underlying3
 a3:=isAgg3
 z3:=sizeOf3
 v3:=zeroValue3
 t4:=underlying4
 a4:=isAgg4
 z4:=sizeOf4
 v4:=zeroValue4
 t5:=underlying5
 a5:=isAgg5
 z5:=sizeOf5
 v5:=zeroValue5
 t9:=underlying9
 a9:=isAgg9
 z9:=sizeOf9
 v9:=zeroValue9
 t21:=underlying21
 a21:=isAgg21
 z21:=sizeOf21
 v21:=zeroValue21
 t46:=underlying137
 a46:=isAgg137
 z46:=sizeOf137
 v46:=zeroValue137
 t105:=underlying291
 a105:=isAgg291
 z105:=sizeOf291
 v105:=zeroValue291
 t116:=underlying246
 a116:=isAgg246
 z116:=sizeOf246
 t117:=underlying247
 a117:=isAgg247
 z117:=sizeOf247
 v117:=zeroValue247
 t119:=underlying339
 a119:=isAgg339
 z119:=sizeOf339
 t124:=underlying250
 a124:=isAgg250
 z124:=sizeOf250
 v124:=zeroValue250
 t138:=underlying341
 a138:=isAgg341
 z138:=sizeOf341
 v138:=zeroValue341
 t139:=underlying342
 a139:=isAgg342
 z139:=sizeOf342
 v139:=zeroValue342
 g3:=by kernel_rfl
 g4:=by kernel_rfl}
def Tryz.Ia:Go.Shelf.Ren:=⟨fun|160=>194|232=>228|231=>227|227=>229|234=>231|233=>230|236=>233|235=>232|228=>281|271=>284|151=>283|197=>282|120=>317|152=>316|260=>315|137=>339|119=>347|224=>279|225=>278|217=>277|266=>313|n=>n,fun|9=>9|4=>4|3=>3|5=>5|117=>247|116=>246|0=>0|124=>250|21=>21|105=>291|46=>137|119=>339|139=>342|138=>341|n=>n,fun|3=>1|4=>2|n=>n⟩
theorem Tryz.zeV:Go.Proofs.Lays.n160 prog Tryz.Ia:={
 mixed:=by kernel_rfl
 f119:=func347.trans (zC some (by kernel_rfl))
 f120:=func317.trans (zC some (by kernel_rfl))
 f137:=func339.trans (zC some (by kernel_rfl))
 f151:=func283.trans (zC some (by kernel_rfl))
 f152:=func316.trans (zC some (by kernel_rfl))
 f160:=func194.trans (zC some (by kernel_rfl))
 f197:=func282.trans (zC some (by kernel_rfl))
 f217:=func277.trans (zC some (by kernel_rfl))
 f224:=func279.trans (zC some (by kernel_rfl))
 f225:=func278.trans (zC some (by kernel_rfl))
 f227:=func229.trans (zC some (by kernel_rfl))
 f228:=func281.trans (zC some (by kernel_rfl))
 f231:=func227.trans (zC some (by kernel_rfl))
 f232:=func228.trans (zC some (by kernel_rfl))
 f233:=func230.trans (zC some (by kernel_rfl))
 f234:=func231.trans (zC some (by kernel_rfl))
 f235:=func232.trans (zC some (by kernel_rfl))
 f236:=func233.trans (zC some (by kernel_rfl))
 f260:=func315.trans (zC some (by kernel_rfl))
 f266:=func313.trans (zC some (by kernel_rfl))
 f271:=func284.trans (zC some (by kernel_rfl))
 t0:=underlying0
 a0:=isAgg0
 z0:=sizeOf0
 v0:=zeroValue0
 t3:=underlying3
 a3:=isAgg3
 z3:=sizeOf3
 v3:=zeroValue3
 t4:=underlying4
 a4:=isAgg4
 z4:=sizeOf4
 v4:=zeroValue4
 t5:=underlying5
 a5:=isAgg5
 z5:=sizeOf5
 v5:=zeroValue5
 t9:=underlying9
 a9:=isAgg9
 z9:=sizeOf9
 v9:=zeroValue9
 t21:=underlying21
 a21:=isAgg21
 z21:=sizeOf21
 v21:=zeroValue21
 t46:=underlying137
 a46:=isAgg137
 z46:=sizeOf137
 v46:=zeroValue137
 t105:=underlying291
 a105:=isAgg291
 z105:=sizeOf291
 v105:=zeroValue291
 t116:=underlying246
 a116:=isAgg246
 z116:=sizeOf246
 t117:=underlying247
 a117:=isAgg247
 z117:=sizeOf247
 v117:=zeroValue247
 t119:=underlying339
 a119:=isAgg339
 z119:=sizeOf339
 t124:=underlying250
 a124:=isAgg250
 z124:=sizeOf250
 v124:=zeroValue250
 t138:=underlying341
 a138:=isAgg341
 z138:=sizeOf341
 v138:=zeroValue341
 t139:=underlying342
 a139:=isAgg342
 z139:=sizeOf342
 v139:=zeroValue342
 g3:=by kernel_rfl
 g4:=by kernel_rfl}
def Tryz.Ib:Go.Shelf.Ren:=⟨fun|137=>339|217=>277|266=>313|n=>n,fun|9=>9|5=>5|3=>3|n=>n,fun|n=>n⟩
theorem Tryz.zeW:Go.Proofs.Lays.n137 prog Tryz.Ib:={
 mixed:=by kernel_rfl
 f137:=func339.trans (zC some (by kernel_rfl))
 f217:=func277.trans (zC some (by kernel_rfl))
 f266:=func313.trans (zC some (by kernel_rfl))
 t3:=underlying3
 a3:=isAgg3
 z3:=sizeOf3
 v3:=zeroValue3
 t5:=underlying5
 a5:=isAgg5
 z5:=sizeOf5
 v5:=zeroValue5
 t9:=underlying9
 a9:=isAgg9
 z9:=sizeOf9
 v9:=zeroValue9}
def Tryz.Ic:Go.Shelf.Ren:=⟨fun|172=>237|244=>287|245=>288|247=>320|279=>321|280=>322|281=>323|282=>324|287=>348|316=>349|171=>351|205=>350|321=>358|322=>359|243=>360|246=>364|283=>366|284=>367|285=>368|286=>369|129=>269|317=>370|318=>371|319=>372|320=>373|337=>374|338=>375|n=>n,fun|9=>9|3=>3|75=>253|76=>254|4=>4|5=>5|167=>321|37=>135|0=>0|85=>322|2=>2|168=>324|53=>111|175=>344|46=>137|210=>347|127=>355|145=>358|143=>356|21=>21|171=>362|173=>364|212=>367|51=>284|20=>20|213=>368|232=>369|233=>370|80=>371|n=>n,fun|15=>3|16=>4|17=>5|18=>6|19=>7|n=>n⟩
theorem Tryz.zeX:Go.Proofs.Lays.n172 prog Tryz.Ic:={
 mixed:=by kernel_rfl
 f129:=func269.trans (zC some (by kernel_rfl))
 f171:=func351.trans (zC some (by kernel_rfl))
 f172:=func237.trans (zC some (by kernel_rfl))
 f205:=func350.trans (zC some (by kernel_rfl))
 f243:=func360.trans (zC some (by kernel_rfl))
 f244:=func287.trans (zC some (by kernel_rfl))
 f245:=func288.trans (zC some (by kernel_rfl))
 f246:=func364.trans (zC some (by kernel_rfl))
 f247:=func320.trans (zC some (by kernel_rfl))
 f279:=func321.trans (zC some (by kernel_rfl))
 f280:=func322.trans (zC some (by kernel_rfl))
 f281:=func323.trans (zC some (by kernel_rfl))
 f282:=func324.trans (zC some (by kernel_rfl))
 f283:=func366.trans (zC some (by kernel_rfl))
 f284:=func367.trans (zC some (by kernel_rfl))
 f285:=func368.trans (zC some (by kernel_rfl))
 f286:=func369.trans (zC some (by kernel_rfl))
 f287:=func348.trans (zC some (by kernel_rfl))
 f316:=func349.trans (zC some (by kernel_rfl))
 f317:=func370.trans (zC some (by kernel_rfl))
 f318:=func371.trans (zC some (by kernel_rfl))
 f319:=func372.trans (zC some (by kernel_rfl))
 f320:=func373.trans (zC some (by kernel_rfl))
 f321:=func358.trans (zC some (by kernel_rfl))
 f322:=func359.trans (zC some (by kernel_rfl))
 f337:=func374.trans (zC some (by kernel_rfl))
 f338:=func375.trans (zC some (by kernel_rfl))
 t0:=underlying0
 a0:=isAgg0
 z0:=sizeOf0
 v0:=zeroValue0
 t2:=underlying2
 a2:=isAgg2
 z2:=sizeOf2
 v2:=zeroValue2
 t3:=underlying3
 a3:=isAgg3
 z3:=sizeOf3
 v3:=zeroValue3
 t4:=underlying4
 a4:=isAgg4
 z4:=sizeOf4
 v4:=zeroValue4
 t5:=underlying5
 a5:=isAgg5
 z5:=sizeOf5
 v5:=zeroValue5
 t9:=underlying9
 a9:=isAgg9
 z9:=sizeOf9
 v9:=zeroValue9
 t20:=underlying20
 a20:=isAgg20
 z20:=sizeOf20
 v20:=zeroValue20
 t21:=underlying21
 a21:=isAgg21
 z21:=sizeOf21
 v21:=zeroValue21
 t37:=underlying135
 a37:=isAgg135
 z37:=sizeOf135
 v37:=zeroValue135
 t46:=underlying137
 a46:=isAgg137
 z46:=sizeOf137
 v46:=zeroValue137
 t51:=underlying284
 a51:=isAgg284
 z51:=sizeOf284
 v51:=zeroValue284
 t53:=underlying111
 a53:=isAgg111
 z53:=sizeOf111
 v53:=zeroValue111
 t75:=underlying253
 a75:=isAgg253
 z75:=sizeOf253
 v75:=zeroValue253
 t76:=underlying254
 a76:=isAgg254
 z76:=sizeOf254
 v76:=zeroValue254
 t85:=underlying322
 a85:=isAgg322
 z85:=sizeOf322
 v85:=zeroValue322
 t127:=underlying355
 a127:=isAgg355
 z127:=sizeOf355
 v127:=zeroValue355
 t143:=underlying356
 a143:=isAgg356
 z143:=sizeOf356
 v143:=zeroValue356
 t145:=underlying358
 a145:=isAgg358
 z145:=sizeOf358
 v145:=zeroValue358
 t167:=underlying321
 a167:=isAgg321
 z167:=sizeOf321
 v167:=zeroValue321
 t168:=underlying324
 a168:=isAgg324
 z168:=sizeOf324
 v168:=zeroValue324
 t171:=underlying362
 a171:=isAgg362
 z171:=sizeOf362
 v171:=zeroValue362
 t173:=underlying364
 a173:=isAgg364
 z173:=sizeOf364
 v173:=zeroValue364
 t175:=underlying344
 a175:=isAgg344
 z175:=sizeOf344
 v175:=zeroValue344
 t210:=underlying347
 a210:=isAgg347
 z210:=sizeOf347
 v210:=zeroValue347
 t212:=underlying367
 a212:=isAgg367
 z212:=sizeOf367
 v212:=zeroValue367
 t213:=underlying368
 a213:=isAgg368
 z213:=sizeOf368
 t232:=underlying369
 a232:=isAgg369
 z232:=sizeOf369
 v232:=zeroValue369
 t233:=underlying370
 a233:=isAgg370
 z233:=sizeOf370
 v233:=zeroValue370
 g15:=by kernel_rfl
 g16:=by kernel_rfl
 g17:=by kernel_rfl
 g18:=by kernel_rfl
 g19:=by kernel_rfl}
def Tryz.Ie:Go.Shelf.Ren:=⟨fun|219=>226|217=>277|225=>278|224=>279|267=>280|266=>313|314=>314|n=>n,fun|9=>9|3=>3|4=>4|5=>5|46=>137|146=>317|51=>284|n=>n,fun|1=>0|n=>n⟩
theorem Tryz.zeY:Go.Proofs.Lays.n219 prog Tryz.Ie:={
 mixed:=by kernel_rfl
 f217:=func277.trans (zC some (by kernel_rfl))
 f219:=func226.trans (zC some (by kernel_rfl))
 f224:=func279.trans (zC some (by kernel_rfl))
 f225:=func278.trans (zC some (by kernel_rfl))
 f266:=func313.trans (zC some (by kernel_rfl))
 f267:=func280.trans (zC some (by kernel_rfl))
 f314:=func314.trans (zC some (by kernel_rfl))
 t3:=underlying3
 a3:=isAgg3
 z3:=sizeOf3
 v3:=zeroValue3
 t4:=underlying4
 a4:=isAgg4
 z4:=sizeOf4
 v4:=zeroValue4
 t5:=underlying5
 a5:=isAgg5
 z5:=sizeOf5
 v5:=zeroValue5
 t9:=underlying9
 a9:=isAgg9
 z9:=sizeOf9
 v9:=zeroValue9
 t46:=underlying137
 a46:=isAgg137
 z46:=sizeOf137
 v46:=zeroValue137
 t51:=underlying284
 a51:=isAgg284
 z51:=sizeOf284
 v51:=zeroValue284
 t146:=underlying317
 a146:=isAgg317
 z146:=sizeOf317
 v146:=zeroValue317
 g1:=by kernel_rfl}
def Tryz.Ig:Go.Shelf.Ren:=⟨fun|138=>286|195=>318|218=>319|143=>193|219=>226|217=>277|225=>278|224=>279|267=>280|266=>313|314=>314|n=>n,fun|9=>9|3=>3|4=>4|5=>5|0=>0|46=>137|146=>317|51=>284|n=>n,fun|1=>0|n=>n⟩
theorem Tryz.zeZ:Go.Proofs.Lays.n138 prog Tryz.Ig:={
 mixed:=by kernel_rfl
 f138:=func286.trans (zC some (by kernel_rfl))
 f143:=func193.trans (zC some (by kernel_rfl))
 f195:=func318.trans (zC some (by kernel_rfl))
 f217:=func277.trans (zC some (by kernel_rfl))
 f218:=func319.trans (zC some (by kernel_rfl))
 f219:=func226.trans (zC some (by kernel_rfl))
 f224:=func279.trans (zC some (by kernel_rfl))
 f225:=func278.trans (zC some (by kernel_rfl))
 f266:=func313.trans (zC some (by kernel_rfl))
 f267:=func280.trans (zC some (by kernel_rfl))
 f314:=func314.trans (zC some (by kernel_rfl))
 t0:=underlying0
 a0:=isAgg0
 z0:=sizeOf0
 v0:=zeroValue0
 t3:=underlying3
 a3:=isAgg3
 z3:=sizeOf3
 v3:=zeroValue3
 t4:=underlying4
 a4:=isAgg4
 z4:=sizeOf4
 v4:=zeroValue4
 t5:=underlying5
 a5:=isAgg5
 z5:=sizeOf5
 v5:=zeroValue5
 t9:=underlying9
 a9:=isAgg9
 z9:=sizeOf9
 v9:=zeroValue9
 t46:=underlying137
 a46:=isAgg137
 z46:=sizeOf137
 v46:=zeroValue137
 t51:=underlying284
 a51:=isAgg284
 z51:=sizeOf284
 v51:=zeroValue284
 t146:=underlying317
 a146:=isAgg317
 z146:=sizeOf317
 v146:=zeroValue317
 g1:=by kernel_rfl}
end Go.Proofs
namespace Go.Q
noncomputable def Zo (f:za->za->O) (pre:za->za->Prop):zb->Option O:=z6 (α:=za×za) (fun a=>[str a.1,str a.2]) (fun a=>a.1.length<=zx/\a.2.length<=zx/\pre a.1 a.2) (fun a=>f a.1 a.2)
theorem BN:∀a b:za×za,[str a.1,str a.2]=[str b.1,str b.2]->a=b:=by rintro⟨c,d⟩ ⟨f,g⟩ e;simp only[zh,zD]at e;rw[q9 e.1,q9 e.2]
theorem kl(f:za->za->O)(pre:za->za->Prop)(a b:za)(Y:Hp)(Z:Nat)(h:a.length<=zx)(c:b.length<=zx)(d:pre a b)(e:(f a b).flat=true):zf false [] (Zo f pre) [str a,str b] Y Z=some (f a b,Y,Z):=
 hPc (a,b) _ _ rfl BN ⟨h,c,d⟩ (.inl e)
theorem kC{f:za->za->O}{pre:za->za->Prop}{args:zb}{r:O}(h:Zo f pre args=some r):∃a b,args=[str a,str b]/\a.length<=zx/\b.length<=zx/\pre a b/\r=f a b:=by obtain⟨⟨a,b⟩,rfl,⟨c,d,e⟩,rfl⟩:=zp h;exact⟨a,b,rfl,c,d,e,rfl⟩
theorem Nz:S9 prog 0:=by refine⟨kN (by kernel_rfl),#[.int .i64 0],3,by kernel_rfl,rfl,by kernel_rfl,by kernel_rfl,by kernel_rfl⟩
def I7(a b:za):O:=int (Lib.index a b)
def cntP(a b:za):O:=int (Lib.count a b)
theorem EE:zg prog 226 (zf false [] (Zo I7 fun _ _=>True)):=
 xe ⟨_,func226,by kernel_rfl,by kernel_rfl⟩ fun args r h=>by
  obtain⟨a,b,rfl,c,d,_,rfl⟩:=kC h;unfold zx at c d;refine⟨[.string ⟨a.toArray⟩,.string ⟨b.toArray⟩],rfl,by simp[lit],rfl,.int .i64 (Lib.index a b),fun w S=>.v rfl,fun w S f=>?_⟩;obtain⟨_,m,g⟩:=f.1 0 Nz;refine(Any.stringslite_Index Tryz.zeY ⟨a.toArray⟩ ⟨b.toArray⟩ m w (by simp;omega) g).mono fun e w' i=>?_
  obtain⟨rfl,rfl⟩:=i;exact⟨by simp,Fr.refl _ _⟩
theorem BO:zg prog 286 (zf false [] (Zo cntP fun _ b=>1<=b.length)):=
 xe ⟨_,func286,by kernel_rfl,by kernel_rfl⟩ fun args r h=>by
  obtain⟨a,b,rfl,c,d,f,rfl⟩:=kC h;unfold zx at c d;refine⟨[.string ⟨a.toArray⟩,.string ⟨b.toArray⟩],rfl,by simp[lit],rfl,.int .i64 (Lib.count a b),fun w S=>.v rfl,fun w S g=>?_⟩;obtain⟨_,m,i⟩:=g.1 0 Nz;refine(Any.strings_Count_any Tryz.zeZ ⟨a.toArray⟩ ⟨b.toArray⟩ m w (by simp;omega) i (by simpa using f)).mono fun e w' j=>?_
  obtain⟨rfl,rfl⟩:=j;exact⟨by simp[Lib.countB],Fr.refl _ _⟩
noncomputable abbrev Ci:Ctx:=zQ prog [(226,zf false [] (Zo I7 fun _ _=>True))]
theorem zfs:AM.Good Ci (fun g=>[226].contains g):=zw mixed ⟨EE,fun _=>zu _ _,trivial⟩
theorem Vb(a b:za)(Y:Hp)(Z:Nat)(h:a.length<=zx)(c:b.length<=zx):zf false [] (Zo I7 fun _ _=>True) [str a,str b] Y Z=some (int (Lib.index a b),Y,Z):=kl _ _ a b Y Z h c trivial rfl
theorem eK:zg prog 193 (zf false [] (Zo I7 fun _ _=>True)):=
 zX (fn:=f193) zfs (zpi func193) false [] _ fun args r h=>by obtain⟨a,b,rfl,c,d,_,rfl⟩:=kC h;exact⟨by simp[f193],_,zm rfl (by simp[Vb,c,d,I7,f193]),zW _⟩
noncomputable abbrev Ci2:Ctx:=zQ prog [(193,zf false [] (Zo I7 fun _ _=>True)),(286,zf false [] (Zo cntP fun _ b=>1<=b.length))]
theorem TX:AM.Good Ci2 (fun g=>[193].contains g):=zw mixed ⟨eK,fun _=>zu _ _,BO,fun _=>zu _ _,trivial⟩
def EF(a b:za):O:=qz (Lib.contains a b)
theorem JR:zg prog 161 (zf false [] (Zo EF fun _ _=>True)):=
 zX (fn:=f161) TX (zpi func161) false [] _ fun args r h=>by obtain⟨a,b,rfl,c,d,_,rfl⟩:=kC h;exact⟨by simp[f161],_,zm rfl (by simp[Vb,c,d,EF,Lib.contains,f161]),zW _⟩
def td(a b:za):O:=.wY [str (Lib.cut a b).1,str (Lib.cut a b).2.1,qz (Lib.cut a b).2.2]
theorem TY(a b:za)(c:a.length<=zx)(d:b.length<=zx):zr Ci f234 [str a,str b]=some (td a b):=by
 refine zm rfl ?_;unfold zx at c d;by_cases h:0<=Lib.index a b
 ·have l:=Lib.index_room a b h;have e:Lib.cut a b=(a.take (Lib.index a b).toNat,a.drop ((Lib.index a b).toNat+b.length),true):=by unfold Lib.cut;rw[zd h]
  have f:=zpg (Lib.index a b+b.length);have g:(Lib.index a b+b.length).toNat=(Lib.index a b).toNat+b.length:=by omega
  have i:0<=Lib.index a b+b.length:=by omega
  have j:(Lib.index a b).toNat<=a.length:=by omega
  have k:(Lib.index a b).toNat+b.length<=a.length:=by omega
  simp[Vb,zx,c,d,h,f,g,i,j,k,td,e,qS,f234];rw[qq (by simp)]
 ·have e:Lib.cut a b=(a,[],false):=by unfold Lib.cut;rw[ze h]
  simp[Vb,zx,c,d,h,td,e,qS,f234]
theorem Pn:zg prog 234 (zf false [] (Zo td fun _ _=>True)):=
 zX (fn:=f234) zfs (zpi func234) false [] _ fun args r h=>by obtain⟨a,b,rfl,c,d,_,rfl⟩:=kC h;exact⟨by simp[f234],_,TY a b c d,zW _⟩
def TZ(a b:za):O:=qz (b.isPrefixOf a)
theorem EG(a b:za):(decide (b.length<=a.length)&&(a.take b.length==b))=b.isPrefixOf a:=by
 rw[qc];simp only[zH,zP,jq,H4];constructor
 ·rintro⟨_,h⟩;exact List.prefix_iff_eq_take.2 h.symm
 ·intro h;exact⟨h.length_le,(List.prefix_iff_eq_take.1 h).symm⟩
noncomputable abbrev Cw0:Ctx:=zQ prog []
theorem I8:Gd Cw0:=zw mixed trivial
theorem mR(a b:za):zr Cw0 f191 [str a,str b]=some (TZ a b):=by
 refine zm rfl ?_;have Y:=EG a b;by_cases h:b.length<=a.length
 ·rw[y8 h,jb]at Y;simp[h,TZ,<-Y,f191]
 ·rw[jm h,kT]at Y;have c:¬((b.length:Int)<=a.length):=by omega
  simp[h,c,TZ,<-Y,f191]
theorem gX:zg prog 191 (zf false [] (Zo TZ fun _ _=>True)):=
 zX (fn:=f191) I8 (zpi func191) false [] _ fun args r h=>by obtain⟨a,b,rfl,c,d,_,rfl⟩:=kC h;exact⟨by simp[f191],_,mR a b,zW _⟩
noncomputable abbrev Cw1:Ctx:=zQ prog [(191,zf false [] (Zo TZ fun _ _=>True)),(234,zf false [] (Zo td fun _ _=>True))]
theorem I9:AM.Good Cw1 (fun g=>[191].contains g):=zw mixed ⟨gX,fun _=>zu _ _,Pn,fun _=>zu _ _,trivial⟩
theorem bt(a b:za)(Y:Hp)(Z:Nat)(h:a.length<=zx)(c:b.length<=zx):zf false [] (Zo TZ fun _ _=>True) [str a,str b] Y Z=some (qz (b.isPrefixOf a),Y,Z):=kl _ _ a b Y Z h c trivial rfl
theorem oW(a b:za)(Y:Hp)(Z:Nat)(h:a.length<=zx)(c:b.length<=zx):zf false [] (Zo td fun _ _=>True) [str a,str b] Y Z=some (.wY [str (Lib.cut a b).1,str (Lib.cut a b).2.1,qz (Lib.cut a b).2.2],Y,Z):=kl _ _ a b Y Z h c trivial rfl
theorem Y3:zg prog 159 (zf false [] (Zo TZ fun _ _=>True)):=
 zX (fn:=f159) I9 (zpi func159) false [] _ fun args r h=>by obtain⟨a,b,rfl,c,d,_,rfl⟩:=kC h;exact⟨by simp[f159],_,zm rfl (by simp[bt,c,d,TZ,f159]),zW _⟩
theorem oX:zg prog 195 (zf false [] (Zo td fun _ _=>True)):=
 zX (fn:=f195) I9 (zpi func195) false [] _ fun args r h=>by obtain⟨a,b,rfl,c,d,_,rfl⟩:=kC h;exact⟨by simp[f195],_,zm rfl (by simp[oW,c,d,td,qS,f195]),zW _⟩
def cpP(a b:za):O:=.wY [str (if b.isPrefixOf a then a.drop b.length else a),qz (b.isPrefixOf a)]
theorem mS(a b:za)(c:a.length<=zx)(d:b.length<=zx):zr Cw1 f325 [str a,str b]=some (cpP a b):=by
 refine zm rfl ?_;cases h:b.isPrefixOf a
 ·simp[bt,c,d,h,cpP,qS,f325]
 ·have e:=(H4.1 h).length_le;simp[bt,c,d,h,e,cpP,qS,f325];rw[qq (by simp)]
theorem gY:zg prog 325 (zf false [] (Zo cpP fun _ _=>True)):=
 zX (fn:=f325) I9 (zpi func325) false [] _ fun args r h=>by obtain⟨a,b,rfl,c,d,_,rfl⟩:=kC h;exact⟨by simp[f325],_,mS a b c d,zW _⟩
noncomputable abbrev Cw2:Ctx:=zQ prog [(325,zf false [] (Zo cpP fun _ _=>True))]
theorem zgG:Gd Cw2:=zw mixed ⟨gY,fun _=>zu _ _,trivial⟩
theorem NA(a b:za)(Y:Hp)(Z:Nat)(h:a.length<=zx)(c:b.length<=zx):zf false [] (Zo cpP fun _ _=>True) [str a,str b] Y Z=some (.wY [str (if b.isPrefixOf a then a.drop b.length else a),qz (b.isPrefixOf a)],Y,Z):=kl _ _ a b Y Z h c trivial rfl
theorem mT:zg prog 290 (zf false [] (Zo cpP fun _ _=>True)):=
 zX (fn:=f290) zgG (zpi func290) false [] _ fun args r h=>by obtain⟨a,b,rfl,c,d,_,rfl⟩:=kC h;exact⟨by simp[f290],_,zm rfl (by simp[NA,c,d,cpP,qS,f290]),zW _⟩
def tlP(a b:za):O:=str (Lib.trimLeftB a (b.headD 0))
def tbP(a b:za):O:=str (Lib.trimB a (b.headD 0))
def oY(b:za):Prop:=∃c:UInt8,b=[c]/\c.toNat<128
theorem JS:zg prog 334 (zf false [] (Zo tlP fun _ b=>oY b)):=
 xe ⟨_,func334,by kernel_rfl,by kernel_rfl⟩ fun args r h=>by
  obtain⟨a,b,rfl,g,i,⟨c,rfl,d⟩,rfl⟩:=kC h;refine⟨[.string ⟨a.toArray⟩,.string ⟨#[c]⟩],rfl,by simp[lit],rfl,.string ⟨(Lib.trimLeftB a c).toArray⟩,fun w S=>.v rfl,fun w S _=>?_⟩;refine(Any.strings_TrimLeft_one Tryz.zeU ⟨a.toArray⟩ c d w).mono fun e w' f=>?_
  obtain⟨rfl,rfl⟩:=f;exact⟨by simp,Fr.refl _ _⟩
theorem lU:zg prog 194 (zf false [] (Zo tbP fun _ b=>oY b)):=
 xe ⟨_,func194,by kernel_rfl,by kernel_rfl⟩ fun args r h=>by
  obtain⟨a,b,rfl,d,i,⟨c,rfl,f⟩,rfl⟩:=kC h;unfold zx at d;refine⟨[.string ⟨a.toArray⟩,.string ⟨#[c]⟩],rfl,by simp[lit],rfl,.string ⟨(Lib.trimB a c).toArray⟩,fun w S=>.v rfl,fun w S _=>?_⟩;refine(Any.strings_Trim_one Tryz.zeV ⟨a.toArray⟩ c f w (by simp;omega)).mono fun e w' g=>?_
  obtain⟨rfl,rfl|rfl⟩:=g
  ·exact⟨by simp,Fr.refl _ _⟩
  ·exact⟨by simp,Fr.drew _ _⟩
noncomputable def FSB (f:za->UInt8->O):zb->Option O:=z6 (α:=za×UInt8) (fun a=>[str a.1,TV a.2]) (fun a=>a.1.length<=zx) (fun a=>f a.1 a.2)
theorem zgH:∀a b:za×UInt8,[str a.1,TV a.2]=[str b.1,TV b.2]->a=b:=by
 rintro⟨g,c⟩ ⟨h,d⟩ e;simp only[zh,zD]at e;have i:=qB e.2;have f:c.toNat=d.toNat:=by omega
 rw[q9 e.1,Zz.1 f]
theorem T0(f:za->UInt8->O)(a:za)(c:UInt8)(Y:Hp)(Z:Nat)(h:a.length<=zx)(b:(f a c).flat=true):zf false [] (FSB f) [str a,TV c] Y Z=some (f a c,Y,Z):=
 hPc (a,c) _ _ rfl zgH h (.inl b)
def ibP(a:za)(c:UInt8):O:=int (Lib.indexByte a c)
theorem mU:zg prog 339 (zf false [] (FSB ibP)):=
 xe ⟨_,func339,by kernel_rfl,by kernel_rfl⟩ fun args r h=>by
  obtain⟨⟨a,c⟩,rfl,d,rfl⟩:=zp h;refine⟨[.string ⟨a.toArray⟩,.int .u8 c.toNat],rfl,by simp[lit],rfl,.int .i64 (Lib.indexByte a c),fun w S=>.v rfl,fun w S _=>?_⟩;refine(Any.strings_IndexByte Tryz.zeW ⟨a.toArray⟩ c.toNat w).mono fun e w' b=>?_
  obtain⟨rfl,rfl⟩:=b;exact⟨by simp,Fr.refl _ _⟩
end Go.Q
namespace Go.AM
def La(Q:St->Prop)(K:Exit->St->Prop)(e:Exit)(st:St):Prop:=match e with
 | .normal=>Q st
 |e=>K e st
@[simp]theorem znk(Q:St->Prop)(K:Exit->St->Prop)(st:St):La Q K .normal st=Q st:=rfl
@[simp]theorem znl(Q:St->Prop)(K:Exit->St->Prop)(st:St):La Q K .ret st=K .ret st:=rfl
@[simp]theorem znm(Q:St->Prop)(K:Exit->St->Prop)(i:Nat)(st:St):La Q K (.exit i) st=K (.exit i) st:=rfl
theorem kY{C:Ctx}{a b:Code}{st:St}{K:Exit->St->Prop}(Q:St->Prop)(d:ZY C a st (La Q K))(f:∀st,Q st->ZY C b st K):ZY C (.seq a b) st K:=by
 rw[Bv];refine d.mono fun e st c=>?_
 cases e
 case normal=>exact f _ c
 all_goals exact c
theorem km{C:Ctx}{a b:Code}{st:St}{K:Exit->St->Prop}(Q:(Nat->O)->Hp->Nat->Prop)(c:ZY C a st (La (fun st=>Q st.U st.Y st.Z) K))(d:∀U Y Z,Q U Y Z->ZY C b ⟨U,Y,Z⟩ K):ZY C (.seq a b) st K:=
 kY _ c fun st h=>d st.U st.Y st.Z h
end Go.AM
namespace Go.Proofs
open Go.Shelf
def Tryz.Ih:Go.Shelf.Ren:=⟨fun|264=>110|n=>n,fun|46=>137|53=>111|n=>n,fun|n=>n⟩
theorem Tryz.ze0:Go.Proofs.Lays.n264 prog Tryz.Ih:={
 mixed:=by kernel_rfl
 f264:=func110.trans (zC some (by kernel_rfl))
 t46:=underlying137
 a46:=isAgg137
 z46:=sizeOf137
 v46:=zeroValue137
 t53:=underlying111
 a53:=isAgg111
 z53:=sizeOf111
 v53:=zeroValue111}
end Go.Proofs
namespace Go.Q
abbrev u64(n:Int):O:=.v (.int .u64 n)
def Lb(x y:Nat):Nat:=x*y/18446744073709551616
def mulL(x y:Nat):Nat:=x*y % 18446744073709551616
noncomputable def FMu:zb->Option O:=z6 (α:=Nat×Nat) (fun a=>[u64 a.1,u64 a.2]) (fun a=>a.1<18446744073709551616/\a.2<18446744073709551616) (fun a=>.wY [u64 (Lb a.1 a.2),u64 (mulL a.1 a.2)])
theorem NB{a b:Nat}(h:u64 (a:Int)=u64 b):a=b:=by injection h with h;injection h with _ h;omega
theorem zgI:∀a b:Nat×Nat,[u64 (a.1:Int),u64 (a.2:Int)]=[u64 b.1,u64 b.2]->a=b:=by rintro⟨c,d⟩ ⟨f,g⟩ e;simp only[zh,zD]at e;rw[NB e.1,NB e.2]
theorem EH:zg prog 110 (zf false [] FMu):=
 xe ⟨_,func110,by kernel_rfl,by kernel_rfl⟩ fun args r h=>by
  obtain⟨⟨a,b⟩,rfl,⟨f,g⟩,rfl⟩:=zp h;refine⟨[.int .u64 a,.int .u64 b],rfl,by simp[lit],rfl,.tuple #[.int .u64 (Lb a b),.int .u64 (mulL a b)],fun w S=>.wY rfl fun j k u c d=>?_,fun w S _=>?_⟩
  ·match j with
   | 0=>simp at c d;subst c;subst d;exact .v rfl
   | 1=>simp at c d;subst c;subst d;exact .v rfl
   |j+2=>simp at c
  ·refine(Any.bits_Mul64 Tryz.ze0 a b f g w).mono fun e w' i=>?_
   obtain⟨rfl,rfl⟩:=i;exact⟨rfl,Fr.refl _ _⟩
theorem zcN(a b:Nat)(Y:Hp)(Z:Nat)(c:a<18446744073709551616)(d:b<18446744073709551616):zf false [] FMu [u64 a,u64 b] Y Z=some (.wY [u64 (Lb a b),u64 (mulL a b)],Y,Z):=
 hPc (a,b) _ _ rfl zgI ⟨c,d⟩ (.inl rfl)
def mV(a b:Int):Int:=IntKind.u64.wrap (((a % 2 ^ IntKind.u64.bits).toNat ^^^ (b % 2 ^ IntKind.u64.bits).toNat:Nat):Int)
def lV(a:Int):Int:=a.fdiv (2 ^ min 33 IntKind.u64.bits)
def eL(z k:Int):Int:=IntKind.u64.wrap (mV z (lV z)*k)
def XQ(z:Int):Int:=mV (eL (eL z 18397679294719823053) 14181476777654086739) (lV (eL (eL z 18397679294719823053) 14181476777654086739))
def Qr(z:Int):Nat:=Lb (XQ z).toNat 100000
theorem Lc(a:Int):0<=IntKind.u64.wrap a/\IntKind.u64.wrap a<18446744073709551616:=by rw[Kb];omega
theorem VZ(z:Int):0<=XQ z/\XQ z<18446744073709551616:=Lc _
theorem uP(z:Int):Qr z<100000:=by have:=VZ z;unfold Qr Lb;omega
noncomputable abbrev Cspr:Ctx:=zQ prog [(110,zf false [] FMu)]
noncomputable def FSr:zb->Option O:=z6 (α:=Int) (fun a=>[u64 a]) (fun _=>True) (fun a=>int (Qr a))
theorem T1(a:Int)(Y:Hp)(Z:Nat):zf false [] FSr [u64 a] Y Z=some (int (Qr a),Y,Z):=
 hPc a _ _ rfl (fun a b e=>by simp only[zh,zD]at e;injection e with e;injection e with _ e) trivial (.inl rfl)
theorem EI(z:Int):zr Cspr f61 [u64 z]=some (int (Qr z)):=by
 refine zm rfl ?_;have j:=VZ z;have hs:=uP z;have c:=fun Y Z=>zcN (XQ z).toNat 100000 Y Z (by omega) (by omega)
 have d:(((XQ z).toNat:Nat):Int)=XQ z:=by omega
 rw[d]at c;have e:∀a b:Int,IntKind.u64.wrap (((a % 2 ^ IntKind.u64.bits).toNat ^^^ (b % 2 ^ IntKind.u64.bits).toNat:Nat):Int)=mV a b:=fun _ _=>rfl
 have f:∀a:Int,a.fdiv (2 ^ min 33 IntKind.u64.bits)=lV a:=fun _=>rfl
 have g:∀a k:Int,IntKind.u64.wrap (mV a (lV a)*k)=eL a k:=fun _ _=>rfl
 have h:mV (eL (eL z 18397679294719823053) 14181476777654086739) (lV (eL (eL z 18397679294719823053) 14181476777654086739))=XQ z:=rfl;have i:i6.wrap (Lb (XQ z).toNat 100000:Nat)=(Qr z:Int):=zi (by unfold Qr at hs;omega) (by unfold Qr at hs;omega);simp only[vm]at c;simp[e,f,g,h,c,i,f61]
theorem BP:zg prog 61 (zf false [] FSr):=
 pS1 (zph mixed ⟨EH,trivial⟩:AM.Good Cspr _) func61 false [] fun a _=>⟨by simp[f61],_,EI a,zW _⟩
def EJ(h:Int)(c:UInt8):Int:=IntKind.u64.wrap (mV h (IntKind.u64.wrap c.toNat)*1099511628211)
def vP(h:Int)(s:za):Int:=s.foldl EJ h
def Z8(a b:za):Nat:=Qr (vP (vP (vP 14695981039346656037 a) [47]) b)
theorem NC(a b:za):Z8 a b<100000:=uP _
def T2(a b:za):O:=int (Z8 a b)
noncomputable abbrev Cbuk:Ctx:=zQ prog [(61,zf false [] FSr)]
theorem EK(a b:za)(B:a.length<=zx)(C:b.length<=zx):zr Cbuk f30 [str a,str b]=some (T2 a b):=by
 unfold zx at B C;have N:=zpg 1;have G:∀a b:Int,IntKind.u64.wrap (((a % 2 ^ IntKind.u64.bits).toNat ^^^ (b % 2 ^ IntKind.u64.bits).toNat:Nat):Int)=mV a b:=fun _ _=>rfl
 have I:∀(h:Int) (c:UInt8),IntKind.u64.wrap (mV h (IntKind.u64.wrap c.toNat)*1099511628211)=EJ h c:=fun _ _=>rfl
 obtain⟨L,r⟩:∃L:List za,L=[a,[47],b]:=⟨_,rfl⟩;obtain⟨E,t⟩:∃E:List zb,E=[[str a],[str [47]],[str b]]:=⟨_,rfl⟩;have J:E.length=3:=by rw[t];rfl
 have u:∀s∈L,s.length<=2097152:=fun s hs=>by
  rw[r]at hs;simp at hs;rcases hs with rfl|rfl|rfl
  ·exact B
  ·simp
  ·exact C
 refine zm rfl ?_;simp[zz,zS,zy];refine zI (fun k U Y Z=>U 11=.own 0 0 3/\U 12=int 3/\U 13=int k/\Y 0=some ⟨9,1,true,E⟩/\U 5=u64 ((L.take k).foldl vP 14695981039346656037)) 3 ⟨by simp,by simp,by simp,by simp[t],by simp⟩ ?_;rintro k U Y Z P ⟨d,e,f,g,j⟩;by_cases l:k<3
 ·have m:(k:Int)<3:=by omega
  have K:=zlL k;have n:k<L.length:=by rw[r];exact l
  obtain⟨s,hs⟩:=exI (L[k]);have M:=u s (by rw[<-hs];exact zj n);have v:k<E.length:=by omega
  have w:E[k]=[str s]:=by
   have x:k=0\/k=1\/k=2:=by omega
   subst r;subst t;rcases x with rfl|rfl|rfl<;>(simp at hs;simp[hs])
  obtain⟨H,D⟩:=exI ((L.take k).foldl vP 14695981039346656037);have y:(L.take (k+1)).foldl vP 14695981039346656037=vP H s:=by rw[zR n,KG,D,hs];rfl
  rw[D]at j;simp[d,e,f,j,g,l,m,v,w];refine zI (fun i U Y Z=>U 11=.own 0 0 3/\U 12=int 3/\U 13=int k/\Y 0=some ⟨9,1,true,E⟩/\U 7=str s/\U 18=int s.length/\U 19=int i/\U 5=u64 (vP H (s.take i))) s.length ⟨by simp[d],by simp[e],by simp[f],by simp[g],by simp,by simp,by simp,by simp[j,vP]⟩ ?_;clear d e f g j U Y Z;rintro i U Y Z hi ⟨d,e,f,g,F,o,p,j⟩;by_cases q:i<s.length
  ·have z:=zlL i;have A:vP H (s.take (i+1))=EJ (vP H (s.take i)) s[i]:=by unfold vP;rw[zR q,KG];rfl
   simp[d,e,f,g,F,o,p,j,q,z,G,I];exact⟨by omega,by rw[A]⟩
  ·obtain rfl:i=s.length:=by omega
   rw[wo]at j;simp[d,e,f,g,F,o,p,j,K];exact⟨by omega,by rw[y]⟩
 ·obtain rfl:k=3:=by omega
  have x:=fun Y Z=>T1 (vP (vP (vP 14695981039346656037 a) [47]) b) Y Z
  subst r;simp at j;simp[d,e,f,j,x,T2,Z8,f30]
theorem eM:zg prog 30 (zf false [] (Zo T2 fun _ _=>True)):=
 zX (fn:=f30) (zph mixed ⟨BP,trivial⟩:AM.Good Cbuk _) (zpi func30) false [] _ fun args r h=>by obtain⟨a,b,rfl,c,d,_,rfl⟩:=kC h;exact⟨by simp[f30],_,EK a b c d,zW _⟩
theorem bw(a b:za)(Y:Hp)(Z:Nat)(h:a.length<=zx)(c:b.length<=zx):zf false [] (Zo T2 fun _ _=>True) [str a,str b] Y Z=some (int (Z8 a b),Y,Z):=kl _ _ a b Y Z h c trivial rfl
end Go.Q
namespace Go.AM
open Go.RowKit Go.Sort Go.Proofs
variable{dr:Prop}
def Y4(xs:List zb)(i:Nat):zb:=xs.getD (if i<xs.length then i else 0) []
theorem vp{xs:List zb}(h:xs≠[])(i:Nat):Y4 xs i∈xs:=by
 have b:0<xs.length:=xa.2 h;have a:(if i<xs.length then i else 0)<xs.length:=by split<;>assumption
 unfold Y4;rw[VF,zq a];exact zj _
theorem T3{xs:List zb}{i:Nat}(h:i<xs.length):Y4 xs i=xs[i]:=by unfold Y4;rw[zd h,VF,zq h];rfl
def oZ(cf:zb->zb->Int)(xs:List zb)(i j:Nat):Int:=cf (Y4 xs i) (Y4 xs j)
def Qs(cf:zb->zb->Int)(xs:List zb):Array Nat:=pdq (ltOf (oZ cf xs)) (Array.range xs.length) 0 xs.length (Lib.bitLen xs.length) true true
def YC(cf:zb->zb->Int)(xs:List zb):List zb:=if xs.length=0 then[]else(Qs cf xs).toList.map (Y4 xs)
structure XG (cf:List O->List O->Int) (xs:List (List O)):Prop where
 irrefl:∀x∈xs,0<=cf x x
 trans:∀x∈xs,∀y∈xs,∀z∈xs,cf x y<0->cf y z<0->cf x z<0
 ntrans:∀x∈xs,∀y∈xs,∀z∈xs,0<=cf x y->0<=cf y z->0<=cf x z
section
variable{cf:zb->zb->Int}{xs:List zb}
theorem ND{i j:Nat}(h:ltOf (oZ cf xs) i j=true):cf (Y4 xs i) (Y4 xs j)<0:=kN h
theorem o0{i j:Nat}(h:ltOf (oZ cf xs) i j=false):0<=cf (Y4 xs i) (Y4 xs j):=Int.not_lt.1 (of_decide_eq_false h)
theorem T4{i j:Nat}(h:cf (Y4 xs i) (Y4 xs j)<0):ltOf (oZ cf xs) i j=true:=y8 h
theorem NF{i j:Nat}(h:0<=cf (Y4 xs i) (Y4 xs j)):ltOf (oZ cf xs) i j=false:=jm (Int.not_lt.2 h)
theorem XG.swo(h:XG cf xs)(a:xs≠[]):SWO (ltOf (oZ cf xs)) where
 irrefl i:=NF (h.irrefl _ (vp a i))
 trans i j k b c:=T4 (h.trans _ (vp a i) _ (vp a j) _ (vp a k) (ND b) (ND c))
 ntrans i j k b c:=NF (h.ntrans _ (vp a i) _ (vp a j) _ (vp a k) (o0 b) (o0 c))
theorem V0(h:XG cf xs)(a:xs≠[]):PermIn 0 xs.length (Array.range xs.length) (Qs cf xs)/\SortedIn (ltOf (oZ cf xs)) 0 xs.length (Qs cf xs):=
 pdq_sorts (ltOf (oZ cf xs)) (h.swo a) (Array.range xs.length) 0 xs.length (Lib.bitLen xs.length) true true (kM _) (by simp) (Or.inl rfl)
theorem V1(h:XG cf xs)(a:xs≠[]):(Qs cf xs).size=xs.length:=by have:=(V0 h a).1.1;simpa using this
theorem dh(h:XG cf xs):(YC cf xs).Perm xs:=by
 unfold YC;split
 ·rename_i a;have:xs=[]:=qv.1 a;subst this;exact .refl _
 ·rename_i a;have c:xs≠[]:=by rintro rfl;simp at a
  obtain⟨k,_,d⟩:=(V0 h c).1;have hs:=V1 h c;have f:(Qs cf xs).extract 0 xs.length=Qs cf xs:=by rw[<-hs];simp
  have g:(Array.range xs.length).extract 0 xs.length=Array.range xs.length:=by
   conv=>lhs;rw[show xs.length=(Array.range xs.length).size by simp]
   simp
  rw[f,g]at d;have e:=d.map (Y4 xs);have j:(Array.range xs.length).toList.map (Y4 xs)=xs:=by
   apply List.ext_getElem
   ·simp
   ·intro i hi b;simp[T3 b]
  rw[j]at e;exact e
theorem BQ(h:XG cf xs):(YC cf xs).Pairwise (fun x y=>0<=cf y x):=by
 unfold YC;split
 ·exact List.Pairwise.nil
 ·rename_i e;have c:xs≠[]:=by rintro rfl;simp at e
  have hs:=V1 h c;have f:=(V0 h c).2;rw[List.pairwise_map,QY];intro i j hi a b;have d:=f i j (kM _) b (by simp at a;omega);simp at hi a;rw[XC _ i hi,XC _ j a]at d;simpa using o0 d
theorem BR(h:XG cf xs):(YC cf xs).length=xs.length:=(dh h).length_eq
end
def T5(P:Program)(f k:Nat):Prop:=
 (∀(α:Type) [Inhabited α] (V:α->List Value) (_:∀x,(V x).length=k) (_:∀x,∀v∈V x,v.oneCell'=true) (cf:α->α->Int) (_:SWO (ltOf cf)) (g:Nat) (blk off cap:Nat) (d:Array α) (w:World)
  (_:∀args w,(callFunc g args).run P w=.ok (.enter g args) w) (_:CmpLays P g #[] V k cf blk off d.size w) (_:HoldsK V k w blk off d) (_:blk<w.heap.size) (_:d.size<4611686018427387904),
  Calls P f #[.slice (some ⟨blk,off,none⟩) d.size cap,.func (.func g) #[] #[]] w fun e w'=>
   e=.returned (.tuple #[])/\∃n a,w'=sortWorldK V k w blk off n (pdq (ltOf cf) d 0 d.size (Lib.bitLen d.size) true true) a) /\
 ∀(p:Option Addr) (cap:Nat) (b:Value) (w:World),Calls P f #[.slice p 0 cap,b] w fun e w'=>e=.returned (.tuple #[])/\w'=w
def zft(P:Program)(g k:Nat)(cf:zb->zb->Int)(dom:zb->Prop):Prop:=
 (∀args w,(callFunc g args).run P w=.ok (.enter g args) w)/\∃a,zg P g a/\∀x y,x.length=k->y.length=k->dom x->dom y->a [.agg x,.agg y] (fun _=>none) 0=some (.v (.int .i64 (cf x y)),fun _=>none,0)
open Classical in
noncomputable def o1 (k:Nat) (g:Nat) (cf:zb->zb->Int) (dom:zb->Prop):AM.Spec:=fun args Y Z=>
 match args with
 |[.nil,.fn _ _ _]=>some (.wY [],Y,Z)
 |[.own id off n,.fn (.func a) [] []]=>if n=0 then some (.wY [],Y,Z)else match Y id with
  |some b=>if a=g/\b.arr=true/\b.s=k/\off+n<=b.es.length/\n<4611686018427387904/\XG cf ((b.es.drop off).take n)/\∀x∈(b.es.drop off).take n,dom x then
    some (.wY [],qR Y id (some ⟨b.e,b.s,b.arr,b.es.take off++YC cf ((b.es.drop off).take n)++b.es.drop (off+n)⟩),Z)else none
  |none=>none
 |_=>none
theorem Ld{W w':World}(h:Fr True W (fun _=>False) w'):∃q c,w'=grow (W.drewN q) c:=by
 refine⟨w'.drawn-W.drawn,w'.heap.extract W.heap.size w'.heap.size,?_⟩;obtain⟨a,e,d,n,b⟩:=w';obtain⟨f,g,j,m,k,l⟩:=h;simp only at f g j m k l;unfold grow World.drewN;simp only[World.mk.injEq];refine⟨?_,g,by have:=k trivial;omega,f,j⟩;apply Array.ext_getElem?;intro i;by_cases hi:i<W.heap.size
 ·rw[l i hi (fun h=>h),vZ hi]
 ·rw[Array.getElem?_append_right (by omega),Array.getElem?_extract];by_cases o:i<a.size
  ·rw[zd (by omega)];congr 1;omega
  ·rw[ze (by omega),Array.getElem?_eq_none (by omega)]
theorem vA.grown{P:Program}{Y:Hp}{Z:Nat}{S:Nat->Prop}{G:Nat->GI}{w w':World}(h:Inv P w S G Y Z)(c:Fr dr w (fun _=>False) w'):vA dr P Y Z S G w Y Z S G w':=by
 have d:∀b,b<w.heap.size->w'.heap[b]?=w.heap[b]?:=fun b a=>c.block b a (fun h=>h)
 refine⟨⟨fun b a=>jF (h.st b a) c.size,h.top,fun id b a=>?_,h.apart,h.inj,h.oa.mono fun b a=>⟨a,d b (h.st b a)⟩⟩,zl _,fun _ _=>rfl,fun _ a=>a,fun _ a=>.inl a,fun id b a=>.inl ⟨id,b,a,rfl⟩,⟨c.os,c.tape,c.output,c.size,c.drawn,fun k f _=>c.block k f (fun h=>h)⟩⟩;have e:=h.live id b a;exact e.mono (fun b a=>⟨a,d b (h.st b a)⟩) (zl _) (fun _ _=>rfl) (d _ e.lt)
theorem V2{α:Type}[Inhabited α](V:α->List Value)(k:Nat)(w:World)(blk off m:Nat)(d:Array α)(a:Array Obj):Fr dr (putRowK V k w blk off d) (fun _=>False) (sortWorldK V k w blk off m d a):=by
 refine⟨rfl,rfl,rfl,?_,fun _=>?_,fun b c _=>?_⟩
 ·show _<=(_++a).size;rw[Wv];exact Nat.le_add_right _ _
 ·exact Nat.le_add_right _ _
 ·exact vZ c
theorem Yi{α:Type}[Inhabited α](V:α->List Value)(k:Nat)(w:World)(blk off:Nat)(d:Array α){a:Array Value}{e:TypeId}(h:w.heap[blk]?=some (.cells a e (0,0))) :
  putRowK V k w blk off d=w.setRow blk (putCells (fun v:Value=>v) off (flatK V k d) a):=by
 unfold putRowK putRow mapBlock World.setRow;congr 1;apply Array.ext_getElem?;intro i;simp only[Qv];by_cases hi:blk=i
 ·subst hi;simp only[qA,h,zK,onCells];rfl
 ·simp[hi]
section
variable{P:Program}{f k g:Nat}{cf:zb->zb->Int}{dom:zb->Prop}
theorem EL(h0:0<k)(hfn:∃fn,P.funcs[f]?=some fn/\(fn.name== "runtime.NumGoroutine")=false/\fn.body.isNone=false)(hso:T5 P f k)(hco:zft P g k cf dom):xB dr P f (o1 k g cf dom):=by
 refine⟨hfn,?_⟩;intro args Y Z r Y' Z' h w S G vs hi hz;unfold o1 at h;split at h
 ·injection h with h;injection h with e1 h;injection h with e2 e3;subst e1;subst e2;subst e3;obtain⟨u,us,rfl,hu,z⟩:=hz.kc;obtain⟨v,us,rfl,hv,z⟩:=z.kc;obtain rfl:=z.YU;obtain rfl:=hu.ZV;refine(hso.2 none 0 v w).mono fun e w' hh=>?_
  obtain⟨rfl,rfl⟩:=hh;exact⟨_,_,_,rfl,.refl hi,kv⟩
 ·rename_i id off n g';obtain⟨u,us,rfl,hu,z⟩:=hz.kc;obtain⟨v,us,rfl,hv,z⟩:=z.kc;obtain rfl:=z.YU;have o:=hu.Za;obtain⟨cap,g1,g2,g3,g4,rfl⟩:=hu.xA;split at h
  ·rename_i hn0;subst hn0;injection h with h
   injection h with e1 h;injection h with e2 e3;subst e1;subst e2;subst e3;refine(hso.2 _ cap v w).mono fun e w' hh=>?_
   obtain⟨rfl,rfl⟩:=hh;exact⟨_,_,_,rfl,.refl hi,kv⟩
  rename_i hn0;split at h
  case h_2=>cases h
  rename_i b hb;split at h
  case isFalse=>cases h
  rename_i hc;obtain⟨rfl,harr,hbk,X,hn,hW,M⟩:=hc;injection h with h
  injection h with e1 h;injection h with e2 e3;subst e1;subst e2;subst e3;have d:=hi.live id b hb;obtain⟨us,ts,rfl,hus,hts,_,_⟩:=hv.DW;obtain rfl:us=#[]:=Array.eq_empty_of_size_eq_zero (by simpa using hus.symm);obtain rfl:ts=#[]:=Array.eq_empty_of_size_eq_zero (by simpa using hts.symm);have A:(G id).s=k:=by rw[<-d.bs];exact hbk
  obtain⟨N,c1,c2,c3⟩:=d.row o;rw[A]at c3 g4;obtain⟨xs,Q⟩:=exI ((b.es.drop off).take n);rw[Q]at hW M;have H:xs.length=n:=by rw[<-Q];simp;omega
  have I:xs≠[]:=by rintro rfl;simp at H;omega
  have B:∀x∈xs,x.length=k:=fun x I=>by rw[<-A];rw[<-Q]at I;exact d.len o x (List.mem_of_mem_drop (vx I))
  have hxg:∀i,i<n->xs[i]?=b.es[off+i]?:=fun i hi=>by rw[<-Q,qN,zd hi,wc]
  let ix:Nat->Nat:=fun i=>if i<n then i else 0
  have hix:∀i,ix i<n:=fun i=>by show(if i<n then i else 0)<n;split<;>omega
  have hel:∀i,xs[ix i]?=some (Y4 xs i):=fun i=>by
   unfold Y4;rw[VF];show xs[if i<n then i else 0]?=_;have:(if i<n then i else 0)<xs.length:=by rw[H];exact hix i
   rw[H,zq this];rfl
  let V:Nat->List Value:=fun i=>(List.range k).map fun j=>(N[(off+ix i)*k+j]?).getD undef
  have hek:∀x,(V x).length=k:=fun x=>by simp[V]
  have l:∀i j C,(Y4 xs i)[j]?=some C->∃u,N[(off+ix i)*k+j]?=some u/\(V i)[j]?=some u/\yb w S C u/\u.oneCell'=true:=fun i j C hj=>by
   have J:j<k:=by have:=(zn.1 hj).1;rw[B _ (vp I i)]at this;exact this
   obtain⟨u,T,L⟩:=c3 (off+ix i) j (Y4 xs i) C (by rw[<-hxg _ (hix i)];exact hel i) hj;rw[harr]at L;refine⟨u,T,?_,L.1 rfl,L.2.2⟩;simp[V,J,T]
  have E:∀i j,j<k->∃C,(Y4 xs i)[j]?=some C:=fun i j hj=>by
   have:j<(Y4 xs i).length:=by rw[B _ (vp I i)];exact hj
   exact⟨_,zq this⟩
  have h1c:∀x,∀v∈V x,v.oneCell'=true:=fun x v hv=>by obtain⟨j,hj,rfl⟩:=wA.1 hv;obtain⟨C,hpv⟩:=E x j (jo.1 hj);obtain⟨u,T,_,_,q4⟩:=l x j C hpv;rw[T];exact q4
  have hblk:(G id).g<w.heap.size:=d.lt;have F:∀m D (p:Array Nat) K,S K->(sortWorldK V k w (G id).g (off*k) m p D).heap[K]?=w.heap[K]?:=fun m D p K a=>by
   have R:K<(putRowK V k w (G id).g (off*k) p).heap.size:=by rw[Yi V k w _ _ p c1,size_setRow];exact hi.st K a
   rw[(V2 (dr:=True) V k w (G id).g (off*k) m p D).block K R (fun h=>h),Yi V k w _ _ p c1];exact setRow_other _ _ _ _ fun e=>hi.apart id b hb (e ▸ a)
  have zk6:∀m D (p:Array Nat),w.heap.size<=(sortWorldK V k w (G id).g (off*k) m p D).heap.size:=fun m D p=>by have:=(V2 (dr:=True) V k w (G id).g (off*k) m p D).size;rw[Yi V k w _ _ p c1,size_setRow]at this;exact this
  obtain⟨eg,spec,hsp,zca⟩:=hco;have hcmp:CmpLays P g' #[] V k (oZ cf xs) (G id).g (off*k) n w:=by
   intro m D p hdk x y;have hagg:∀x,yb (sortWorldK V k w (G id).g (off*k) m p D) S (.agg (Y4 xs x)) (.agg (V x).toArray):=fun x=>by
    refine .agg (by simp[hek,B _ (vp I x)]) fun j C u hj hu=>?_
    obtain⟨u',_,L,q3,_⟩:=l x j C hj;have:u=u':=by simpa[L]using hu.symm
    subst this;exact q3.mono fun K a=>⟨a,F m D p K a⟩
   have:=hsp.2 _ _ _ _ _ _ (zca _ _ (B _ (vp I x)) (B _ (vp I y)) (M _ (vp I x)) (M _ (vp I y))) (sortWorldK V k w (G id).g (off*k) m p D) S G [.agg (V x).toArray,.agg (V y).toArray]
    ⟨fun K a=>jF (hi.st K a) (zk6 m D p),fun _ _ h=>(nomatch h),fun _ _ h=>(nomatch h),fun _ _ h=>(nomatch h),fun _ _ _ _ h=>(nomatch h),hi.oa.mono fun K a=>⟨a,F m D p K a⟩⟩ (.cons (.c (hagg x)) (.cons (.c (hagg y)) .nil))
   refine this.mono fun e w' hh=>?_
   obtain⟨v,S',G',rfl,st,hv⟩:=hh;obtain⟨rfl,_⟩:=hv.yq;refine⟨rfl,Ld ⟨st.fr.os,st.fr.tape,st.fr.output,st.fr.size,st.fr.drawn,fun k hk _=>st.fr.block k hk ?_⟩⟩;rintro⟨_,_,h,_⟩;cases h
  have hH:HoldsK V k w (G id).g (off*k) (Array.range n):=by
   intro t ht;have ht':t<n*k:=by simpa using ht
   have hd:=Nat.div_add_mod t k;have hm:=Nat.mod_lt t h0;have hdl:t/k<n:=(Nat.div_lt_iff_lt_mul h0).2 ht';rw[get_flatK _ _ _ _ (by simpa using ht')];have hr:(Array.range n)[t/k]! = t/k:=by rw[XC _ _ (by simpa using hdl)];simp
   obtain⟨C,hpv⟩:=E (t/k) (t % k) hm;obtain⟨u,T,L,_,_⟩:=l (t/k) (t % k) C hpv;have hixe:ix (t/k)=t/k:=zd hdl;constructor
   ·rw[zga w _ _ N _ _ c1,hr,List.getElem!_eq_getElem?_getD,L];rw[hixe]at T;have:off*k+t=(off+t/k)*k+t % k:=by rw[q7,zeN (t/k) k];omega
    rw[this,T];rfl
   ·simp[World.frozen?,c1]
  have hsw:=hW.swo I;have key:=hso.1 Nat V hek h1c (oZ cf xs) hsw g' (G id).g (off*k) cap (Array.range n) w eg (by simpa using hcmp) hH hblk (by simpa using hn);have es1:(Array.range n).size=n:=by simp
  rw[es1]at key;rw[A];refine key.mono fun e w' hh=>?_
  obtain⟨rfl,m,D,rfl⟩:=hh;have hidx:pdq (ltOf (oZ cf xs)) (Array.range n) 0 n (Lib.bitLen n) true true=Qs cf xs:=by unfold Qs;rw[H]
  rw[hidx];have hds:(Qs cf xs).size=n:=by rw[V1 hW I,H]
  have SO:(YC cf xs).length=n:=by rw[BR hW,H]
  have hpl:off+(YC cf xs).length<=b.es.length:=by rw[SO];exact X
  have hsg:∀i,i<n->(YC cf xs)[i]?=some (Y4 xs (Qs cf xs)[i]!):=fun i hin=>by unfold YC;rw[ze (by omega),qQ,Array.getElem?_toList,XC _ i (by omega),QX (by omega)];rfl
  refine⟨_,S,G,rfl,?_,kv⟩;rw[Q];have D6:=vA.set (dr:=dr) hi hb o (putCells (fun v:Value=>v) (off*k) (flatK V k (Qs cf xs)) N) (b.es.take off++YC cf xs++b.es.drop (off+n)) (by simp[putCells,c2])
   (fun c hc=>by
    rw[qT]at hc;rcases qg.1 hc with hc|hc
    ·exact d.len o c (vx hc)
    rcases qg.1 hc with hc|hc
    ·rw[A];exact B c ((dh hW).mem_iff.1 hc)
    ·exact d.len o c (List.mem_of_mem_drop hc))
   (by have:=Yg b.es (YC cf xs) off hpl;rw[SO]at this;rw[this];exact d.fit o)
   (fun i j c C q W=>by
    have hspl:=xc b.es (YC cf xs) off i hpl;rw[SO]at hspl;rw[hspl]at q;rw[A];split at q
    ·rename_i hin;rw[hsg _ (by omega)]at q;injection q with q
     subst q;have J:j<k:=by have:=(zn.1 W).1;rw[B _ (vp I _)]at this;exact this
     obtain⟨u,T,L,q3,q4⟩:=l _ j C W;refine⟨u,?_,fun _=>q3,.c q3,q4⟩;obtain⟨i',rfl⟩:∃i',i=off+i':=⟨i-off,by omega⟩;have e1:off+i'-off=i':=by omega
     rw[e1]at L;have e2:(off+i')*k+j=off*k+(i'*k+j):=by rw[q7];omega
     have R:i'*k+j<n*k:=vO (by omega) J;have hcl:off*k+(i'*k+j)<N.size:=by rw[c2];have:=d.fit o;rw[A]at this;have h5:(off+n)*k<=b.es.length*k:=zY k X;rw[q7]at h5;omega
     rw[e2];unfold putCells;rw[Array.getElem?_mapIdx,QX hcl];simp only[zK,size_flatK,hds];rw[zd ⟨by omega,by omega⟩,show off*k+(i'*k+j)-off*k=i'*k+j by omega,get_flatK _ _ _ _ (by rw[hds];exact R)];have e3:(i'*k+j)/k=i':=by rw[zeN,Nat.mul_add_div h0,Nat.div_eq_of_lt J];rfl
     have e4:(i'*k+j) % k=j:=by rw[zeN,Nat.mul_add_mod,Nat.mod_eq_of_lt J]
     rw[e3,e4,List.getElem!_eq_getElem?_getD,L];rfl
    ·rename_i hin;obtain⟨u,T,L⟩:=c3 i j c C q W;refine⟨u,?_,L⟩;have J:j<k:=by have:=(zn.1 W).1;rw[d.len o c (zM q),A]at this;exact this
     unfold putCells;rw[Array.getElem?_mapIdx,T];simp only[zK,size_flatK,hds];rw[ze];rintro⟨a1,a2⟩;apply hin;constructor
     ·apply Nat.not_lt.1;intro R;have:(i+1)*k<=off*k:=zY k R;rw[q7]at this;omega
     ·apply Nat.not_le.1;intro hle;have:(off+n)*k<=i*k:=zY k hle;rw[q7]at this;omega)
  rw[<-Yi V k w _ _ _ c1]at D6;exact D6.trans (vA.grown D6.inv (V2 V k w (G id).g (off*k) m (Qs cf xs) D))
 ·cases h
end
end Go.AM
namespace Go.AM
variable{dr:Prop}
def sP(P:Program)(f e s by_:Nat):Prop:=
 (∀w,Calls P f #[.slice none 0 0,.int .i64 0] w fun r w'=>r=.returned (.slice none 0 0)/\w'=w) /\
 ∀(n:Nat) (w:World),0<n->n*by_<=140737488355328->n<=4611686018427387904->Calls P f #[.slice none 0 0,.int .i64 n] w fun r w'=>
  ∃cap a,cap<=maxLen/\a.size=cap*s/\r=.returned (.slice (some ⟨w.heap.size,0,none⟩) 0 cap)/\w'=w.drew.alloc (.cells a e)
theorem sP.of{P:Program}{c:Go.Shelf.Ren}(L:Lays8.n4 P c){s by_:Nat}{z:zb}(hs:qF P (c.t 25)=some s)(d:j7 P (c.t 25)=some by_)(j:yN P (c.t 25)=some z)(k:z.length=s)(u:0<s):sP P (c.f 4) (c.t 25) s by_:=by
 obtain⟨i,v,hi,l,m⟩:=Q5 j;obtain⟨i',b,o⟩:=Jo hs;rw[hi]at b;injection b with b;subst b;have e:i.bytes=by_:=by unfold j7 at d;rw[hi]at d;simpa using d
 have g:v.cells.size=s:=by have:=(jJ (w:=default) (S:=fun _=>False) m).1;rw[k]at this;simpa using this.symm
 refine⟨fun w=>Any8.slices_Grow_room L none 0 0 0 w (by omega) (by omega) (by omega) (by omega),fun n w x d y=>?_⟩;refine(Any8.slices_Grow_grow L i v hi l (by omega) none 0 0 n [] w (by omega) (by omega) (by rw[e];simpa using d) (by omega) (by simp) (fun _=>rfl) (fun a h=>(nomatch h))).mono fun r w' p=>?_
 obtain⟨rfl,rfl⟩:=p;rw[wJ]at *;have q:n<=grownCap w n 0 (c.t 25):=grownCap_ge _ _ _ _;refine⟨_,_,zb2 w n 0 (c.t 25) (by unfold maxLen;omega),?_,rfl,rfl⟩;rw[Wv,Wv,zb3,zb3,g];simp only[jY,ku,wJ,Nat.sub_zero];rw[<-q7];congr 1;omega
def cE(e s by_:Nat):AM.Spec:=fun args Y Z=>match args with
 |[.nil,.v (.int .i64 n)]=>if n=0 then some (.nil,Y,Z)else if 0<n/\n*by_<=140737488355328/\n<=4611686018427387904 then some (.own Z 0 0,qR Y Z (some ⟨e,s,true,[]⟩),Z+1)else none
 |_=>none
theorem lW{P:Program}{f e s by_:Nat}(k:∃fn,P.funcs[f]?=some fn/\(fn.name== "runtime.NumGoroutine")=false/\fn.body.isNone=false)(l:qF P e=some s)(g:0<s)(h:sP P f e s by_):xB dr P f (cE e s by_):=by
 refine⟨k,?_⟩;intro args Y Z r K L a w S G vs hi A;unfold cE at a;split at a
 ·rename_i n;obtain⟨u,us,rfl,B,d⟩:=A.kc;obtain⟨v,us,rfl,C,d⟩:=d.kc;obtain rfl:=d.YU;obtain rfl:=B.ZV;obtain⟨rfl,_⟩:=C.yq;split at a
  ·rename_i D;subst D;injection a with a
   injection a with o a;injection a with p q;subst o;subst p;subst q;refine(h.1 w).mono fun r w' t=>?_
   obtain⟨rfl,rfl⟩:=t;exact⟨_,_,_,rfl,.refl hi,.c .nil⟩
  ·split at a
   ·rename_i E y;injection a with a
    injection a with o a;injection a with p q;subst o;subst p;subst q;obtain⟨m,rfl⟩:∃m:Nat,n=m:=⟨n.toNat,by omega⟩;refine(h.2 m w (by omega) (Int.ofNat_le.1 (by rw[Int.natCast_mul];exact y.2.1)) (by have:=y.2.2;omega)).mono fun r w' t=>?_
    obtain⟨cap,b,F,H,rfl,rfl⟩:=t;have z:=vA.drew (dr:=dr) hi;obtain⟨i,x,j⟩:=Jo l;have I:=vA.alloc (dr:=dr) z.inv b e true [] s g (by rw[x];simp[j]) (by simp) (by simp) (by simp);refine⟨_,_,_,rfl,z.trans I,?_⟩;have:=qx.own (w:=w.drew.alloc (.cells b e)) (S:=S) (G:=qR G Z ⟨w.drew.heap.size,b.size,s⟩) (Z:=Z+1) (id:=Z) (off:=0) (n:=0) (cap:=cap) (by omega) (by omega) F (by rw[yd];show(0+cap)*s=b.size;rw[H,wJ]) (by rw[yd];exact g);rw[yd]at this;have J:0*s=0:=zeQ s;simp only[J]at this;exact this
   ·cases a
 ·cases a
theorem wg.Yu{P:Program}{Y:Hp}{Z e s by_:Nat}{v:O}{xs:List zb}{ys:List zb}{z:zb}{t:TypeId}(h:wg Y Z e s v xs)(b:yg P t=some e)(hs:qF P e=some s)(c:j7 P e=some by_)(d:yN P e=some z)
  (a:z.length=s) (f:0<s) (g:xs.length+ys.length<=maxLen) (i:(xs.length+ys.length)*by_<=140737488355328) :
  ∃k l j,jU P Y Z t t v (.sl s ys)=some (k,l,j)/\wg l j e s k (xs++ys)/\Z<=j:=by
 rcases h with⟨rfl,rfl⟩|⟨id,hid,rfl,n⟩
 ·simp at g i;by_cases m:ys=[]
  ·subst m;exact⟨.nil,Y,Z,by simp[jU,b,hs,c,d,a,f,AM.view,maxLen],.inl ⟨rfl,rfl⟩,zl _⟩
  ·exact⟨.own Z 0 ys.length,_,Z+1,by simp[jU,b,hs,c,d,a,f,g,i,AM.view,m];rfl,.inr ⟨Z,by omega,by simp,by simp⟩,by omega⟩
 ·exact⟨.own Z 0 (xs.length+ys.length),_,Z+1,by simp[jU,b,hs,c,d,a,f,g,i,AM.view,n];rfl,.inr ⟨Z,by omega,by simp,by simp⟩,by omega⟩
variable{dr:Prop}
section
variable{C:Ctx}{pf:FuncId->Bool}{N:Nat}
def Wp(dr:Prop)(C:Ctx)(N:Nat)(c:Code)(st:St)(K:Exit->St->Prop):Prop:=
 ∀(d:World) (g L:Nat->Prop) (Z0:Nat) (h:Nat->GI) (f:Nat) (a:Act) (w:World) (Q:Exit->Act->World->Prop),f<=d.heap.size->nF dr C.P d g L N Z0 h f st a w ->
  (∀e b i w',K e b->nF dr C.P d g L N Z0 h f b i w'->Q e i w')->c.wpIn Fence.wide 0 C.P Q a w
theorem Wp.of(b:Qn dr C pf){c:Code}{st:St}{K:Exit->St->Prop}(f:xC pf C.dyn C.S6 C.bk N c=true)(h:ZY C c st K):Wp dr C N c st K:=by obtain⟨e,d,i,j⟩:=h;intro k l L Z0 m n a w Q o hs p;exact oK b.spec b.quiet b.box b.iter b.mixed c f Fence.wide 0 (.inl rfl) (.inl rfl) k l L Z0 m n st d e a w Q o i hs fun q w' g=>p e d q w' j g
theorem Wp.mono{c:Code}{st:St}{K f:Exit->St->Prop}(h:Wp dr C N c st K)(g:∀e b,K e b->f e b):Wp dr C N c st f:=
 fun i j L Z0 k l a w Q m hs n=>h i j L Z0 k l a w Q m hs fun e b o w' d=>n e b o w' (g e b d)
def EM(dr:Prop)(C:Ctx)(N:Nat)(y:Code)(K:Exit->St->Prop)(e:Exit)(st:St):Prop:=match e with
 | .normal=>Wp dr C N y st K
 |e=>K e st
theorem Wp.seq{x y:Code}{st:St}{K:Exit->St->Prop}(h:Wp dr C N x st (EM dr C N y K)):Wp dr C N (.seq x y) st K:=by
 intro c d L Z0 f g a w Q i hs j;refine wpIn_seq (h c d L Z0 f g a w _ i hs fun e l m w' k b=>?_);cases e<;>first
  |exact k c d L Z0 f g m w' Q i b j
  |exact j _ _ _ _ k b
theorem Wp.block{id:Nat}{b:Code}{st:St}{K:Exit->St->Prop}(h:Wp dr C N b st (YX id K)):Wp dr C N (.block id b) st K:=by
 intro j k L Z0 l m a w Q n hs f;refine wpIn_block (h j k L Z0 l m a w _ n hs fun e o p w' d c=>?_);cases e with
 |exit i=>
  unfold YX at d;unfold Exit.inBlock;simp only at d⊢;split at d
  ·rename_i g;rw[zd g];exact f _ _ _ _ d c
  ·rename_i g;rw[ze g];exact f _ _ _ _ d c
 |_=>exact f _ _ _ _ d c
def BS(I:Nat->St->Prop)(n:Nat)(K:Exit->St->Prop)(e:Exit)(st:St):Prop:=match e with
 | .normal=>∃m,m<n/\I m st
 |e=>K e st
theorem Wp.loop{b:Code}{st:St}{K:Exit->St->Prop}(I:Nat->St->Prop)(n:Nat)(p:I n st)(h:∀n st,I n st->Wp dr C N b st (BS I n K)):Wp dr C N (.loop b) st K:=by
 intro i j L Z0 l o a w Q q hs r;refine wpIn_loop_rounds (n+1) ?_;have f:∀(k n:Nat) (st:St) (a:Act) (w:World),n<k->I n st->nF dr C.P i j L N Z0 l o st a w->Code.roundsIn Fence.wide 0 C.P b Q k a w:=by
  intro k
  induction k with
  |zero=>intro n st a w s;omega
  |succ k t=>
   intro n st a w s hi hs;rw[roundsIn_succ];refine h n st hi i j L Z0 l o a w _ q hs fun e g u w' c d=>?_
   cases e with
   |normal=>obtain⟨m,x,v⟩:=c;exact t m g u w' (by omega) v d
   |_=>exact r _ _ _ _ c d
 exact f _ n st a w (by omega) p hs
def Jl(dr:Prop)(C:Ctx)(N:Nat)(c:Array Oper)(l:List Nat)(st:St)(K:St->Prop):Prop:=
 ∀(d:World) (e L:Nat->Prop) (Z0:Nat) (f:Nat->GI) (g:Nat) (a:Act) (w:World) (Q:Exit->Act->World->Prop),nF dr C.P d e L N Z0 f g st a w ->
  (∀b h w',K b->nF dr C.P d e L N Z0 f g b h w'->Q .normal h w')->wpOpsIn Fence.wide 0 C.P c Q l a w
theorem Wp.region{id:Nat}{b:Array Oper}{st:St}{K:Exit->St->Prop}(h:Jl dr C N b (List.range b.size) st (K7 K)):Wp dr C N (.region id b false) st K:=
 fun e f L Z0 g i a w Q _ hs j=>wpIn_region (h e f L Z0 g i a w Q hs fun c k w' l d=>j .normal c k w' l d)
theorem Jl.nil{b:Array Oper}{st:St}{K:St->Prop}(h:K st):Jl dr C N b [] st K:=fun d e L Z0 f g a w Q hs c=>c st a w h hs
theorem Jl.cons(M:Qn dr C pf){k:Array Oper}{i:Nat}{o:Oper}{l:List Nat}{st q:St}{K:St->Prop}(P:k[i]?=some o)(hd:∀d,o.dst=some d->d<N)(j:jf C k o st=some q)(h:Jl dr C N k l q K):Jl dr C N k (i::l) st K:=by
 intro r s L Z0 t u a w Q hs z;simp only[wpOpsIn,P];obtain⟨S,G,m⟩:=hs;unfold jf at j;rw[K8 m.xO];split at j
 ·rename_i A;rw[zd A];split at j
  ·rename_i x Y Z n;injection j with j
   subst j;have B:∀c,o.op≠.defer c:=by intro c D;rw[D]at n;simp[qf]at n
   refine⟨fun f _=>trivial,?_⟩;rw[zhP _ _ _ B];have E:=eC M.spec m.inv (a:=a.eval) (fun y W R=>Q4 m.xO R) (o:=o) n;rcases E with⟨v,w',F,H,p,I,J⟩|⟨g,vs,p,D⟩
   ·have b:=h r s L Z0 t u _ w' Q ⟨F,H,m.step I J hd⟩ z;rcases p with p|⟨p,rfl⟩
    ·rw[p];exact b
    ·rw[p];exact b
   ·rw[p];refine⟨fun h=>by simp[Fence.wide]at h,sM.2 (D.mono fun e w' T=>?_)⟩;obtain⟨v,F,H,rfl,I,J⟩:=T;exact h r s L Z0 t u _ w' Q ⟨F,H,m.step I J hd⟩ z
  ·cases j
 ·rename_i A;rw[ze A];injection j with j
  subst j;exact⟨fun f _=>trivial,h r s L Z0 t u _ w Q ⟨S,G,m.step (.refl m.inv) kv hd⟩ z⟩
end
section
variable{P:Program}{w:World}{S:Nat->Prop}{G:Nat->GI}{Y:Hp}{Z:Nat}
theorem EN(hi:Inv P w S G Y Z){t ty e:TypeId}{n by_ id off k:Nat}{b:kV}{ys:List zb}{z:zb}{u v:Value}
  (ht:yg P t=some e) (h1:qF P e=some n) (h2:j7 P e=some by_) (h3:yN P e=some z) (hn:0<n) (hzl:z.length=n) (hb:Y id=some b) (hba:b.arr=true) (hbe:b.e=e) (hk:off+k=b.es.length)
  (hl1:k+ys.length<=maxLen) (hl2:(k+ys.length)*by_<=140737488355328) (hs:qx w S G Z (.own id off k) u) {x:O} (hv:AM.view Y n x=some ys) (hx:qx w S G Z x v) :
  ∃r w' es' L G',(Builtin.append_ #[t,t] ty #[u,v]).run P w=.ok r w'/\(es'=b.es++ys/\L=off\/es'=b.es.drop off++ys/\L=0) /\
   vA dr P Y Z S G w (qR (qR Y id none) Z (some ⟨e,n,true,es'⟩)) (Z+1) S G' w'/\qx w' S G' (Z+1) (.own Z L (k+ys.length)) r:=by
 obtain⟨i,vz,i1,i2,i3⟩:=Q5 h3;have X:i.size=n:=by simpa[qF,i1]using h1
 have hby:i.bytes=by_:=by simpa[j7,i1]using h2
 have hzl':=(jJ (w:=w) (S:=S) i3).1;have hzc:vz.cells.size=n:=by rw[<-hzl,hzl'];simp
 have hu:=vM ht;have S7:=hs.Za;obtain⟨cap,g1,g2,g3,g4,rfl⟩:=hs.xA;have hbr:=hi.live id b hb;obtain⟨o,q1,q2,q3⟩:=hbr.row S7;have hsb:(G id).s=n:=by
  have h5:=hbr.size S7;rw[hbe]at h5;have h6:(P.info? e).map (·.size)=some n:=by simpa[qF]using h1
  rw[h6]at h5;injection h5 with h5
  exact h5.symm
 rw[hsb]at g4 q3⊢;rw[hbe]at q1;obtain⟨A,c,f,rfl,f1,f2⟩:=VP hi hv hx;have hff:=bo hn f1 f2;have hl:((List.range (ys.length*n)).map f).length=ys.length*n:=by simp
 obtain⟨a,q⟩:=exI ((List.range (ys.length*n)).map f);have hone:∀u∈a,u.oneCell'=true:=fun u hu=>by rw[<-q]at hu;obtain⟨k,hk,rfl⟩:=wA.1 hu;exact(hff k (jo.1 hk)).choose_spec.2.2
 have M:∀j u,a[j]?=some u->∃ad,A=some ad/\w.cell? (ad.add j)=some u:=fun j u p=>by
  have hjl:j<ys.length*n:=by rw[<-hl,q];exact(zn.1 p).1
  obtain⟨ad',e1,e2,_⟩:=hff j hjl;rw[<-q,qQ,v8 hjl]at p;simp at p;exact⟨ad',e1,by rw[e2,p]⟩
 have SN:∀(i' j:Nat) (m:zb) (K:O),ys[i']?=some m->m[j]?=some K->∃W,a[i'*n+j]?=some W/\jN w S G Z true K W:=fun i' j m K d p=>by
  obtain⟨ad',a1,a2,a3⟩:=f2 i' j m K d p;have F:j<n:=by rw[<-f1 m (zM d)];exact(zn.1 p).1
  have J:=vO (n:=ys.length) (zn.1 d).1 F;exact⟨f (i'*n+j),by rw[<-q,qQ,v8 J];rfl,a3⟩
 rw[q]at hl;have N:Src P i.size t (.slice A ys.length c) ys.length a w:=by
  cases A with
  |some ad=>exact Src.ofSlice w hu ad _ c a (by rw[X];exact hl) (fun j u p=>by obtain⟨ad',e1,e2⟩:=M j u p;injection e1 with e1;subst e1;exact e2) hone
  |none=>
   have hnil:a=[]:=by
    cases a with
    |nil=>rfl
    |cons u r=>obtain⟨_,e1,_⟩:=M 0 u rfl;cases e1
   have hm0:ys.length=0:=by
    rw[hnil]at hl;rcases Nat.eq_zero_or_pos ys.length with h|h
    ·exact h
    ·have:=Nat.mul_pos h hn;simp at hl;omega
   rw[hnil,hm0];exact Src.ofNil w hu c
 have hoz:o.size=off*n+cap*n:=by rw[q2,<-g4,q7]
 have hkz:k*n<=cap*n:=zY _ g2;have zcb:b.es.length*n=off*n+k*n:=by rw[<-hk,q7]
 have hsub:∀id' C,qR Y id none id'=some C->Y id'=some C:=fun id' C h=>Yv h
 have hnl:∀id' C,qR Y id none id'=some C->(G id').g≠(G id).g:=fun id' C h he=>by
  have hne:id'≠id:=by rintro rfl;simp at h
  exact hne (hi.inj id' id C b (Yv h) hb he)
 have B:∀m∈b.es,m.length=n:=fun m Q=>by rw[<-hsb];exact hbr.len S7 m Q
 by_cases H:k+ys.length<=cap
 ·have hmz:k*n+ys.length*n<=cap*n:=by rw[<-q7];exact zY _ H
  obtain⟨y,I⟩:=exI ((o.toList.take (off*n+k*n)++a++o.toList.drop (off*n+k*n+a.length)).toArray);have D6:=run_storeCells_at P (G id).g (off*n+k*n) e a 0 o w q1 (by rw[hl];omega) hone;simp only[Wt]at D6;rw[I]at D6;have hcl:y.size=o.size:=by rw[<-I];simp[hl];omega
  have D:(Builtin.append_ #[t,t] ty #[.slice (some ⟨(G id).g,off*n,none⟩) k cap,.slice A ys.length c]).run P w=.ok (.slice (some ⟨(G id).g,off*n,none⟩) (k+ys.length) cap) (w.setRow (G id).g y):=by have B:=N.len;have l:=N.cells;rw[X]at l;simp[Builtin.append_,zO hu,sizeOf,typeInfo,i1,B,H,X,l,kq,D6]
  have zk7:(b.es++ys).length*n<=(G id).z:=by rw[qt,q7,zcb,<-q2,hoz];omega
  have k2:=vA.Bc (dr:=dr) (w':=w.setRow (G id).g y) (Y1:=qR Y id none) hi hsub ⟨(G id).g,(G id).z,n⟩ e true (b.es++ys) y rfl rfl rfl (by simp[World.setRow]) (zl _)
   (fun C=>C=(G id).g) (fun C R=>by subst R;exact⟨⟨id,b,hb,rfl⟩,hi.apart id b hb,hnl⟩)
   (fun C _ hne _=>setRow_other w _ _ _ hne) hnl (hi.apart id b hb) (.inl ⟨id,b,hb,rfl⟩) hn (by simpa[qF]using h1)
   (fun m Q=>by
    rcases qg.1 Q with h|h
    ·exact B m h
    ·exact f1 m h)
   zk7 (setRow_heap w _ o _ _ _ q1) (hcl.trans q2) (fun i' j m K d p=>by
    show∃u,y[i'*n+j]?=some u/\jN w S G Z true K u;have T:m.length=n:=by
     rcases qg.1 (zM d)with h|h
     ·exact B m h
     ·exact f1 m h
    have F:j<n:=by rw[<-T];exact(zn.1 p).1
    have ht0:(o.toList.take (off*n+k*n)).length=off*n+k*n:=by simp;omega
    have hto:∀x:Nat,y[x]?=(o.toList.take (off*n+k*n)++(a++o.toList.drop (off*n+k*n+a.length)))[x]?:=fun x=>by rw[<-I,qT];simp
    by_cases hik:i'<b.es.length
    ·have J:=vO (n:=b.es.length) hik F;rw[qp hik]at d;obtain⟨W,u1,u2⟩:=q3 i' j m K d p;rw[hba]at u2;exact⟨W,by rw[hto,qp (by omega),qN,zd (by omega)];simpa using u1,u2⟩
    ·rw[z8 (by omega)]at d;have hge:b.es.length*n<=i'*n:=zY _ (by omega);have hil:=(zn.1 d).1;have J:=vO (n:=ys.length) hil F;obtain⟨W,u1,u2⟩:=SN _ j m K d p;refine⟨W,?_,u2⟩;have hkk:i'*n+j-(off*n+k*n)=(i'-b.es.length)*n+j:=by rw[Nat.sub_mul];omega
     rw[hto,z8 (by omega),ht0,hkk,qp (by omega)];exact u1)
  refine⟨_,_,b.es++ys,off,_,D,.inl ⟨rfl,rfl⟩,k2,?_⟩;have:=qx.own (w:=w.setRow (G id).g y) (S:=S) (G:=qR G Z ⟨(G id).g,(G id).z,n⟩) (Z:=Z+1) (id:=Z) (off:=off) (n:=k+ys.length) (cap:=cap) (by omega) H g3 (by simpa using g4) (by simpa using hn);simpa using this
 ·obtain⟨olds,hol⟩:=exI ((o.toList.drop (off*n)).take (k*n));have E:olds.length=k*n:=by rw[<-hol];simp;omega
  have hget:∀j,j<k*n->olds[j]?=o[off*n+j]?:=fun j p=>by rw[<-hol,qN,zd p,wc];simp
  have D:=run_append_grow_src (P:=P) w t t ty e i vz hu i1 i2 (some ⟨(G id).g,off*n,none⟩) k cap olds
   (by
    rw[X];refine run_firstCells_some w.drew n k ⟨(G id).g,off*n,none⟩ k cap olds E fun j u p=>?_
    have hjl:j<k*n:=by rw[<-E];exact(zn.1 p).1
    rw[hget j hjl]at p;rw[kq];exact(zga w _ _ o _ _ q1).trans p)
   (.slice A ys.length c) ys.length a N (by omega) (by unfold maxLen at hl1;omega) (growslice_fits (by omega) (by rw[hby];exact hl2))
  obtain⟨gc,hgc⟩:=exI (grownCap w (k+ys.length) cap e);rw[hgc]at D;have hge:k+ys.length<=gc:=by rw[<-hgc];exact grownCap_ge w _ _ e
  have hgm:gc<=maxLen:=by rw[<-hgc];exact zb2 w _ _ e hl1
  obtain⟨cells,l⟩:=exI ((olds++a).toArray++Builtin.zeroCells vz.cells (gc-(k+ys.length)));rw[l]at D;have hcs:cells.size=gc*n:=by rw[<-l,Wv,zb3,hzc];simp only[jY,qt,E,hl];rw[<-q7,<-q7];congr 1;omega
  have hcg:∀j,j<(k+ys.length)*n->cells[j]?=(olds++a)[j]?:=fun j p=>by rw[<-l,vZ (by simp[E,hl];rw[<-q7];exact p)];simp
  have k2:=vA.Bc (dr:=dr) (w':=w.drew.alloc (.cells cells e)) (Y1:=qR Y id none) hi hsub ⟨w.heap.size,cells.size,n⟩ e true (b.es.drop off++ys) cells rfl rfl rfl (by simp) (Ws _)
   (fun C=>C=(G id).g) (fun C R=>by subst R;exact⟨⟨id,b,hb,rfl⟩,hi.apart id b hb,hnl⟩)
   (fun C R hne _=>Below.heap_alloc w.drew _ C R) (fun id' C h=>Nat.ne_of_lt (hi.live id' C (Yv h)).lt) (fun hS=>by have:=hi.st _ hS;simp at this) (.inr (zl _)) hn (by simpa[qF]using h1)
   (fun m Q=>by
    rcases qg.1 Q with h|h
    ·exact B m (YP _ _ h)
    ·exact f1 m h)
   (by rw[qt,nE,hcs];exact zY _ (by omega)) (heap_alloc_new w.drew _) rfl (fun i' j m K d p=>by
    show∃u,cells[i'*n+j]?=some u/\jN w S G Z true K u;have T:m.length=n:=by
     rcases qg.1 (zM d)with h|h
     ·exact B m (YP _ _ h)
     ·exact f1 m h
    have F:j<n:=by rw[<-T];exact(zn.1 p).1
    have hil:=(zn.1 d).1;rw[qt,nE]at hil;have J:i'*n+j<(k+ys.length)*n:=vO (by omega) F;by_cases hik:i'<k
    ·have hlt':=vO (n:=k) hik F;rw[qp (by rw[nE];omega),wc]at d;obtain⟨W,u1,u2⟩:=q3 (off+i') j m K d p;rw[hba]at u2;refine⟨W,?_,u2⟩;rw[hcg _ J,qp (by omega),hget _ hlt',<-u1,q7,nZ]
    ·rw[z8 (by rw[nE];omega),nE]at d;have hge':k*n<=i'*n:=zY _ (by omega);obtain⟨W,u1,u2⟩:=SN _ j m K d p;refine⟨W,?_,u2⟩;have hkk:i'*n+j-k*n=(i'-(b.es.length-off))*n+j:=by rw[show b.es.length-off=k from by omega,Nat.sub_mul];omega
     rw[hcg _ J,z8 (by omega),E,hkk];exact u1)
  refine⟨_,_,b.es.drop off++ys,0,_,D,.inr ⟨rfl,rfl⟩,k2,?_⟩;have:=qx.own (w:=w.drew.alloc (.cells cells e)) (S:=S) (G:=qR G Z ⟨w.heap.size,cells.size,n⟩) (Z:=Z+1) (id:=Z) (off:=0) (n:=k+ys.length) (cap:=gc) (by omega) hge hgm (by simp[hcs]) (by simpa using hn);simpa using this
end
section
variable{C:Ctx}{pf:Nat->Bool}{f:FuncId}{fn:Func}{code:Code}
theorem EO{st:St}{a:Act}{w:World}{S:Nat->Prop}{G:Nat->GI}(hi:Inv C.P w S G st.Y st.Z)(f:∀t,qx w S G st.Z (st.U t) (a.tmps.getD t undef)){r:O}(h:ZC C.P fn st=some r):∃v,(results fn a.tmps).run C.P w=.ok v w/\qx w S G st.Z r v:=by
 unfold ZC at h;have k:∀xs,yF (fn.results.toList.map (Jn C.P st))=some xs->r=(match xs with|[x]=>x|xs=>.wY xs)->∃v,(results fn a.tmps).run C.P w=.ok v w/\qx w S G st.Z r v:=by
  intro xs g b;obtain⟨us,m,c⟩:=KL hi f g;have e:(results fn a.tmps).run C.P w=.ok (if h:us.toArray.size=1 then us.toArray[0]else .tuple us.toArray) w:=by unfold results;rw[Array.mapM_eq_mapM_toList];simp only[xL,Sem.run_map];erw [m];rfl
  refine⟨_,e,?_⟩
  match xs,c,b with
  |[],c,b=>rw[c.YU];subst b;exact .wY rfl (by simp)
  |[y],c,b=>obtain⟨u,rfl,i⟩:=Jr c;subst b;simpa using i
  |y::z::ys,c,b=>have l:=c.1;subst b;rw[dif_neg (by simp at l⊢;omega)];exact .wY (by simpa using l) (fun j n u o i=>c.2 j n u o (by simpa using i))
 split at h
 ·rename_i y p;injection h with h
  exact k [y] p h.symm
 ·rename_i xs d g;injection h with h
  refine k xs g ?_;rw[<-h]
  match xs,d with
  |[],_=>rfl
  |[y],d=>exact(d y rfl).elim
  |y::z::ys,_=>rfl
 ·cases h
theorem EP(y:gD C pf f fn code){args:zb}{Y:Hp}{Z:Nat}{R:O->Hp->Nat->Prop}(hW:Wp dr C fn.ntmps code ⟨vn args,Y,Z⟩ (VS C.P fn R))
  {w:World} {S:Nat->Prop} {G:Nat->GI} {vs:List Value} (hi:Inv C.P w S G Y Z) (z:Zip (qx w S G Z) args vs) (hn:args.length<=fn.ntmps) :
  Calls C.P f vs.toArray w fun e w'=>∃x p l v d g,R x p l/\e=.returned v/\vA dr C.P Y Z S G w p l d g w'/\qx w' d g l x v:=by
 refine sM.1 (callsIn_of_wp_marks (n:=0) y.func y.body trivial ?_);have q:nF dr C.P w S (vo Y G) fn.ntmps Z G w.heap.size ⟨vn args,Y,Z⟩ {tmps:=vs.toArray++Array.replicate (fn.ntmps-vs.toArray.size) undef,defers:=[]} w:=by
  refine⟨S,G,hi,fun t=>?_,?_,.nil (zl _),fun _ h=>h,fun _ h=>.inl h,fun id b i=>.inl ⟨id,b,i,rfl⟩,Fr.refl _ _,zl _,fun _ _=>rfl⟩
  ·have A:vs.length=args.length:=z.1.symm;unfold vn;by_cases ht:t<args.length
   ·have o:args[t]?=some args[t]:=zq ht;have T:vs[t]?=some (vs[t]'(by omega)):=zq (by omega);have h3:=z.2 t _ _ o T;have B:(vs.toArray++Array.replicate (fn.ntmps-vs.toArray.size) undef)[t]?=vs[t]?:=by rw[vZ (by simpa using(by omega:t<vs.length))];simp
    simp only[o,YS];rw[KF,B,T];exact h3
   ·have o:args[t]?=none:=wP (by omega);have B:(vs.toArray++Array.replicate (fn.ntmps-vs.toArray.size) undef).getD t undef=undef:=by rw[KF,Array.getElem?_append_right (by simpa using(by omega:vs.length<=t)),Array.getElem?_replicate];split<;>rfl
    simp only[o,Option.getD_none];rw[B];exact kv
  ·have A:vs.length=args.length:=z.1.symm;simp;omega
 refine hW w S (vo Y G) Z G w.heap.size _ w _ (zl _) q fun e st E W c F=>?_
 obtain⟨d,g,a⟩:=F;obtain⟨hd0,X,H,I,j⟩:=a.defers;have J:(e=.normal\/e=.ret)/\∃r,ZC C.P fn st=some r/\R r st.Y st.Z:=by
  cases e<;>first
   |exact⟨.inl rfl,c⟩
   |exact⟨.inr rfl,c⟩
   |exact c.elim
 obtain⟨J,r,K,hR⟩:=J;have s:LeavesInM Fence.wide 0 C.P fn E.tmps (fun e w'=>∃x p l v d g,R x p l/\e=.returned v/\vA dr C.P Y Z S G w p l d g w'/\qx w' d g l x v) E.defers .returning W:=by
  rw[H];refine VT (dr:=dr) X W I (fun D hD=>(j D hD).2.1) fun w' m=>?_
  have u:∀b,b∈X->cp d g st.Y b:=fun b i=>⟨(j b i).2.2.1,(j b i).2.2.2⟩
  have k:=a.inv.frame m u;have L:∀t,qx w' d g st.Z (st.U t) (E.tmps.getD t undef):=fun t=>(a.xO t).mono (fun b i=>⟨i,m.block b (a.inv.st b i) fun M=>(u b M).1 i⟩) (zl _) (fun _ _=>rfl)
  have y:vA dr C.P Y Z S G w st.Y st.Z d g w':=⟨k,a.up,a.loc,a.s0,a.s1,a.own,a.fr.trans m fun b i o=>by have:=(j b o).1;omega⟩;obtain⟨v,N,Q⟩:=EO k L K;exact⟨v,N,r,_,_,v,d,g,hR,rfl,y,Q⟩
 rcases J with rfl|rfl
 ·exact s
 ·exact s
theorem eN(p:gD C pf f fn code)(i:Bool)(Q:List Nat)(F:zb->Option O)(hF:∀args r,F args=some r->args.length<=fn.ntmps/\Wp dr C fn.ntmps code ⟨vn args,fun _=>none,0⟩ (VS C.P fn (al r))):xB dr C.P f (zf i Q F):=by
 refine⟨⟨fn,p.func,p.name,by rw[p.body];rfl⟩,?_⟩;intro args Y Z r Y' Z' h w S G vs hi R;unfold zf at h;split at h
 ·rename_i T Y1 s;split at h
  ·rename_i W t;obtain⟨X,hW⟩:=hF _ W t;obtain⟨S1,q,u,y⟩:=kx (dr:=dr) hi s R;refine(EP p hW (gU (fun _=>⟨0,0,0⟩) q.inv.st q.inv.oa) (YA u).closed X).mono fun e w' hh=>?_
   obtain⟨x,hpe,nxe,v,S',G',⟨r1,j,z⟩,L,k,hx⟩:=hh;have M:Fr dr w (fun _=>False) w':=⟨k.fr.os,k.fr.tape,k.fr.output,k.fr.size,k.fr.drawn,fun b d _=>k.fr.block b d WQ⟩;obtain⟨⟨r2,hpf⟩,A,l⟩:=qh j;simp only at l;subst l;obtain⟨S2,N,B⟩:=Jp (dr:=dr) k.inv A hx;have D:=dd B z;have m:∀b,S2 b->S1 b\/(w.heap.size<=b/\b<w'.heap.size):=by
    intro b d;have n:=N.inv.st b d;rcases N.from_ b d with h1|⟨id,blk,h1,rfl⟩|h1
    ·rcases k.from_ b h1 with a|a|a
     ·exact .inl a
     ·exact(WQ a).elim
     ·exact .inr ⟨a,n⟩
    ·rcases k.own id blk h1 with a|a
     ·exact(WQ a).elim
     ·exact .inr ⟨a,n⟩
    ·exact absurd h1 (by omega)
   split at h
   ·rename_i g;injection h with h
    injection h with E h;injection h with H I;subst E;subst H;subst I;refine⟨v,_,G,L,vA.outer hi M,.c ?_⟩;rcases g with J|K
    ·exact oM D J
    ·have o:=y K;exact D.mono fun b d=>⟨by rw[<-o];exact m b d,rfl⟩
   ·split at h
    ·injection h with h;injection h with E h;injection h with H I;subst E;subst H;subst I;exact⟨v,_,G,L,q.trans (vA.outer q.inv M),.c (D.mono fun b d=>⟨m b d,rfl⟩)⟩
    ·cases h
  ·cases h
 ·cases h
end
variable{dr:Prop}
section
variable{C:Ctx}{pf:FuncId->Bool}{N:Nat}
@[simp]theorem NG(y:Code)(K:Exit->St->Prop)(st:St):EM dr C N y K .normal st=Wp dr C N y st K:=rfl
@[simp]theorem zmk(y:Code)(K:Exit->St->Prop)(st:St):EM dr C N y K .ret st=K .ret st:=rfl
@[simp]theorem zml(y:Code)(K:Exit->St->Prop)(i:Nat)(st:St):EM dr C N y K (.exit i) st=K (.exit i) st:=rfl
@[simp]theorem zkh(I:Nat->St->Prop)(n:Nat)(K:Exit->St->Prop)(st:St):BS I n K .normal st=∃m,m<n/\I m st:=rfl
@[simp]theorem zki(I:Nat->St->Prop)(n:Nat)(K:Exit->St->Prop)(st:St):BS I n K .ret st=K .ret st:=rfl
@[simp]theorem zkj(I:Nat->St->Prop)(n i:Nat)(K:Exit->St->Prop)(st:St):BS I n K (.exit i) st=K (.exit i) st:=rfl
theorem Wp.cut(f:Qn dr C pf){a b:Code}{st:St}{K:Exit->St->Prop}(Q:(Nat->O)->Hp->Nat->Prop)(c:xC pf C.dyn C.S6 C.bk N a=true)(g:ZY C a st (La (fun st=>Q st.U st.Y st.Z) K))(h:∀U Y Z,Q U Y Z->Wp dr C N b ⟨U,Y,Z⟩ K):Wp dr C N (.seq a b) st K:=
 Wp.seq ((Wp.of f c g).mono fun e i d=>by
  cases e<;>first
   |exact h _ _ _ d
   |exact d)
theorem Wp.any{c:Code}{st:St}{K:Exit->St->Prop}(Q:(Nat->O)->Hp->Nat->Prop)(a:Q st.U st.Y st.Z)(h:∀U Y Z,Q U Y Z->Wp dr C N c ⟨U,Y,Z⟩ K):Wp dr C N c st K:=h _ _ _ a
theorem uQ{a:Array Oper}{K:St->Prop}(g:Qn dr C pf):∀{l:List Nat} {c:List Oper} {l2:List Nat} {st b:St},l.map (fun i=>a[i]?)=c.map some->(∀o∈c,∀d,o.dst=some d->d<N)->Zc C a c st=some b->Jl dr C N a l2 b K->Jl dr C N a (l++l2) st K
 |[],[],l2,st,b,_,_,h,e=>by simp only[Zc]at h;injection h with h;subst h;exact e
 |[],_::_,_,_,_,h,_,_,_=>by simp at h
 |_::_,[],_,_,_,h,_,_,_=>by simp at h
 |i::l,o::c,l2,st,b,f,hd,h,e=>by
  simp only[wD,zh]at f;simp only[Zc]at h;split at h
  ·rename_i s hs;exact Jl.cons g f.1 (hd o (by simp)) hs (uQ g f.2 (fun o j=>hd o (by simp[j])) h e)
  ·cases h
theorem Jl.pre(f:Qn dr C pf){a:Array Oper}{l l2:List Nat}{c:List Oper}{st:St}{K:St->Prop}(g:l.map (fun i=>a[i]?)=c.map some)(hd:c.all (fun o=>match o.dst with|some d=>decide (d<N)|none=>true)=true)(h:uG C a c st fun b=>Jl dr C N a l2 b K):Jl dr C N a (l++l2) st K:=by
 obtain⟨b,j,k⟩:=h;exact uQ f g (fun o m d e=>by have:=ql.1 hd o m;rw[e]at this;simpa using this) j k
theorem Jl.XY(g:Qn dr C pf){c:Array Oper}{l2:List Nat}{st:St}{K:St->Prop}(a b:Nat)(k:a+b<=c.size)(hd:c.toList.all (fun o=>match o.dst with|some d=>decide (d<N)|none=>true)=true)(h:uG C c ((c.toList.drop a).take b) st fun f=>Jl dr C N c l2 f K):Jl dr C N c (List.range' a b++l2) st K:=by
 refine Jl.pre g ?_ ?_ h
 ·apply List.ext_getElem?;intro i;rw[qQ,qQ,qN];by_cases hi:i<b
  ·have e:(List.range' a b)[i]?=some (a+i):=by rw[List.getElem?_range' hi];simp
   rw[e,zd hi,wc];have:a+i<c.size:=by omega
   simp[this]
  ·rw[ze hi,wP (by simp;omega)];rfl
 ·exact ql.2 fun o j=>ql.1 hd o (YP _ _ (XB _ _ j))
theorem Jl.append{m:Array Oper}{i:Nat}{d:Tmp}{x y:Operand}{t ty:TypeId}{p:String}{J:Array Edge}{l:List Nat}{st:St}{K:St->Prop}{e:TypeId}{n by_ id off k:Nat}{b:kV}{v:O}{ys:List zb}{z:zb}
  (M:m[i]?=some ⟨some d,.call ⟨.builtin .append,#[x,y],#[t,t]⟩,ty,p,J,none⟩) (hd:d<N) (R:get st.U x=some (.own id off k)) (T:get st.U y=some v) (W:AM.view st.Y n v=some ys)
  (X:yg C.P t=some e) (h1:qF C.P e=some n) (h2:j7 C.P e=some by_) (h3:yN C.P e=some z) (hn:0<n) (u:z.length=n) (hb:st.Y id=some b) (A:b.arr=true) (B:b.e=e) (hk:off+k=b.es.length)
  (D:k+ys.length<=maxLen) (E:(k+ys.length)*by_<=140737488355328)
  (h:∀j g,(j=b.es++ys/\g=off\/j=b.es.drop off++ys/\g=0)->Jl dr C N m l ⟨qR st.U d (.own st.Z g (k+ys.length)),qR (qR st.Y id none) st.Z (some ⟨e,n,true,j⟩),st.Z+1⟩ K):Jl dr C N m (i::l) st K:=by
 intro w0 S0 L Z0 G0 n0 a w Q hs hQ;simp only[wpOpsIn,M];obtain⟨S,G,o⟩:=hs;rw[K8 o.xO,zd (Yz _ _ _ _ _ _)];have F:∀c,(Op.call ⟨.builtin .append,#[x,y],#[t,t]⟩:Op)≠.defer c:=fun c hc=>by cases hc
 refine⟨fun f _=>trivial,?_⟩;rw[zhP _ _ _ F];obtain⟨r,w',j,g,G',hr,he,H,I⟩:=EN (dr:=dr) (ty:=ty) o.inv X h1 h2 h3 hn u hb A B hk D E (Q4 o.xO R) W (Q4 o.xO T);have q:=h j g he w0 S0 L Z0 G0 n0 (a.put (some d) r) w' Q ⟨S,G',o.step (dst:=some d) H I (fun _ e=>by cases e;exact hd)⟩ hQ;have s:(execOp a.eval ⟨some d,.call ⟨.builtin .append,#[x,y],#[t,t]⟩,ty,p,J,none⟩).run C.P w=.ok (.value r) w':=by simp[execOp,resolve,invoke,builtin,hr,-bind_pure_comp]
 rw[s];exact q
@[simp]theorem znn(P:Program)(t:TypeId)(ad:Addr):VK P t (.v (.slice (some ad) 0 0))=(yg P t).map fun _=>.v (.int .i64 0):=rfl
theorem Le{P:Program}{w:World}{S:Nat->Prop}{G:Nat->GI}{Y:Hp}{Z:Nat}(hi:Inv P w S G Y Z){t e:TypeId}{n id off k:Nat}{b:kV}{u:Value}(m:P.underlying t=some (.slice e))(hs:qF P e=some n)(x:Y id=some b)(d:b.s=n)(B:0<k)(o:qx w S G Z (.own id off k) u) :
  ∃r v,(Instr.sliceAt t u (some (.int .i64 1)) none none).run P w=.ok v w/\qx w S G Z r v/\(r=.own id (off+1) (k-1)\/k=1/\∃ad,r=.v (.slice (some ad) 0 0)):=by
 have f:=o.Za;obtain⟨cap,y,z,C,A,rfl⟩:=o.xA;have a:=JN (P:=P) (w:=w) (S:=S) (G:=G) (Z:=Z) (isS:=true) (len:=k) (cap:=cap) (l:=1) (h:=k) (lo:=some (some (.v (.int .i64 1)))) (hi:=none) (vl:=some (.int .i64 1)) (vh:=none) rfl rfl (by omega) z (by simp) (fun p Y=>⟨_,rfl,by simp only[qj]at Y;subst Y;exact .c (.v rfl)⟩) (by simp) (fun _=>rfl) (by simp) (by simp);have i:(G id).s=n:=by rw[<-(hi.live id b x).bs,d]
 by_cases q:cap=1
 ·subst q;have j:k=1:=by omega
  subst j;exact⟨_,_,by simp[Instr.sliceAt,zO m,Instr.slice,a,yx hs];rfl,.c (.v rfl),.inr ⟨rfl,_,rfl⟩⟩
 ·refine⟨.own id (off+1) (k-1),.slice (some ⟨(G id).g,(off+1)*(G id).s,none⟩) (k-1) (cap-1),?_,.own y (by omega) (by omega) ?_ f,.inl rfl⟩
  ·simp[Instr.sliceAt,zO m,Instr.slice,a,yx hs,q,kq,i,q7]
  ·rw[show off+1+(cap-1)=off+cap from by omega];exact A
theorem Jl.slice{g:Array Oper}{i:Nat}{d:Tmp}{x:Operand}{t ty:TypeId}{p:String}{A:Array Edge}{l:List Nat}{st:St}{K:St->Prop}{e:TypeId}{n id off k:Nat}{b:kV}
  (D:g[i]?=some ⟨some d,.slice t x (some (.const (.int .i64 1))) none none,ty,p,A,none⟩) (hd:d<N) (E:get st.U x=some (.own id off k)) (F:C.P.underlying t=some (.slice e)) (hs:qF C.P e=some n) (H:st.Y id=some b) (q:b.s=n) (I:0<k)
  (h:∀r,(r=.own id (off+1) (k-1)\/k=1/\∃ad,r=.v (.slice (some ad) 0 0))->Jl dr C N g l ⟨qR st.U d r,st.Y,st.Z⟩ K):Jl dr C N g (i::l) st K:=by
 intro J M L Z0 R T a w Q u W;simp only[wpOpsIn,D];obtain⟨S,G,j⟩:=u;rw[K8 j.xO,zd (Yz _ _ _ _ _ _)];have y:∀c,(Op.slice t x (some (.const (.int .i64 1))) none none:Op)≠.defer c:=fun c X=>by cases X
 refine⟨fun f _=>trivial,?_⟩;rw[zhP _ _ _ y];obtain⟨r,v,B,z,he⟩:=Le j.inv F hs H q I (Q4 j.xO E);have m:=h r he J M L Z0 R T (a.put (some d) v) w Q ⟨S,G,j.step (dst:=some d) (.refl j.inv) z (fun _ e=>by cases e;exact hd)⟩ W;have o:(execOp a.eval ⟨some d,.slice t x (some (.const (.int .i64 1))) none none,ty,p,A,none⟩).run C.P w=.ok (.value v) w:=by simp[execOp,Act.eval,-bind_pure_comp]at B⊢;simp[B]
 rw[o];exact m
theorem Po{P:Program}{w:World}{S:Nat->Prop}{G:Nat->GI}{Y:Hp}{Z:Nat}(hi:Inv P w S G Y Z){t ty e:TypeId}{n by_:Nat}{ad:Addr}{ys:List zb}{z:zb}{v:Value}{x:O}
  (ht:yg P t=some e) (h1:qF P e=some n) (h2:j7 P e=some by_) (h3:yN P e=some z) (J:0<n) (N:z.length=n) (B:ys.length<=maxLen) (Q:ys.length*by_<=140737488355328) (hv:AM.view Y n x=some ys) (hx:qx w S G Z x v) :
  ∃r y w' R K G',(Builtin.append_ #[t,t] ty #[.slice (some ad) 0 0,v]).run P w=.ok r w'/\(ys=[]/\y=.v (.slice (some ad) 0 0)/\R=Y/\K=Z\/y=.own Z 0 ys.length/\R=qR Y Z (some ⟨e,n,true,ys⟩)/\K=Z+1)/\vA dr P Y Z S G w R K S G' w'/\qx w' S G' K y r:=by
 obtain⟨i,T,L,i2,i3⟩:=Q5 h3;have W:i.size=n:=by simpa[qF,L]using h1
 have X:i.bytes=by_:=by simpa[j7,L]using h2
 have C:=(jJ (w:=w) (S:=S) i3).1;have hzc:T.cells.size=n:=by rw[<-N,C];simp
 have s:=vM ht;obtain⟨A,c,f,rfl,f1,f2⟩:=VP hi hv hx;have l:=bo J f1 f2;by_cases hm:ys=[]
 ·subst hm;refine⟨_,_,w,Y,Z,G,?_,.inl ⟨rfl,rfl,rfl,rfl⟩,.refl hi,.c (.v rfl)⟩;cases A<;>simp[Builtin.append_,zO s,sizeOf,typeInfo,L,Builtin.lenOf,Builtin.firstCells,loadCells,loadCellsFrom,storeCells]
 have hm0:0<ys.length:=xa.2 hm;obtain⟨d,a⟩:=exI ((List.range (ys.length*n)).map f);have M:d.length=ys.length*n:=by rw[<-a];simp
 obtain⟨m,rfl,_,_⟩:=l 0 (Nat.mul_pos hm0 J);have D:Src P i.size t (.slice (some m) ys.length c) ys.length d w:=by
  refine Src.ofSlice w s m _ c d (by rw[W];exact M) (fun j u o=>?_) (fun u s=>?_)
  ·have E:j<ys.length*n:=by rw[<-M];exact(zn.1 o).1
   obtain⟨ad2,e1,e2,_⟩:=l j E;injection e1 with e1;subst e1;rw[<-a,qQ,v8 E]at o;simp at o;rw[e2,o]
  ·rw[<-a]at s;obtain⟨k,hk,rfl⟩:=wA.1 s;exact(l k (jo.1 hk)).choose_spec.2.2
 have g:=run_append_grow_src (P:=P) w t t ty e i T s L i2 (some ad) 0 0 [] (by simp[Builtin.firstCells,loadCells,loadCellsFrom]) (.slice (some m) ys.length c) ys.length d D (by omega) (by unfold maxLen at B;omega) (growslice_fits (by omega) (by rw[X,wJ];exact Q));simp only[wJ,wC]at g;obtain⟨gc,p⟩:=exI (grownCap w ys.length 0 e);rw[p]at g;have F:ys.length<=gc:=by rw[<-p];exact grownCap_ge w _ _ e
 have hgm:gc<=maxLen:=by rw[<-p];exact zb2 w _ _ e B
 obtain⟨cells,b⟩:=exI (d.toArray++Builtin.zeroCells T.cells (gc-ys.length));rw[b]at g;have H:cells.size=gc*n:=by rw[<-b,Wv,zb3,hzc];simp only[jY,M];rw[<-q7];congr 1;omega
 have k2:=vA.Bc (dr:=dr) (w':=w.drew.alloc (.cells cells e)) (Y1:=Y) hi (fun _ _ h=>h) ⟨w.heap.size,cells.size,n⟩ e true ys cells rfl rfl rfl (by simp) (Ws _)
  (fun _=>False) (fun _ h=>h.elim) (fun b' hb' hne _=>Below.heap_alloc w.drew _ b' hb') (fun id' b' h=>Nat.ne_of_lt (hi.live id' b' h).lt) (fun hS=>by have:=hi.st _ hS;simp at this) (.inr (zl _)) J (by simpa[qF]using h1) f1
  (by rw[H];exact zY _ F) (heap_alloc_new w.drew _) rfl (fun i' j c' pv q o=>by
   show∃u,cells[i'*n+j]?=some u/\jN w S G Z true pv u;obtain⟨ad2,a1,a2,a3⟩:=f2 i' j c' pv q o;have hjn:j<n:=by rw[<-f1 c' (zM q)];exact(zn.1 o).1
   have I:i'*n+j<ys.length*n:=vO (zn.1 q).1 hjn;refine⟨f (i'*n+j),?_,a3⟩;rw[<-b,vZ (by simp[M];exact I)];simp[<-a,I])
 refine⟨_,_,_,_,_,_,g,.inr ⟨rfl,rfl,rfl⟩,k2,?_⟩;have:=qx.own (w:=w.drew.alloc (.cells cells e)) (S:=S) (G:=qR G Z ⟨w.heap.size,cells.size,n⟩) (Z:=Z+1) (id:=Z) (off:=0) (n:=ys.length) (cap:=gc) (by omega) F hgm (by simp[H]) (by simpa using J);simpa using this
theorem Jl.ze1{b:Array Oper}{i:Nat}{d:Tmp}{x y:Operand}{t ty:TypeId}{p:String}{F:Array Edge}{l:List Nat}{st:St}{K:St->Prop}{e:TypeId}{n by_:Nat}{ad:Addr}{v:O}{ys:List zb}{z:zb}
  (H:b[i]?=some ⟨some d,.call ⟨.builtin .append,#[x,y],#[t,t]⟩,ty,p,F,none⟩) (hd:d<N) (I:get st.U x=some (.v (.slice (some ad) 0 0))) (J:get st.U y=some v) (M:AM.view st.Y n v=some ys)
  (R:yg C.P t=some e) (T:qF C.P e=some n) (W:j7 C.P e=some by_) (X:yN C.P e=some z) (hn:0<n) (q:z.length=n) (s:ys.length<=maxLen) (u:ys.length*by_<=140737488355328)
  (h:∀w g j,(ys=[]/\w=.v (.slice (some ad) 0 0)/\g=st.Y/\j=st.Z\/w=.own st.Z 0 ys.length/\g=qR st.Y st.Z (some ⟨e,n,true,ys⟩)/\j=st.Z+1)->Jl dr C N b l ⟨qR st.U d w,g,j⟩ K):Jl dr C N b (i::l) st K:=by
 intro w0 S0 L Z0 G0 n0 a w Q hs hQ;simp only[wpOpsIn,H];obtain⟨S,G,k⟩:=hs;rw[K8 k.xO,zd (Yz _ _ _ _ _ _)];have A:∀c,(Op.call ⟨.builtin .append,#[x,y],#[t,t]⟩:Op)≠.defer c:=fun c hc=>by cases hc
 refine⟨fun f _=>trivial,?_⟩;rw[zhP _ _ _ A];obtain⟨B,_⟩:=(Q4 k.xO I).yq;obtain⟨r,y',w',g,j,G',hr,he,D,E⟩:=Po (dr:=dr) (ty:=ty) (ad:=ad) k.inv R T W X hn q s u M (Q4 k.xO J);have m:=h y' g j he w0 S0 L Z0 G0 n0 (a.put (some d) r) w' Q ⟨S,G',k.step (dst:=some d) D E (fun _ e=>by cases e;exact hd)⟩ hQ;have o:(execOp a.eval ⟨some d,.call ⟨.builtin .append,#[x,y],#[t,t]⟩,ty,p,F,none⟩).run C.P w=.ok (.value r) w':=by simp[execOp,resolve,invoke,builtin,B,hr,-bind_pure_comp]
 rw[o];exact m
end
variable{dr:Prop}
def ZF(l:za):List zb:=l.map fun c=>[.v (.int .u8 c.toNat)]
theorem Lf{P:Program}{w:World}{S:Nat->Prop}{G:Nat->GI}{Y:Hp}{Z:Nat}(hi:Inv P w S G Y Z){d dst e:TypeId}{u:TypeDesc}(hs:P.underlying d=some u)(hd:P.underlying dst=some (.slice e))(A:P.underlying e=some (.int .u8))(l:za)(B:l.length<=maxLen) :
  ∃v w' x,(convert d dst (.string ⟨l.toArray⟩)).run P w=.ok v w'/\vA dr P Y Z S G w Y Z x G w'/\qx w' x G Z (.sl 1 (ZF l)) v:=by
 have f:(ByteArray.mk l.toArray).size=l.length:=by simp[ByteArray.size]
 have q:Fr dr w (fun _=>False) (Lib.bytesWorld w e ⟨l.toArray⟩):=⟨rfl,rfl,rfl,by rw[Lib.bytesWorld_size];omega,fun _=>by simp[Lib.bytesWorld,World.freeze],fun k C _=>Lib.bytesWorld_at_old w e _ k C⟩;have o:=grownCap_ge w (ByteArray.mk l.toArray).size 0 e;have p:=zb2 w (ByteArray.mk l.toArray).size 0 e (by rw[f];exact B);refine⟨_,_,_,Lib.run_convert_string_bytes w d dst e _ hs hd A,vA.outer hi q,.c ?_⟩;rw[f]at o p⊢;have a:(ZF l).length=l.length:=by simp[ZF]
 have y:∀(i j:Nat) (c:zb) (g:O),(ZF l)[i]?=some c->c[j]?=some g->j=0/\∃h:i<l.length,g=.v (.int .u8 l[i].toNat):=fun i j c g n m=>by
  simp only[ZF,qQ,Option.map_eq_some_iff]at n;obtain⟨b,D,rfl⟩:=n;obtain⟨r,s⟩:=zn.1 D
  match j with
  | 0=>exact⟨rfl,r,by simp at m;rw[<-m,s]⟩
  |j+1=>simp at m
 rw[<-a];refine .sl (fun i _=>.int .u8 (l.getD i 0).toNat) (fun h=>by cases h) (by rw[a];exact o) (by rw[a];exact p) (fun c z=>by simp only[ZF,wA]at z;obtain⟨b,_,rfl⟩:=z;rfl) (fun i j c g n m=>?_) fun i j c g n m=>?_
 ·obtain⟨rfl,t,rfl⟩:=y i j c g n m;refine⟨_,rfl,.inr ⟨zl _,by rw[Lib.bytesWorld_size];exact Nat.lt_succ_self _⟩,?_,rfl⟩;have:=Lib.bytesWorld_cell w e ⟨l.toArray⟩ i (by rw[f];exact t);simpa[kq]using this
 ·obtain⟨rfl,t,rfl⟩:=y i j c g n m;have:l.getD i 0=l[i]:=by simp[List.getD,t]
  rw[this];exact .v rfl
section
variable{C:Ctx}{N:Nat}{pf:FuncId->Bool}
theorem Wp.sQ(f:Qn dr C pf){a b:Code}{st:St}{K:Exit->St->Prop}(Q:(Nat->O)->Hp->Nat->Prop)(c:xC pf C.dyn C.S6 C.bk N a=true)(g:ZY C a st (La (fun st=>Q st.U st.Y st.Z) K))(h:∀U Y Z,Q U Y Z->Wp dr C N b ⟨U,Y,Z⟩ K):Wp dr C N a st (EM dr C N b K):=
 (Wp.of f c g).mono fun e i d=>by
  cases e<;>first
   |exact h _ _ _ d
   |exact d
theorem Jl.conv{g:Array Oper}{i:Nat}{d:Tmp}{x:Operand}{b dst e ty:TypeId}{p:String}{y:Array Edge}{l:List Nat}{st:St}{K:St->Prop}{u:TypeDesc}{s:za}
  (z:g[i]?=some ⟨some d,.convert b dst x,ty,p,y,none⟩) (hd:d<N) (A:get st.U x=some (.v (.string ⟨s.toArray⟩))) (hs:C.P.underlying b=some u) (B:C.P.underlying dst=some (.slice e)) (D:C.P.underlying e=some (.int .u8)) (E:s.length<=maxLen)
  (h:Jl dr C N g l ⟨qR st.U d (.sl 1 (ZF s)),st.Y,st.Z⟩ K):Jl dr C N g (i::l) st K:=by
 intro F H L Z0 I J a w Q n M;simp only[wpOpsIn,z];obtain⟨S,G,m⟩:=n;rw[K8 m.xO,zd (Yz _ _ _ _ _ _)];have o:∀c,(Op.convert b dst x:Op)≠.defer c:=fun c R=>by cases R
 refine⟨fun f _=>trivial,?_⟩;rw[zhP _ _ _ o];obtain⟨q,_⟩:=(Q4 m.xO A).yq;obtain⟨v,w',T,W,r,t⟩:=Lf (dr:=dr) m.inv hs B D s E;have j:=h F H L Z0 I J (a.put (some d) v) w' Q ⟨T,G,m.step (dst:=some d) r t (fun _ e=>by cases e;exact hd)⟩ M;have k:(execOp a.eval ⟨some d,.convert b dst x,ty,p,y,none⟩).run C.P w=.ok (.value v) w':=by simp[execOp,q,W,-bind_pure_comp]
 rw[k];exact j
end
end Go.AM
namespace Go.Proofs
open Go.Shelf
def Tryz.SP:Go.Shelf.Ren:=⟨fun|4=>140|n=>n,fun|22=>135|25=>5|0=>0|3=>3|4=>4|9=>9|20=>20|n=>n,fun|n=>n⟩
theorem Tryz.zk8:Go.Proofs.Lays8.n4 prog Tryz.SP:={
 mixed:=by kernel_rfl
 f4:=⟨f140.name,by decide,func140.trans (zC some (by kernel_rfl))⟩
 t0:=underlying0
 a0:=isAgg0
 z0:=sizeOf0
 v0:=zeroValue0
 t3:=underlying3
 a3:=isAgg3
 z3:=sizeOf3
 v3:=zeroValue3
 t4:=underlying4
 a4:=isAgg4
 z4:=sizeOf4
 v4:=zeroValue4
 t9:=underlying9
 a9:=isAgg9
 z9:=sizeOf9
 v9:=zeroValue9
 t20:=underlying20
 a20:=isAgg20
 z20:=sizeOf20
 v20:=zeroValue20
 t22:=underlying135
 a22:=isAgg135
 z22:=sizeOf135
 v22:=zeroValue135}
end Go.Proofs
namespace Go.Q
theorem ER:zg prog 140 (cE 5 1 1):=
 lW ⟨_,func140,by decide,by kernel_rfl⟩ sz5 (by decide) (sP.of Tryz.zk8 sz5 by5 ze5 rfl (by omega))
def Jc(cs:List za):List zb:=cs.map fun l=>[.sl 1 (ZF l)]
theorem T6{a b:za}(h:ZF a=ZF b):a=b:=yX (fun x y e=>by
 simp only[zh,zD]at e;injection e with e;injection e with _ e
 exact Zz.1 (by omega)) h
theorem Pp{a b:List za}(h:Jc a=Jc b):a=b:=yX (fun x y e=>by
 simp only[zh,zD]at e;injection e with _ e
 exact T6 e) h
theorem YD(l:za):(ZF l).length=l.length:=by simp[ZF]
noncomputable abbrev Ii:Ctx:=zQ prog [(140,cE 5 1 1)]
theorem BT(cs:List za)(T:cs.length<=zx)(hs:(cs.map List.length).sum<=4*zx):∃f,zr Ii f82 [.sl 1 (Jc cs)]=some f/\qW f (.sl 1 (ZF cs.flatten)):=by
 have G:zx=2097152:=rfl;have i:∀{code},f82.body=some code->ZY Ii code ⟨vn [.sl 1 (Jc cs)],fun _=>none,0⟩ (VS Ii.P f82 (al (.sl 1 (ZF cs.flatten))))->∃f,zr Ii f82 [.sl 1 (Jc cs)]=some f/\qW f (.sl 1 (ZF cs.flatten)):=by intro code C h;obtain⟨f,j,l⟩:=Q8 C h;exact⟨f,j,fun w S u N=>dd N l⟩
 refine i rfl ?_;have d:(Jc cs).length=cs.length:=by simp[Jc]
 have e:∀k (h:k<cs.length),(Jc cs)[k]'(by rw[d];exact h)=[.sl 1 (ZF cs[k])]:=fun k h=>by simp[Jc]
 have b:∀k,((cs.take k).map List.length).sum<=4*zx:=fun k=>by
  have:(cs.map List.length).sum=((cs.take k).map List.length).sum+((cs.drop k).map List.length).sum:=by rw[<-List.sum_append,<-Kc,kQ]
  omega
 have c:∀k (h:k<cs.length),((cs.take (k+1)).map List.length).sum=((cs.take k).map List.length).sum+cs[k].length:=fun k h=>by rw[zR h,Kc,List.sum_append];simp
 simp[d];refine zI (fun k U Y Z=>U 0=.sl 1 (Jc cs)/\U 9=.sl 1 (Jc cs)/\U 10=int cs.length/\U 11=int k/\U 3=int (((cs.take k).map List.length).sum:Nat)) cs.length
  ⟨by simp,by simp,by simp[d],by simp,by simp⟩ ?_
 rintro k U Y Z Q ⟨H,I,m,o,z⟩;by_cases a:k<cs.length
 ·have j:=c k a;have l:=b (k+1);have D:=zlL k;have J:=zpg ((((cs.take k).map List.length).sum:Nat)+(cs[k].length:Int));have K:¬((((cs.take k).map List.length).sum:Nat):Int)+(cs[k].length:Int)<0:=by omega
  obtain⟨n,g⟩:=exI (((cs.take k).map List.length).sum);rw[g]at j J K z;simp[H,I,m,o,z,a,e k a,d,YD,J,K,D];refine⟨by omega,?_⟩;have L:=j;simp only[List.map_take]at L;rw[L];omega
 ·obtain rfl:k=cs.length:=by omega
  have l:=b cs.length;obtain⟨n,g⟩:=exI (((cs.take cs.length).map List.length).sum);rw[g]at l z;have R:∀Y Z,∃v A B,cE 5 1 1 [.nil,int n] Y Z=some (v,A,B)/\wg A B 5 1 v []:=fun Y Z=>by
   by_cases M:(n:Int)=0
   ·exact⟨.nil,Y,Z,by simp[cE,M],.inl ⟨rfl,rfl⟩⟩
   ·exact⟨.own Z 0 0,qR Y Z (some ⟨5,1,true,[]⟩),Z+1,by show(if(n:Int)=0 then _ else _)=_;rw[ze M,zd ⟨by omega,by omega,by omega⟩],.inr ⟨Z,by omega,rfl,by simp⟩⟩
  obtain⟨v,A,B,E,p⟩:=R Y Z;simp[H,I,m,o,z,E,d];refine zI (fun k U Y Z=>U 25=.sl 1 (Jc cs)/\U 26=int cs.length/\U 27=int k/\wg Y Z 5 1 (U 6) (ZF ((cs.take k).flatten))) cs.length
   ⟨by simp,by simp[d],by simp,by simpa[ZF]using p⟩ ?_
  rintro k U Y Z Q ⟨q,r,s,p⟩;by_cases a:k<cs.length
  ·have j:=c k a;have l:=b (k+1);have D:=zlL k;have x:(cs.take k).flatten.length=((cs.take k).map List.length).sum:=List.length_flatten;obtain⟨W,A,B,F,y,_⟩:=p.Yu (P:=prog) (t:=135) (ys:=ZF cs[k]) zj6 sz5 by5 ze5 rfl (by omega) (by rw[YD,YD,x];unfold maxLen;omega) (by rw[YD,YD,x];omega);have C:ZF (cs.take (k+1)).flatten=ZF (cs.take k).flatten++ZF cs[k]:=by rw[zR a,List.flatten_append];simp only[List.flatten_cons,List.flatten_nil,kr,ZF,Kc]
   rw[<-C]at y;simp[q,r,s,a,e k a,d,F,D];exact⟨by omega,y⟩
  ·obtain rfl:k=cs.length:=by omega
   rw[wo]at p;have:=p.freeze Z;simp[q,r,s,d,f82];exact this
noncomputable def Lg:zb->Option O:=z6 (α:=List za) (fun cs=>[.sl 1 (Jc cs)]) (fun cs=>cs.length<=zx/\(cs.map List.length).sum<=4*zx) fun cs=>.sl 1 (ZF cs.flatten)
theorem te:zg prog 82 (zf true [] Lg):=
 xE (fn:=f82) (zph mixed ⟨ER,trivial⟩:AM.Good Ii _) (zpi func82) true [] _ fun args r h w S vs b=>by unfold Lg at h;obtain⟨cs,rfl,a,rfl⟩:=zp h;obtain⟨c,d,e⟩:=BT cs a.1 a.2;exact⟨_,c,b,zG (zl 1) (by decide),d,e⟩
theorem Pq{a b:za}(f:a.length<=zx)(g:b.length<=zx){Y:Hp}{Z id e:Nat}(h:Y id=some ⟨e,1,true,[[.sl 1 (ZF a)],[.sl 1 [[.v (.int .u8 47)]]],[.sl 1 (ZF b)]]⟩) :
  zf true [] Lg [.own id 0 3] Y Z=some (.sl 1 (ZF (a++47::b)),qR Y id none,Z):=by
 have c:zx=2097152:=rfl;have d:Lg [.sl 1 (Jc [a,[47],b])]=some (.sl 1 (ZF [a,[47],b].flatten)):=by
  unfold Lg;exact zE (V:=fun cs:List za=>[O.sl 1 (Jc cs)]) (a:=[a,[47],b]) (fun x y e=>by
   simp only[zh,zD]at e;injection e with _ e
   exact Pp e) ⟨by simp[c],by simp;omega⟩
 have hF:Lg [.sl 1 [[.sl 1 (ZF a)],[.sl 1 [[.v (.int .u8 47)]]],[.sl 1 (ZF b)]]]=some (.sl 1 (ZF (a++47::b))):=by simpa[Jc,ZF]using d
 simp[zf,zv,qH,yf,h,yP,hF,O.flat,O.noOwn]
noncomputable abbrev Crbu:Ctx:=zQ prog [(82,zf true [] Lg)]
theorem zcO:Gd Crbu:=zph mixed ⟨te,trivial⟩
theorem Pr{L:za}{k:Nat}(h:k<L.length)(z:Int):vP z (L.take (k+1))=EJ (vP z (L.take k)) L[k]:=by unfold vP;rw[zR h,KG];rfl
theorem Lh(z:Int)(a b:za):vP z (a++47::b)=vP (vP (vP z a) [47]) b:=by unfold vP;rw[KG];rfl
def zfu(z:Int):Int:=(z/4294967296*100000+z % 4294967296*100000/4294967296)/4294967296
theorem ES(z:Int):zfu (XQ z)=Qr z:=by have h:=VZ z;unfold zfu Qr Lb;generalize XQ z=w at h;omega
theorem Li(a b:za)(x:a.length<=zx)(y:b.length<=zx){code:Code}(d:f39.body=some code):Wp True Crbu f39.ntmps code ⟨vn [str a,str b],fun _=>none,0⟩ (VS Crbu.P f39 (al (T2 a b))):=by
 have t:zx=2097152:=rfl;have f:=zcO;injection d with d
 subst d;refine Wp.seq (Wp.of f (by kernel_rfl) ?_);simp;refine Wp.seq (Wp.of f (by kernel_rfl) ?_);simp;refine Wp.seq (Wp.seq (Wp.region ?_));show Jl True Crbu _ _ (List.range' 0 1++(1::(List.range' 2 2++(4::(List.range' 5 4++[]))))) _ _;refine Jl.XY f 0 1 (by decide) (by decide) ?_;simp;refine Jl.conv (s:=a) rfl (by decide) (by simp) un9 zfp un5 (by unfold maxLen;omega) ?_;refine Jl.XY (l2:=[4,5,6,7,8]) f 2 2 (by decide) (by decide) ?_;simp[zz,zS,zy];refine Jl.conv (s:=b) rfl (by decide) (by simp) un9 zfp un5 (by unfold maxLen;omega) ?_;have A:=fun{Y:Hp} {Z id e:Nat} h=>Pq (a:=a) (b:=b) x y (Y:=Y) (Z:=Z) (id:=id) (e:=e) h
 refine Jl.XY (l2:=[]) f 5 4 (by decide) (by decide) ?_;simp[zz,zS,zy,A];refine Jl.nil ?_;simp only[Ev,NG];obtain⟨L,q⟩:=exI (a++47::b);have B:L.length<=4194305:=by rw[<-q];simp;omega
 have u:∀a b:Int,IntKind.u64.wrap (((a % 2 ^ IntKind.u64.bits).toNat ^^^ (b % 2 ^ IntKind.u64.bits).toNat:Nat):Int)=mV a b:=fun _ _=>rfl
 have C:∀(h:Int) (c:UInt8),IntKind.u64.wrap (mV h (IntKind.u64.wrap c.toNat)*1099511628211)=EJ h c:=fun _ _=>rfl
 have D:∀a:Int,a.fdiv (2 ^ min 33 IntKind.u64.bits)=lV a:=fun _=>rfl
 have E:∀a k:Int,IntKind.u64.wrap (mV a (lV a)*k)=eL a k:=fun _ _=>rfl
 rw[q];refine Wp.sQ f (fun U Y Z=>U 5=u64 (vP 14695981039346656037 L)) (by kernel_rfl) ?_ ?_
 ·simp;refine zI (fun k U Y Z=>U 17=.sl 1 (ZF L)/\U 18=int L.length/\U 19=int k/\U 5=u64 (vP 14695981039346656037 (L.take k))) L.length ⟨by simp,by simp[YD],by simp,by simp[vP]⟩ ?_;rintro k U Y Z Q ⟨m,n,o,j⟩;by_cases g:k<L.length
  ·have F:=zlL k;have r:(ZF L)[k]'(by rw[YD];exact g)=[.v (.int .u8 L[k].toNat)]:=by simp[ZF]
   simp[m,n,o,j,g,YD,r,F,u,C];exact⟨by omega,by rw[Pr g]⟩
  ·obtain rfl:k=L.length:=by omega
   rw[wo]at j;simp[m,n,o,j]
 ·rintro U Y Z j;have i:=ES (vP 14695981039346656037 L);have p:Z8 a b=Qr (vP 14695981039346656037 L):=by rw[<-q,Lh];rfl
  obtain⟨z,G⟩:=exI (vP 14695981039346656037 L);rw[G]at j i p;have H:mV (eL (eL z 18397679294719823053) 14181476777654086739) (lV (eL (eL z 18397679294719823053) 14181476777654086739))=XQ z:=rfl;have I:=VZ z;refine Wp.of f (by kernel_rfl) ?_;simp[j,u,D,E,H,T2,p,f39];generalize XQ z=w at I i;have l:∀{a:Int},0<=a->a<18446744073709551616->IntKind.u64.wrap a=a:=fun R S=>by rw[Kb];omega
  have J:w.tdiv 4294967296=w/4294967296:=Int.tdiv_eq_ediv_of_nonneg (by omega);have K:w.tmod 4294967296=w % 4294967296:=Int.tmod_eq_emod_of_nonneg (by omega);have M:(w % 4294967296*100000).tdiv 4294967296=w % 4294967296*100000/4294967296:=Int.tdiv_eq_ediv_of_nonneg (by omega);have N:(w/4294967296*100000+w % 4294967296*100000/4294967296).tdiv 4294967296=(w/4294967296*100000+w % 4294967296*100000/4294967296)/4294967296:=Int.tdiv_eq_ediv_of_nonneg (by omega);rw[J,K,l (a:=w/4294967296) (by omega) (by omega),l (a:=w % 4294967296*100000) (by omega) (by omega),M,l (a:=w/4294967296*100000) (by omega) (by omega),l (a:=w % 4294967296*100000/4294967296) (by omega) (by omega),l (a:=w/4294967296*100000+w % 4294967296*100000/4294967296) (by omega) (by omega),N,l (by omega) (by omega),zi (by omega) (by omega)];exact i
theorem cF:zg prog 39 (zf false [] (Zo T2 fun _ _=>True)):=
 eN (C:=Crbu) (pf:=fun g=>([]:List Nat).contains g) (fn:=f39) (code:=_) ⟨func39,by kernel_rfl,rfl,by kernel_rfl⟩ false [] _ fun args r h=>by obtain⟨a,b,rfl,c,d,_,rfl⟩:=kC h;exact⟨by simp[f39],Li a b c d rfl⟩
end Go.Q
namespace Go.SpanLaw
abbrev Sp:=Int×Int
def lX:Int->List Sp->Prop
 |_,[]=>True
 |lo,s::l=>lo<s.1/\s.1<s.2/\lX s.2 l
def mem(l:List Sp)(k:Int):Prop:=∃s∈l,s.1<=k/\k<s.2
def skip(x:Int):List Sp->List Sp
 |[]=>[]
 |b::l=>if b.2<=x then skip x l else b::l
def Below(hi:Int)(l:List Sp):Prop:=∀s∈l,s.2<=hi
structure zpb (op:Int->Prop) (at_:Int) (out:List Sp):Prop where
 canon:lX (-1) out
 below:Below at_ out
 holds:∀k,mem out k↔0<=k/\k<at_/\op k
open Classical in
noncomputable def cnt (l:List Sp) (n:Nat):Nat:=(List.range n).countP fun i:Nat=>decide (mem l (i:Int))
end Go.SpanLaw
namespace Go.Q
abbrev ja(s:Sp):zb:=[int s.1,int s.2]
theorem T7{a b:Sp}(h:ja a=ja b):a=b:=by simp only[zh,zD,O.v.injEq,Value.int.injEq,true_and]at h;exact zk3 h.1 h.2
theorem QK{a b:List Sp}(h:O.sl 2 (a.map ja)=O.sl 2 (b.map ja)):a=b:=by injection h with _ h;exact yX (fun _ _=>T7) h
def spR(s:Sp):Bool:=!jD s.1 0 99999||decide ((100000:Int)<s.2)
def spO(p:Option Int)(s:Sp):Bool:=decide (s.2<=s.1)||(match p with
 |none=>false
 |some q=>decide (s.1<=q))
def Ps:Option Int->List Sp->Int
 |_,[]=>0
 |p,s::l=>if spR s then 1 else if spO p s then 8 else Ps (some s.2) l
theorem ET{l:List Sp}{k:Nat}(h:k<l.length)(p:Option Int):Ps p (l.drop k)=if spR l[k]then 1 else if spO p l[k]then 8 else Ps (some l[k].2) (l.drop (k+1)):=by rw[zc h,Ps]
def Kn(l:List Sp)(k:Nat):Option Int:=if k=0 then none else(l[k-1]?).map (·.2)
def yG(l:List Sp):Int:=if(100:Int)<l.length then 2 else Ps none l
theorem Z9:zg prog 26 (zf false [] (F3 jD)):=
 zX (fn:=f26) yz (zpi func26) false [] _ fun args r h=>by obtain⟨a,b,c,rfl,rfl⟩:=oR h;exact⟨by simp[f26],_,zm rfl (by simp[f26,jD]),zW _⟩
noncomputable abbrev Cwl:Ctx:=zQ prog [(26,zf false [] (F3 jD))]
theorem mW(l:List Sp):zr Cwl f151 [.sl 2 (l.map ja)]=some (int (yG l)):=by
 refine zm rfl ?_;rw[yG];by_cases q:(100:Int)<l.length
 ·simp[q,f151]
 simp[q];refine zI (fun k U Y Z=>U 0=.sl 2 (l.map ja)/\U 8=.sl 2 (l.map ja)/\U 9=int l.length/\U 10=int k/\Ps none l=Ps (Kn l k) (l.drop k)) l.length
  ⟨by simp,by simp,by simp,by simp,by simp[Kn]⟩ ?_
 rintro k U Y Z z ⟨f,g,h,c,a⟩;by_cases b:k<l.length
 ·have A:=zlL k;have en:(!jD l[k].1 0 99999||decide ((100000:Int)<l[k].2))=spR l[k]:=rfl;rw[ET b]at a;cases n:spR l[k]
  case true=>rw[n]at en a;simp[f,g,h,c,b,en,a,f151]
  rw[n]at en;simp only[n,zF,qJ]at a;have e:Kn l (k+1)=some l[k].2:=by simp[Kn,b]
  by_cases w:k=0
  ·subst w;simp only[Kn,qA,spO,SL]at a;by_cases d:l[0].2<=l[0].1
   ·simp only[d,cY,qA]at a;simp[f,g,h,c,b,en,d,a,f151]
   ·simp only[d,gz,zF,qJ]at a;have x:=zpg 1;simp[f,g,h,c,b,en,d,x]
    and_intros<;>first|omega|(rw[a];rw[e];done)|(rw[a];rw[e];simp)
  ·obtain⟨j,rfl⟩:∃j,k=j+1:=⟨k-1,by omega⟩;have o:j<l.length:=by omega
   have r:i6.wrap ((j:Int)+1-1)=(j:Int):=by rw[zi (by omega) (by omega)];omega
   have i:=zpg (j:Int);have s:((j:Int)+1).toNat=j+1:=by omega
   have t:0<(j:Int)+1:=by omega
   have u:0<=(j:Int)+1:=by omega
   have v:(j:Int)+1<l.length:=by omega
   have y:=zpg ((j:Int)+1+1);have p:Kn l (j+1)=some l[j].2:=by simp[Kn,o]
   have m:(decide (l[j+1].2<=l[j+1].1)||decide (l[j+1].1<=l[j].2))=spO (some l[j].2) l[j+1]:=rfl;rw[p]at a;cases d:spO (some l[j].2) l[j+1]
   ·rw[d]at m;simp only[d,zF,qJ]at a;simp[f,g,h,c,b,o,en,r,i,s,t,u,v,m,y]
    and_intros<;>first|omega|(rw[a];rw[e])
   ·rw[d]at m;simp only[d,qA]at a;simp[f,g,h,c,b,o,en,r,i,s,t,u,v,m,a,f151]
 ·obtain rfl:k=l.length:=by omega
  rw[zo]at a;have a:Ps none l=0:=by rw[a];rfl
  simp[f,g,h,c,a,f151]
theorem rspR(s:Sp):(decide (s.1<0)||decide ((100000:Int)<=s.1)||decide ((100000:Int)<s.2))=spR s:=by unfold spR jD;by_cases a:s.1<0<;>by_cases b:(100000:Int)<=s.1<;>simp[a,b]<;>omega
theorem gZ(l:List Sp):zr C0 f172 [.sl 2 (l.map ja)]=some (int (yG l)):=by
 refine zm rfl ?_;rw[yG];by_cases q:(100:Int)<l.length
 ·simp[q,f172]
 simp[q];refine zI (fun k U Y Z=>U 0=.sl 2 (l.map ja)/\U 8=.sl 2 (l.map ja)/\U 9=int l.length/\U 10=int k/\Ps none l=Ps (Kn l k) (l.drop k)) l.length
  ⟨by simp,by simp,by simp,by simp,by simp[Kn]⟩ ?_
 rintro k U Y Z z ⟨f,g,h,c,a⟩;by_cases b:k<l.length
 ·have A:=zlL k;have en:(decide (l[k].1<0)||decide ((100000:Int)<=l[k].1)||decide ((100000:Int)<l[k].2))=spR l[k]:=rspR l[k];rw[ET b]at a;cases n:spR l[k]
  case true=>rw[n]at en a;simp[f,g,h,c,b,en,a,f172]
  rw[n]at en;simp only[n,zF,qJ]at a;have e:Kn l (k+1)=some l[k].2:=by simp[Kn,b]
  by_cases w:k=0
  ·subst w;simp only[Kn,qA,spO,SL]at a;by_cases d:l[0].2<=l[0].1
   ·simp only[d,cY,qA]at a;simp[f,g,h,c,b,en,d,a,f172]
   ·simp only[d,gz,zF,qJ]at a;have x:=zpg 1;simp[f,g,h,c,b,en,d,x]
    and_intros<;>first|omega|(rw[a];rw[e];done)|(rw[a];rw[e];simp)
  ·obtain⟨j,rfl⟩:∃j,k=j+1:=⟨k-1,by omega⟩;have o:j<l.length:=by omega
   have r:i6.wrap ((j:Int)+1-1)=(j:Int):=by rw[zi (by omega) (by omega)];omega
   have i:=zpg (j:Int);have s:((j:Int)+1).toNat=j+1:=by omega
   have t:0<(j:Int)+1:=by omega
   have u:0<=(j:Int)+1:=by omega
   have v:(j:Int)+1<l.length:=by omega
   have y:=zpg ((j:Int)+1+1);have p:Kn l (j+1)=some l[j].2:=by simp[Kn,o]
   have m:(decide (l[j+1].2<=l[j+1].1)||decide (l[j+1].1<=l[j].2))=spO (some l[j].2) l[j+1]:=rfl;rw[p]at a;cases d:spO (some l[j].2) l[j+1]
   ·rw[d]at m;simp only[d,zF,qJ]at a;simp[f,g,h,c,b,o,en,r,i,s,t,u,v,m,y]
    and_intros<;>first|omega|(rw[a];rw[e])
   ·rw[d]at m;simp only[d,qA]at a;simp[f,g,h,c,b,o,en,r,i,s,t,u,v,m,a,f172]
 ·obtain rfl:k=l.length:=by omega
  rw[zo]at a;have a:Ps none l=0:=by rw[a];rfl
  simp[f,g,h,c,a,f172]
noncomputable def FP (out:List Sp->O) (pre:List Sp->Prop):zb->Option O:=z6 (α:=List Sp) (fun l=>[.sl 2 (l.map ja)]) pre out
theorem NH(out:List Sp->O)(pre:List Sp->Prop)(l:List Sp)(Y:Hp)(Z:Nat)(h:pre l):zf false [] (FP out pre) [.sl 2 (l.map ja)] Y Z=some (out l,Y,Z):=
 hPc l _ _ rfl (fun a b e=>by simp only[zh,zD]at e;exact QK e) h (.inr rfl)
theorem hC:zg prog 151 (zf false [] (FP (fun l=>int (yG l)) fun _=>True)):=
 pS1 (zw (q:=[26]) mixed ⟨Z9,fun _=>zu _ _,trivial⟩:AM.Good Cwl _) func151 false [] fun l _=>⟨zG (zl 1) (by decide),_,mW l,zW _⟩
theorem eO:zg prog 172 (zf false [] (FP (fun l=>int (yG l)) fun _=>True)):=
 pS1 yz func172 false [] fun l _=>⟨zG (zl 1) (by decide),_,gZ l,zW _⟩
theorem uR:∀{l:List Sp} {p:Option Int},Ps p l=0->lX (p.getD (-1)) l/\Below 100000 l/\∀s∈l,0<=s.1
 |[],_,_=>⟨trivial,fun s hs=>absurd hs (by simp),fun s hs=>absurd hs (by simp)⟩
 |s::l,p,h=>by
  simp only[Ps]at h;split at h
  ·cases h
  split at h
  ·cases h
  rename_i c b;obtain⟨d,e,f⟩:=uR h;simp only[spR,jD,qd,vY,Bool.and_eq_false_iff,jr,zP,not_or]at c;simp only[spO,qd,zP,not_or]at b;refine⟨⟨?_,by omega,d⟩,fun x a=>?_,fun x a=>?_⟩
  ·cases p with
   |none=>show -1<s.1;omega
   |some q=>have:=b.2;simp at this;exact this
  ·rcases zA.1 a with rfl|a
   ·omega
   ·exact e x a
  ·rcases zA.1 a with rfl|a
   ·omega
   ·exact f x a
theorem KM{l:List Sp}(h:yG l=0):lX (-1) l/\Below 100000 l/\(∀s∈l,0<=s.1)/\l.length<=100:=by
 unfold yG at h;split at h
 ·cases h
 ·obtain⟨a,b,c⟩:=uR h;exact⟨a,b,c,by omega⟩
def okS(b:List Sp):Prop:=lX (-1) b/\Below 100000 b/\(∀s∈b,0<=s.1)/\b.length<=100000
theorem zgJ{b:List Sp}(h:yG b=0):okS b:=by obtain⟨a,c,d,e⟩:=KM h;exact⟨a,c,d,by omega⟩
inductive qn where
 |mk (kind n:Int) (s:List UInt8) (items:List qn) (fields:List (List UInt8×qn))
namespace qn
def kind:qn->Int|.mk k _ _ _ _=>k
def n:qn->Int|.mk _ n _ _ _=>n
def s:qn->za|.mk _ _ s _ _=>s
def items:qn->List qn|.mk _ _ _ l _=>l
def fields:qn->List (za×qn)|.mk _ _ _ _ l=>l
end qn
theorem qn.ind{P:qn->Prop}(h:∀k n s e g,(∀x∈e,P x)->(∀f∈g,P f.2)->P (.mk k n s e g))(v:qn):P v:=
 qn.rec (motive_1:=P) (motive_2:=fun l=>∀x∈l,P x) (motive_3:=fun l=>∀f∈l,P f.2) (motive_4:=fun f=>P f.2) (fun k n s e g i j=>h k n s e g i j)
  (by simp) (fun x l c d y b=>by rcases zA.1 b with rfl|b;(first|exact c|exact d y b);(first|exact c|exact d y b)) (by simp) (fun x l c d y b=>by rcases zA.1 b with rfl|b;(first|exact c|exact d y b);(first|exact c|exact d y b)) (fun a v m=>m) v
mutual
def qn.V:qn->zb
 | .mk k n s a b=>[int k,int n,str s,.sl 5 (OE a),.sl 6 (OG b)]
def OE:List qn->List zb
 |[]=>[]
 |v::l=>v.V::OE l
def OG:List (za×qn)->List zb
 |[]=>[]
 |(a,v)::l=>(str a::v.V)::OG l
end
abbrev yD(f:za×qn):zb:=str f.1::f.2.V
theorem uS:∀l:List qn,OE l=l.map qn.V
 |[]=>rfl
 |v::l=>by simp[OE,uS l]
theorem uT:∀l:List (za×qn),OG l=l.map yD
 |[]=>rfl
 |(a,v)::l=>by simp[OG,uT l]
theorem Zj(v:qn):v.V=[int v.kind,int v.n,str v.s,.sl 5 (v.items.map qn.V),.sl 6 (v.fields.map yD)]:=by
 cases v with
 |mk k n s a b=>simp[qn.V,uS,uT,qn.kind,qn.n,qn.s,qn.items,qn.fields]
@[simp]theorem zgK(v:qn):v.V.length=5:=by rw[Zj];rfl
@[simp]theorem Pt(v:qn):v.V.all O.yo=true:=by rw[Zj];rfl
@[simp]theorem zgL(v:qn):(∀x,x∈v.V->O.yo x=true)=True:=by have:=Pt v;rw[ql]at this;exact eq_true this
@[simp]theorem zkk(v:qn):v.V.take 5=v.V:=qq (by simp)
@[simp]theorem zo1(v:qn)(h:0<v.V.length):v.V[0]=int v.kind:=by simp[Zj v]
@[simp]theorem zo2(v:qn)(h:1<v.V.length):v.V[1]=int v.n:=by simp[Zj v]
@[simp]theorem zo3(v:qn)(h:2<v.V.length):v.V[2]=str v.s:=by simp[Zj v]
@[simp]theorem zo4(v:qn)(h:3<v.V.length):v.V[3]=.sl 5 (v.items.map qn.V):=by simp[Zj v]
@[simp]theorem zo5(v:qn)(h:4<v.V.length):v.V[4]=.sl 6 (v.fields.map yD):=by simp[Zj v]
theorem V3{α a:Type}{f:α->a}:∀{xs ys:List α},(∀x∈xs,∀y,f x=f y->x=y)->xs.map f=ys.map f->xs=ys
 |[],[],_,_=>rfl
 |[],y::ys,_,e=>by simp at e
 |x::xs,[],_,e=>by simp at e
 |x::xs,y::ys,h,e=>by simp only[wD,zh]at e;rw[h x (by simp) y e.1,V3 (fun z b=>h z (by simp[b])) e.2]
theorem Qt:∀{a b:qn},a.V=b.V->a=b:=by
 intro a
 induction a using qn.ind with
 |h k n s q r g i=>
  intro b e;cases b with
  |mk t u v j l=>
   simp only[Zj,qn.kind,qn.n,qn.s,qn.items,qn.fields,zh,zD]at e;obtain⟨m,o,p,c,d⟩:=e;obtain rfl:=qB m;obtain rfl:=qB o;obtain rfl:=q9 p;injection c with _ c
   injection d with _ d;obtain rfl:=V3 (fun x f y=>g x f) c;obtain rfl:=V3 (fun x f y e=>by simp only[yD,zh]at e;exact zk3 (q9 e.1) (i x f e.2)) d
   rfl
mutual
def qn.vb:qn->Nat
 | .mk _ _ s a b=>1+s.length+VG a+bZ b
def VG:List qn->Nat
 |[]=>0
 |v::l=>v.vb+VG l
def bZ:List (za×qn)->Nat
 |[]=>0
 |(a,v)::l=>a.length+v.vb+bZ l
end
theorem Zp(v:qn):v.vb=1+v.s.length+VG v.items+bZ v.fields:=by cases v;rfl
theorem JT(v:qn):0<v.vb:=by rw[Zp];omega
theorem kD:∀{l:List qn} {x:qn},x∈l->x.vb<=VG l
 |y::l,x,h=>by
  simp only[VG];rcases zA.1 h with rfl|h
  ·omega
  ·have:=kD h;omega
theorem xr:∀{l:List (za×qn)} {x:za×qn},x∈l->x.1.length+x.2.vb<=bZ l
 |(a,y)::l,x,h=>by
  simp only[bZ];rcases zA.1 h with rfl|h
  ·simp only;omega
  ·have:=xr h;omega
theorem ju:∀l:List qn,l.length<=VG l
 |[]=>by simp[VG]
 |v::l=>by have:=ju l;have:=JT v;simp only[VG,zV];omega
theorem jV:∀l:List (za×qn),l.length<=bZ l
 |[]=>by simp[bZ]
 |(a,v)::l=>by have:=jV l;have:=JT v;simp only[bZ,zV];omega
noncomputable def FV (out:qn->O) (n:Nat):zb->Option O:=z6 (α:=qn) (fun v=>[.agg v.V]) (fun v=>v.vb<=zx/\v.vb<=n) out
theorem zkl(out:qn->O)(n:Nat)(v:qn)(h:v.vb<=zx/\v.vb<=n):FV out n [.agg v.V]=some (out v):=
 zE (V:=fun v:qn=>[.agg v.V]) (a:=v) (fun a b e=>by simp only[zh,zD,O.agg.injEq]at e;exact Qt e) h
@[simp]theorem SX(Y:Hp)(v:qn):wV Y v.V=some (v.V,Y):=by rw[Zj];simp
theorem V4(Y:Hp)(v:qn):qH Y (.agg v.V)=some (.agg v.V,Y):=by rw[Zj];simp
theorem hU(v:qn):O.noOwn (.agg v.V)=true:=by rw[Zj];simp
theorem bz(out:qn->O)(n:Nat)(v:qn)(Y:Hp)(Z:Nat)(h:v.vb<=zx/\v.vb<=n):zf false [] (FV out n) [.agg v.V] Y Z=some (out v,Y,Z):=
 zU (Y1:=Y) (show zv Y [.agg v.V]=some ([.agg v.V],Y) by simp only[zv,V4]) (zkl out n v h) (.inr (by simp only[q8,hU,JA,Bool.and_self]))
mutual
def qn.parts:qn->Nat
 | .mk _ _ _ a b=>1+vB a+vJ b
def vB:List qn->Nat
 |[]=>0
 |v::l=>v.parts+vB l
def vJ:List (za×qn)->Nat
 |[]=>0
 |(_,v)::l=>v.parts+vJ l
end
mutual
def qn.levels:qn->Nat
 | .mk _ _ _ a b=>max (kO a) (ve b)+1
def kO:List qn->Nat
 |[]=>0
 |v::l=>max v.levels (kO l)
def ve:List (za×qn)->Nat
 |[]=>0
 |(_,v)::l=>max v.levels (ve l)
end
theorem EU(v:qn):v.parts=1+vB v.items+vJ v.fields:=by cases v;rfl
theorem uU(v:qn):v.levels=max (kO v.items) (ve v.fields)+1:=by cases v;rfl
theorem o5(v:qn):v.parts<=v.vb:=by
 induction v using qn.ind with
 |h k n s e f g i=>
  have a:∀l:List qn,(∀x∈l,x.parts<=x.vb)->vB l<=VG l:=by
   intro l
   induction l with
   |nil=>simp[vB]
   |cons v l c=>intro h;have:=h v (by simp);have:=c fun x d=>h x (by simp[d]);simp only[vB,VG];omega
  have b:∀l:List (za×qn),(∀x∈l,x.2.parts<=x.2.vb)->vJ l<=bZ l:=by
   intro l
   induction l with
   |nil=>simp[vJ]
   |cons v l c=>intro h;have:=h v (by simp);have:=c fun x d=>h x (by simp[d]);obtain⟨a,v⟩:=v;simp only[vJ,bZ];simp only at *;omega
  have:=a e g;have:=b f i;simp only[qn.parts,qn.vb];omega
theorem uV(v:qn):v.levels<=v.parts:=by
 induction v using qn.ind with
 |h k n s e f g i=>
  have a:∀l:List qn,(∀x∈l,x.levels<=x.parts)->kO l<=vB l:=by
   intro l
   induction l with
   |nil=>simp[kO]
   |cons v l c=>intro h;have:=h v (by simp);have:=c fun x d=>h x (by simp[d]);simp only[kO,vB];omega
  have b:∀l:List (za×qn),(∀x∈l,x.2.levels<=x.2.parts)->ve l<=vJ l:=by
   intro l
   induction l with
   |nil=>simp[ve]
   |cons v l c=>intro h;have:=h v (by simp);have:=c fun x d=>h x (by simp[d]);obtain⟨a,v⟩:=v;simp only[ve,vJ];simp only at *;omega
  have:=a e g;have:=b f i;simp only[qn.parts,qn.levels];omega
noncomputable abbrev Cc (n:Nat):Ctx:=VU prog [(59,zf false [] (FV (fun v=>.wY [int v.parts,int v.levels]) n))] (Ex 2 [(2,1)])
theorem yu{C:Ctx}{fn:Func}{code:Code}{args:zb}{Y:Hp}{Z:Nat}{x:O}{a:Hp}{b:Nat}(c:fn.body=some code)
  (h:ZY C code ⟨vn args,Y,Z⟩ (VS C.P fn (fun y h m=>y=x/\h=a/\m=b))):kj C fn args Y Z=some (x,a,b):=by
 obtain⟨y,e,n1,d,rfl,rfl,rfl⟩:=qw c h;exact d
theorem o6(n:Nat)(v:qn)(h:v.vb<=zx/\v.vb<=n)(Y:Hp)(Z i j:Nat)(hi:i<Z)(s:j<Z)(b:i≠j)(p q:Nat)(c:Y i=some ⟨3,1,false,[[int p]]⟩)(d:Y j=some ⟨3,1,false,[[int q]]⟩)(f:p<=zx) :
  we (Cc n) f107 [.agg v.V,.ref i 0 0,.ref j 0 0] Y Z =
   some (.wY [],qR (qR (qR Y Z (some ⟨61,5,false,[v.V]⟩)) i (some ⟨3,1,false,[[int ((p+v.parts:Nat):Int)]]⟩)) j (some ⟨3,1,false,[[int ((max q v.levels:Nat):Int)]]⟩),Z+1):=by
 have g:=o5 v;have k:=uV v;unfold zx at *;have l:=zpg ((p:Int)+v.parts);unfold we;rw[zd (by simp[f107])];refine yu rfl ?_;have a:=fun Y Z=>bz (fun v=>.wY [int v.parts,int v.levels]) n v Y Z h
 have e:¬i=Z:=by omega
 have m:¬j=Z:=by omega
 have o:¬j=i:=by omega
 have r:(if q<v.levels then(v.levels:Int)else q)=((max q v.levels:Nat):Int):=by split<;>omega
 simp[a];rw[Yy _ _ _ _ _ _ (oP (blk:=⟨3,1,false,[[int p]]⟩) (id:=j) (i:=0) (j:=0) (id':=i) (i':=0) (j':=0) (by simp) (by simp) (Ne.symm b) (by simp[e,c]) rfl) (fun _ h=>by cases h)];simp[c,d,e,m,o,b,l,r,f107]
theorem cG(a b:List qn):vB (a++b)=vB a+vB b:=by
 induction a with
 |nil=>simp[vB]
 |cons v a c=>simp only[wI,vB,c];omega
theorem o7(a b:List qn):kO (a++b)=max (kO a) (kO b):=by
 induction a with
 |nil=>simp[kO]
 |cons v a c=>simp only[wI,kO,c];omega
theorem cH(a b:List (za×qn)):vJ (a++b)=vJ a+vJ b:=by
 induction a with
 |nil=>simp[vJ]
 |cons v a c=>obtain⟨x,v⟩:=v;simp only[wI,vJ,c];omega
theorem o8(a b:List (za×qn)):ve (a++b)=max (ve a) (ve b):=by
 induction a with
 |nil=>simp[ve]
 |cons v a c=>obtain⟨x,v⟩:=v;simp only[wI,ve,c];omega
theorem zkm{l:List qn}{k:Nat}(h:k<l.length):vB (l.take (k+1))=vB (l.take k)+l[k].parts/\kO (l.take (k+1))=max (kO (l.take k)) l[k].levels:=by rw[zR h,cG,o7];simp[vB,kO]
theorem zkn{l:List (za×qn)}{k:Nat}(h:k<l.length):vJ (l.take (k+1))=vJ (l.take k)+l[k].2.parts/\ve (l.take (k+1))=max (ve (l.take k)) l[k].2.levels:=by rw[zR h,cH,o8];simp[vJ,ve]
theorem Pu(l:List qn)(k:Nat):vB (l.take k)<=vB l:=by have:=cG (l.take k) (l.drop k);rw[kQ]at this;omega
theorem Pv(l:List (za×qn))(k:Nat):vJ (l.take k)<=vJ l:=by have:=cH (l.take k) (l.drop k);rw[kQ]at this;omega
noncomputable abbrev Cd (n:Nat):Ctx:=VU prog [(107,we (Cc n) f107)] (Ex 13 [(3,2)])
theorem Lj(n:Nat)(v:qn)(h:v.vb<=zx/\v.vb<=n+1):zr (Cd n) f59 [.agg v.V]=some (.wY [int v.parts,int v.levels]):=by
 have z:=o5 v;have A:=EU v;have B:=Zp v;have t:=uU v;have C:=ju v.items;have D:=jV v.fields;obtain⟨E,H⟩:=h;unfold zx at E;refine zm rfl ?_;simp;refine zI (fun k U Y Z=>U 1=.ref 0 0 0/\U 2=.ref 1 0 0/\U 3=.ref 2 0 0/\U 4=.fn (.func 107) [] [.ref 1 0 0,.ref 2 0 0]/\U 11=.sl 5 (v.items.map qn.V)/\U 12=int v.items.length/\U 13=int k/\3<=Z/\Y 0=some ⟨61,5,false,[v.V]⟩ /\
   Y 1=some ⟨3,1,false,[[int ((1+vB (v.items.take k):Nat):Int)]]⟩/\Y 2=some ⟨3,1,false,[[int (kO (v.items.take k))]]⟩) v.items.length
  ⟨by simp,by simp,by simp,by simp,by simp,by simp,by simp,by simp,by simp,by simp[vB],by simp[kO]⟩ ?_
 rintro k U Y Z y ⟨m,f,g,p,c,d,e,q,u,l,o⟩;by_cases a:k<v.items.length
 ·obtain⟨w,x⟩:=zkm a;have F:=kD (zj a);have r:=zlL k;have s:=Pu v.items k;have b:=o6 n v.items[k] ⟨by unfold zx;omega,by omega⟩ (qR Y Z (some ⟨61,5,false,[v.items[k].V]⟩)) (Z+1) 1 2 (by omega) (by omega) (by omega) _ _ (by rw[zt _ _ _ _ (by omega)];exact l) (by rw[zt _ _ _ _ (by omega)];exact o) (by unfold zx;omega);simp[m,f,g,p,c,d,e,a,b,r];refine⟨a,by omega,?_,?_,?_⟩
  ·simp[u,show¬0=Z by omega,show¬0=Z+1 by omega]
  ·rw[w];omega
  ·rw[x]
 ·obtain rfl:k=v.items.length:=by omega
  rw[wo]at l o;simp[m,f,g,p,c,d,e,u];refine zI (fun k U Y Z=>U 1=.ref 0 0 0/\U 2=.ref 1 0 0/\U 3=.ref 2 0 0/\U 4=.fn (.func 107) [] [.ref 1 0 0,.ref 2 0 0]/\U 22=.sl 6 (v.fields.map yD)/\U 23=int v.fields.length/\U 24=int k/\3<=Z /\
    Y 1=some ⟨3,1,false,[[int ((1+vB v.items+vJ (v.fields.take k):Nat):Int)]]⟩/\Y 2=some ⟨3,1,false,[[int ((max (kO v.items) (ve (v.fields.take k)):Nat):Int)]]⟩) v.fields.length
   ⟨by simp[m],by simp[f],by simp[g],by simp[p],by simp,by simp,by simp,q,by simp[l,vJ],by simp[o,ve]⟩ ?_
  clear m f g p c d e q u l o a y Z Y U;rintro k U Y Z y ⟨m,f,g,p,c,d,e,q,l,o⟩;by_cases a:k<v.fields.length
  ·obtain⟨w,x⟩:=zkn a;have F:=xr (zj a);have r:=zlL k;have s:=Pv v.fields k;have b:=o6 n v.fields[k].2 ⟨by unfold zx;omega,by omega⟩ (qR Y Z (some ⟨154,6,false,[yD v.fields[k]]⟩)) (Z+1) 1 2 (by omega) (by omega) (by omega) _ _ (by rw[zt _ _ _ _ (by omega)];exact l) (by rw[zt _ _ _ _ (by omega)];exact o) (by unfold zx;omega);simp[yD]at b;simp[m,f,g,p,c,d,e,a,r,b];refine⟨a,by omega,?_,?_⟩
   ·rw[w];omega
   ·rw[x]
  ·obtain rfl:k=v.fields.length:=by omega
   rw[wo]at l o;have G:=uV v;have r:i6.wrap (((max (kO v.items) (ve v.fields):Nat):Int)+1)=(v.levels:Int):=by rw[zi (by omega) (by omega),t];omega
   simp[m,f,g,p,c,d,e];rw[Yy _ _ _ _ _ _ (oP (id:=2) (i:=0) (j:=0) (id':=1) (i':=0) (j':=0) (by simp[g]) (by simp[f]) (by omega) (by exact l) rfl) (fun _ h=>by cases h)];simp[m,f,g,l,o,r,f59,qS];omega
theorem V5{out:qn->O}{n:Nat}{args:zb}{r:O}(h:FV out n args=some r):∃v:qn,args=[.agg v.V]/\(v.vb<=zx/\v.vb<=n)/\r=out v:=zp h
theorem zcP{out:qn->O}:∀args r,FV out 0 args=some r->False:=fun args r h=>by obtain⟨v,rfl,a,rfl⟩:=V5 h;have:=JT v;omega
theorem BU{out:qn->O}{f:FuncId}(a:∃fn,prog.funcs[f]?=some fn/\(fn.name== "runtime.NumGoroutine")=false/\fn.body.isNone=false):zg prog f (zf false [] (FV out 0)):=by
 refine⟨a,fun args Y Z r b c h=>?_⟩;unfold zf at h;split at h
 ·split at h
  ·rename_i d hF;exact(zcP _ _ hF).elim
  ·cases h
 ·cases h
theorem EV:∀n,zg prog 59 (zf false [] (FV (fun v=>.wY [int v.parts,int v.levels]) n)):=by
 intro n
 induction n with
 |zero=>exact BU ⟨_,func59,by kernel_rfl,by kernel_rfl⟩
 |succ n a=>
  have b:Gd (Cc n):=Ew _ mixed ⟨a,by simp,trivial⟩;have c:zg prog 107 (we (Cc n) f107):=zpj b func107;have hd:Gd (Cd n):=Ew _ mixed ⟨c,by simp,trivial⟩;exact zX (fn:=f59) hd (zpi func59) false [] _ fun args r h=>by obtain⟨v,rfl,d,rfl⟩:=V5 h;exact⟨zG (zl 1) (by decide),_,Lj n v d,zW _⟩
noncomputable abbrev GV (out:qn->O):AM.Spec:=zf false [] (FV out zx)
theorem Yj(out:qn->O)(v:qn)(Y:Hp)(Z:Nat)(h:v.vb<=zx):GV out [.agg v.V] Y Z=some (out v,Y,Z):=bz out zx v Y Z ⟨h,h⟩
def EW(k:Int):Bool:=decide (k<0)||decide (5<k)
def V6(k n:Int)(s:za)(i f:Nat):Bool:=n != 0&&k != 1&&k != 2||!(s==[])&&k != 3||decide (0<i)&&k != 4||decide (0<f)&&k != 5
def eP(k n:Int):Bool:=k==1&&n != 0&&n != 1
def eQ(k n:Int):Bool:=k==2&&(decide (n<=-1000000000000000)||decide (1000000000000000<=n))
def NI(i f:Nat):Bool:=decide ((100:Int)<i)||decide ((100:Int)<f)
def NJ(s:za):Bool:=decide ((500:Int)<s.length)
def Jd(k n:Int)(s:za)(i f:Nat):Int:=
 if EW k then 4 else if V6 k n s i f then 3 else if eP k n||eQ k n then 1 else if NJ s then 2 else if wi 32 126 s then(if NI i f then 2 else 0)else 1
def K3(a b:za):Bool:=Op.bytesLess a b||a==b
def o9(a:za):Bool:=a.isEmpty||decide ((60:Int)<a.length)||!wi 32 126 a
def vf(b:Option za)(a:za):Bool:=match b with
 |none=>false
 |some p=>K3 a p
mutual
def qn.fault:qn->Int
 | .mk k n s a b=>if Jd k n s a.length b.length=0 then(if Z7 a=0 then XH none b else Z7 a)else Jd k n s a.length b.length
def Z7:List qn->Int
 |[]=>0
 |v::l=>if v.fault=0 then Z7 l else v.fault
def XH:Option za->List (za×qn)->Int
 |_,[]=>0
 |prev,(a,v)::l=>if o9 a then 5 else if vf prev a then 8 else if v.fault=0 then XH (some a) l else v.fault
end
theorem pa(v:qn):v.fault=if Jd v.kind v.n v.s v.items.length v.fields.length=0 then(if Z7 v.items=0 then XH none v.fields else Z7 v.items)else Jd v.kind v.n v.s v.items.length v.fields.length:=by cases v;rfl
theorem EX:zg prog 108 (GV fun v=>qz (V6 v.kind v.n v.s v.items.length v.fields.length)):=
 zX (fn:=f108) yz (zpi func108) false [] _ fun args r h=>by obtain⟨v,rfl,a,rfl⟩:=V5 h;exact⟨by simp[f108],_,zm rfl (by simp[f108,V6]),zW _⟩
noncomputable abbrev Ck (n:Nat):Ctx:=zQ prog [(60,zf false [] (FV (fun v=>int v.fault) n)),(108,GV fun v=>qz (V6 v.kind v.n v.s v.items.length v.fields.length)),(109,zf false [] (FS (wi 32 126)))]
@[simp]theorem qk(n:Nat):kg (Ck n) 109:=yI (by rfl) (zu _ _)
theorem lY{l:List qn}{k:Nat}(h:k<l.length):Z7 (l.drop k)=if l[k].fault=0 then Z7 (l.drop (k+1))else l[k].fault:=by rw[zc h,Z7]
theorem lZ{l:List (za×qn)}{k:Nat}(h:k<l.length)(p:Option za):XH p (l.drop k)=if o9 l[k].1 then 5 else if vf p l[k].1 then 8 else if l[k].2.fault=0 then XH (some l[k].1) (l.drop (k+1))else l[k].2.fault:=by rw[zc h,XH]
def j9(l:List (za×qn))(k:Nat):Option za:=if k=0 then none else(l[k-1]?).map (·.1)
theorem pb(n:Nat)(v:qn)(h:v.vb<=zx/\v.vb<=n+1):zr (Ck n) f60 [.agg v.V]=some (int v.fault):=by
 have hvb:=Zp v;have hl1:=ju v.items;have hl2:=jV v.fields;obtain⟨ha,hb⟩:=h;unfold zx at ha;have b:=pa v;have d:=fun Y Z=>Yj (fun v=>qz (V6 v.kind v.n v.s v.items.length v.fields.length)) v Y Z ha
 have A:v.s.length<=zx:=by unfold zx;omega
 refine zm rfl ?_;have x:(decide (v.kind<0)||decide (5<v.kind))=EW v.kind:=rfl;have F:(v.kind==1&&v.n != 0&&v.n != 1)=eP v.kind v.n:=rfl;have H:(v.kind==2&&(decide (v.n<=-1000000000000000)||decide (1000000000000000<=v.n)))=eQ v.kind v.n:=rfl;have e4:(decide ((100:Int)<v.items.length)||decide ((100:Int)<v.fields.length))=NI v.items.length v.fields.length:=rfl;have L:decide ((500:Int)<v.s.length)=NJ v.s:=rfl;cases q:EW v.kind
 case true=>simp[x,q,b,Jd,f60]
 cases y:V6 v.kind v.n v.s v.items.length v.fields.length
 case true=>simp[x,q,d,y,b,Jd,f60]
 cases B:eP v.kind v.n
 case true=>simp[x,q,d,y,F,B,b,Jd,f60]
 cases G:eQ v.kind v.n
 case true=>simp[x,q,d,y,F,B,H,G,b,Jd,f60]
 cases I:NJ v.s
 case true=>simp[x,q,d,y,F,B,H,G,L,I,b,Jd,f60]
 cases M:wi 32 126 v.s
 case false=>simp[x,q,d,y,F,B,H,G,L,I,M,A,b,Jd,f60]
 cases P:NI v.items.length v.fields.length
 case true=>simp[x,q,d,y,F,B,H,G,L,I,M,A,e4,P,b,Jd,f60]
 have hh:Jd v.kind v.n v.s v.items.length v.fields.length=0:=by simp[Jd,q,y,B,G,I,M,P]
 rw[hh,zd rfl]at b;simp[x,q,d,y,F,B,H,G,L,I,M,A,e4,P];refine zI (fun k U Y Z=>U 1=.ref 0 0 0/\U 70=.sl 5 (v.items.map qn.V)/\U 71=int v.items.length/\U 72=int k/\1<=Z/\Y 0=some ⟨61,5,false,[v.V]⟩/\Z7 v.items=Z7 (v.items.drop k)) v.items.length
  ⟨by simp,by simp,by simp,by simp,by simp,by simp,by simp⟩ ?_
 rintro k U Y Z hk ⟨l,r,t,u,C,p,w⟩;have z:¬0=Z:=by omega
 by_cases c:k<v.items.length
 ·have hm:=kD (zj c);have hw:=zlL k;have a:=fun Y Z=>bz (fun v=>int v.fault) n v.items[k] Y Z ⟨by unfold zx;omega,by omega⟩
  rw[lY c]at w;by_cases e:v.items[k].fault=0
  ·rw[zd e]at w;simp[l,r,t,u,c,a,e,hw]
   and_intros<;>first|omega|exact w|simp[z,p]
  ·rw[ze e]at w;have o:=nzT e;rw[w,ze e]at b;simp[l,r,t,u,c,a,o,b,f60]
 ·obtain rfl:k=v.items.length:=by omega
  rw[zo]at w;have w:Z7 v.items=0:=by rw[w];rfl
  rw[w,zd rfl]at b;simp[l,r,t,u,p];refine zI (fun k U Y Z=>U 1=.ref 0 0 0/\U 83=.sl 6 (v.fields.map yD)/\U 84=int v.fields.length/\U 85=int k/\1<=Z/\Y 0=some ⟨61,5,false,[v.V]⟩/\v.fault=XH (j9 v.fields k) (v.fields.drop k)) v.fields.length
   ⟨by simp[l],by simp,by simp,by simp,C,p,by simp[b,j9]⟩ ?_
  clear l r t u C p c hk z Z Y U b;rintro k U Y Z hk ⟨l,f,g,i,C,p,b⟩;have z:¬0=Z:=by omega
  by_cases c:k<v.fields.length
  ·have hm:=xr (zj c);have hw:=zlL k;have m:v.fields[k].1.length<=zx:=by unfold zx;omega
   have a:=fun Y Z=>bz (fun v=>int v.fault) n v.fields[k].2 Y Z ⟨by unfold zx;omega,by omega⟩
   have en:(v.fields[k].1.isEmpty||decide ((60:Int)<v.fields[k].1.length)||!wi 32 126 v.fields[k].1)=o9 v.fields[k].1:=rfl;rw[lZ c]at b;cases D:o9 v.fields[k].1
   case true=>simp[l,f,g,i,c,m,en,D,b,f60]
   have J:j9 v.fields (k+1)=some v.fields[k].1:=by simp[j9,c]
   simp only[D,zF,qJ]at b;by_cases k0:k=0
   ·subst k0;simp only[j9,vf,qA,zF,qJ]at b;by_cases e:v.fields[0].2.fault=0
    ·rw[zd e]at b;have w1:=zpg 1;simp[l,f,g,i,c,m,en,D,a,e,w1]
     and_intros<;>first|omega|(rw[b];rw[J];simp;done)|simp[z,p]
    ·rw[ze e]at b;have o:=nzT e;simp[l,f,g,i,c,m,en,D,a,o,b,f60]
   ·obtain⟨j,rfl⟩:∃j,k=j+1:=⟨k-1,by omega⟩;have N:j<v.fields.length:=by omega
    have Q:i6.wrap ((j:Int)+1-1)=(j:Int):=by rw[zi (by omega) (by omega)];omega
    have E:=zpg (j:Int);have R:((j:Int)+1).toNat=j+1:=by omega
    have S:0<(j:Int)+1:=by omega
    have T:0<=(j:Int)+1:=by omega
    have W:(j:Int)+1<v.fields.length:=by omega
    have wk:=zpg ((j:Int)+1+1);have X:(Op.bytesLess v.fields[j+1].1 v.fields[j].1||v.fields[j+1].1==v.fields[j].1)=K3 v.fields[j+1].1 v.fields[j].1:=rfl;have hpj:j9 v.fields (j+1)=some v.fields[j].1:=by simp[j9,N]
    simp only[hpj,vf]at b;cases K:K3 v.fields[j+1].1 v.fields[j].1
    case true=>simp only[K,qA]at b;simp[l,f,g,i,c,N,m,en,D,a,p,z,Q,E,R,S,T,W,X,K,b,f60]
    simp only[K,zF,qJ]at b;by_cases e:v.fields[j+1].2.fault=0
    ·rw[zd e]at b;simp[l,f,g,i,c,N,m,en,D,a,p,z,Q,E,R,S,T,W,X,K,e,wk]
     and_intros<;>first|omega|(rw[b];rw[J])|simp[z,p]
    ·rw[ze e]at b;have o:=nzT e;simp[l,f,g,i,c,N,m,en,D,a,p,z,Q,E,R,S,T,W,X,K,o,b,f60]
  ·obtain rfl:k=v.fields.length:=by omega
   rw[zo]at b;have b:v.fault=0:=by rw[b];rfl
   simp[l,f,g,i,b,f60]
theorem mX:∀n,zg prog 60 (zf false [] (FV (fun v=>int v.fault) n)):=by
 intro n
 induction n with
 |zero=>exact BU ⟨_,func60,by kernel_rfl,by kernel_rfl⟩
 |succ n a=>
  have b:AM.Good (Ck n) (fun g=>[109].contains g):=zw mixed ⟨a,by simp,EX,by simp,oV,fun _=>zu _ _,trivial⟩;exact zX (fn:=f60) b (zpi func60) false [] _ fun args r h=>by obtain⟨v,rfl,c,rfl⟩:=V5 h;exact⟨zG (zl 1) (by decide),_,pb n v c,zW _⟩
def qn.check(v:qn):Int:=if decide ((1000:Int)<v.parts)||decide ((8:Int)<v.levels)then 2 else v.fault
noncomputable abbrev Cch:Ctx:=zQ prog [(60,GV fun v=>int v.fault),(59,GV fun v=>.wY [int v.parts,int v.levels])]
theorem l0:zg prog 28 (GV fun v=>int v.check):=
 zX (fn:=f28) (zph mixed ⟨mX zx,EV zx,trivial⟩:AM.Good Cch _) (zpi func28) false [] _ fun args r h=>by
  obtain⟨v,rfl,a,rfl⟩:=V5 h;have b:=fun Y Z=>Yj (fun v=>int v.fault) v Y Z a.1
  have c:=fun Y Z=>Yj (fun v=>.wY [int v.parts,int v.levels]) v Y Z a.1
  refine⟨by simp[f28],_,zm rfl ?_,zW _⟩;cases d:(decide ((1000:Int)<v.parts)||decide ((8:Int)<v.levels))
  ·simp[b,c,d,f28,qn.check]
  ·simp[b,c,d,f28,qn.check]
def We(e s:Nat):zb->Option (Option kV)
 |[.nil]=>some none
 |[.em]=>some (some ⟨e,s,true,[]⟩)
 |[.sl a es]=>if a=s/\es≠[]/\es.length<=zx then some (some ⟨e,s,true,es⟩)else none
 |_=>none
def Qa(e s:Nat)(es:List zb)(y:O)(Z:Nat):O×(Hp->Hp)×Nat:=match y with
 | .nil=>(.nil,fun h=>h,Z)
 |_=>(.own Z 0 es.length,fun h=>qR h Z (some ⟨e,s,true,es⟩),Z+1)
theorem pd{e s:Nat}{es:List zb}{y:O}(h:lF s es y)(a:es.length<=zx)(Y:Hp)(Z:Nat):jj [] (We e s) [y] Y Z=some ((Qa e s es y Z).1,(Qa e s es y Z).2.1 Y,(Qa e s es y Z).2.2):=by
 cases h with
 |nil=>rfl
 |em=>rfl
 |sl=>simp at a;simp[jj,yP,We,Qa,a]
theorem EY{e s:Nat}{es:List zb}{y:O}{Z:Nat}(Y:Hp){id:Nat}(h:id<Z):(Qa e s es y Z).2.1 Y id=Y id:=by
 unfold Qa;split
 ·rfl
 ·exact zt _ _ _ _ (by omega)
theorem Ll{e s:Nat}{es:List zb}{y:O}(h:lF s es y)(Y:Hp)(Z:Nat):wg ((Qa e s es y Z).2.1 Y) (Qa e s es y Z).2.2 e s (Qa e s es y Z).1 es:=by
 cases h with
 |nil=>exact .inl ⟨rfl,rfl⟩
 |em=>exact .inr ⟨Z,by simp[Qa],rfl,by simp[Qa]⟩
 |sl=>exact .inr ⟨Z,by simp[Qa],rfl,by simp[Qa]⟩
theorem EZ(args:zb)(r:Option kV)(h:We 61 5 args=some r):args.length<=f173.ntmps/\∃x Y Z,kj C0 f173 args (fun _=>none) 0=some (x,Y,Z)/\aj r x Y Z:=by
 unfold We at h;split at h
 ·injection h with h;subst h;exact⟨by simp[f173],qw rfl (by simp[ZZ,VJ,f173,aj])⟩
 ·injection h with h;subst h;exact⟨by simp[f173],qw rfl (by simp[ZZ,VJ,f173,aj,zz,jU,AM.view,maxLen,zS,zy])⟩
 ·rename_i es;split at h
  ·rename_i d;obtain⟨rfl,a,b⟩:=d;injection h with h;subst h
   cases es with
   |nil=>exact absurd rfl a
   |cons c es=>
    unfold zx at b;simp at b;have e:es.length+1<=maxLen:=by unfold maxLen;omega
    have f:(es.length+1)*80<=140737488355328:=by omega
    refine⟨by simp[f173],qw rfl ?_⟩;simp[ZZ,VJ,f173,aj,zz,jU,AM.view,zS,zy,e,f]
  ·cases h
 ·cases h
theorem BV:zg prog 173 (jj [] (We 61 5)):=
 Q7 (fn:=f173) (code:=_) yz ⟨func173,by kernel_rfl,rfl,by kernel_rfl⟩ [] _ EZ
def qn.inner(v:qn):List qn:=v.items++v.fields.map (·.2)
def Yk(v:qn)(k:Nat):List zb:=(v.items++(v.fields.take k).map (·.2)).map qn.V
theorem BW(v:qn):Yk v 0=v.items.map qn.V:=by simp[Yk]
theorem BX{v:qn}{k:Nat}(h:k<v.fields.length):Yk v (k+1)=Yk v k++[v.fields[k].2.V]:=by unfold Yk;rw[zR h,Kc (f:=fun x:List UInt8×qn=>x.2),<-qT,Kc (f:=qn.V)];rfl
theorem BZ(v:qn):Yk v v.fields.length=v.inner.map qn.V:=by simp[Yk,qn.inner]
theorem pg(v:qn)(k:Nat):(Yk v k).length<=v.items.length+v.fields.length:=by simp[Yk];omega
noncomputable abbrev Cin:Ctx:=zQ prog [(173,jj [] (We 61 5))]
theorem Lm(v:qn)(z:v.vb<=zx)(y:O)(m:lF 5 (v.items.map qn.V) y) :
  ∃a,zr Cin f136 [.agg (v.V.set 3 y)]=some a/\∀(w:World) (S:Nat->Prop) (u:Value),yb w S a u->yb w S (.sl 5 (v.inner.map qn.V)) u:=by
 have A:=Zp v;have B:=ju v.items;have C:=jV v.fields;have o:=fun Y Z=>pd (e:=61) m (by simp;omega) Y Z
 have d:=fun Y Z=>Ll (e:=61) m Y Z
 unfold zx at z;have f:v.V.set 3 y=[int v.kind,int v.n,str v.s,y,.sl 6 (v.fields.map yD)]:=by rw[Zj];rfl
 have g:∀{code},f136.body=some code->ZY Cin code ⟨vn [.agg (v.V.set 3 y)],fun _=>none,0⟩ (VS Cin.P f136 (al (.sl 5 (v.inner.map qn.V))))->∃a,zr Cin f136 [.agg (v.V.set 3 y)]=some a/\∀(w:World) (S:Nat->Prop) (u:Value),yb w S a u->yb w S (.sl 5 (v.inner.map qn.V)) u:=by intro code D h;obtain⟨a,E,F⟩:=Q8 D h;exact⟨a,E,fun w S u G=>dd G F⟩
 refine g rfl ?_;rw[f];have H:=fun Y=>EY (e:=61) (s:=5) (es:=v.items.map qn.V) (y:=y) (Z:=1) Y (id:=0) (by omega)
 simp[m.cell,o,H];refine zI (fun k U Y Z=>U 10=.sl 6 (v.fields.map yD)/\U 11=int v.fields.length/\U 12=int k/\wg Y Z 61 5 (U 3) (Yk v k)) v.fields.length
  ⟨by simp,by simp,by simp,by rw[BW];simpa using d _ _⟩ ?_
 rintro k U Y Z K ⟨i,j,l,p⟩;have I:=pg v k;by_cases b:k<v.fields.length
 ·have J:=zlL k;have q:=p.more (some ⟨154,6,false,[str v.fields[k].1::v.fields[k].2.V]⟩);have r:=q.yL (P:=prog) (t:=58) (c:=v.fields[k].2.V) el58 sz61 by61 ze61 rfl (by omega) (by unfold maxLen;omega) (by omega);have x:∀Y Z,zz prog Y Z 58 1 [(0,.agg v.fields[k].2.V)]=some (.own Z 0 1,qR Y Z (some ⟨61,5,true,[v.fields[k].2.V]⟩),Z+1):=fun Y Z=>by simp only[zz,el58,sz61,ze61,zy,V4];simp[zS]
  simp[i,j,l,b,x,J,r];refine⟨b,?_⟩;rw[BX b];exact wg.after
 ·obtain rfl:k=v.fields.length:=by omega
  rw[BZ]at p;have:=p.freeze Z;simp[i,j,l,f136];exact this
theorem E0:zg prog 136 (GV fun v=>.sl 5 (v.inner.map qn.V)):=
 xE (fn:=f136) (zph mixed ⟨BV,trivial⟩:AM.Good Cin _) (zpi func136) false [] _ fun args r h w S vs b=>by obtain⟨v,rfl,c,rfl⟩:=V5 h;obtain⟨u,d,e⟩:=Jr b;subst d;obtain⟨y,f,a⟩:=lR e (j:=3) (s:=5) (es:=v.items.map qn.V) (by simp);obtain⟨g,i,k⟩:=Lm v c.1 y f;exact⟨_,g,.cons a .nil,by simp[f136],i,k⟩
noncomputable def FPN (out:List Sp->Int->O) (pre:List Sp->Int->Prop):zb->Option O:=z6 (α:=List Sp×Int) (fun a=>[.sl 2 (a.1.map ja),int a.2]) (fun a=>pre a.1 a.2) (fun a=>out a.1 a.2)
theorem T8(out:List Sp->Int->O)(pre:List Sp->Int->Prop)(l:List Sp)(n:Int)(Y:Hp)(Z:Nat)(h:pre l n):zf false [] (FPN out pre) [.sl 2 (l.map ja),int n] Y Z=some (out l n,Y,Z):=
 hPc (l,n) _ _ rfl (fun a b e=>by obtain⟨f,g⟩:=a;obtain⟨i,j⟩:=b;simp only[zh,zD]at e;obtain⟨d,c⟩:=e;injection c with c;injection c with _ c;rw[QK d,c]) h (.inr rfl)
def mY(l:List Sp)(k:Int):Bool:=match l with
 |[]=>false
 |s::l=>(decide (s.1<=k)&&decide (k<s.2))||mY l k
theorem Pw{l:List Sp}{k:Nat}(h:k<l.length)(x:Int):mY (l.drop k) x=((decide (l[k].1<=x)&&decide (x<l[k].2))||mY (l.drop (k+1)) x):=by rw[zc h,mY]
theorem T9(l:List Sp)(x:Int)(h:l.length<=100000):zr C0 f40 [.sl 2 (l.map ja),int x]=some (qz (mY l x)):=by
 refine zm rfl ?_;simp;refine zI (fun k U Y Z=>U 1=int x/\U 7=.sl 2 (l.map ja)/\U 8=int l.length/\U 9=int k/\mY l x=mY (l.drop k) x) l.length
  ⟨by simp,by simp,by simp,by simp,by simp⟩ ?_
 rintro k U Y Z j ⟨d,e,f,g,b⟩;by_cases a:k<l.length
 ·have i:=zlL k;rw[Pw a]at b;cases c:(decide (l[k].1<=x)&&decide (x<l[k].2))
  ·rw[c,ye]at b;simp[d,e,f,g,a,c,i];exact⟨a,b⟩
  ·rw[c,Wu]at b;simp[d,e,f,g,a,c,b,f40]
 ·obtain rfl:k=l.length:=by omega
  rw[zo,mY]at b;simp[d,e,f,g,b,f40]
theorem Px:zg prog 40 (zf false [] (FPN (fun l x=>qz (mY l x)) fun l _=>l.length<=100000)):=
 pS1 yz func40 false [] fun⟨l,x⟩ a=>⟨zG (zl 2) (by decide),_,T9 l x a,zW _⟩
noncomputable def Ua (out:List Sp->List Sp->O) (pre:List Sp->List Sp->Prop):zb->Option O:=z6 (α:=List Sp×List Sp) (fun a=>[.sl 2 (a.1.map ja),.sl 2 (a.2.map ja)]) (fun a=>pre a.1 a.2) (fun a=>out a.1 a.2)
theorem ph(out:List Sp->List Sp->O)(pre:List Sp->List Sp->Prop)(a b:List Sp)(Y:Hp)(Z:Nat)(h:pre a b):zf false [] (Ua out pre) [.sl 2 (a.map ja),.sl 2 (b.map ja)] Y Z=some (out a b,Y,Z):=
 hPc (a,b) _ _ rfl (fun a b e=>by obtain⟨c,d⟩:=a;obtain⟨f,g⟩:=b;simp only[zh,zD]at e;rw[QK e.1,QK e.2]) h (.inr rfl)
end Go.Q
namespace Go.Proofs
open Go.Shelf
end Go.Proofs
namespace Go.Q
theorem Ub{a b:List Sp}{k:Nat}(c:k<a.length)(d:k<b.length):decide (a.drop k=b.drop k)=(decide (a[k]=b[k])&&decide (a.drop (k+1)=b.drop (k+1))):=by rw[zc c,zc d,<-Bool.decide_and];congr 1;simp only[zh]
theorem binS(x y u v:Int):ZZ prog .neq 115 (.agg [int x,int y]) (.agg [int u,int v])=some (qz (!(decide (x=u)&&decide (y=v)))):=by simp only[ZZ,zj5,yi,qA,zK,bg];rfl
theorem zgM{a b:Sp}:decide (a=b)=(decide (a.1=b.1)&&decide (a.2=b.2)):=by simp[Prod.ext_iff]
theorem l6(a b:List Sp)(q:a.length<=zx):zr C0 f152 [.sl 2 (a.map ja),.sl 2 (b.map ja)]=some (qz (decide (a=b))):=by
 unfold zx at q;refine zm rfl ?_;by_cases j:a.length=b.length
 case neg=>
  have f:((a.length:Int) != (b.length:Int))=true:=by simp;omega
  have l:¬a=b:=fun e=>j (by rw[e])
  simp[f,l,f152]
 have f:((a.length:Int) != (b.length:Int))=false:=by simp[j]
 simp[f];refine zI (fun k U Y Z=>U 0=.sl 2 (a.map ja)/\U 1=.sl 2 (b.map ja)/\U 12=int a.length/\U 13=int k/\decide (a=b)=decide (a.drop k=b.drop k)) a.length
  ⟨by simp,by simp,by simp,by simp,by simp⟩ ?_
 rintro k U Y Z s ⟨m,n,g,h,i⟩;by_cases d:k<a.length
 ·have c:k<b.length:=by omega
  have r:=zlL k;rw[Ub d c,zgM]at i;by_cases o:a[k].1=b[k].1<;>by_cases p:a[k].2=b[k].2<;>simp only[o,p,cY,gz,bg,jb,Bool.and_false,kT]at i
  ·simp[m,n,g,h,d,c,o,p,r,binS];exact⟨d,by simpa using i⟩
  all_goals simp[m,n,g,h,d,c,o,p,i,binS,f152]
 ·obtain rfl:k=a.length:=by omega
  rw[zo,j,zo]at i;simp[m,n,g,h,i,f152]
theorem B0:zg prog 152 (zf false [] (Ua (fun a b=>qz (decide (a=b))) fun a _=>a.length<=zx)):=
 pS1 yz func152 false [] fun⟨a,b⟩ c=>⟨zG (zl 2) (by decide),_,l6 a b c,zW _⟩
inductive qO where
 |mk (kind:Int) (attr:List UInt8) (op:Int) (yC:List qn) (pat name:List UInt8) (args:List qO)
namespace qO
def kind:qO->Int|.mk k _ _ _ _ _ _=>k
def attr:qO->za|.mk _ a _ _ _ _ _=>a
def op:qO->Int|.mk _ _ o _ _ _ _=>o
def yC:qO->List qn|.mk _ _ _ v _ _ _=>v
def pat:qO->za|.mk _ _ _ _ p _ _=>p
def name:qO->za|.mk _ _ _ _ _ n _=>n
def args:qO->List qO|.mk _ _ _ _ _ _ l=>l
end qO
theorem qO.ind{P:qO->Prop}(h:∀k a o v p n l,(∀x∈l,P x)->P (.mk k a o v p n l))(c:qO):P c:=
 qO.rec (motive_1:=P) (motive_2:=fun l=>∀x∈l,P x) (fun k a o v p n l b=>h k a o v p n l b) (by simp)
  (fun x l e b y d=>by
   rcases zA.1 d with rfl|d
   ·exact e
   ·exact b y d) c
mutual
def qO.V:qO->zb
 | .mk k a o v p n l=>[int k,str a,int o,.sl 5 (v.map qn.V),str p,str n,.sl 7 (DY l)]
def DY:List qO->List zb
 |[]=>[]
 |c::l=>c.V::DY l
end
theorem pj:∀l:List qO,DY l=l.map qO.V
 |[]=>rfl
 |c::l=>by simp[DY,pj l]
theorem qY(c:qO):c.V=[int c.kind,str c.attr,int c.op,.sl 5 (c.yC.map qn.V),str c.pat,str c.name,.sl 7 (c.args.map qO.V)]:=by
 cases c with
 |mk k a o v p n l=>simp[qO.V,pj,qO.kind,qO.attr,qO.op,qO.yC,qO.pat,qO.name,qO.args]
@[simp]theorem zfv(c:qO):c.V.length=7:=by rw[qY];rfl
@[simp]theorem Ln(c:qO):c.V.all O.yo=true:=by rw[qY];rfl
@[simp]theorem zfw(c:qO):(∀x,x∈c.V->O.yo x=true)=True:=by have:=Ln c;rw[ql]at this;exact eq_true this
@[simp]theorem JF(c:qO):c.V.take 7=c.V:=qq (by simp)
@[simp]theorem zno(c:qO)(h:0<c.V.length):c.V[0]=int c.kind:=by simp[qY c]
@[simp]theorem znp(c:qO)(h:1<c.V.length):c.V[1]=str c.attr:=by simp[qY c]
@[simp]theorem znq(c:qO)(h:2<c.V.length):c.V[2]=int c.op:=by simp[qY c]
@[simp]theorem znr(c:qO)(h:3<c.V.length):c.V[3]=.sl 5 (c.yC.map qn.V):=by simp[qY c]
@[simp]theorem zns(c:qO)(h:4<c.V.length):c.V[4]=str c.pat:=by simp[qY c]
@[simp]theorem znt(c:qO)(h:5<c.V.length):c.V[5]=str c.name:=by simp[qY c]
@[simp]theorem znu(c:qO)(h:6<c.V.length):c.V[6]=.sl 7 (c.args.map qO.V):=by simp[qY c]
theorem E1{a b:List qn}(h:a.map qn.V=b.map qn.V):a=b:=yX (fun _ _=>Qt) h
theorem vQ:∀{a b:qO},a.V=b.V->a=b:=by
 intro a
 induction a using qO.ind with
 |h k a o v p n l f=>
  intro b e;cases b with
  |mk s t o' u w z l'=>
   simp only[qY,qO.kind,qO.attr,qO.op,qO.yC,qO.pat,qO.name,qO.args,zh,zD]at e;obtain⟨g,i,j,c,m,q,d⟩:=e;obtain rfl:=qB g;obtain rfl:=q9 i;obtain rfl:=qB j;injection c with _ c
   obtain rfl:=E1 c;obtain rfl:=q9 m;obtain rfl:=q9 q;injection d with _ d;rw[V3 (fun x r y=>f x r) d]
mutual
def qO.cb:qO->Nat
 | .mk _ a _ v p n l=>1+a.length+VG v+p.length+n.length+lG l
def lG:List qO->Nat
 |[]=>0
 |c::l=>c.cb+lG l
end
theorem Qb(c:qO):c.cb=1+c.attr.length+VG c.yC+c.pat.length+c.name.length+lG c.args:=by cases c;rfl
theorem V7(c:qO):0<c.cb:=by rw[Qb];omega
theorem vC:∀{l:List qO} {x:qO},x∈l->x.cb<=lG l
 |y::l,x,h=>by
  simp only[lG];rcases zA.1 h with rfl|h
  ·omega
  ·have:=vC h;omega
theorem jW:∀l:List qO,l.length<=lG l
 |[]=>by simp[lG]
 |c::l=>by have:=jW l;have:=V7 c;simp only[lG,zV];omega
mutual
def qO.parts:qO->Nat
 | .mk _ _ _ _ _ _ l=>1+jw l
def jw:List qO->Nat
 |[]=>0
 |c::l=>c.parts+jw l
end
mutual
def qO.levels:qO->Nat
 | .mk _ _ _ _ _ _ l=>jl l+1
def jl:List qO->Nat
 |[]=>0
 |c::l=>max c.levels (jl l)
end
theorem bA(c:qO):c.parts=1+jw c.args:=by cases c;rfl
theorem di(c:qO):c.levels=jl c.args+1:=by cases c;rfl
theorem dj(l:List qO)(h:∀x∈l,x.parts<=x.cb):jw l<=lG l:=by
 induction l with
 |nil=>simp[jw]
 |cons v l a=>have:=h v (by simp);have:=a fun x b=>h x (by simp[b]);simp only[jw,lG];omega
theorem hZ(c:qO):c.parts<=c.cb:=by
 induction c using qO.ind with
 |h k a o v p n l b=>have:=dj l b;rw[bA,Qb];simp only[qO.args];omega
theorem E2(l:List qO)(h:∀x∈l,x.levels<=x.parts):jl l<=jw l:=by
 induction l with
 |nil=>simp[jl]
 |cons v l a=>have:=h v (by simp);have:=a fun x b=>h x (by simp[b]);simp only[jw,jl];omega
theorem Lo(c:qO):c.levels<=c.parts:=by
 induction c using qO.ind with
 |h k a o v p n l b=>have:=E2 l b;rw[bA,di];simp only[qO.args];omega
theorem cI(a b:List qO):jw (a++b)=jw a+jw b:=by
 induction a with
 |nil=>simp[jw]
 |cons v a c=>simp only[wI,jw,c];omega
theorem pk(a b:List qO):jl (a++b)=max (jl a) (jl b):=by
 induction a with
 |nil=>simp[jl]
 |cons v a c=>simp only[wI,jl,c];omega
theorem zko{l:List qO}{k:Nat}(h:k<l.length):jw (l.take (k+1))=jw (l.take k)+l[k].parts/\jl (l.take (k+1))=max (jl (l.take k)) l[k].levels:=by rw[zR h,cI,pk];simp[jw,jl]
theorem uW(l:List qO)(k:Nat):jw (l.take k)<=jw l:=by have:=cI (l.take k) (l.drop k);rw[kQ]at this;omega
noncomputable def FC (out:qO->O) (n:Nat):zb->Option O:=z6 (α:=qO) (fun c=>[.agg c.V]) (fun c=>c.cb<=zx/\c.cb<=n) out
theorem zkp(out:qO->O)(n:Nat)(c:qO)(h:c.cb<=zx/\c.cb<=n):FC out n [.agg c.V]=some (out c):=
 zE (V:=fun c:qO=>[.agg c.V]) (a:=c) (fun a b e=>by simp only[zh,zD,O.agg.injEq]at e;exact vQ e) h
@[simp]theorem Py(Y:Hp)(c:qO):wV Y c.V=some (c.V,Y):=by rw[qY];simp
theorem l7(Y:Hp)(c:qO):qH Y (.agg c.V)=some (.agg c.V,Y):=by rw[qY];simp
theorem Lp(c:qO):O.noOwn (.agg c.V)=true:=by rw[qY];simp
theorem ZQ(out:qO->O)(n:Nat)(c:qO)(Y:Hp)(Z:Nat)(h:c.cb<=zx/\c.cb<=n):zf false [] (FC out n) [.agg c.V] Y Z=some (out c,Y,Z):=
 zU (Y1:=Y) (show zv Y [.agg c.V]=some ([.agg c.V],Y) by simp only[zv,l7]) (zkp out n c h) (.inr (by simp only[q8,Lp,JA,Bool.and_self]))
theorem WT{out:qO->O}{n:Nat}{args:zb}{r:O}(h:FC out n args=some r):∃c:qO,args=[.agg c.V]/\(c.cb<=zx/\c.cb<=n)/\r=out c:=zp h
theorem eR{out:qO->O}{f:FuncId}(a:∃fn,prog.funcs[f]?=some fn/\(fn.name== "runtime.NumGoroutine")=false/\fn.body.isNone=false):zg prog f (zf false [] (FC out 0)):=by
 refine⟨a,fun args Y Z r b d h=>?_⟩;unfold zf at h;split at h
 ·split at h
  ·rename_i e hF;obtain⟨c,_,g,_⟩:=WT hF;have:=V7 c;omega
  ·cases h
 ·cases h
noncomputable abbrev GC (out:qO->O):AM.Spec:=zf false [] (FC out zx)
theorem xX(out:qO->O)(c:qO)(Y:Hp)(Z:Nat)(h:c.cb<=zx):GC out [.agg c.V] Y Z=some (out c,Y,Z):=ZQ out zx c Y Z ⟨h,h⟩
def B4(done:List za)(k:Nat):List zb:=done.map (fun p=>[str p])++List.replicate k [str []]
theorem E3(done:List za)(k:Nat)(p:za):(B4 done (k+1)).set done.length [str p]=B4 (done++[p]) k:=by unfold B4;rw[List.set_append_right _ _ (by simp)];simp[List.replicate_succ]
theorem E4(done:List za)(k:Nat):(B4 done (k+1))[done.length]?=some [str []]:=by unfold B4;rw[z8 (by simp)];simp[List.replicate_succ]
theorem Pz(done:List za):B4 done 0=done.map fun p=>[str p]:=by simp[B4]
def qu(s sep:za):List za:=Lib.split s sep
theorem dk{sep s:za}{i k:Nat}(h:Lib.index s sep=i):Lib.splitK sep 0 (k+1) s=s.take i::Lib.splitK sep 0 k (s.drop (i+sep.length)):=by
 have a:¬(Lib.index s sep==-1)=true:=by rw[jq];omega
 rw[Lib.splitK,ze a,h];simp
theorem uX{s sep:za}(h:sep≠[]):Lib.count s sep<=s.length:=by have:=Lib.countB_le ⟨sep.toArray⟩ (by cases sep<;>simp_all) s.length ⟨s.toArray⟩ (by simp);simpa[Lib.countB]using this
theorem Uc(a b:za)(Y:Hp)(Z:Nat)(h:a.length<=zx)(c:b.length<=zx)(d:1<=b.length):zf false [] (Zo cntP fun _ b=>1<=b.length) [str a,str b] Y Z=some (int (Lib.count a b),Y,Z):=kl _ _ a b Y Z h c d rfl
def V8(xs:List za):kV:=⟨9,1,true,xs.map fun p=>[str p]⟩
theorem tf(s sep:za)(E:s.length<=zx)(F:sep.length<=zx)(u:1<=sep.length) :
  ∃x Y Z,kj Ci2 f235 [str s,str sep,int 0,int (-1)] (fun _=>none) 0=some (x,Y,Z)/\aj (some (V8 (qu s sep))) x Y Z:=by
 have b:sep≠[]:=by intro e;subst e;simp at u
 have G:=uX (s:=s) b;unfold zx at E F;refine VV rfl ?_;have l:=eqF0 b;have v:=zpg ((Lib.count s sep:Int)+1);have H:=zpg ((s.length:Int)+1);have w3:(if(s.length:Int)+1<(Lib.count s sep:Int)+1 then(s.length:Int)+1 else(Lib.count s sep:Int)+1)=(Lib.count s sep:Int)+1:=ze (by omega);have I:i6.wrap ((Lib.count s sep:Int)+1-1)=(Lib.count s sep:Int):=by rw[zi (by omega) (by omega)];omega
 have m:=zpg (Lib.count s sep:Int);have w:((Lib.count s sep:Int)+1).toNat=Lib.count s sep+1:=by omega
 have y:0<=(Lib.count s sep:Int)+1:=by omega
 have c3:Lib.count s sep+1<=maxLen:=by simp[maxLen];omega
 have J:(Lib.count s sep+1)*16<=140737488355328:=by omega
 have n:=fun Y Z=>Uc s sep Y Z (by unfold zx;omega) (by unfold zx;omega) u
 have o:¬s.length<Lib.count s sep:=by omega
 have K:(Lib.count s sep:Int)+1<=(maxLen:Int):=by simp[maxLen];omega
 simp[l,n,v,H,o,I,m,ZA,w,y,K,J];refine zI (fun j U Y Z=>∃done cur,done.length=j/\U 0=str cur/\U 1=str sep/\U 2=int 0/\U 3=int (Lib.count s sep)/\U 9=.own 0 0 (Lib.count s sep+1)/\U 10=int j /\
   Y 0=some ⟨9,1,true,B4 done (Lib.count s sep+1-j)⟩/\j+Lib.count cur sep=Lib.count s sep/\qu s sep=done++qu cur sep/\cur.length<=s.length) (Lib.count s sep)
  ⟨[],s,rfl,by simp,by simp,by simp,by simp[m],by simp,by simp,by simp[B4],by simp,by simp,zl _⟩ ?_
 rintro j U Y Z hj ⟨done,cur,hd,z,A,B,C,D,d,k,hc,hs,hl⟩;have f:∀Y Z,zf false [] (Zo I7 fun _ _=>True) [str cur,str sep] Y Z=some (int (Lib.index cur sep),Y,Z):=fun Y Z=>Vb cur sep Y Z (by unfold zx;omega) (by unfold zx;omega)
 by_cases p:j<Lib.count s sep
 ·have L:Lib.index cur sep≠-1:=fun e=>by have:=Lib.count_miss e;omega
  have q:0<=Lib.index cur sep:=by
   rcases Lib.index_spec cur sep with⟨h,_⟩|⟨i,h,_⟩
   ·exact absurd h L
   ·omega
  obtain⟨i,hi⟩:∃i:Nat,Lib.index cur sep=i:=⟨(Lib.index cur sep).toNat,by omega⟩;have M:=Lib.index_room cur sep q;rw[hi]at M f;have r:=Lib.count_hit b hi;have c:qu cur sep=cur.take i::qu (cur.drop (i+sep.length)) sep:=by unfold qu Lib.split;rw[r,DT 1,dk hi]
  have N:¬((i:Int)<0):=by omega
  have P:=zpg (i:Int);have Q:=zpg ((i:Int)+sep.length);have R:=zlL j;have S:((i:Int)+sep.length).toNat=i+sep.length:=by omega
  have T:i+sep.length<=cur.length:=by omega
  have W:i<=cur.length:=by omega
  have X:0<=(i:Int)+sep.length:=by omega
  have k9:j<Lib.count s sep+1:=by omega
  have t:Lib.count s sep+1-j=(Lib.count s sep-j)+1:=by omega
  have g:=E4 done (Lib.count s sep-j);rw[hd]at g;have a:=E3 done (Lib.count s sep-j) (cur.take i);rw[hd]at a;rw[t]at k;simp[z,A,B,C,D,d,k,p,f,N,P,Q,R,S,T,W,X,k9,g,a];have ht:List.take (cur.length-(i+sep.length)) (List.drop (i+sep.length) cur)=List.drop (i+sep.length) cur:=qq (by simp);rw[ht];exact⟨by omega,done++[cur.take i],by simp[hd],rfl,by omega,by rw[hs,c];simp,by omega⟩
 ·obtain rfl:j=Lib.count s sep:=by omega
  have hz:Lib.count cur sep=0:=by omega
  have c:qu cur sep=[cur]:=by unfold qu Lib.split;rw[hz];rfl
  have t:Lib.count s sep+1-Lib.count s sep=0+1:=by omega
  have g:=E4 done 0;have a:=E3 done 0 cur;rw[hd]at g a;rw[t]at k;simp[z,A,B,C,D,d,k,g,a,v,m,w,y,aj,jO,f235];rw[hs,c];exact⟨0,⟨by omega,by simp[V8,hd]⟩,by simp[V8,Pz]⟩
noncomputable def FGs:zb->Option (Option kV):=z6 (α:=za×za) (fun a=>[str a.1,str a.2,int 0,int (-1)]) (fun a=>a.1.length<=zx/\a.2.length<=zx/\1<=a.2.length) (fun a=>some (V8 (qu a.1 a.2)))
noncomputable def FSp:zb->Option (Option kV):=z6 (α:=za×za) (fun a=>[str a.1,str a.2]) (fun a=>a.1.length<=zx/\a.2.length<=zx/\1<=a.2.length) (fun a=>some (V8 (qu a.1 a.2)))
theorem zgN:∀a b:za×za,[str a.1,str a.2,int 0,int (-1)]=[str b.1,str b.2,int 0,int (-1)]->a=b:=by rintro⟨c,d⟩ ⟨f,g⟩ e;simp only[zh,zD]at e;rw[q9 e.1,q9 e.2]
theorem zlN:zg prog 235 (jj [] FGs):=
 Q7 (fn:=f235) (code:=_) TX ⟨func235,by kernel_rfl,rfl,by kernel_rfl⟩ [] _ fun args r h=>by obtain⟨⟨a,b⟩,rfl,⟨c,d,e⟩,rfl⟩:=zp h;exact⟨by simp[f235],tf a b c d e⟩
theorem zcQ(a b:za)(Y:Hp)(Z:Nat)(c:a.length<=zx)(d:b.length<=zx)(f:1<=b.length):jj [] FGs [str a,str b,int 0,int (-1)] Y Z=some (.own Z 0 (qu a b).length,qR Y Z (some (V8 (qu a b))),Z+1):=by have e:FGs (yP [] [str a,str b,int 0,int (-1)])=some (some (V8 (qu a b))):=zE (V:=fun a:List UInt8×za=>[str a.1,str a.2,int 0,int (-1)]) (a:=(a,b)) zgN ⟨c,d,f⟩;simp[jj,e,V8]
noncomputable abbrev Csp:Ctx:=zQ prog [(235,jj [] FGs)]
theorem zgO:Gd Csp:=zph mixed ⟨zlN,trivial⟩
theorem YE:zg prog 196 (jj [] FSp):=
 Q7 (fn:=f196) (code:=_) zgO ⟨func196,by kernel_rfl,rfl,by kernel_rfl⟩ [] _ fun args r h=>by
  obtain⟨⟨a,b⟩,rfl,⟨c,d,e⟩,rfl⟩:=zp h;have f:=fun Y Z=>zcQ a b Y Z c d e
  exact⟨by simp[f196],VV rfl (by simp[f,aj,V8,f196])⟩
theorem Qy(a b:za)(Y:Hp)(Z:Nat)(c:a.length<=zx)(d:b.length<=zx)(f:1<=b.length):jj [] FSp [str a,str b] Y Z=some (.own Z 0 (qu a b).length,qR Y Z (some (V8 (qu a b))),Z+1):=by have e:FSp (yP [] [str a,str b])=some (some (V8 (qu a b))):=zE (V:=fun a:List UInt8×za=>[str a.1,str a.2]) (a:=(a,b)) BN ⟨c,d,f⟩;simp[jj,e,V8]
def V9(c:UInt8):Bool:=pr 48 57 c
def vR(l:za):Bool:=l.all V9
def yS(l:za):Bool:=!(l==[])&&!(decide (1<l.length)&&l.headD 0==48)&&vR l
def yA(l:za):Bool:=l==[120]||l==[88]||l==[42]
def Vc(c:UInt8):Bool:=pr 97 122 c||pr 65 90 c||pr 48 57 c||c==45
def ia(l:za):Bool:=l.all Vc&&!(l==[])
theorem ib{l:za}{k:Nat}(h:k<l.length):vR (l.drop k)=(V9 l[k]&&vR (l.drop (k+1))):=eJ h
theorem uY{l:za}{k:Nat}(h:k<l.length):(l.drop k).all Vc=(Vc l[k]&&(l.drop (k+1)).all Vc):=eJ h
theorem po(l:za)(i:l.length<=zx):zr C0 f240 [str l]=some (qz (vR l)):=by
 refine zm rfl ?_;unfold zx at i;simp;refine zI (fun k U Y Z=>U 0=str l/\U 5=int l.length/\U 6=int k/\vR l=vR (l.drop k)) l.length ⟨by simp,by simp,by simp,by simp⟩ ?_;rintro k U Y Z m ⟨e,f,g,b⟩;by_cases a:k<l.length
 ·have j:=zlL k;rw[ib a]at b;have h:=VX 48 57 l[k];simp only[vm]at h;cases d:V9 l[k]
  ·have b:vR l=false:=by rw[b,d];rfl
   have c:pr 48 57 l[k]=false:=d;simp[e,f,g,a,b,h,c,f240]
  ·have c:pr 48 57 l[k]=true:=d;simp[e,f,g,a,h,c,j];exact⟨a,by rw[b,d];rfl⟩
 ·obtain rfl:k=l.length:=by omega
  have b:vR l=true:=by rw[b,zo];rfl
  simp[e,f,g,b,f240]
theorem Y5:zg prog 240 (zf false [] (FS vR)):=
 pS1 yz func240 false [] fun l Y=>⟨by simp[f240],_,po l Y,zW _⟩
noncomputable abbrev Cdg:Ctx:=zQ prog [(240,zf false [] (FS vR))]
theorem zgP:AM.Good Cdg (fun g=>[240].contains g):=zw mixed ⟨Y5,fun _=>zu _ _,trivial⟩
theorem Lq(l:za)(g:l.length<=zx):zr Cdg f236 [str l]=some (qz (yS l)):=by
 refine zm rfl ?_;have hd:=fun Y Z=>kX vR l Y Z g
 cases l with
 |nil=>simp[yS,f236]
 |cons c l=>
  by_cases b:0<l.length
  ·have a:l≠[]:=by intro e;subst e;simp at b
   have f:(1:Int)<(l.length:Int)+1:=by omega
   by_cases d:c=48
   ·subst d;simp[hd,b,a,f,yS,f236]
   ·have h:((c.toNat:Int)==48)=false:=by rw[ya];intro e;apply d;rw[<-Zz];simp;omega
    simp[hd,b,a,d,h,f,yS,f236]
  ·have a:l=[]:=by cases l<;>simp_all
   subst a;simp[hd,yS,f236]
theorem l8:zg prog 236 (zf false [] (FS yS)):=
 pS1 zgP func236 false [] fun l Y=>⟨by simp[f236],_,Lq l Y,zW _⟩
theorem PA(l:za):zr C0 f246 [str l]=some (qz (yA l)):=by
 refine zm rfl ?_;cases a:(l==[120])
 ·cases b:(l==[88])
  ·simp[a,b,yA,f246]
  ·simp[a,b,yA,f246]
 ·simp[a,yA,f246]
theorem pq:zg prog 246 (zf false [] (FS yA)):=
 pS1 yz func246 false [] fun l Y=>⟨by simp[f246],_,PA l,zW _⟩
def B5(l:za):Int:=((Lib.decNat l).getD 0:Nat)
theorem Xa:∀(l:za) (a:Nat),vR l=true->∃n,Lib.decFrom a l=some n/\n<(a+1)*10 ^ l.length
 |[],a,_=>⟨a,rfl,by simp⟩
 |c::l,a,h=>by
  simp only[vR,q8,zH]at h;have b:48<=c.toNat/\c.toNat<=57:=by have:=h.1;simpa[V9,pr]using this
  obtain⟨n,d,e⟩:=Xa l (a*10+(c.toNat-48)) h.2;refine⟨n,?_,?_⟩
  ·simp only[Lib.decFrom,Lib.digitVal,b,and_self,qA];exact d
  ·have f:a*10+(c.toNat-48)+1<=(a+1)*10:=by omega
   calc n<(a*10+(c.toNat-48)+1)*10 ^ l.length:=e
    _<=(a+1)*10*10 ^ l.length:=zY _ f
    _=(a+1)*10 ^ (c::l).length:=by rw[zV,Nat.pow_succ,Nat.mul_assoc,zeN 10]
theorem pt{l:za}(h:yS l=true):l≠[]/\vR l=true:=by simp only[yS,zH]at h;exact⟨by intro e;subst e;simp at h,h.2⟩
theorem Lr{l:za}(h:yS l=true):Lib.atoi l=some (B5 l):=by
 obtain⟨a,b⟩:=pt h;obtain⟨n,i,_⟩:=Xa l 0 b;have f:Lib.decNat l=some n:=by unfold Lib.decNat;rw[ze (by simpa using a)];exact i
 cases l with
 |nil=>exact absurd rfl a
 |cons c l=>
  have k:48<=c.toNat/\c.toNat<=57:=by have:=b;simp only[vR,q8,zH]at this;simpa[V9,pr]using this.1
  have j:B5 (c::l)=n:=by unfold B5;rw[f];rfl
  rw[j];have g:∀d:UInt8,d.toNat<48->(c==d)=false:=fun d hd=>by rw[ya];intro e;subst e;omega
  unfold Lib.atoi;simp only[];rw[g 45 (by decide),g 43 (by decide),f];rfl
noncomputable def FAt:zb->Option O:=z6 (α:=za) (fun l=>[str l]) (fun l=>l.length<=18/\yS l=true) (fun l=>.wY [int (B5 l),.v .nilIface])
theorem Ud{dr:Prop}(w:World)(e:TypeId)(s:ByteArray):Fr dr w (fun _=>False) (Lib.bytesWorld w e s):=by
 have d:∀(b:World) (a:Addr) (n k:Nat),k≠a.block->(b.freeze a n).heap[k]?=b.heap[k]?:=by
  intro b a n k c;unfold World.freeze;split
  ·rfl
  ·simp[Qv,Ne.symm c]
 have f:∀(b:World) (a:Addr) (n:Nat),(b.freeze a n).heap.size=b.heap.size:=by intro b a n;unfold World.freeze;split<;>simp
 unfold Lib.bytesWorld;refine⟨rfl,rfl,rfl,?_,?_,fun k c _=>?_⟩
 ·rw[f];simp
 ·exact fun _=>Ws _
 ·rw[d _ _ _ k (by simpa using Nat.ne_of_lt c)];exact(Below.heap_alloc w.drew _ k c)
@[simp]theorem zb9(U:Nat->O):AM.get U (.const .nilIface)=some (.v .nilIface):=rfl
theorem px:zg prog 237 (zf false [] FAt):=
 xe ⟨_,func237,by kernel_rfl,by kernel_rfl⟩ fun args r h=>by
  obtain⟨l,rfl,⟨c,d⟩,rfl⟩:=zp h;refine⟨[.string ⟨l.toArray⟩],rfl,by simp[lit],rfl,.tuple #[.int .i64 (B5 l),.nilIface],fun w S=>.wY rfl fun j g u a b=>?_,fun w S _=>?_⟩
  ·match j,a,b with
   | 0,a,b=>simp at a b;subst a;subst b;exact .v rfl
   | 1,a,b=>simp at a b;subst a;subst b;exact .v rfl
   |j+2,a,b=>simp at a
  refine(Any.strconv_Atoi Tryz.zeX ⟨l.toArray⟩ (B5 l) (by simpa using c) (by simpa using Lr d) w).mono fun e w' f=>?_
  obtain⟨rfl,t,rfl⟩:=f;exact⟨rfl,Ud _ _ _⟩
theorem uZ(l:za)(Y:Hp)(Z:Nat)(c:l.length<=18)(d:yS l=true):zf false [] FAt [str l] Y Z=some (.wY [int (B5 l),.v .nilIface],Y,Z):=
 hPc l _ _ rfl (fun a b e=>by simp only[zh,zD]at e;exact q9 e) ⟨c,d⟩ (.inl rfl)
def kG(l:za):Option Int:=if yS l=true/\l.length<=6 then some (B5 l)else none
def Ko(l:za):O:=.wY [int ((kG l).getD 0),qz (kG l).isSome]
noncomputable def SY (f:za->O):zb->Option O:=z6 (α:=za) (fun l=>[str l]) (fun l=>l.length<=zx) f
theorem eS(f:za->O)(l:za)(Y:Hp)(Z:Nat)(h:l.length<=zx)(c:(f l).flat=true):zf false [] (SY f) [str l] Y Z=some (f l,Y,Z):=
 hPc l _ _ rfl (fun a b e=>by simp only[zh,zD]at e;exact q9 e) h (.inl c)
noncomputable abbrev Cvn:Ctx:=zQ prog [(236,zf false [] (FS yS)),(237,zf false [] FAt)]
theorem zgQ:AM.Good Cvn (fun g=>[236].contains g):=zw mixed ⟨l8,fun _=>zu _ _,px,fun _=>zu _ _,trivial⟩
theorem dm(l:za)(f:l.length<=zx):zr Cvn f197 [str l]=some (Ko l):=by
 refine zm rfl ?_;have b:=fun Y Z=>kX yS l Y Z f
 cases a:yS l
 ·simp[b,a,Ko,kG,qS,f197]
 ·by_cases e:l.length<=6
  ·have c:¬((6:Int)<l.length):=by omega
   have g:=fun Y Z=>uZ l Y Z (by omega) a
   simp[b,a,e,c,g,Np,Ko,kG,qS,f197]
  ·have c:(6:Int)<l.length:=by omega
   have d:6<l.length:=by omega
   simp[b,a,e,d,c,Ko,kG,qS,f197]
theorem Je:zg prog 197 (zf false [] (SY Ko)):=
 pS1 zgQ func197 false [] fun l Y=>⟨by simp[f197],_,dm l Y,zW _⟩
end Go.Q
