/- Lemmas. -/
import Derived.Shelf.Strings.Search2
import Derived.Shelf.Strings.Split
import Derived.Shelf.Strings.Trim
import Derived.Shelf.Strconv.Atoi
import Derived.Ground.Names2Prog
import Derived.Test.YtmbfinldjgmhaaaGreatDoorProg
import Derived.Lib.Split
import Derived.Lib.Bytealg
import Derived.Test.YtmbfinldjgmhaaaGreatDoorG5
set_option maxRecDepth 100000
open Go Proofs Proofs.YtmbfinldjgmhaaaGreatDoor Proofs.Tryz RowKit AM SpanLaw Q Zz
open Go.IntKind renaming i64→i6
namespace Go.Q
abbrev int(n:Int):O:=.v (.int .i64 n)
abbrev q8(b:Bool):O:=.v (.bool b)
abbrev SH(c:UInt8):O:=.v (.int .u8 c.toNat)
abbrev zx:Nat:=268435456
theorem mixed:prog.follows .mixedOrders=true:=by kernel_rfl
noncomputable abbrev C0:Ctx:=zW prog []
theorem jY:Gd C0:=qx mixed trivial
def F3(f:Int->Int->Int->Bool):zb->Option O
 |[.v (.int .i64 a),.v (.int .i64 b),.v (.int .i64 c)]=>some (.v (.bool (f a b c)))
 |_=>none
def RX(f:Int->Bool):zb->Option O
 |[.v (.int .u8 a)]=>some (.v (.bool (f a)))
 |_=>none
def xb(n a b:Int):Bool:=decide (a<=n)&&decide (n<=b)
def aN(n:Int):Bool:=decide (97<=n)&&decide (n<=122)||decide (48<=n)&&decide (n<=57)||n==45||n==95
@[simp]theorem zgq(f:Int->Int->Int->Bool)(a b c:Int)(Y:Hp)(Z:Nat):zi false [] (F3 f) [.v (.int .i64 a),.v (.int .i64 b),.v (.int .i64 c)] Y Z=some (.v (.bool (f a b c)),Y,Z):=yk rfl rfl (.inl rfl)
@[simp]theorem zeJ(f:Int->Bool)(a:Int)(Y:Hp)(Z:Nat):zi false [] (RX f) [.v (.int .u8 a)] Y Z=some (.v (.bool (f a)),Y,Z):=yk rfl rfl (.inl rfl)
theorem EP{f:Int->Int->Int->Bool}{args:zb}{r:O}(h:F3 f args=some r):∃a b c,args=[int a,int b,int c]/\r=q8 (f a b c):=by
 unfold F3 at h;split at h
 ·injection h with h;exact⟨_,_,_,rfl,h.symm⟩
 ·cases h
theorem tA{f:Int->Bool}{args:zb}{r:O}(h:RX f args=some r):∃a,args=[.v (.int .u8 a)]/\r=q8 (f a):=by
 unfold RX at h;split at h
 ·injection h with h;exact⟨_,rfl,h.symm⟩
 ·cases h
theorem Qq:zg prog 58 (zi false [] (F3 xb)):=
 yj (fn:=f58) jY (qE func58) false [] _ fun args r h=>by obtain⟨a,b,c,rfl,rfl⟩:=EP h;exact⟨by simp[f58],_,zn rfl (by simp[f58,xb]),qq _⟩
theorem Zx:zg prog 187 (zi false [] (F3 xb)):=
 yj (fn:=f187) jY (qE func187) false [] _ fun args r h=>by obtain⟨a,b,c,rfl,rfl⟩:=EP h;exact⟨by simp[f187],_,zn rfl (by simp[f187,xb]),qq _⟩
theorem tB:zg prog 86 (zi false [] (RX aN)):=
 yj (fn:=f86) jY (qE func86) false [] _ fun args r h=>by obtain⟨a,rfl,rfl⟩:=tA h;exact⟨by simp[f86],_,zn rfl (by simp[f86,aN]),qq _⟩
theorem lN:zg prog 149 (zi false [] (RX aN)):=
 yj (fn:=f149) jY (qE func149) false [] _ fun args r h=>by obtain⟨a,rfl,rfl⟩:=tA h;exact⟨by simp[f149],_,zn rfl (by simp[f149,aN]),qq _⟩
noncomputable def FS (f:za->Bool):zb->Option O:=qu (α:=za) (fun l=>[str l]) (fun l=>l.length<=zx) (fun l=>q8 (f l))
@[simp]theorem kA(f:za->Bool)(l:za)(Y:Hp)(Z:Nat)(h:l.length<=zx):zi false [] (FS f) [str l] Y Z=some (q8 (f l),Y,Z):=
 Js l _ _ rfl (fun a b e=>by simp only[zl,zM]at e;exact wR e) h (.inl rfl)
def pr(a b:Nat)(c:UInt8):Bool:=decide (a<=c.toNat)&&decide (c.toNat<=b)
theorem VM(a b:Nat)(c:UInt8):(decide ((c.toNat:Int)<a)||decide ((b:Int)<c.toNat))=!pr a b c:=by rw[qv];simp[pr]
def wa(a b:Nat)(l:za):Bool:=l.all (pr a b)
def xv(l:za):Bool:=wa 33 126 l&&xb l.length 1 100
def lO(l:za):Bool:=wa 33 126 l&&!(l==[])
def Qr(l:za):Bool:=l.all fun c=>aN c.toNat
def Jb(l:za):Bool:=Qr l&&!(l==[])
def rz:za->Bool
 |[]=>false
 |c::_=>decide ((97:Int)<=c.toNat)&&decide ((c.toNat:Int)<=(122:Int))
def w8(l:za):Bool:=xb l.length 1 40&&rz l&&Qr l
noncomputable abbrev C1:Ctx:=zW prog [(58,zi false [] (F3 xb)),(86,zi false [] (RX aN)),(187,zi false [] (F3 xb)),(149,zi false [] (RX aN))]
abbrev qRl1:List Nat:=[58,86,187,149]
theorem rA:AM.Good C1 (fun g=>qRl1.contains g):=qx mixed ⟨Qq,fun _=>zr _ _,tB,fun _=>zr _ _,Zx,fun _=>zr _ _,lN,fun _=>zr _ _,trivial⟩
theorem cz{l:za}{p:UInt8->Bool}{k:Nat}(h:k<l.length):(l.drop k).all p=(p l[k]&&(l.drop (k+1)).all p):=by rw[zh h,q9]
theorem Zk{a b:Nat}{l:za}{k:Nat}(h:k<l.length):wa a b (l.drop k)=(pr a b l[k]&&wa a b (l.drop (k+1))):=cz h
theorem fD{l:za}{k:Nat}(h:k<l.length):Qr (l.drop k)=(aN l[k].toNat&&Qr (l.drop (k+1))):=cz h
@[simp]theorem zau(a b:Nat):wa a b []=true:=rfl
@[simp]theorem zby:Qr []=true:=rfl
theorem IB(l:za)(h:l.length<=zx):zt C1 f123 [str l]=some (q8 (wa 32 126 l)):=by
 refine zn rfl ?_;unfold zx at h;simp;refine zT (fun k U Y Z=>U 0=str l/\U 5=int l.length/\U 6=int k/\wa 32 126 l=wa 32 126 (l.drop k)) l.length ⟨by simp,by simp,by simp,by simp⟩ ?_;rintro k U Y Z j ⟨d,e,f,b⟩;by_cases a:k<l.length
 ·have i:=qH k;rw[Zk a]at b;have g:=VM 32 126 l[k];simp only[ZG]at g;cases c:pr 32 126 l[k]
  ·have b:wa 32 126 l=false:=by rw[b,c];rfl
   simp[d,e,f,a,b,g,c,f123]
  ·simp[d,e,f,a,g,c,i];exact⟨a,by rw[b,c];rfl⟩
 ·obtain rfl:k=l.length:=by omega
  have b:wa 32 126 l=true:=by rw[b,zq];rfl
  simp[d,e,f,b,f123]
theorem lP(l:za)(h:l.length<=zx):zt C1 f188 [str l]=some (q8 (wa 32 126 l)):=by
 refine zn rfl ?_;unfold zx at h;simp;refine zT (fun k U Y Z=>U 0=str l/\U 5=int l.length/\U 6=int k/\wa 32 126 l=wa 32 126 (l.drop k)) l.length ⟨by simp,by simp,by simp,by simp⟩ ?_;rintro k U Y Z j ⟨d,e,f,b⟩;by_cases a:k<l.length
 ·have i:=qH k;rw[Zk a]at b;have g:=VM 32 126 l[k];simp only[ZG]at g;cases c:pr 32 126 l[k]
  ·have b:wa 32 126 l=false:=by rw[b,c];rfl
   simp[d,e,f,a,b,g,c,f188]
  ·simp[d,e,f,a,g,c,i];exact⟨a,by rw[b,c];rfl⟩
 ·obtain rfl:k=l.length:=by omega
  have b:wa 32 126 l=true:=by rw[b,zq];rfl
  simp[d,e,f,b,f188]
theorem ER(l:za)(h:l.length<=zx):zt C1 f43 [str l]=some (q8 (xv l)):=by
 refine zn rfl ?_;unfold zx at h;simp;refine zT (fun k U Y Z=>U 0=str l/\U 5=int l.length/\U 6=int k/\wa 33 126 l=wa 33 126 (l.drop k)) l.length ⟨by simp,by simp,by simp,by simp⟩ ?_;rintro k U Y Z j ⟨d,e,f,b⟩;by_cases a:k<l.length
 ·have i:=qH k;rw[Zk a]at b;have g:=VM 33 126 l[k];simp only[ZG]at g;cases c:pr 33 126 l[k]
  ·have b:wa 33 126 l=false:=by rw[b,c];rfl
   simp[d,e,f,a,b,g,c,xv,f43]
  ·simp[d,e,f,a,g,c,i];exact⟨a,by rw[b,c];rfl⟩
 ·obtain rfl:k=l.length:=by omega
  have b:wa 33 126 l=true:=by rw[b,zq];rfl
  simp[d,e,f,b,xv,f43]
theorem ES(l:za)(h:l.length<=zx):zt C1 f184 [str l]=some (q8 (lO l)):=by
 refine zn rfl ?_;unfold zx at h;simp;refine zT (fun k U Y Z=>U 0=str l/\U 5=int l.length/\U 6=int k/\wa 33 126 l=wa 33 126 (l.drop k)) l.length ⟨by simp,by simp,by simp,by simp⟩ ?_;rintro k U Y Z j ⟨d,e,f,b⟩;by_cases a:k<l.length
 ·have i:=qH k;rw[Zk a]at b;have g:=VM 33 126 l[k];simp only[ZG]at g;cases c:pr 33 126 l[k]
  ·have b:wa 33 126 l=false:=by rw[b,c];rfl
   simp[d,e,f,a,b,g,c,lO,f184]
  ·simp[d,e,f,a,g,c,i];exact⟨a,by rw[b,c];rfl⟩
 ·obtain rfl:k=l.length:=by omega
  have b:wa 33 126 l=true:=by rw[b,zq];rfl
  simp[d,e,f,b,lO,f184]
theorem tC(l:za)(g:l.length<=zx):zt C1 f113 [str l]=some (q8 (Jb l)):=by
 refine zn rfl ?_;unfold zx at g;simp;refine zT (fun k U Y Z=>U 0=str l/\U 5=int l.length/\U 6=int k/\Qr l=Qr (l.drop k)) l.length ⟨by simp,by simp,by simp,by simp⟩ ?_;rintro k U Y Z i ⟨d,e,f,b⟩;by_cases a:k<l.length
 ·have h:=qH k;rw[fD a]at b;cases c:aN l[k].toNat
  ·have b:Qr l=false:=by rw[b,c];rfl
   simp[d,e,f,a,b,c,Jb,f113]
  ·simp[d,e,f,a,c,h];exact⟨a,by rw[b,c];rfl⟩
 ·obtain rfl:k=l.length:=by omega
  have b:Qr l=true:=by rw[b,zq];rfl
  simp[d,e,f,b,Jb,f113]
theorem Bq(l:za)(n:l.length<=zx):zt C1 f44 [str l]=some (q8 (w8 l)):=by
 refine zn rfl ?_;unfold zx at n;cases e:xb l.length 1 40
 ·simp[e,w8,f44]
 have a:0<l.length:=by simp[xb]at e;omega
 have o:rz l=(decide ((97:Int)<=l[0].toNat)&&decide ((l[0].toNat:Int)<=(122:Int))):=by
  cases l with
  |nil=>simp at a
  |cons c l=>rfl
 have m:(decide ((l[0].toNat:Int)<(97:Int))||decide ((122:Int)<l[0].toNat))=!rz l:=by rw[o,qv];simp
 cases g:rz l
 ·simp[e,a,m,g,w8,f44]
 simp[e,a,m,g];refine zT (fun k U Y Z=>U 0=str l/\U 19=int l.length/\U 20=int k/\Qr l=Qr (l.drop k)) l.length ⟨by simp,by simp,by simp,by simp⟩ ?_;rintro k U Y Z q ⟨h,i,j,d⟩;by_cases b:k<l.length
 ·have p:=qH k;rw[fD b]at d;cases f:aN l[k].toNat
  ·have d:Qr l=false:=by rw[d,f];rfl
   simp[h,i,j,b,d,f,w8,f44]
  ·simp[h,i,j,b,f,p];exact⟨b,by rw[d,f];rfl⟩
 ·obtain rfl:k=l.length:=by omega
  have d:Qr l=true:=by rw[d,zq];rfl
  simp[h,i,j,d,e,g,w8,f44]
theorem lQ:zg prog 123 (zi false [] (FS (wa 32 126))):=
 Z2 rA func123 false [] fun l Y=>⟨by simp[f123],_,IB l Y,qq _⟩
theorem WL:zg prog 188 (zi false [] (FS (wa 32 126))):=
 Z2 rA func188 false [] fun l Y=>⟨by simp[f188],_,lP l Y,qq _⟩
theorem VN:zg prog 43 (zi false [] (FS xv)):=
 Z2 rA func43 false [] fun l Y=>⟨by simp[f43],_,ER l Y,qq _⟩
theorem Br:zg prog 184 (zi false [] (FS lO)):=
 Z2 rA func184 false [] fun l Y=>⟨by simp[f184],_,ES l Y,qq _⟩
theorem oU:zg prog 113 (zi false [] (FS Jb)):=
 Z2 rA func113 false [] fun l Y=>⟨by simp[f113],_,tC l Y,qq _⟩
theorem Yb:zg prog 44 (zi false [] (FS w8)):=
 Z2 rA func44 false [] fun l Y=>⟨by simp[f44],_,Bq l Y,qq _⟩
noncomputable abbrev CRw:Ctx:=zW prog [(123,zi false [] (FS (wa 32 126))),(188,zi false [] (FS (wa 32 126))),(43,zi false [] (FS xv)),(184,zi false [] (FS lO)),(113,zi false [] (FS Jb)),(44,zi false [] (FS w8)),(58,zi false [] (F3 xb)),(187,zi false [] (F3 xb))]
abbrev qRw:List Nat:=[123,188,43,184,113,44,58,187]
theorem Nz:AM.Good CRw (fun g=>qRw.contains g):=qx mixed ⟨lQ,fun _=>zr _ _,WL,fun _=>zr _ _,VN,fun _=>zr _ _,Br,fun _=>zr _ _,oU,fun _=>zr _ _,Yb,fun _=>zr _ _,Qq,fun _=>zr _ _,Zx,fun _=>zr _ _,trivial⟩
theorem IC(l:za):(lO l&&decide ((l.length:Int)<=100))=xv l:=by
 cases l with
 |nil=>rfl
 |cons c l=>rw[qv];simp[lO,xv,xb];omega
theorem Bs(l:za)(a:l.length<=zx):zt CRw f146 [str l]=some (q8 (xv l)):=by refine zn rfl ?_;simp[a,f146,IC]
theorem tD(l:za)(h:0<l.length):(Jb l&&decide ((l.length:Int)<=40)&&decide ((97:Int)<=l[0].toNat)&&decide ((l[0].toNat:Int)<=(122:Int)))=w8 l:=by
 cases l with
 |nil=>simp at h
 |cons c l=>unfold Jb w8;generalize Qr (c::l)=w;rw[qv];cases w<;>simp[xb,rz]<;>omega
theorem tE(l:za)(b:l.length<=zx):zt CRw f70 [str l]=some (q8 (w8 l)):=by
 refine zn rfl ?_;cases l with
 |nil=>simp[f70,Jb,w8,rz]
 |cons c l=>
  have a:0<(c::l).length:=by simp
  have:=tD (c::l) a;generalize d:c::l=m at *;simp[b,a,f70,this]
theorem tF:zg prog 146 (zi false [] (FS xv)):=
 Z2 Nz func146 false [] fun l Y=>⟨by simp[f146],_,Bs l Y,qq _⟩
theorem aO:zg prog 70 (zi false [] (FS w8)):=
 Z2 Nz func70 false [] fun l Y=>⟨by simp[f70],_,tE l Y,qq _⟩
end Go.Q
namespace Go.Proofs
open Go.Shelf
def Tryz.D2:Go.Shelf.Ren:=⟨fun|161=>225|231=>201|227=>203|233=>204|235=>206|228=>241|197=>218|151=>242|260=>248|152=>267|137=>227|119=>279|224=>239|225=>238|217=>237|266=>265|n=>n,fun|9=>9|4=>4|3=>3|5=>5|117=>227|116=>226|0=>0|124=>230|105=>238|21=>21|119=>274|46=>83|139=>277|138=>276|n=>n,fun|3=>1|4=>2|n=>n⟩
theorem Tryz.UY:Go.Proofs.Lays.n161 prog Tryz.D2:={
 mixed:=by kernel_rfl
 f119:=func279.trans (zu some (by kernel_rfl))
 f137:=func227.trans (zu some (by kernel_rfl))
 f151:=func242.trans (zu some (by kernel_rfl))
 f152:=func267.trans (zu some (by kernel_rfl))
 f161:=func225.trans (zu some (by kernel_rfl))
 f197:=func218.trans (zu some (by kernel_rfl))
 f217:=func237.trans (zu some (by kernel_rfl))
 f224:=func239.trans (zu some (by kernel_rfl))
 f225:=func238.trans (zu some (by kernel_rfl))
 f227:=func203.trans (zu some (by kernel_rfl))
 f228:=func241.trans (zu some (by kernel_rfl))
 f231:=func201.trans (zu some (by kernel_rfl))
 f233:=func204.trans (zu some (by kernel_rfl))
 f235:=func206.trans (zu some (by kernel_rfl))
 f260:=func248.trans (zu some (by kernel_rfl))
 f266:=func265.trans (zu some (by kernel_rfl))
 t0:=underlying0
 a0:=isAgg0
 z0:=sizeOf0
 v0:=zeroValue0
 t3:=underlying3
 a3:=isAgg3
 z3:=sizeOf3
 v3:=zeroValue3
 t4:=underlying4
 a4:=isAgg4
 z4:=sizeOf4
 v4:=zeroValue4
 t5:=underlying5
 a5:=isAgg5
 z5:=sizeOf5
 v5:=zeroValue5
 t9:=underlying9
 a9:=isAgg9
 z9:=sizeOf9
 v9:=zeroValue9
 t21:=underlying21
 a21:=isAgg21
 z21:=sizeOf21
 v21:=zeroValue21
 t46:=underlying83
 a46:=isAgg83
 z46:=sizeOf83
 v46:=zeroValue83
 t105:=underlying238
 a105:=isAgg238
 z105:=sizeOf238
 v105:=zeroValue238
 t116:=underlying226
 a116:=isAgg226
 z116:=sizeOf226
 t117:=underlying227
 a117:=isAgg227
 z117:=sizeOf227
 v117:=zeroValue227
 t119:=underlying274
 a119:=isAgg274
 z119:=sizeOf274
 t124:=underlying230
 a124:=isAgg230
 z124:=sizeOf230
 v124:=zeroValue230
 t138:=underlying276
 a138:=isAgg276
 z138:=sizeOf276
 v138:=zeroValue276
 t139:=underlying277
 a139:=isAgg277
 z139:=sizeOf277
 v139:=zeroValue277
 g3:=by kernel_rfl
 g4:=by kernel_rfl}
def Tryz.D3:Go.Shelf.Ren:=⟨fun|160=>160|232=>202|231=>201|227=>203|234=>205|233=>204|236=>207|235=>206|228=>241|271=>243|151=>242|197=>218|120=>268|152=>267|260=>248|137=>227|119=>279|224=>239|225=>238|217=>237|266=>265|n=>n,fun|9=>9|4=>4|3=>3|5=>5|117=>227|116=>226|0=>0|124=>230|21=>21|105=>238|46=>83|119=>274|139=>277|138=>276|n=>n,fun|3=>1|4=>2|n=>n⟩
theorem Tryz.UZ:Go.Proofs.Lays.n160 prog Tryz.D3:={
 mixed:=by kernel_rfl
 f119:=func279.trans (zu some (by kernel_rfl))
 f120:=func268.trans (zu some (by kernel_rfl))
 f137:=func227.trans (zu some (by kernel_rfl))
 f151:=func242.trans (zu some (by kernel_rfl))
 f152:=func267.trans (zu some (by kernel_rfl))
 f160:=func160.trans (zu some (by kernel_rfl))
 f197:=func218.trans (zu some (by kernel_rfl))
 f217:=func237.trans (zu some (by kernel_rfl))
 f224:=func239.trans (zu some (by kernel_rfl))
 f225:=func238.trans (zu some (by kernel_rfl))
 f227:=func203.trans (zu some (by kernel_rfl))
 f228:=func241.trans (zu some (by kernel_rfl))
 f231:=func201.trans (zu some (by kernel_rfl))
 f232:=func202.trans (zu some (by kernel_rfl))
 f233:=func204.trans (zu some (by kernel_rfl))
 f234:=func205.trans (zu some (by kernel_rfl))
 f235:=func206.trans (zu some (by kernel_rfl))
 f236:=func207.trans (zu some (by kernel_rfl))
 f260:=func248.trans (zu some (by kernel_rfl))
 f266:=func265.trans (zu some (by kernel_rfl))
 f271:=func243.trans (zu some (by kernel_rfl))
 t0:=underlying0
 a0:=isAgg0
 z0:=sizeOf0
 v0:=zeroValue0
 t3:=underlying3
 a3:=isAgg3
 z3:=sizeOf3
 v3:=zeroValue3
 t4:=underlying4
 a4:=isAgg4
 z4:=sizeOf4
 v4:=zeroValue4
 t5:=underlying5
 a5:=isAgg5
 z5:=sizeOf5
 v5:=zeroValue5
 t9:=underlying9
 a9:=isAgg9
 z9:=sizeOf9
 v9:=zeroValue9
 t21:=underlying21
 a21:=isAgg21
 z21:=sizeOf21
 v21:=zeroValue21
 t46:=underlying83
 a46:=isAgg83
 z46:=sizeOf83
 v46:=zeroValue83
 t105:=underlying238
 a105:=isAgg238
 z105:=sizeOf238
 v105:=zeroValue238
 t116:=underlying226
 a116:=isAgg226
 z116:=sizeOf226
 t117:=underlying227
 a117:=isAgg227
 z117:=sizeOf227
 v117:=zeroValue227
 t119:=underlying274
 a119:=isAgg274
 z119:=sizeOf274
 t124:=underlying230
 a124:=isAgg230
 z124:=sizeOf230
 v124:=zeroValue230
 t138:=underlying276
 a138:=isAgg276
 z138:=sizeOf276
 v138:=zeroValue276
 t139:=underlying277
 a139:=isAgg277
 z139:=sizeOf277
 v139:=zeroValue277
 g3:=by kernel_rfl
 g4:=by kernel_rfl}
def Tryz.D4:Go.Shelf.Ren:=⟨fun|137=>227|217=>237|266=>265|n=>n,fun|9=>9|5=>5|3=>3|n=>n,fun|n=>n⟩
theorem Tryz.U0:Go.Proofs.Lays.n137 prog Tryz.D4:={
 mixed:=by kernel_rfl
 f137:=func227.trans (zu some (by kernel_rfl))
 f217:=func237.trans (zu some (by kernel_rfl))
 f266:=func265.trans (zu some (by kernel_rfl))
 t3:=underlying3
 a3:=isAgg3
 z3:=sizeOf3
 v3:=zeroValue3
 t5:=underlying5
 a5:=isAgg5
 z5:=sizeOf5
 v5:=zeroValue5
 t9:=underlying9
 a9:=isAgg9
 z9:=sizeOf9
 v9:=zeroValue9}
def Tryz.D5:Go.Shelf.Ren:=⟨fun|172=>210|244=>244|245=>245|247=>269|279=>270|280=>271|281=>272|282=>273|287=>280|316=>281|171=>283|205=>282|321=>287|322=>288|243=>289|246=>290|283=>291|284=>292|285=>293|286=>294|129=>85|317=>295|318=>296|319=>297|320=>298|337=>299|338=>300|n=>n,fun|9=>9|3=>3|75=>232|76=>233|4=>4|5=>5|167=>267|37=>268|0=>0|85=>269|2=>2|168=>271|53=>118|175=>281|46=>83|210=>284|127=>290|145=>293|143=>291|21=>21|171=>295|173=>297|212=>300|51=>116|20=>20|213=>301|232=>302|233=>303|80=>304|n=>n,fun|15=>3|16=>4|17=>5|18=>6|19=>7|n=>n⟩
theorem Tryz.U1:Go.Proofs.Lays.n172 prog Tryz.D5:={
 mixed:=by kernel_rfl
 f129:=func85.trans (zu some (by kernel_rfl))
 f171:=func283.trans (zu some (by kernel_rfl))
 f172:=func210.trans (zu some (by kernel_rfl))
 f205:=func282.trans (zu some (by kernel_rfl))
 f243:=func289.trans (zu some (by kernel_rfl))
 f244:=func244.trans (zu some (by kernel_rfl))
 f245:=func245.trans (zu some (by kernel_rfl))
 f246:=func290.trans (zu some (by kernel_rfl))
 f247:=func269.trans (zu some (by kernel_rfl))
 f279:=func270.trans (zu some (by kernel_rfl))
 f280:=func271.trans (zu some (by kernel_rfl))
 f281:=func272.trans (zu some (by kernel_rfl))
 f282:=func273.trans (zu some (by kernel_rfl))
 f283:=func291.trans (zu some (by kernel_rfl))
 f284:=func292.trans (zu some (by kernel_rfl))
 f285:=func293.trans (zu some (by kernel_rfl))
 f286:=func294.trans (zu some (by kernel_rfl))
 f287:=func280.trans (zu some (by kernel_rfl))
 f316:=func281.trans (zu some (by kernel_rfl))
 f317:=func295.trans (zu some (by kernel_rfl))
 f318:=func296.trans (zu some (by kernel_rfl))
 f319:=func297.trans (zu some (by kernel_rfl))
 f320:=func298.trans (zu some (by kernel_rfl))
 f321:=func287.trans (zu some (by kernel_rfl))
 f322:=func288.trans (zu some (by kernel_rfl))
 f337:=func299.trans (zu some (by kernel_rfl))
 f338:=func300.trans (zu some (by kernel_rfl))
 t0:=underlying0
 a0:=isAgg0
 z0:=sizeOf0
 v0:=zeroValue0
 t2:=underlying2
 a2:=isAgg2
 z2:=sizeOf2
 v2:=zeroValue2
 t3:=underlying3
 a3:=isAgg3
 z3:=sizeOf3
 v3:=zeroValue3
 t4:=underlying4
 a4:=isAgg4
 z4:=sizeOf4
 v4:=zeroValue4
 t5:=underlying5
 a5:=isAgg5
 z5:=sizeOf5
 v5:=zeroValue5
 t9:=underlying9
 a9:=isAgg9
 z9:=sizeOf9
 v9:=zeroValue9
 t20:=underlying20
 a20:=isAgg20
 z20:=sizeOf20
 v20:=zeroValue20
 t21:=underlying21
 a21:=isAgg21
 z21:=sizeOf21
 v21:=zeroValue21
 t37:=underlying268
 a37:=isAgg268
 z37:=sizeOf268
 v37:=zeroValue268
 t46:=underlying83
 a46:=isAgg83
 z46:=sizeOf83
 v46:=zeroValue83
 t51:=underlying116
 a51:=isAgg116
 z51:=sizeOf116
 v51:=zeroValue116
 t53:=underlying118
 a53:=isAgg118
 z53:=sizeOf118
 v53:=zeroValue118
 t75:=underlying232
 a75:=isAgg232
 z75:=sizeOf232
 v75:=zeroValue232
 t76:=underlying233
 a76:=isAgg233
 z76:=sizeOf233
 v76:=zeroValue233
 t85:=underlying269
 a85:=isAgg269
 z85:=sizeOf269
 v85:=zeroValue269
 t127:=underlying290
 a127:=isAgg290
 z127:=sizeOf290
 v127:=zeroValue290
 t143:=underlying291
 a143:=isAgg291
 z143:=sizeOf291
 v143:=zeroValue291
 t145:=underlying293
 a145:=isAgg293
 z145:=sizeOf293
 v145:=zeroValue293
 t167:=underlying267
 a167:=isAgg267
 z167:=sizeOf267
 v167:=zeroValue267
 t168:=underlying271
 a168:=isAgg271
 z168:=sizeOf271
 v168:=zeroValue271
 t171:=underlying295
 a171:=isAgg295
 z171:=sizeOf295
 v171:=zeroValue295
 t173:=underlying297
 a173:=isAgg297
 z173:=sizeOf297
 v173:=zeroValue297
 t175:=underlying281
 a175:=isAgg281
 z175:=sizeOf281
 v175:=zeroValue281
 t210:=underlying284
 a210:=isAgg284
 z210:=sizeOf284
 v210:=zeroValue284
 t212:=underlying300
 a212:=isAgg300
 z212:=sizeOf300
 v212:=zeroValue300
 t213:=underlying301
 a213:=isAgg301
 z213:=sizeOf301
 t232:=underlying302
 a232:=isAgg302
 z232:=sizeOf302
 v232:=zeroValue302
 t233:=underlying303
 a233:=isAgg303
 z233:=sizeOf303
 v233:=zeroValue303
 g15:=by kernel_rfl
 g16:=by kernel_rfl
 g17:=by kernel_rfl
 g18:=by kernel_rfl
 g19:=by kernel_rfl}
def Tryz.D6:Go.Shelf.Ren:=⟨fun|219=>200|217=>237|225=>238|224=>239|267=>240|266=>265|314=>266|n=>n,fun|9=>9|3=>3|4=>4|5=>5|46=>83|146=>264|51=>116|n=>n,fun|1=>0|n=>n⟩
theorem Tryz.U2:Go.Proofs.Lays.n219 prog Tryz.D6:={
 mixed:=by kernel_rfl
 f217:=func237.trans (zu some (by kernel_rfl))
 f219:=func200.trans (zu some (by kernel_rfl))
 f224:=func239.trans (zu some (by kernel_rfl))
 f225:=func238.trans (zu some (by kernel_rfl))
 f266:=func265.trans (zu some (by kernel_rfl))
 f267:=func240.trans (zu some (by kernel_rfl))
 f314:=func266.trans (zu some (by kernel_rfl))
 t3:=underlying3
 a3:=isAgg3
 z3:=sizeOf3
 v3:=zeroValue3
 t4:=underlying4
 a4:=isAgg4
 z4:=sizeOf4
 v4:=zeroValue4
 t5:=underlying5
 a5:=isAgg5
 z5:=sizeOf5
 v5:=zeroValue5
 t9:=underlying9
 a9:=isAgg9
 z9:=sizeOf9
 v9:=zeroValue9
 t46:=underlying83
 a46:=isAgg83
 z46:=sizeOf83
 v46:=zeroValue83
 t51:=underlying116
 a51:=isAgg116
 z51:=sizeOf116
 v51:=zeroValue116
 t146:=underlying264
 a146:=isAgg264
 z146:=sizeOf264
 v146:=zeroValue264
 g1:=by kernel_rfl}
def Tryz.D7:Go.Shelf.Ren:=⟨fun|138=>224|195=>258|218=>259|143=>159|219=>200|217=>237|225=>238|224=>239|267=>240|266=>265|314=>266|n=>n,fun|9=>9|3=>3|4=>4|5=>5|0=>0|46=>83|146=>264|51=>116|n=>n,fun|1=>0|n=>n⟩
theorem Tryz.U3:Go.Proofs.Lays.n138 prog Tryz.D7:={
 mixed:=by kernel_rfl
 f138:=func224.trans (zu some (by kernel_rfl))
 f143:=func159.trans (zu some (by kernel_rfl))
 f195:=func258.trans (zu some (by kernel_rfl))
 f217:=func237.trans (zu some (by kernel_rfl))
 f218:=func259.trans (zu some (by kernel_rfl))
 f219:=func200.trans (zu some (by kernel_rfl))
 f224:=func239.trans (zu some (by kernel_rfl))
 f225:=func238.trans (zu some (by kernel_rfl))
 f266:=func265.trans (zu some (by kernel_rfl))
 f267:=func240.trans (zu some (by kernel_rfl))
 f314:=func266.trans (zu some (by kernel_rfl))
 t0:=underlying0
 a0:=isAgg0
 z0:=sizeOf0
 v0:=zeroValue0
 t3:=underlying3
 a3:=isAgg3
 z3:=sizeOf3
 v3:=zeroValue3
 t4:=underlying4
 a4:=isAgg4
 z4:=sizeOf4
 v4:=zeroValue4
 t5:=underlying5
 a5:=isAgg5
 z5:=sizeOf5
 v5:=zeroValue5
 t9:=underlying9
 a9:=isAgg9
 z9:=sizeOf9
 v9:=zeroValue9
 t46:=underlying83
 a46:=isAgg83
 z46:=sizeOf83
 v46:=zeroValue83
 t51:=underlying116
 a51:=isAgg116
 z51:=sizeOf116
 v51:=zeroValue116
 t146:=underlying264
 a146:=isAgg264
 z146:=sizeOf264
 v146:=zeroValue264
 g1:=by kernel_rfl}
end Go.Proofs
namespace Go.Q
noncomputable def Qg (f:za->za->O) (pre:za->za->Prop):zb->Option O:=qu (α:=za×za) (fun a=>[str a.1,str a.2]) (fun a=>a.1.length<=zx/\a.2.length<=zx/\pre a.1 a.2) (fun a=>f a.1 a.2)
theorem ET:∀a b:za×za,[str a.1,str a.2]=[str b.1,str b.2]->a=b:=by rintro⟨c,d⟩ ⟨f,g⟩ e;simp only[zl,zM]at e;rw[wR e.1,wR e.2]
theorem ko(f:za->za->O)(pre:za->za->Prop)(a b:za)(Y:Hp)(Z:Nat)(h:a.length<=zx)(c:b.length<=zx)(d:pre a b)(e:(f a b).flat=true):zi false [] (Qg f pre) [str a,str b] Y Z=some (f a b,Y,Z):=
 Js (a,b) _ _ rfl ET ⟨h,c,d⟩ (.inl e)
theorem kB{f:za->za->O}{pre:za->za->Prop}{args:zb}{r:O}(h:Qg f pre args=some r):∃a b,args=[str a,str b]/\a.length<=zx/\b.length<=zx/\pre a b/\r=f a b:=by obtain⟨⟨a,b⟩,rfl,⟨c,d,e⟩,rfl⟩:=zK h;exact⟨a,b,rfl,c,d,e,rfl⟩
theorem GX:MO prog 0:=by refine⟨xM (by kernel_rfl),#[.int .i64 0],3,by kernel_rfl,rfl,by kernel_rfl,by kernel_rfl,by kernel_rfl⟩
def EU(a b:za):O:=int (Lib.index a b)
def cntP(a b:za):O:=int (Lib.count a b)
theorem Bt:zg prog 200 (zi false [] (Qg EU fun _ _=>True)):=
 xu ⟨_,func200,by kernel_rfl,by kernel_rfl⟩ fun args r h=>by
  obtain⟨a,b,rfl,c,d,_,rfl⟩:=kB h;unfold zx at c d;refine⟨[.string ⟨a.toArray⟩,.string ⟨b.toArray⟩],rfl,by simp[lit],rfl,.int .i64 (Lib.index a b),fun w S=>.v rfl,fun w S f=>?_⟩;obtain⟨_,m,g⟩:=f.1 0 GX;refine(Any.stringslite_Index Tryz.U2 ⟨a.toArray⟩ ⟨b.toArray⟩ m w (by simp;omega) g).mono fun e w' i=>?_
  obtain⟨rfl,rfl⟩:=i;exact⟨by simp,Fr.refl _ _⟩
theorem tG:zg prog 224 (zi false [] (Qg cntP fun _ b=>1<=b.length)):=
 xu ⟨_,func224,by kernel_rfl,by kernel_rfl⟩ fun args r h=>by
  obtain⟨a,b,rfl,c,d,f,rfl⟩:=kB h;unfold zx at c d;refine⟨[.string ⟨a.toArray⟩,.string ⟨b.toArray⟩],rfl,by simp[lit],rfl,.int .i64 (Lib.count a b),fun w S=>.v rfl,fun w S g=>?_⟩;obtain⟨_,m,i⟩:=g.1 0 GX;refine(Any.strings_Count_any Tryz.U3 ⟨a.toArray⟩ ⟨b.toArray⟩ m w (by simp;omega) i (by simpa using f)).mono fun e w' j=>?_
  obtain⟨rfl,rfl⟩:=j;exact⟨by simp[Lib.countB],Fr.refl _ _⟩
noncomputable abbrev Ci:Ctx:=zW prog [(200,zi false [] (Qg EU fun _ _=>True))]
theorem zav:AM.Good Ci (fun g=>[200].contains g):=qx mixed ⟨Bt,fun _=>zr _ _,trivial⟩
theorem JQ(a b:za)(Y:Hp)(Z:Nat)(h:a.length<=zx)(c:b.length<=zx):zi false [] (Qg EU fun _ _=>True) [str a,str b] Y Z=some (int (Lib.index a b),Y,Z):=ko _ _ a b Y Z h c trivial rfl
theorem cA:zg prog 159 (zi false [] (Qg EU fun _ _=>True)):=
 yj (fn:=f159) zav (qE func159) false [] _ fun args r h=>by obtain⟨a,b,rfl,c,d,_,rfl⟩:=kB h;exact⟨by simp[f159],_,zn rfl (by simp[JQ,c,d,EU,f159]),qq _⟩
noncomputable abbrev Ci2:Ctx:=zW prog [(159,zi false [] (Qg EU fun _ _=>True)),(224,zi false [] (Qg cntP fun _ b=>1<=b.length))]
theorem NA:AM.Good Ci2 (fun g=>[159].contains g):=qx mixed ⟨cA,fun _=>zr _ _,tG,fun _=>zr _ _,trivial⟩
def ID(a b:za):O:=q8 (Lib.contains a b)
theorem VO:zg prog 129 (zi false [] (Qg ID fun _ _=>True)):=
 yj (fn:=f129) NA (qE func129) false [] _ fun args r h=>by obtain⟨a,b,rfl,c,d,_,rfl⟩:=kB h;exact⟨by simp[f129],_,zn rfl (by simp[JQ,c,d,ID,Lib.contains,f129]),qq _⟩
def oV(a b:za):O:=.wq [str (Lib.cut a b).1,str (Lib.cut a b).2.1,q8 (Lib.cut a b).2.2]
theorem NB(a b:za)(c:a.length<=zx)(d:b.length<=zx):zt Ci f208 [str a,str b]=some (oV a b):=by
 refine zn rfl ?_;unfold zx at c d;by_cases h:0<=Lib.index a b
 ·have l:=Lib.index_room a b h;have e:Lib.cut a b=(a.take (Lib.index a b).toNat,a.drop ((Lib.index a b).toNat+b.length),true):=by unfold Lib.cut;rw[zf h]
  have f:=wX (Lib.index a b+b.length);have g:(Lib.index a b+b.length).toNat=(Lib.index a b).toNat+b.length:=by omega
  have i:0<=Lib.index a b+b.length:=by omega
  have j:(Lib.index a b).toNat<=a.length:=by omega
  have k:(Lib.index a b).toNat+b.length<=a.length:=by omega
  simp[JQ,zx,c,d,h,f,g,i,j,k,oV,e,wc,f208];rw[qe (by simp)]
 ·have e:Lib.cut a b=(a,[],false):=by unfold Lib.cut;rw[zc h]
  simp[JQ,zx,c,d,h,oV,e,wc,f208]
theorem IE:zg prog 208 (zi false [] (Qg oV fun _ _=>True)):=
 yj (fn:=f208) zav (qE func208) false [] _ fun args r h=>by obtain⟨a,b,rfl,c,d,_,rfl⟩:=kB h;exact⟨by simp[f208],_,NB a b c d,qq _⟩
def RY(a b:za):O:=q8 (b.isPrefixOf a)
theorem Bu(a b:za):(decide (b.length<=a.length)&&(a.take b.length==b))=b.isPrefixOf a:=by
 rw[qv];simp only[zC,qi,yH,DU];constructor
 ·rintro⟨_,h⟩;exact List.prefix_iff_eq_take.2 h.symm
 ·intro h;exact⟨h.length_le,(List.prefix_iff_eq_take.1 h).symm⟩
noncomputable abbrev Cw0:Ctx:=zW prog []
theorem EV:Gd Cw0:=qx mixed trivial
theorem gI(a b:za):zt Cw0 f157 [str a,str b]=some (RY a b):=by
 refine zn rfl ?_;have Y:=Bu a b;by_cases h:b.length<=a.length
 ·rw[DV h,jK]at Y;simp[h,RY,<-Y,f157]
 ·rw[decide_eq_false h,dE]at Y;have c:¬((b.length:Int)<=a.length):=by omega
  simp[h,c,RY,<-Y,f157]
theorem dW:zg prog 157 (zi false [] (Qg RY fun _ _=>True)):=
 yj (fn:=f157) EV (qE func157) false [] _ fun args r h=>by obtain⟨a,b,rfl,c,d,_,rfl⟩:=kB h;exact⟨by simp[f157],_,gI a b,qq _⟩
noncomputable abbrev Cw1:Ctx:=zW prog [(157,zi false [] (Qg RY fun _ _=>True)),(208,zi false [] (Qg oV fun _ _=>True))]
theorem EW:AM.Good Cw1 (fun g=>[157].contains g):=qx mixed ⟨dW,fun _=>zr _ _,IE,fun _=>zr _ _,trivial⟩
theorem cB(a b:za)(Y:Hp)(Z:Nat)(h:a.length<=zx)(c:b.length<=zx):zi false [] (Qg RY fun _ _=>True) [str a,str b] Y Z=some (q8 (b.isPrefixOf a),Y,Z):=ko _ _ a b Y Z h c trivial rfl
theorem lR(a b:za)(Y:Hp)(Z:Nat)(h:a.length<=zx)(c:b.length<=zx):zi false [] (Qg oV fun _ _=>True) [str a,str b] Y Z=some (.wq [str (Lib.cut a b).1,str (Lib.cut a b).2.1,q8 (Lib.cut a b).2.2],Y,Z):=ko _ _ a b Y Z h c trivial rfl
theorem Vi:zg prog 127 (zi false [] (Qg RY fun _ _=>True)):=
 yj (fn:=f127) EW (qE func127) false [] _ fun args r h=>by obtain⟨a,b,rfl,c,d,_,rfl⟩:=kB h;exact⟨by simp[f127],_,zn rfl (by simp[cB,c,d,RY,f127]),qq _⟩
theorem lS:zg prog 161 (zi false [] (Qg oV fun _ _=>True)):=
 yj (fn:=f161) EW (qE func161) false [] _ fun args r h=>by obtain⟨a,b,rfl,c,d,_,rfl⟩:=kB h;exact⟨by simp[f161],_,zn rfl (by simp[lR,c,d,oV,wc,f161]),qq _⟩
def SI(a b:za):O:=.wq [str (if b.isPrefixOf a then a.drop b.length else a),q8 (b.isPrefixOf a)]
theorem gJ(a b:za)(c:a.length<=zx)(d:b.length<=zx):zt Cw1 f249 [str a,str b]=some (SI a b):=by
 refine zn rfl ?_;cases h:b.isPrefixOf a
 ·simp[cB,c,d,h,SI,wc,f249]
 ·have e:=(DU.1 h).length_le;simp[cB,c,d,h,e,SI,wc,f249];rw[qe (by simp)]
theorem dX:zg prog 249 (zi false [] (Qg SI fun _ _=>True)):=
 yj (fn:=f249) EW (qE func249) false [] _ fun args r h=>by obtain⟨a,b,rfl,c,d,_,rfl⟩:=kB h;exact⟨by simp[f249],_,gJ a b c d,qq _⟩
noncomputable abbrev Cw2:Ctx:=zW prog [(249,zi false [] (Qg SI fun _ _=>True))]
theorem zbz:Gd Cw2:=qx mixed ⟨dX,fun _=>zr _ _,trivial⟩
theorem GY(a b:za)(Y:Hp)(Z:Nat)(h:a.length<=zx)(c:b.length<=zx):zi false [] (Qg SI fun _ _=>True) [str a,str b] Y Z=some (.wq [str (if b.isPrefixOf a then a.drop b.length else a),q8 (b.isPrefixOf a)],Y,Z):=ko _ _ a b Y Z h c trivial rfl
theorem gK:zg prog 219 (zi false [] (Qg SI fun _ _=>True)):=
 yj (fn:=f219) zbz (qE func219) false [] _ fun args r h=>by obtain⟨a,b,rfl,c,d,_,rfl⟩:=kB h;exact⟨by simp[f219],_,zn rfl (by simp[GY,c,d,SI,wc,f219]),qq _⟩
def tlP(a b:za):O:=str (Lib.trimLeftB a (b.headD 0))
def tbP(a b:za):O:=str (Lib.trimB a (b.headD 0))
def lT(b:za):Prop:=∃c:UInt8,b=[c]/\c.toNat<128
theorem Yz:zg prog 225 (zi false [] (Qg tlP fun _ b=>lT b)):=
 xu ⟨_,func225,by kernel_rfl,by kernel_rfl⟩ fun args r h=>by
  obtain⟨a,b,rfl,g,i,⟨c,rfl,d⟩,rfl⟩:=kB h;refine⟨[.string ⟨a.toArray⟩,.string ⟨#[c]⟩],rfl,by simp[lit],rfl,.string ⟨(Lib.trimLeftB a c).toArray⟩,fun w S=>.v rfl,fun w S _=>?_⟩;refine(Any.strings_TrimLeft_one Tryz.UY ⟨a.toArray⟩ c d w).mono fun e w' f=>?_
  obtain⟨rfl,rfl⟩:=f;exact⟨by simp,Fr.refl _ _⟩
theorem fE:zg prog 160 (zi false [] (Qg tbP fun _ b=>lT b)):=
 xu ⟨_,func160,by kernel_rfl,by kernel_rfl⟩ fun args r h=>by
  obtain⟨a,b,rfl,d,i,⟨c,rfl,f⟩,rfl⟩:=kB h;unfold zx at d;refine⟨[.string ⟨a.toArray⟩,.string ⟨#[c]⟩],rfl,by simp[lit],rfl,.string ⟨(Lib.trimB a c).toArray⟩,fun w S=>.v rfl,fun w S _=>?_⟩;refine(Any.strings_Trim_one Tryz.UZ ⟨a.toArray⟩ c f w (by simp;omega)).mono fun e w' g=>?_
  obtain⟨rfl,rfl|rfl⟩:=g
  ·exact⟨by simp,Fr.refl _ _⟩
  ·exact⟨by simp,Fr.drew _ _⟩
noncomputable def FSB (f:za->UInt8->O):zb->Option O:=qu (α:=za×UInt8) (fun a=>[str a.1,SH a.2]) (fun a=>a.1.length<=zx) (fun a=>f a.1 a.2)
theorem zbA:∀a b:za×UInt8,[str a.1,SH a.2]=[str b.1,SH b.2]->a=b:=by
 rintro⟨g,c⟩ ⟨h,d⟩ e;simp only[zl,zM]at e;have i:=qS e.2;have f:c.toNat=d.toNat:=by omega
 rw[wR e.1,Qi.1 f]
theorem NC(f:za->UInt8->O)(a:za)(c:UInt8)(Y:Hp)(Z:Nat)(h:a.length<=zx)(b:(f a c).flat=true):zi false [] (FSB f) [str a,SH c] Y Z=some (f a c,Y,Z):=
 Js (a,c) _ _ rfl zbA h (.inl b)
def ibP(a:za)(c:UInt8):O:=int (Lib.indexByte a c)
theorem gL:zg prog 227 (zi false [] (FSB ibP)):=
 xu ⟨_,func227,by kernel_rfl,by kernel_rfl⟩ fun args r h=>by
  obtain⟨⟨a,c⟩,rfl,d,rfl⟩:=zK h;refine⟨[.string ⟨a.toArray⟩,.int .u8 c.toNat],rfl,by simp[lit],rfl,.int .i64 (Lib.indexByte a c),fun w S=>.v rfl,fun w S _=>?_⟩;refine(Any.strings_IndexByte Tryz.U0 ⟨a.toArray⟩ c.toNat w).mono fun e w' b=>?_
  obtain⟨rfl,rfl⟩:=b;exact⟨by simp,Fr.refl _ _⟩
def tH(done:List za)(k:Nat):List zb:=done.map (fun p=>[str p])++List.replicate k [str []]
theorem Bv(done:List za)(k:Nat)(p:za):(tH done (k+1)).set done.length [str p]=tH (done++[p]) k:=by unfold tH;rw[List.set_append_right _ _ (by simp)];simp[List.replicate_succ]
theorem Bw(done:List za)(k:Nat):(tH done (k+1))[done.length]?=some [str []]:=by unfold tH;rw[zQ (by simp)];simp[List.replicate_succ]
theorem IF(done:List za):tH done 0=done.map fun p=>[str p]:=by simp[tH]
def qh(s sep:za):List za:=Lib.split s sep
theorem bm{sep s:za}{i k:Nat}(h:Lib.index s sep=i):Lib.splitK sep 0 (k+1) s=s.take i::Lib.splitK sep 0 k (s.drop (i+sep.length)):=by
 have a:¬(Lib.index s sep==-1)=true:=by rw[yH];omega
 rw[Lib.splitK,zc a,h];simp
theorem rB{s sep:za}(h:sep≠[]):Lib.count s sep<=s.length:=by have:=Lib.countB_le ⟨sep.toArray⟩ (by cases sep<;>simp_all) s.length ⟨s.toArray⟩ (by simp);simpa[Lib.countB]using this
theorem ND(a b:za)(Y:Hp)(Z:Nat)(h:a.length<=zx)(c:b.length<=zx)(d:1<=b.length):zi false [] (Qg cntP fun _ b=>1<=b.length) [str a,str b] Y Z=some (int (Lib.count a b),Y,Z):=ko _ _ a b Y Z h c d rfl
def Ku(xs:List za):kn:=⟨9,1,true,xs.map fun p=>[str p]⟩
theorem oW(s sep:za)(E:s.length<=zx)(F:sep.length<=zx)(u:1<=sep.length) :
  ∃x Y Z,je Ci2 f189 [str s,str sep,int 0,int (-1)] (fun _=>none) 0=some (x,Y,Z)/\WK (some (Ku (qh s sep))) x Y Z:=by
 have b:sep≠[]:=by intro e;subst e;simp at u
 have G:=rB (s:=s) b;unfold zx at E F;refine Kr rfl ?_;have l:=yq b;have v:=wX ((Lib.count s sep:Int)+1);have H:=wX ((s.length:Int)+1);have w3:(if(s.length:Int)+1<(Lib.count s sep:Int)+1 then(s.length:Int)+1 else(Lib.count s sep:Int)+1)=(Lib.count s sep:Int)+1:=zc (by omega);have I:i6.wrap ((Lib.count s sep:Int)+1-1)=(Lib.count s sep:Int):=by rw[wQ (by omega) (by omega)];omega
 have m:=wX (Lib.count s sep:Int);have w:((Lib.count s sep:Int)+1).toNat=Lib.count s sep+1:=by omega
 have y:0<=(Lib.count s sep:Int)+1:=by omega
 have c3:Lib.count s sep+1<=maxLen:=by simp[maxLen];omega
 have J:(Lib.count s sep+1)*16<=140737488355328:=by omega
 have n:=fun Y Z=>ND s sep Y Z (by unfold zx;omega) (by unfold zx;omega) u
 have o:¬s.length<Lib.count s sep:=by omega
 have K:(Lib.count s sep:Int)+1<=(maxLen:Int):=by simp[maxLen];omega
 simp[l,n,v,H,o,I,m,ZM,w,y,K,J];refine zT (fun j U Y Z=>∃done cur,done.length=j/\U 0=str cur/\U 1=str sep/\U 2=int 0/\U 3=int (Lib.count s sep)/\U 9=.own 0 0 (Lib.count s sep+1)/\U 10=int j /\
   Y 0=some ⟨9,1,true,tH done (Lib.count s sep+1-j)⟩/\j+Lib.count cur sep=Lib.count s sep/\qh s sep=done++qh cur sep/\cur.length<=s.length) (Lib.count s sep)
  ⟨[],s,rfl,by simp,by simp,by simp,by simp[m],by simp,by simp,by simp[tH],by simp,by simp,ze _⟩ ?_
 rintro j U Y Z hj ⟨done,cur,hd,z,A,B,C,D,d,k,hc,hs,hl⟩;have f:∀Y Z,zi false [] (Qg EU fun _ _=>True) [str cur,str sep] Y Z=some (int (Lib.index cur sep),Y,Z):=fun Y Z=>JQ cur sep Y Z (by unfold zx;omega) (by unfold zx;omega)
 by_cases p:j<Lib.count s sep
 ·have L:Lib.index cur sep≠-1:=fun e=>by have:=Lib.count_miss e;omega
  have q:0<=Lib.index cur sep:=by
   rcases Lib.index_spec cur sep with⟨h,_⟩|⟨i,h,_⟩
   ·exact absurd h L
   ·omega
  obtain⟨i,hi⟩:∃i:Nat,Lib.index cur sep=i:=⟨(Lib.index cur sep).toNat,by omega⟩;have M:=Lib.index_room cur sep q;rw[hi]at M f;have r:=Lib.count_hit b hi;have c:qh cur sep=cur.take i::qh (cur.drop (i+sep.length)) sep:=by unfold qh Lib.split;rw[r,AB 1,bm hi]
  have N:¬((i:Int)<0):=by omega
  have P:=wX (i:Int);have Q:=wX ((i:Int)+sep.length);have R:=qH j;have S:((i:Int)+sep.length).toNat=i+sep.length:=by omega
  have T:i+sep.length<=cur.length:=by omega
  have W:i<=cur.length:=by omega
  have X:0<=(i:Int)+sep.length:=by omega
  have k9:j<Lib.count s sep+1:=by omega
  have t:Lib.count s sep+1-j=(Lib.count s sep-j)+1:=by omega
  have g:=Bw done (Lib.count s sep-j);rw[hd]at g;have a:=Bv done (Lib.count s sep-j) (cur.take i);rw[hd]at a;rw[t]at k;simp[z,A,B,C,D,d,k,p,f,N,P,Q,R,S,T,W,X,k9,g,a];have ht:List.take (cur.length-(i+sep.length)) (List.drop (i+sep.length) cur)=List.drop (i+sep.length) cur:=qe (by simp);rw[ht];exact⟨by omega,done++[cur.take i],by simp[hd],rfl,by omega,by rw[hs,c];simp,by omega⟩
 ·obtain rfl:j=Lib.count s sep:=by omega
  have hz:Lib.count cur sep=0:=by omega
  have c:qh cur sep=[cur]:=by unfold qh Lib.split;rw[hz];rfl
  have t:Lib.count s sep+1-Lib.count s sep=0+1:=by omega
  have g:=Bw done 0;have a:=Bv done 0 cur;rw[hd]at g a;rw[t]at k;simp[z,A,B,C,D,d,k,g,a,v,m,w,y,WK,jC,f189];rw[hs,c];exact⟨0,⟨by omega,by simp[Ku,hd]⟩,by simp[Ku,IF]⟩
noncomputable def FGs:zb->Option (Option kn):=qu (α:=za×za) (fun a=>[str a.1,str a.2,int 0,int (-1)]) (fun a=>a.1.length<=zx/\a.2.length<=zx/\1<=a.2.length) (fun a=>some (Ku (qh a.1 a.2)))
noncomputable def FSp:zb->Option (Option kn):=qu (α:=za×za) (fun a=>[str a.1,str a.2]) (fun a=>a.1.length<=zx/\a.2.length<=zx/\1<=a.2.length) (fun a=>some (Ku (qh a.1 a.2)))
theorem zbB:∀a b:za×za,[str a.1,str a.2,int 0,int (-1)]=[str b.1,str b.2,int 0,int (-1)]->a=b:=by rintro⟨c,d⟩ ⟨f,g⟩ e;simp only[zl,zM]at e;rw[wR e.1,wR e.2]
theorem lU:zg prog 189 (yh [] FGs):=
 xa (fn:=f189) (code:=_) NA ⟨func189,by kernel_rfl,rfl,by kernel_rfl⟩ [] _ fun args r h=>by obtain⟨⟨a,b⟩,rfl,⟨c,d,e⟩,rfl⟩:=zK h;exact⟨by simp[f189],oW a b c d e⟩
theorem SJ(a b:za)(Y:Hp)(Z:Nat)(c:a.length<=zx)(d:b.length<=zx)(f:1<=b.length):yh [] FGs [str a,str b,int 0,int (-1)] Y Z=some (.own Z 0 (qh a b).length,qt Y Z (some (Ku (qh a b))),Z+1):=by have e:FGs (q6 [] [str a,str b,int 0,int (-1)])=some (some (Ku (qh a b))):=qG (V:=fun a:List UInt8×za=>[str a.1,str a.2,int 0,int (-1)]) (a:=(a,b)) zbB ⟨c,d,f⟩;simp[yh,e,Ku]
noncomputable abbrev Csp:Ctx:=zW prog [(189,yh [] FGs)]
theorem zbC:Gd Csp:=qc mixed ⟨lU,trivial⟩
theorem Wn:zg prog 152 (yh [] FSp):=
 xa (fn:=f152) (code:=_) zbC ⟨func152,by kernel_rfl,rfl,by kernel_rfl⟩ [] _ fun args r h=>by
  obtain⟨⟨a,b⟩,rfl,⟨c,d,e⟩,rfl⟩:=zK h;have f:=fun Y Z=>SJ a b Y Z c d e
  exact⟨by simp[f152],Kr rfl (by simp[f,WK,Ku,f152])⟩
theorem ZP(a b:za)(Y:Hp)(Z:Nat)(c:a.length<=zx)(d:b.length<=zx)(f:1<=b.length):yh [] FSp [str a,str b] Y Z=some (.own Z 0 (qh a b).length,qt Y Z (some (Ku (qh a b))),Z+1):=by have e:FSp (q6 [] [str a,str b])=some (some (Ku (qh a b))):=qG (V:=fun a:List UInt8×za=>[str a.1,str a.2]) (a:=(a,b)) ET ⟨c,d,f⟩;simp[yh,e,Ku]
def Kv(c:UInt8):Bool:=pr 48 57 c
def kO(l:za):Bool:=l.all Kv
def yA(l:za):Bool:=!(l==[])&&!(decide (1<l.length)&&l.headD 0==48)&&kO l
def yo(l:za):Bool:=l==[120]||l==[88]||l==[42]
def JR(c:UInt8):Bool:=pr 97 122 c||pr 65 90 c||pr 48 57 c||c==45
def dY(l:za):Bool:=l.all JR&&!(l==[])
theorem dZ{l:za}{k:Nat}(h:k<l.length):kO (l.drop k)=(Kv l[k]&&kO (l.drop (k+1))):=cz h
theorem rC{l:za}{k:Nat}(h:k<l.length):(l.drop k).all JR=(JR l[k]&&(l.drop (k+1)).all JR):=cz h
theorem lV(l:za)(i:l.length<=zx):zt C0 f213 [str l]=some (q8 (kO l)):=by
 refine zn rfl ?_;unfold zx at i;simp;refine zT (fun k U Y Z=>U 0=str l/\U 5=int l.length/\U 6=int k/\kO l=kO (l.drop k)) l.length ⟨by simp,by simp,by simp,by simp⟩ ?_;rintro k U Y Z m ⟨e,f,g,b⟩;by_cases a:k<l.length
 ·have j:=qH k;rw[dZ a]at b;have h:=VM 48 57 l[k];simp only[ZG]at h;cases d:Kv l[k]
  ·have b:kO l=false:=by rw[b,d];rfl
   have c:pr 48 57 l[k]=false:=d;simp[e,f,g,a,b,h,c,f213]
  ·have c:pr 48 57 l[k]=true:=d;simp[e,f,g,a,h,c,j];exact⟨a,by rw[b,d];rfl⟩
 ·obtain rfl:k=l.length:=by omega
  have b:kO l=true:=by rw[b,zq];rfl
  simp[e,f,g,b,f213]
theorem WM:zg prog 213 (zi false [] (FS kO)):=
 Z2 jY func213 false [] fun l Y=>⟨by simp[f213],_,lV l Y,qq _⟩
noncomputable abbrev Cdg:Ctx:=zW prog [(213,zi false [] (FS kO))]
theorem zbD:AM.Good Cdg (fun g=>[213].contains g):=qx mixed ⟨WM,fun _=>zr _ _,trivial⟩
theorem EX(l:za)(g:l.length<=zx):zt Cdg f209 [str l]=some (q8 (yA l)):=by
 refine zn rfl ?_;have hd:=fun Y Z=>kA kO l Y Z g
 cases l with
 |nil=>simp[yA,f209]
 |cons c l=>
  by_cases b:0<l.length
  ·have a:l≠[]:=by intro e;subst e;simp at b
   have f:(1:Int)<(l.length:Int)+1:=by omega
   by_cases d:c=48
   ·subst d;simp[hd,b,a,f,yA,f209]
   ·have h:((c.toNat:Int)==48)=false:=by rw[yy];intro e;apply d;rw[<-Qi];simp;omega
    simp[hd,b,a,d,h,f,yA,f209]
  ·have a:l=[]:=by cases l<;>simp_all
   subst a;simp[hd,yA,f209]
theorem fF:zg prog 209 (zi false [] (FS yA)):=
 Z2 zbD func209 false [] fun l Y=>⟨by simp[f209],_,EX l Y,qq _⟩
theorem IG(l:za):zt C0 f174 [str l]=some (q8 (yo l)):=by
 refine zn rfl ?_;cases a:(l==[120])
 ·cases b:(l==[88])
  ·simp[a,b,yo,f174]
  ·simp[a,b,yo,f174]
 ·simp[a,yo,f174]
theorem lW:zg prog 174 (zi false [] (FS yo)):=
 Z2 jY func174 false [] fun l Y=>⟨by simp[f174],_,IG l,qq _⟩
def tI(l:za):Int:=((Lib.decNat l).getD 0:Nat)
theorem Kw:∀(l:za) (a:Nat),kO l=true->∃n,Lib.decFrom a l=some n/\n<(a+1)*10 ^ l.length
 |[],a,_=>⟨a,rfl,by simp⟩
 |c::l,a,h=>by
  simp only[kO,q9,zC]at h;have b:48<=c.toNat/\c.toNat<=57:=by have:=h.1;simpa[Kv,pr]using this
  obtain⟨n,d,e⟩:=Kw l (a*10+(c.toNat-48)) h.2;refine⟨n,?_,?_⟩
  ·simp only[Lib.decFrom,Lib.digitVal,b,and_self,qI];exact d
  ·have f:a*10+(c.toNat-48)+1<=(a+1)*10:=by omega
   calc n<(a*10+(c.toNat-48)+1)*10 ^ l.length:=e
    _<=(a+1)*10*10 ^ l.length:=zP _ f
    _=(a+1)*10 ^ (c::l).length:=by rw[z7,Nat.pow_succ,Nat.mul_assoc,UL 10]
theorem lX{l:za}(h:yA l=true):l≠[]/\kO l=true:=by simp only[yA,zC]at h;exact⟨by intro e;subst e;simp at h,h.2⟩
theorem EY{l:za}(h:yA l=true):Lib.atoi l=some (tI l):=by
 obtain⟨a,b⟩:=lX h;obtain⟨n,i,_⟩:=Kw l 0 b;have f:Lib.decNat l=some n:=by unfold Lib.decNat;rw[zc (by simpa using a)];exact i
 cases l with
 |nil=>exact absurd rfl a
 |cons c l=>
  have k:48<=c.toNat/\c.toNat<=57:=by have:=b;simp only[kO,q9,zC]at this;simpa[Kv,pr]using this.1
  have j:tI (c::l)=n:=by unfold tI;rw[f];rfl
  rw[j];have g:∀d:UInt8,d.toNat<48->(c==d)=false:=fun d hd=>by rw[yy];intro e;subst e;omega
  unfold Lib.atoi;simp only[];rw[g 45 (by decide),g 43 (by decide),f];rfl
noncomputable def FAt:zb->Option O:=qu (α:=za) (fun l=>[str l]) (fun l=>l.length<=18/\yA l=true) (fun l=>.wq [int (tI l),.v .nilIface])
theorem NF{dr:Prop}(w:World)(e:TypeId)(s:ByteArray):Fr dr w (fun _=>False) (Lib.bytesWorld w e s):=by
 have d:∀(b:World) (a:Addr) (n k:Nat),k≠a.block->(b.freeze a n).heap[k]?=b.heap[k]?:=by
  intro b a n k c;unfold World.freeze;split
  ·rfl
  ·simp[vN,Ne.symm c]
 have f:∀(b:World) (a:Addr) (n:Nat),(b.freeze a n).heap.size=b.heap.size:=by intro b a n;unfold World.freeze;split<;>simp
 unfold Lib.bytesWorld;refine⟨rfl,rfl,rfl,?_,?_,fun k c _=>?_⟩
 ·rw[f];simp
 ·exact fun _=>Zr _
 ·rw[d _ _ _ k (by simpa using Nat.ne_of_lt c)];exact(Below.heap_alloc w.drew _ k c)
@[simp]theorem Rr(U:Nat->O):AM.get U (.const .nilIface)=some (.v .nilIface):=rfl
theorem lY:zg prog 210 (zi false [] FAt):=
 xu ⟨_,func210,by kernel_rfl,by kernel_rfl⟩ fun args r h=>by
  obtain⟨l,rfl,⟨c,d⟩,rfl⟩:=zK h;refine⟨[.string ⟨l.toArray⟩],rfl,by simp[lit],rfl,.tuple #[.int .i64 (tI l),.nilIface],fun w S=>.wq rfl fun j g u a b=>?_,fun w S _=>?_⟩
  ·match j,a,b with
   | 0,a,b=>simp at a b;subst a;subst b;exact .v rfl
   | 1,a,b=>simp at a b;subst a;subst b;exact .v rfl
   |j+2,a,b=>simp at a
  refine(Any.strconv_Atoi Tryz.U1 ⟨l.toArray⟩ (tI l) (by simpa using c) (by simpa using EY d) w).mono fun e w' f=>?_
  obtain⟨rfl,t,rfl⟩:=f;exact⟨rfl,NF _ _ _⟩
theorem rD(l:za)(Y:Hp)(Z:Nat)(c:l.length<=18)(d:yA l=true):zi false [] FAt [str l] Y Z=some (.wq [int (tI l),.v .nilIface],Y,Z):=
 Js l _ _ rfl (fun a b e=>by simp only[zl,zM]at e;exact wR e) ⟨c,d⟩ (.inl rfl)
def xO(l:za):Option Int:=if yA l=true/\l.length<=6 then some (tI l)else none
def Jc(l:za):O:=.wq [int ((xO l).getD 0),q8 (xO l).isSome]
noncomputable def MG (f:za->O):zb->Option O:=qu (α:=za) (fun l=>[str l]) (fun l=>l.length<=zx) f
theorem cC(f:za->O)(l:za)(Y:Hp)(Z:Nat)(h:l.length<=zx)(c:(f l).flat=true):zi false [] (MG f) [str l] Y Z=some (f l,Y,Z):=
 Js l _ _ rfl (fun a b e=>by simp only[zl,zM]at e;exact wR e) h (.inl c)
noncomputable abbrev Cvn:Ctx:=zW prog [(209,zi false [] (FS yA)),(210,zi false [] FAt)]
theorem zbE:AM.Good Cvn (fun g=>[209].contains g):=qx mixed ⟨fF,fun _=>zr _ _,lY,fun _=>zr _ _,trivial⟩
theorem bn(l:za)(f:l.length<=zx):zt Cvn f162 [str l]=some (Jc l):=by
 refine zn rfl ?_;have b:=fun Y Z=>kA yA l Y Z f
 cases a:yA l
 ·simp[b,a,Jc,xO,wc,f162]
 ·by_cases e:l.length<=6
  ·have c:¬((6:Int)<l.length):=by omega
   have g:=fun Y Z=>rD l Y Z (by omega) a
   simp[b,a,e,c,g,GJ,Jc,xO,wc,f162]
  ·have c:(6:Int)<l.length:=by omega
   have d:6<l.length:=by omega
   simp[b,a,e,d,c,Jc,xO,wc,f162]
theorem WV:zg prog 162 (zi false [] (MG Jc)):=
 Z2 zbE func162 false [] fun l Y=>⟨by simp[f162],_,bn l Y,qq _⟩
@[simp]theorem zdo(P:Program)(Y:Hp)(t:TypeId)(id a b:Nat)(k:IntKind)(i:Int)(h:ym P t=none):qJ P Y t (.ref id a b) (.v (.int k i))=(AV P t).bind fun c=>(qC P c.2).bind fun n=>if 0<=i/\i<c.1 then some (.ref id a (b+i.toNat*n))else none:=by
 simp only[qJ,h,Zh];cases AV P t with
 |none=>rfl
 |some c=>obtain⟨m,e⟩:=c;simp only[z8];cases qC P e<;>rfl
@[simp]theorem zdp(P:Program)(Y:Hp)(t:TypeId)(cs:zb)(k:IntKind)(i:Int)(h:ym P t=none):qJ P Y t (.ptr cs) (.v (.int k i))=(AV P t).bind fun a=>(qC P a.2).bind fun n=>if 0<=i/\i<a.1 then some (.ptr (cs.drop (i.toNat*n)))else none:=by
 simp only[qJ,h,Zh];cases AV P t with
 |none=>rfl
 |some a=>obtain⟨m,e⟩:=a;simp only[z8];cases qC P e<;>rfl
@[simp]theorem wrl0:i6.wrap 0=0:=wQ (by decide) (by decide)
@[simp]theorem wrl1:i6.wrap 1=1:=wQ (by decide) (by decide)
@[simp]theorem wrl2:i6.wrap 2=2:=wQ (by decide) (by decide)
@[simp]theorem wrl3:i6.wrap 3=3:=wQ (by decide) (by decide)
theorem EZ(l:za)(h:l.length<=zx):zt C0 f212 [str l]=some (q8 (dY l)):=by
 refine zn rfl ?_;unfold zx at h;simp;refine zT (fun k U Y Z=>U 0=str l/\U 6=int l.length/\U 7=int k/\l.all JR=(l.drop k).all JR) l.length ⟨by simp,by simp,by simp,by simp⟩ ?_;rintro k U Y Z m ⟨e,f,g,b⟩;by_cases a:k<l.length
 ·have i:=qH k;rw[rC a]at b;have c:(decide ((97:Int)<=l[k].toNat)&&decide ((l[k].toNat:Int)<=122)||decide ((65:Int)<=l[k].toNat)&&decide ((l[k].toNat:Int)<=90)||decide ((48:Int)<=l[k].toNat)&&decide ((l[k].toNat:Int)<=57)||((l[k].toNat:Int)==45))=JR l[k]:=by
   have j:((l[k].toNat:Int)==45)=(l[k]==45):=by rw[qv];simp[<-Qi];omega
   rw[j,qv];simp[JR,pr,<-Qi];omega
  cases d:JR l[k]
  ·have b:l.all JR=false:=by rw[b,d];rfl
   rw[d]at c;simp[e,f,g,a,c,dY,b,-List.all_eq_true,-List.all_eq_false,f212]
  ·rw[d]at c;simp[e,f,g,a,c,i,-List.all_eq_true,-List.all_eq_false];exact⟨a,by rw[b,d];rfl⟩
 ·obtain rfl:k=l.length:=by omega
  have b:l.all JR=true:=by rw[b,zq];rfl
  simp[e,f,g,b,dY,-List.all_eq_true,f212]
theorem Bx:zg prog 212 (zi false [] (FS dY)):=
 Z2 jY func212 false [] fun l Y=>⟨by simp[f212],_,EZ l Y,qq _⟩
theorem oX:zg prog 211 (zi false [] (F3 xb)):=
 yj (fn:=f211) jY (qE func211) false [] _ fun args r h=>by obtain⟨a,b,c,rfl,rfl⟩:=EP h;exact⟨by simp[f211],_,zn rfl (by simp[f211,xb]),qq _⟩
structure wN where
 a:Int
 b:Int
 c:Int
 pre:List (List UInt8)
def zH(l:List za):List zb:=l.map fun p=>[str p]
theorem jI{a b:List za}(h:zH a=zH b):a=b:=vw (fun x y e=>by simp only[zl,zM]at e;exact wR e) h
@[simp]theorem wC(l:List za):(zH l).length=l.length:=by simp[zH]
@[simp]theorem NG:zH []=[]:=rfl
@[simp]theorem IH(l:List za):(zH l).take l.length=zH l:=qe (by simp)
@[simp]theorem XL(p:za)(l:List za):zH (p::l)=[str p]::zH l:=rfl
@[simp]theorem zgr(l:List za):Ku l=⟨9,1,true,zH l⟩:=rfl
@[simp]theorem zgs{l:List za}{k:Nat}(h:k<(zH l).length):(zH l)[k]=[str (l[k]'(by simpa using h))]:=by simp[zH]
theorem VP{l:List za}{k:Nat}(h:k<l.length):(zH l)[k]?=some [str l[k]]:=by simp[zH,h]
def wN.V(v:wN):zb:=[int v.a,int v.b,int v.c,.sl 1 (zH v.pre)]
theorem Wo{a b:wN}(h:a.V=b.V):a=b:=by
 cases a;cases b;simp only[wN.V,zl,zM]at h;obtain⟨d,e,f,c⟩:=h;injection c with _ c
 rw[qS d,qS e,qS f,jI c]
abbrev kp:List (Option Nat):=[none,none,none,some 1]
def wN.small(v:wN):Prop:=v.pre.length<=zx/\∀p∈v.pre,p.length<=zx
def w9(p:za):Bool:=decide (20<p.length)||!dY p||(kO p&&!yA p)
def kq(v:wN):Int:=if xb v.a 0 999999=true/\xb v.b 0 999999=true/\xb v.c 0 999999=true then(if 10<v.pre.length then 2 else if v.pre.any w9 then 3 else 0)else 1
noncomputable def RZ (f:wN->O):zb->Option O:=qu (α:=wN) (fun v=>[.agg v.V]) wN.small f
theorem lZ(f:wN->O)(v:wN)(x:O)(Y Y1:Hp)(Z:Nat)(y:O)(d:zw Y [x]=some ([y],Y1))(i:(Sh.g kp).fix y=.agg v.V)(h:v.small)(c:(f v).flat=true):qA [.g kp] (RZ f) [x] Y Z=some (f v,Y,Z):=by
 have e:RZ f (cw [.g kp] (q6 [] [y]))=some (f v):=by show RZ f [(Sh.g kp).fix y]=_;rw[i];exact qG (V:=fun v:wN=>[O.agg v.V]) (a:=v) (fun a b e=>by simp only[zl,zM]at e;injection e with e;exact Wo e) h
 unfold qA zi;simp only[d,e,c,true_or,qI]
noncomputable abbrev NH:Ctx:=zW prog [(211,zi false [] (F3 xb)),(212,zi false [] (FS dY)),(213,zi false [] (FS kO)),(209,zi false [] (FS yA))]
theorem SK:AM.Good NH (fun g=>[211,212,213,209].contains g):=qx mixed ⟨oX,fun _=>zr _ _,Bx,fun _=>zr _ _,WM,fun _=>zr _ _,fF,fun _=>zr _ _,trivial⟩
@[simp]theorem zdq:kN NH 212:=jd (by rfl) (zr _ _)
@[simp]theorem zdr:kN NH 213:=jd (by rfl) (zr _ _)
@[simp]theorem zds:kN NH 209:=jd (by rfl) (zr _ _)
theorem cD(v:wN)(h:v.small):zt NH f163 [.agg v.V]=some (int (kq v)):=by
 obtain⟨a,b,c,pre⟩:=v;obtain⟨w,o⟩:=h;simp only at w o;unfold zx at w;refine zn rfl ?_;simp[wN.V,zp,zy,zo];rw[zJ];cases n:xb a 0 999999
 ·simp[n,kq,f163]
 simp[n];rw[zJ];cases p:xb b 0 999999
 ·simp[n,p,kq,f163]
 simp[p];rw[zJ];cases q:xb c 0 999999
 ·simp[n,p,q,kq,f163]
 simp[q];rw[zJ];simp;by_cases s:10<pre.length
 ·have g:(10:Int)<pre.length:=by omega
  simp[n,p,q,s,g,kq,f163]
 have g:¬(10:Int)<pre.length:=by omega
 simp[s,g];have t:kq ⟨a,b,c,pre⟩=if pre.any w9 then 3 else 0:=by simp[kq,n,p,q,s]
 rw[t];refine zT (fun k U Y Z=>U 28=.sl 1 (zH pre)/\U 29=int pre.length/\U 30=int k/\pre.any w9=(pre.drop k).any w9) pre.length ⟨by simp,by simp,by simp,by simp⟩ ?_;rintro k U Y Z B ⟨i,j,l,f⟩;by_cases d:k<pre.length
 ·have C:=qH k;have x:=VP d;rw[zh d,jl]at f;have m:=o _ (zk d);have y:=fun Y Z=>kA dY pre[k] Y Z m
  have z:=fun Y Z=>kA kO pre[k] Y Z m
  have A:=fun Y Z=>kA yA pre[k] Y Z m
  have u:w9 pre[k]=(decide (20<pre[k].length)||!dY pre[k]||(kO pre[k]&&!yA pre[k])):=rfl;have e:(decide ((20:Int)<pre[k].length)||!dY pre[k]||kO pre[k]&&!yA pre[k])=w9 pre[k]:=by rw[u];congr 2;rw[qv];simp;omega
  cases r:w9 pre[k]
  ·rw[r]at e;simp[i,j,l,d,x,y,z,A,e,C];exact⟨d,by rw[f,r];rfl⟩
  ·rw[r]at e;have f:pre.any w9=true:=by rw[f,r];rfl
   simp[i,j,l,d,x,y,z,A,e,f,-List.any_eq_true,f163]
 ·obtain rfl:k=pre.length:=by omega
  have f:pre.any w9=false:=by rw[f,zq];rfl
  simp[i,j,l,f,-List.any_eq_false,f163]
theorem SL{f:wN->O}{args:zb}{r:O}(h:RZ f args=some r):∃v:wN,args=[.agg v.V]/\v.small/\r=f v:=zK h
theorem ZQ:zg prog 163 (qA [.g kp] (RZ fun v=>int (kq v))):=
 wT (fn:=f163) SK (qE func163) _ _ fun args r h=>by obtain⟨v,rfl,a,rfl⟩:=SL h;exact⟨by simp[f163],_,cD v a,qg.refl _⟩
theorem l0(sep:za):∀(k:Nat) (s p:za),p∈Lib.splitK sep 0 k s->p.length<=s.length
 | 0,s,p,h=>by simp[Lib.splitK]at h;rw[h];exact ze _
 |k+1,s,p,h=>by
  unfold Lib.splitK at h;split at h
  ·simp at h;rw[h];exact ze _
  ·rcases zv.1 h with rfl|h
   ·simp;omega
   ·have:=l0 sep k _ p h;simp at this;omega
theorem l3(sep:za):∀(k:Nat) (s:za),(Lib.splitK sep 0 k s).length<=k+1
 | 0,s=>by simp[Lib.splitK]
 |k+1,s=>by
  unfold Lib.splitK;split
  ·simp
  ·have:=l3 sep k (s.drop ((Lib.index s sep).toNat+sep.length));simp;omega
theorem vf{s sep p:za}(h:p∈qh s sep):p.length<=s.length:=l0 _ _ _ _ h
theorem xZ{s sep:za}(h:sep≠[]):(qh s sep).length<=s.length+1:=by have a:=l3 sep (Lib.count s sep) s;have b:=rB (s:=s) h;exact zE a (by omega)
theorem NI(s sep:za):(Lib.cut s sep).1.length<=s.length/\(Lib.cut s sep).2.1.length<=s.length:=by
 unfold Lib.cut;split
 ·simp;omega
 ·simp
noncomputable def Vn (f:za->O):zb->Option O:=qu (α:=za) (fun l=>[str l]) (fun l=>l.length+1<=zx) f
theorem vI(f:za->O)(l:za)(Y:Hp)(Z:Nat)(h:l.length+1<=zx):zi false [] (Vn f) [str l] Y Z=some (f l,Y,Z):=
 Js l _ _ rfl (fun a b e=>by simp only[zl,zM]at e;exact wR e) h (.inr (by simp))
def ax:wN:=⟨0,0,0,[]⟩
def xm(t:za):List za:=if(Lib.cut t [45]).2.2 then qh (Lib.cut t [45]).2.1 [46]else[]
def l4(t:za):Option wN:=match qh (Lib.cut t [45]).1 [46]with
 |[d,e,f]=>match xO d,xO e,xO f with
  |some a,some b,some c=>if kq ⟨a,b,c,xm t⟩=0 then some ⟨a,b,c,xm t⟩else none
  |_,_,_=>none
 |_=>none
def AO(t:za):O:=match l4 t with
 |some v=>.wq [.agg v.V,int 0]
 |none=>.wq [.agg ax.V,int 10]
noncomputable abbrev Crv:Ctx:=zW prog [(161,zi false [] (Qg oV fun _ _=>True)),(152,yh [] FSp),(162,zi false [] (MG Jc)),(163,qA [.g kp] (RZ fun v=>int (kq v)))]
theorem zbF:Gd Crv:=qc mixed ⟨lS,Wn,WV,ZQ,trivial⟩
theorem XM(l:za)(Y:Hp)(Z:Nat)(h:l.length<=zx):zi false [] (MG Jc) [str l] Y Z=some (.wq [int ((xO l).getD 0),q8 (xO l).isSome],Y,Z):=cC Jc l Y Z h rfl
theorem zaw{α:Type}{l:List α}(h:l.length=3):∃a b c,l=[a,b,c]:=by
 match l,h with
 |[a,b,c],_=>exact⟨a,b,c,rfl⟩
theorem ea(t:za)(N:t.length+1<=zx):∃I,zt Crv f131 [str t]=some I/\qg I (AO t):=by
 refine yM (sh:=.g kp) rfl ?_;have J:=NI t [45];have m:=fun Y Z=>lR t [45] Y Z (by omega) (by decide)
 have r:=fun Y Z=>ZP (Lib.cut t [45]).1 [46] Y Z (by omega) (by decide) (by decide)
 have o:=fun Y Z=>ZP (Lib.cut t [45]).2.1 [46] Y Z (by omega) (by decide) (by decide)
 have h:∀p∈qh (Lib.cut t [45]).1 [46],p.length<=zx:=fun p Y=>by have:=vf Y;omega
 have A:∀p∈qh (Lib.cut t [45]).2.1 [46],p.length<=zx:=fun p Y=>by have:=vf Y;omega
 have B:(qh (Lib.cut t [45]).2.1 [46]).length<=zx:=by have:=xZ (s:=(Lib.cut t [45]).2.1) (sep:=[46]) (by simp);omega
 by_cases y:(qh (Lib.cut t [45]).1 [46]).length=3
 ·obtain⟨C,D,E,d⟩:=zaw y;rw[d]at r h;have i:=fun Y Z=>XM C Y Z (h C (by simp))
  have j:=fun Y Z=>XM D Y Z (h D (by simp))
  have k:=fun Y Z=>XM E Y Z (h E (by simp))
  simp[m,r];rw[zJ];cases l:xO C with
  |none=>rw[l]at i;simp[i,AO,l4,d,l,zS,qn,qo,ax,wN.V,f131]
  |some a=>
   rw[l]at i;simp[i];rw[zJ];cases q:xO D with
   |none=>rw[q]at j;simp[j,AO,l4,d,l,q,zS,qn,qo,ax,wN.V,f131]
   |some b=>
    rw[q]at j;simp[j];rw[zJ];cases u:xO E with
    |none=>rw[u]at k;simp[k,AO,l4,d,l,q,u,zS,qn,qo,ax,wN.V,f131]
    |some c=>
     rw[u]at k;simp[k];rw[zJ];simp[zS,qn];have F:(⟨a,b,c,[]⟩:wN).small:=⟨by simp,by simp⟩;have G:(⟨a,b,c,qh (Lib.cut t [45]).2.1 [46]⟩:wN).small:=⟨B,A⟩;cases z:(Lib.cut t [45]).2.2
     ·have f:=fun Y Z=>lZ (fun v=>int (kq v)) ⟨a,b,c,[]⟩ (.agg [int a,int b,int c,.nil]) Y Y Z _ rfl rfl F rfl
      by_cases w:kq ⟨a,b,c,[]⟩=0
      ·simp[f,w,AO,l4,xm,d,l,q,u,z,qo,wN.V,f131]
      ·have x:=ZX w;simp[f,w,x,AO,l4,xm,d,l,q,u,z,zS,qn,qo,ax,wN.V,f131]
     ·have f:∀(Y:Hp) (Z id n:Nat),Y id=some ⟨9,1,true,zH (qh (Lib.cut t [45]).2.1 [46])⟩->n=(qh (Lib.cut t [45]).2.1 [46]).length->qA [.g kp] (RZ fun v=>int (kq v)) [.agg [int a,int b,int c,.own id 0 n]] Y Z=some (int (kq ⟨a,b,c,qh (Lib.cut t [45]).2.1 [46]⟩),Y,Z):=by intro Y Z id n K L;subst L;exact lZ (fun v=>int (kq v)) ⟨a,b,c,qh (Lib.cut t [45]).2.1 [46]⟩ _ Y (qt Y id none) Z (.agg [int a,int b,int c,.sl 1 (zH (qh (Lib.cut t [45]).2.1 [46]))]) (by simp[K]) rfl G rfl
      by_cases w:kq ⟨a,b,c,qh (Lib.cut t [45]).2.1 [46]⟩=0
      ·simp[o,f,w,AO,l4,xm,d,l,q,u,z,qo,wN.V,f131]
      ·have x:=ZX w;simp[o,f,w,x,AO,l4,xm,d,l,q,u,z,zS,qn,qo,ax,wN.V,f131]
 ·have H:(((qh (Lib.cut t [45]).1 [46]).length:Int) != 3)=true:=by simp;omega
  have M:l4 t=none:=by
   unfold l4;split
   ·rename_i e;rw[e]at y;simp at y
   ·rfl
  simp[m,r,H,y,AO,M,zS,qn,qo,ax,wN.V,f131]
theorem Jd:zg prog 131 (zi false [] (Vn AO)):=
 xl (fn:=f131) zbF (qE func131) false [] _ fun args r h w S vs a=>by obtain⟨l,rfl,Y,rfl⟩:=zK h;obtain⟨b,c,d⟩:=ea l Y;exact⟨_,b,a,by simp[f131],c,d⟩
structure Part where
 n0:Int
 n1:Int
 n2:Int
 has:Int
 pre:List (List UInt8)
def Part.V(p:Part):zb:=[int p.n0,int p.n1,int p.n2,int p.has,.sl 1 (zH p.pre)]
abbrev VQ:List (Option Nat):=[none,none,none,none,some 1]
def wj:Part:=⟨0,0,0,0,[]⟩
def Part.put(p:Part)(i:Nat)(n:Int):Part:=match i with
 | 0=>{p with n0:=n,has:=p.has+1}
 | 1=>{p with n1:=n,has:=p.has+1}
 |_=>{p with n2:=n,has:=p.has+1}
def wL(p:Part)(i:Nat)(t:za):Option Part:=if(xO t).isSome=true/\p.has=i then some (p.put i ((xO t).getD 0))else if yo t=true/\i≠0 then some p else none
def yf:Part->Nat->List za->Option Part
 |p,_,[]=>some p
 |p,i,t::l=>match wL p i t with
  |some q=>yf q (i+1) l
  |none=>none
def zR(t:za):Part×Bool:=if Lib.contains t [45]=true then(match l4 t with
    |some v=>(⟨v.a,v.b,v.c,3,v.pre⟩,true)
    |none=>(⟨0,0,0,3,[]⟩,false))
 else if 3<(qh t [46]).length then(wj,false)else match yf wj 0 (qh t [46])with
  |some p=>(p,true)
  |none=>(wj,false)
def jR(t:za):O:=.wq [.agg (zR t).1.V,q8 (zR t).2]
noncomputable abbrev Crpv:Ctx:=zW prog [(129,zi false [] (Qg ID fun _ _=>True)),(131,zi false [] (Vn AO)),(152,yh [] FSp),(162,zi false [] (MG Jc)),(174,zi false [] (FS yo))]
theorem zbG:AM.Good Crpv (fun g=>[174].contains g):=qx mixed ⟨VO,by simp,Jd,by simp,Wn,by simp,WV,by simp,lW,fun _=>zr _ _,trivial⟩
theorem NJ(a b:za)(Y:Hp)(Z:Nat)(h:a.length<=zx)(c:b.length<=zx):zi false [] (Qg ID fun _ _=>True) [str a,str b] Y Z=some (q8 (Lib.contains a b),Y,Z):=ko _ _ a b Y Z h c trivial rfl
def Part.raw(p:Part):zb:=[int p.n0,int p.n1,int p.n2,int p.has,.nil]
theorem oY{p:Part}{k:Nat}{l:List za}(h:k<l.length):yf p k (l.drop k)=match wL p k l[k]with
  |some q=>yf q (k+1) (l.drop (k+1))
  |none=>none:=by
 rw[zh h];rfl
theorem ec(t:za)(W:t.length+1<=zx):∃S,zt Crpv f172 [str t]=some S/\qg S (jR t):=by
 refine yM (sh:=.g VQ) rfl ?_;have B:=fun Y Z=>NJ t [45] Y Z (by omega) (by decide)
 cases I:Lib.contains t [45]
 ·have J:=fun Y Z=>ZP t [46] Y Z (by omega) (by decide) (by decide)
  have E:∀p∈qh t [46],p.length<=zx:=fun p Y=>by have:=vf Y;omega
  by_cases M:3<(qh t [46]).length
  ·have F:(3:Int)<(qh t [46]).length:=by omega
   simp[B,I,J,M,F,jR,zR,zS,qn,qo,wj,Part.V,f172]
  have F:¬(3:Int)<(qh t [46]).length:=by omega
  simp[B,I,J,M,F];obtain⟨l,N⟩:=jj (qh t [46]);rw[N]at E M;have e:zR t=match yf wj 0 l with
   |some p=>(p,true)
   |none=>(wj,false):=by
   unfold zR;rw[zc (by rw[I];simp),N,zc M]
   try rfl
  simp only[N];refine zT (fun k U Y Z=>∃p:Part,p.pre=[]/\U 2=.ref 0 0 0/\U 7=.ref 2 0 0/\U 37=.own 1 0 l.length/\U 38=int l.length/\U 39=int k/\p.has<=k/\0<=p.has /\
    Y 0=some ⟨166,5,false,[wj.raw]⟩/\Y 1=some ⟨9,1,true,zH l⟩/\Y 2=some ⟨166,5,false,[p.raw]⟩/\yf wj 0 l=yf p k (l.drop k)) l.length
   ⟨wj,rfl,by simp,by simp,by simp,by simp,by simp,by simp[wj],by simp[wj],by simp[wj,Part.raw],by simp,by simp[wj,Part.raw],by simp⟩ ?_
  rintro k U Y Z X ⟨p,G,w,x,f,h,i,P,H,y,z,A,j⟩;by_cases b:k<l.length
  ·have C:=fun Y Z=>XM l[k] Y Z (E _ (zk b))
   have D:=fun Y Z=>kA yo l[k] Y Z (E _ (zk b))
   have K:=qH k;have Q:=wX (p.has+1);rw[oY b]at j;have R:k=0\/k=1\/k=2:=by omega
   obtain⟨r,n1,s,a,pre⟩:=p;simp only at G P H Q;subst G;cases q:(xO l[k]).isSome
   ·cases c:yo l[k]
    ·have hs:wL ⟨r,n1,s,a,[]⟩ k l[k]=none:=by simp[wL,q,c]
     rw[hs]at j;rw[j]at e;simp[w,x,f,h,i,y,z,A,b,C,D,q,c,jR,e,zS,qn,qo,wj,Part.raw,Part.V,f172]
    ·by_cases m:k=0
     ·subst m;have hs:wL ⟨r,n1,s,a,[]⟩ 0 l[0]=none:=by simp[wL,q]
      rw[hs]at j;rw[j]at e;simp[w,x,f,h,i,y,z,A,b,C,D,q,c,jR,e,zS,qn,qo,wj,Part.raw,Part.V,f172]
     ·have hs:wL ⟨r,n1,s,a,[]⟩ k l[k]=some ⟨r,n1,s,a,[]⟩:=by simp[wL,q,c,m]
      have u:((k:Int)==0)=false:=by simpa using m
      rw[hs]at j;simp[w,x,f,h,i,y,z,A,b,C,D,q,c,K,u,m];exact⟨b,⟨r,n1,s,a,[]⟩,rfl,Int.le_trans P (by omega),H,rfl,j⟩
   ·by_cases d:a=k
    ·have hs:wL ⟨r,n1,s,a,[]⟩ k l[k]=some ((⟨r,n1,s,a,[]⟩:Part).put k ((xO l[k]).getD 0)):=by simp[wL,q,d]
     rw[hs]at j;rcases R with rfl|rfl|rfl
     ·obtain rfl:a=0:=by simpa using d
      have n:(0:Int)<(l.length:Int):=by omega
      simp[w,x,f,h,i,y,z,A,b,n,C,D,q,K,Part.raw];refine⟨b,_,?_,?_,?_,?_,(by simpa using j)⟩<;>simp[Part.put]
     ·obtain rfl:a=1:=by simpa using d
      have n:(1:Int)<(l.length:Int):=by omega
      simp[w,x,f,h,i,y,z,A,b,n,C,D,q,K,Part.raw];refine⟨b,_,?_,?_,?_,?_,(by simpa using j)⟩<;>simp[Part.put]
     ·obtain rfl:a=2:=by simpa using d
      have n:(2:Int)<(l.length:Int):=by omega
      simp[w,x,f,h,i,y,z,A,b,n,C,D,q,K,Part.raw];refine⟨b,_,?_,?_,?_,?_,(by simpa using j)⟩<;>simp[Part.put]
    ·cases c:yo l[k]
     ·have hs:wL ⟨r,n1,s,a,[]⟩ k l[k]=none:=by simp[wL,q,c,d]
      have o:(a==(k:Int))=false:=by simpa using d
      rw[hs]at j;rw[j]at e;simp[w,x,f,h,i,y,z,A,b,C,D,q,c,o,jR,e,zS,qn,qo,wj,Part.raw,Part.V,f172]
     ·by_cases m:k=0
      ·subst m;have hs:wL ⟨r,n1,s,a,[]⟩ 0 l[0]=none:=by simp[wL,d];intro _;exact d
       have o:(a==0)=false:=by simpa using d
       rw[hs]at j;rw[j]at e;simp[w,x,f,h,i,y,z,A,b,C,D,q,c,o,jR,e,zS,qn,qo,wj,Part.raw,Part.V,f172]
      ·have hs:wL ⟨r,n1,s,a,[]⟩ k l[k]=some ⟨r,n1,s,a,[]⟩:=by simp[wL,q,c,m,d]
       have u:((k:Int)==0)=false:=by simpa using m
       have o:(a==(k:Int))=false:=by simpa using d
       rw[hs]at j;simp[w,x,f,h,i,y,z,A,b,C,D,q,c,K,u,m,o,Part.raw];exact⟨b,⟨r,n1,s,a,[]⟩,rfl,Int.le_trans P (by omega),H,⟨rfl,rfl,rfl,rfl⟩,j⟩
  ·obtain rfl:k=l.length:=by omega
   rw[zq]at j;simp only[yf]at j;rw[j]at e;simp[w,x,f,h,i,y,z,A,jR,e,G,qo,Part.raw,Part.V,f172]
 ·have L:=fun Y Z=>vI AO t Y Z W
  cases T:l4 t with
  |none=>simp[B,I,L,AO,T,jR,zR,zS,qn,qo,ax,wN.V,Part.V,f172]
  |some v=>simp[B,I,L,AO,T,jR,zR,zS,qn,qo,wN.V,Part.V,f172]
theorem cE:zg prog 172 (zi false [] (Vn jR)):=
 xl (fn:=f172) zbG (qE func172) false [] _ fun args r h w S vs a=>by obtain⟨l,rfl,Y,rfl⟩:=zK h;obtain⟨b,c,d⟩:=ec l Y;exact⟨_,b,a,by simp[f172],c,d⟩
inductive zZ where
 |mk (kind n:Int) (s:List UInt8) (items:List zZ) (fields:List (List UInt8×zZ))
namespace zZ
def kind:zZ->Int|.mk k _ _ _ _=>k
def n:zZ->Int|.mk _ n _ _ _=>n
def s:zZ->za|.mk _ _ s _ _=>s
def items:zZ->List zZ|.mk _ _ _ l _=>l
def fields:zZ->List (za×zZ)|.mk _ _ _ _ l=>l
end zZ
theorem zZ.ind{P:zZ->Prop}(h:∀k n s e g,(∀x∈e,P x)->(∀f∈g,P f.2)->P (.mk k n s e g))(v:zZ):P v:=
 zZ.rec (motive_1:=P) (motive_2:=fun l=>∀x∈l,P x) (motive_3:=fun l=>∀f∈l,P f.2) (motive_4:=fun f=>P f.2) (fun k n s e g i j=>h k n s e g i j)
  (by simp) (fun x l c d y b=>by rcases zv.1 b with rfl|b;(first|exact c|exact d y b);(first|exact c|exact d y b)) (by simp) (fun x l c d y b=>by rcases zv.1 b with rfl|b;(first|exact c|exact d y b);(first|exact c|exact d y b)) (fun a v m=>m) v
mutual
def zZ.V:zZ->zb
 | .mk k n s a b=>[int k,int n,str s,.sl 5 (HU a),.sl 6 (HV b)]
def HU:List zZ->List zb
 |[]=>[]
 |v::l=>v.V::HU l
def HV:List (za×zZ)->List zb
 |[]=>[]
 |(a,v)::l=>(str a::v.V)::HV l
end
abbrev ya(f:za×zZ):zb:=str f.1::f.2.V
theorem rE:∀l:List zZ,HU l=l.map zZ.V
 |[]=>rfl
 |v::l=>by simp[HU,rE l]
theorem rF:∀l:List (za×zZ),HV l=l.map ya
 |[]=>rfl
 |(a,v)::l=>by simp[HV,rF l]
theorem vJ(v:zZ):v.V=[int v.kind,int v.n,str v.s,.sl 5 (v.items.map zZ.V),.sl 6 (v.fields.map ya)]:=by
 cases v with
 |mk k n s a b=>simp[zZ.V,rE,rF,zZ.kind,zZ.n,zZ.s,zZ.items,zZ.fields]
@[simp]theorem zbH(v:zZ):v.V.length=5:=by rw[vJ];rfl
@[simp]theorem II(v:zZ):v.V.all O.wH=true:=by rw[vJ];rfl
@[simp]theorem zbI(v:zZ):(∀x,x∈v.V->O.wH x=true)=True:=by have:=II v;rw[zL]at this;exact eq_true this
@[simp]theorem zeK(v:zZ):v.V.take 5=v.V:=qe (by simp)
@[simp]theorem zhi(v:zZ)(h:0<v.V.length):v.V[0]=int v.kind:=by simp[vJ v]
@[simp]theorem zhj(v:zZ)(h:1<v.V.length):v.V[1]=int v.n:=by simp[vJ v]
@[simp]theorem zhk(v:zZ)(h:2<v.V.length):v.V[2]=str v.s:=by simp[vJ v]
@[simp]theorem zhl(v:zZ)(h:3<v.V.length):v.V[3]=.sl 5 (v.items.map zZ.V):=by simp[vJ v]
@[simp]theorem zhm(v:zZ)(h:4<v.V.length):v.V[4]=.sl 6 (v.fields.map ya):=by simp[vJ v]
theorem Kx{α a:Type}{f:α->a}:∀{xs ys:List α},(∀x∈xs,∀y,f x=f y->x=y)->xs.map f=ys.map f->xs=ys
 |[],[],_,_=>rfl
 |[],y::ys,_,e=>by simp at e
 |x::xs,[],_,e=>by simp at e
 |x::xs,y::ys,h,e=>by simp only[wg,zl]at e;rw[h x (by simp) y e.1,Kx (fun z b=>h z (by simp[b])) e.2]
theorem Qs:∀{a b:zZ},a.V=b.V->a=b:=by
 intro a
 induction a using zZ.ind with
 |h k n s q r g i=>
  intro b e;cases b with
  |mk t u v j l=>
   simp only[vJ,zZ.kind,zZ.n,zZ.s,zZ.items,zZ.fields,zl,zM]at e;obtain⟨m,o,p,c,d⟩:=e;obtain rfl:=qS m;obtain rfl:=qS o;obtain rfl:=wR p;injection c with _ c
   injection d with _ d;obtain rfl:=Kx (fun x f y=>g x f) c;obtain rfl:=Kx (fun x f y e=>by simp only[ya,zl]at e;exact Prod.ext (wR e.1) (i x f e.2)) d
   rfl
mutual
def zZ.vb:zZ->Nat
 | .mk _ _ s a b=>1+s.length+JI a+dI b
def JI:List zZ->Nat
 |[]=>0
 |v::l=>v.vb+JI l
def dI:List (za×zZ)->Nat
 |[]=>0
 |(a,v)::l=>a.length+v.vb+dI l
end
theorem xD(v:zZ):v.vb=1+v.s.length+JI v.items+dI v.fields:=by cases v;rfl
theorem WN(v:zZ):0<v.vb:=by rw[xD];omega
theorem js:∀{l:List zZ} {x:zZ},x∈l->x.vb<=JI l
 |y::l,x,h=>by
  simp only[JI];rcases zv.1 h with rfl|h
  ·omega
  ·have:=js h;omega
theorem vx:∀{l:List (za×zZ)} {x:za×zZ},x∈l->x.1.length+x.2.vb<=dI l
 |(a,y)::l,x,h=>by
  simp only[dI];rcases zv.1 h with rfl|h
  ·simp only;omega
  ·have:=vx h;omega
theorem yE:∀l:List zZ,l.length<=JI l
 |[]=>by simp[JI]
 |v::l=>by have:=yE l;have:=WN v;simp only[JI,z7];omega
theorem jt:∀l:List (za×zZ),l.length<=dI l
 |[]=>by simp[dI]
 |(a,v)::l=>by have:=jt l;have:=WN v;simp only[dI,z7];omega
noncomputable def FV (out:zZ->O) (n:Nat):zb->Option O:=qu (α:=zZ) (fun v=>[.agg v.V]) (fun v=>v.vb<=zx/\v.vb<=n) out
theorem zeL(out:zZ->O)(n:Nat)(v:zZ)(h:v.vb<=zx/\v.vb<=n):FV out n [.agg v.V]=some (out v):=
 qG (V:=fun v:zZ=>[.agg v.V]) (a:=v) (fun a b e=>by simp only[zl,zM,O.agg.injEq]at e;exact Qs e) h
@[simp]theorem MH(Y:Hp)(v:zZ):qY Y v.V=some (v.V,Y):=by rw[vJ];simp
theorem ZR(Y:Hp)(v:zZ):qa Y (.agg v.V)=some (.agg v.V,Y):=by rw[vJ];simp
theorem XN(v:zZ):O.noOwn (.agg v.V)=true:=by rw[vJ];simp
theorem Yc(out:zZ->O)(n:Nat)(v:zZ)(Y:Hp)(Z:Nat)(h:v.vb<=zx/\v.vb<=n):zi false [] (FV out n) [.agg v.V] Y Z=some (out v,Y,Z):=
 yk (Y1:=Y) (show zw Y [.agg v.V]=some ([.agg v.V],Y) by simp only[zw,ZR]) (zeL out n v h) (.inr (by simp only[q9,XN,Zn,zhq]))
mutual
def zZ.parts:zZ->Nat
 | .mk _ _ _ a b=>1+kz a+kF b
def kz:List zZ->Nat
 |[]=>0
 |v::l=>v.parts+kz l
def kF:List (za×zZ)->Nat
 |[]=>0
 |(_,v)::l=>v.parts+kF l
end
mutual
def zZ.levels:zZ->Nat
 | .mk _ _ _ a b=>max (j7 a) (kl b)+1
def j7:List zZ->Nat
 |[]=>0
 |v::l=>max v.levels (j7 l)
def kl:List (za×zZ)->Nat
 |[]=>0
 |(_,v)::l=>max v.levels (kl l)
end
theorem Bz(v:zZ):v.parts=1+kz v.items+kF v.fields:=by cases v;rfl
theorem rG(v:zZ):v.levels=max (j7 v.items) (kl v.fields)+1:=by cases v;rfl
theorem l5(v:zZ):v.parts<=v.vb:=by
 induction v using zZ.ind with
 |h k n s e f g i=>
  have a:∀l:List zZ,(∀x∈l,x.parts<=x.vb)->kz l<=JI l:=by
   intro l
   induction l with
   |nil=>simp[kz]
   |cons v l c=>intro h;have:=h v (by simp);have:=c fun x d=>h x (by simp[d]);simp only[kz,JI];omega
  have b:∀l:List (za×zZ),(∀x∈l,x.2.parts<=x.2.vb)->kF l<=dI l:=by
   intro l
   induction l with
   |nil=>simp[kF]
   |cons v l c=>intro h;have:=h v (by simp);have:=c fun x d=>h x (by simp[d]);obtain⟨a,v⟩:=v;simp only[kF,dI];simp only at *;omega
  have:=a e g;have:=b f i;simp only[zZ.parts,zZ.vb];omega
theorem rH(v:zZ):v.levels<=v.parts:=by
 induction v using zZ.ind with
 |h k n s e f g i=>
  have a:∀l:List zZ,(∀x∈l,x.levels<=x.parts)->j7 l<=kz l:=by
   intro l
   induction l with
   |nil=>simp[j7]
   |cons v l c=>intro h;have:=h v (by simp);have:=c fun x d=>h x (by simp[d]);simp only[j7,kz];omega
  have b:∀l:List (za×zZ),(∀x∈l,x.2.levels<=x.2.parts)->kl l<=kF l:=by
   intro l
   induction l with
   |nil=>simp[kl]
   |cons v l c=>intro h;have:=h v (by simp);have:=c fun x d=>h x (by simp[d]);obtain⟨a,v⟩:=v;simp only[kl,kF];simp only at *;omega
  have:=a e g;have:=b f i;simp only[zZ.parts,zZ.levels];omega
noncomputable abbrev Cc (n:Nat):Ctx:=Kp prog [(87,zi false [] (FV (fun v=>.wq [int v.parts,int v.levels]) n))] (Bm 2 [(2,1)])
theorem y0{C:Ctx}{fn:Func}{code:Code}{args:zb}{Y:Hp}{Z:Nat}{x:O}{Y':Hp}{a:Nat}(b:fn.body=some code)
  (h:Zw C code ⟨jL args,Y,Z⟩ (Yx C.P fn (fun y h m=>y=x/\h=Y'/\m=a))):je C fn args Y Z=some (x,Y',a):=by
 obtain⟨y,d,n1,c,rfl,rfl,rfl⟩:=qz b h;exact c
theorem l6(n:Nat)(v:zZ)(h:v.vb<=zx/\v.vb<=n)(Y:Hp)(Z i j:Nat)(hi:i<Z)(s:j<Z)(b:i≠j)(p q:Nat)(c:Y i=some ⟨3,1,false,[[int p]]⟩)(d:Y j=some ⟨3,1,false,[[int q]]⟩)(f:p<=zx) :
  yz (Cc n) f121 [.agg v.V,.ref i 0 0,.ref j 0 0] Y Z =
   some (.wq [],qt (qt (qt Y Z (some ⟨52,5,false,[v.V]⟩)) i (some ⟨3,1,false,[[int ((p+v.parts:Nat):Int)]]⟩)) j (some ⟨3,1,false,[[int ((max q v.levels:Nat):Int)]]⟩),Z+1):=by
 have g:=l5 v;have k:=rH v;unfold zx at *;have l:=wX ((p:Int)+v.parts);unfold yz;rw[zf (by simp[f121])];refine y0 rfl ?_;have a:=fun Y Z=>Yc (fun v=>.wq [int v.parts,int v.levels]) n v Y Z h
 have e:¬i=Z:=by omega
 have m:¬j=Z:=by omega
 have o:¬j=i:=by omega
 have r:(if q<v.levels then(v.levels:Int)else q)=((max q v.levels:Nat):Int):=by split<;>omega
 simp[a];rw[Wl _ _ _ _ _ _ (lL (blk:=⟨3,1,false,[[int p]]⟩) (id:=j) (i:=0) (j:=0) (id':=i) (i':=0) (j':=0) (by simp) (by simp) (Ne.symm b) (by simp[e,c]) rfl) (fun _ h=>by cases h)];simp[c,d,e,m,o,b,l,r,f121]
theorem aP(a b:List zZ):kz (a++b)=kz a+kz b:=by
 induction a with
 |nil=>simp[kz]
 |cons v a c=>simp only[qX,kz,c];omega
theorem l7(a b:List zZ):j7 (a++b)=max (j7 a) (j7 b):=by
 induction a with
 |nil=>simp[j7]
 |cons v a c=>simp only[qX,j7,c];omega
theorem aQ(a b:List (za×zZ)):kF (a++b)=kF a+kF b:=by
 induction a with
 |nil=>simp[kF]
 |cons v a c=>obtain⟨x,v⟩:=v;simp only[qX,kF,c];omega
theorem l8(a b:List (za×zZ)):kl (a++b)=max (kl a) (kl b):=by
 induction a with
 |nil=>simp[kl]
 |cons v a c=>obtain⟨x,v⟩:=v;simp only[qX,kl,c];omega
theorem zeM{l:List zZ}{k:Nat}(h:k<l.length):kz (l.take (k+1))=kz (l.take k)+l[k].parts/\j7 (l.take (k+1))=max (j7 (l.take k)) l[k].levels:=by rw[ql h,aP,l7];simp[kz,j7]
theorem zeN{l:List (za×zZ)}{k:Nat}(h:k<l.length):kF (l.take (k+1))=kF (l.take k)+l[k].2.parts/\kl (l.take (k+1))=max (kl (l.take k)) l[k].2.levels:=by rw[ql h,aQ,l8];simp[kF,kl]
theorem IJ(l:List zZ)(k:Nat):kz (l.take k)<=kz l:=by have:=aP (l.take k) (l.drop k);rw[vO]at this;omega
theorem IK(l:List (za×zZ))(k:Nat):kF (l.take k)<=kF l:=by have:=aQ (l.take k) (l.drop k);rw[vO]at this;omega
noncomputable abbrev Cd (n:Nat):Ctx:=Kp prog [(121,yz (Cc n) f121)] (Bm 13 [(3,2)])
theorem E0(n:Nat)(v:zZ)(h:v.vb<=zx/\v.vb<=n+1):zt (Cd n) f87 [.agg v.V]=some (.wq [int v.parts,int v.levels]):=by
 have z:=l5 v;have A:=Bz v;have B:=xD v;have t:=rG v;have C:=yE v.items;have D:=jt v.fields;obtain⟨E,H⟩:=h;unfold zx at E;refine zn rfl ?_;simp;refine zT (fun k U Y Z=>U 1=.ref 0 0 0/\U 2=.ref 1 0 0/\U 3=.ref 2 0 0/\U 4=.fn (.func 121) [] [.ref 1 0 0,.ref 2 0 0]/\U 11=.sl 5 (v.items.map zZ.V)/\U 12=int v.items.length/\U 13=int k/\3<=Z/\Y 0=some ⟨52,5,false,[v.V]⟩ /\
   Y 1=some ⟨3,1,false,[[int ((1+kz (v.items.take k):Nat):Int)]]⟩/\Y 2=some ⟨3,1,false,[[int (j7 (v.items.take k))]]⟩) v.items.length
  ⟨by simp,by simp,by simp,by simp,by simp,by simp,by simp,by simp,by simp,by simp[kz],by simp[j7]⟩ ?_
 rintro k U Y Z y ⟨m,f,g,p,c,d,e,q,u,l,o⟩;by_cases a:k<v.items.length
 ·obtain⟨w,x⟩:=zeM a;have F:=js (zk a);have r:=qH k;have s:=IJ v.items k;have b:=l6 n v.items[k] ⟨by unfold zx;omega,by omega⟩ (qt Y Z (some ⟨52,5,false,[v.items[k].V]⟩)) (Z+1) 1 2 (by omega) (by omega) (by omega) _ _ (by rw[zm _ _ _ _ (by omega)];exact l) (by rw[zm _ _ _ _ (by omega)];exact o) (by unfold zx;omega);simp[m,f,g,p,c,d,e,a,b,r];refine⟨a,by omega,?_,?_,?_⟩
  ·simp[u,show¬0=Z by omega,show¬0=Z+1 by omega]
  ·rw[w];omega
  ·rw[x]
 ·obtain rfl:k=v.items.length:=by omega
  rw[wJ]at l o;simp[m,f,g,p,c,d,e,u];refine zT (fun k U Y Z=>U 1=.ref 0 0 0/\U 2=.ref 1 0 0/\U 3=.ref 2 0 0/\U 4=.fn (.func 121) [] [.ref 1 0 0,.ref 2 0 0]/\U 22=.sl 6 (v.fields.map ya)/\U 23=int v.fields.length/\U 24=int k/\3<=Z /\
    Y 1=some ⟨3,1,false,[[int ((1+kz v.items+kF (v.fields.take k):Nat):Int)]]⟩/\Y 2=some ⟨3,1,false,[[int ((max (j7 v.items) (kl (v.fields.take k)):Nat):Int)]]⟩) v.fields.length
   ⟨by simp[m],by simp[f],by simp[g],by simp[p],by simp,by simp,by simp,q,by simp[l,kF],by simp[o,kl]⟩ ?_
  clear m f g p c d e q u l o a y Z Y U;rintro k U Y Z y ⟨m,f,g,p,c,d,e,q,l,o⟩;by_cases a:k<v.fields.length
  ·obtain⟨w,x⟩:=zeN a;have F:=vx (zk a);have r:=qH k;have s:=IK v.fields k;have b:=l6 n v.fields[k].2 ⟨by unfold zx;omega,by omega⟩ (qt Y Z (some ⟨78,6,false,[ya v.fields[k]]⟩)) (Z+1) 1 2 (by omega) (by omega) (by omega) _ _ (by rw[zm _ _ _ _ (by omega)];exact l) (by rw[zm _ _ _ _ (by omega)];exact o) (by unfold zx;omega);simp[ya]at b;simp[m,f,g,p,c,d,e,a,r,b];refine⟨a,by omega,?_,?_⟩
   ·rw[w];omega
   ·rw[x]
  ·obtain rfl:k=v.fields.length:=by omega
   rw[wJ]at l o;have G:=rH v;have r:i6.wrap (((max (j7 v.items) (kl v.fields):Nat):Int)+1)=(v.levels:Int):=by rw[wQ (by omega) (by omega),t];omega
   simp[m,f,g,p,c,d,e];rw[Wl _ _ _ _ _ _ (lL (id:=2) (i:=0) (j:=0) (id':=1) (i':=0) (j':=0) (by simp[g]) (by simp[f]) (by omega) (by exact l) rfl) (fun _ h=>by cases h)];simp[m,f,g,l,o,r,f87,wc];omega
theorem Jt{out:zZ->O}{n:Nat}{args:zb}{r:O}(h:FV out n args=some r):∃v:zZ,args=[.agg v.V]/\(v.vb<=zx/\v.vb<=n)/\r=out v:=zK h
theorem SM{out:zZ->O}:∀args r,FV out 0 args=some r->False:=fun args r h=>by obtain⟨v,rfl,a,rfl⟩:=Jt h;have:=WN v;omega
theorem iA{out:zZ->O}{f:FuncId}(a:∃fn,prog.funcs[f]?=some fn/\(fn.name== "runtime.NumGoroutine")=false/\fn.body.isNone=false):zg prog f (zi false [] (FV out 0)):=by
 refine⟨a,fun args Y Z r Y' b h=>?_⟩;unfold zi at h;split at h
 ·split at h
  ·rename_i c hF;exact(SM _ _ hF).elim
  ·cases h
 ·cases h
theorem BA:∀n,zg prog 87 (zi false [] (FV (fun v=>.wq [int v.parts,int v.levels]) n)):=by
 intro n
 induction n with
 |zero=>exact iA ⟨_,func87,by kernel_rfl,by kernel_rfl⟩
 |succ n a=>
  have b:Gd (Cc n):=Bj _ mixed ⟨a,by simp,trivial⟩;have c:zg prog 121 (yz (Cc n) f121):=kM b func121;have hd:Gd (Cd n):=Bj _ mixed ⟨c,by simp,trivial⟩;exact yj (fn:=f87) hd (qE func87) false [] _ fun args r h=>by obtain⟨v,rfl,d,rfl⟩:=Jt h;exact⟨zE (ze 1) (by decide),_,E0 n v d,qq _⟩
noncomputable abbrev GV (out:zZ->O):AM.Spec:=zi false [] (FV out zx)
theorem Yd(out:zZ->O)(v:zZ)(Y:Hp)(Z:Nat)(h:v.vb<=zx):GV out [.agg v.V] Y Z=some (out v,Y,Z):=Yc out zx v Y Z ⟨h,h⟩
def BB(k:Int):Bool:=decide (k<0)||decide (5<k)
def VR(k n:Int)(s:za)(i f:Nat):Bool:=n != 0&&k != 1&&k != 2||!(s==[])&&k != 3||decide (0<i)&&k != 4||decide (0<f)&&k != 5
def cF(k n:Int):Bool:=k==1&&n != 0&&n != 1
def cG(k n:Int):Bool:=k==2&&(decide (n<=-1000000000000000)||decide (1000000000000000<=n))
def GZ(i f:Nat):Bool:=decide ((100:Int)<i)||decide ((100:Int)<f)
def G3(s:za):Bool:=decide ((500:Int)<s.length)
def YA(k n:Int)(s:za)(i f:Nat):Int:=
 if BB k then 4 else if VR k n s i f then 3 else if cF k n||cG k n then 1 else if G3 s then 2 else if wa 32 126 s then(if GZ i f then 2 else 0)else 1
def gM(a b:za):Bool:=Op.bytesLess a b||a==b
def l9(a:za):Bool:=a.isEmpty||decide ((60:Int)<a.length)||!wa 32 126 a
def kP(b:Option za)(a:za):Bool:=match b with
 |none=>false
 |some p=>gM a p
mutual
def zZ.fault:zZ->Int
 | .mk k n s a b=>if YA k n s a.length b.length=0 then(if Zu a=0 then K5 none b else Zu a)else YA k n s a.length b.length
def Zu:List zZ->Int
 |[]=>0
 |v::l=>if v.fault=0 then Zu l else v.fault
def K5:Option za->List (za×zZ)->Int
 |_,[]=>0
 |prev,(a,v)::l=>if l9 a then 5 else if kP prev a then 8 else if v.fault=0 then K5 (some a) l else v.fault
end
theorem BC(v:zZ):v.fault=if YA v.kind v.n v.s v.items.length v.fields.length=0 then(if Zu v.items=0 then K5 none v.fields else Zu v.items)else YA v.kind v.n v.s v.items.length v.fields.length:=by cases v;rfl
theorem BD:zg prog 122 (GV fun v=>q8 (VR v.kind v.n v.s v.items.length v.fields.length)):=
 yj (fn:=f122) jY (qE func122) false [] _ fun args r h=>by obtain⟨v,rfl,a,rfl⟩:=Jt h;exact⟨by simp[f122],_,zn rfl (by simp[f122,VR]),qq _⟩
noncomputable abbrev Ck (n:Nat):Ctx:=zW prog [(88,zi false [] (FV (fun v=>int v.fault) n)),(122,GV fun v=>q8 (VR v.kind v.n v.s v.items.length v.fields.length)),(123,zi false [] (FS (wa 32 126)))]
@[simp]theorem qk(n:Nat):kN (Ck n) 123:=jd (by rfl) (zr _ _)
theorem fG{l:List zZ}{k:Nat}(h:k<l.length):Zu (l.drop k)=if l[k].fault=0 then Zu (l.drop (k+1))else l[k].fault:=by rw[zh h,Zu]
theorem fH{l:List (za×zZ)}{k:Nat}(h:k<l.length)(p:Option za):K5 p (l.drop k)=if l9 l[k].1 then 5 else if kP p l[k].1 then 8 else if l[k].2.fault=0 then K5 (some l[k].1) (l.drop (k+1))else l[k].2.fault:=by rw[zh h,K5]
def vg(l:List (za×zZ))(k:Nat):Option za:=if k=0 then none else(l[k-1]?).map (·.1)
theorem mb(n:Nat)(v:zZ)(h:v.vb<=zx/\v.vb<=n+1):zt (Ck n) f88 [.agg v.V]=some (int v.fault):=by
 have hvb:=xD v;have hl1:=yE v.items;have hl2:=jt v.fields;obtain⟨ha,hb⟩:=h;unfold zx at ha;have b:=BC v;have d:=fun Y Z=>Yd (fun v=>q8 (VR v.kind v.n v.s v.items.length v.fields.length)) v Y Z ha
 have A:v.s.length<=zx:=by unfold zx;omega
 refine zn rfl ?_;have x:(decide (v.kind<0)||decide (5<v.kind))=BB v.kind:=rfl;have F:(v.kind==1&&v.n != 0&&v.n != 1)=cF v.kind v.n:=rfl;have H:(v.kind==2&&(decide (v.n<=-1000000000000000)||decide (1000000000000000<=v.n)))=cG v.kind v.n:=rfl;have e4:(decide ((100:Int)<v.items.length)||decide ((100:Int)<v.fields.length))=GZ v.items.length v.fields.length:=rfl;have L:decide ((500:Int)<v.s.length)=G3 v.s:=rfl;cases q:BB v.kind
 case true=>simp[x,q,b,YA,f88]
 cases y:VR v.kind v.n v.s v.items.length v.fields.length
 case true=>simp[x,q,d,y,b,YA,f88]
 cases B:cF v.kind v.n
 case true=>simp[x,q,d,y,F,B,b,YA,f88]
 cases G:cG v.kind v.n
 case true=>simp[x,q,d,y,F,B,H,G,b,YA,f88]
 cases I:G3 v.s
 case true=>simp[x,q,d,y,F,B,H,G,L,I,b,YA,f88]
 cases M:wa 32 126 v.s
 case false=>simp[x,q,d,y,F,B,H,G,L,I,M,A,b,YA,f88]
 cases P:GZ v.items.length v.fields.length
 case true=>simp[x,q,d,y,F,B,H,G,L,I,M,A,e4,P,b,YA,f88]
 have hh:YA v.kind v.n v.s v.items.length v.fields.length=0:=by simp[YA,q,y,B,G,I,M,P]
 rw[hh,zf rfl]at b;simp[x,q,d,y,F,B,H,G,L,I,M,A,e4,P];refine zT (fun k U Y Z=>U 1=.ref 0 0 0/\U 70=.sl 5 (v.items.map zZ.V)/\U 71=int v.items.length/\U 72=int k/\1<=Z/\Y 0=some ⟨52,5,false,[v.V]⟩/\Zu v.items=Zu (v.items.drop k)) v.items.length
  ⟨by simp,by simp,by simp,by simp,by simp,by simp,by simp⟩ ?_
 rintro k U Y Z hk ⟨l,r,t,u,C,p,w⟩;have z:¬0=Z:=by omega
 by_cases c:k<v.items.length
 ·have hm:=js (zk c);have hw:=qH k;have a:=fun Y Z=>Yc (fun v=>int v.fault) n v.items[k] Y Z ⟨by unfold zx;omega,by omega⟩
  rw[fG c]at w;by_cases e:v.items[k].fault=0
  ·rw[zf e]at w;simp[l,r,t,u,c,a,e,hw]
   and_intros<;>first|omega|exact w|simp[z,p]
  ·rw[zc e]at w;have o:=ZX e;rw[w,zc e]at b;simp[l,r,t,u,c,a,o,b,f88]
 ·obtain rfl:k=v.items.length:=by omega
  rw[zq]at w;have w:Zu v.items=0:=by rw[w];rfl
  rw[w,zf rfl]at b;simp[l,r,t,u,p];refine zT (fun k U Y Z=>U 1=.ref 0 0 0/\U 83=.sl 6 (v.fields.map ya)/\U 84=int v.fields.length/\U 85=int k/\1<=Z/\Y 0=some ⟨52,5,false,[v.V]⟩/\v.fault=K5 (vg v.fields k) (v.fields.drop k)) v.fields.length
   ⟨by simp[l],by simp,by simp,by simp,C,p,by simp[b,vg]⟩ ?_
  clear l r t u C p c hk z Z Y U b;rintro k U Y Z hk ⟨l,f,g,i,C,p,b⟩;have z:¬0=Z:=by omega
  by_cases c:k<v.fields.length
  ·have hm:=vx (zk c);have hw:=qH k;have m:v.fields[k].1.length<=zx:=by unfold zx;omega
   have a:=fun Y Z=>Yc (fun v=>int v.fault) n v.fields[k].2 Y Z ⟨by unfold zx;omega,by omega⟩
   have en:(v.fields[k].1.isEmpty||decide ((60:Int)<v.fields[k].1.length)||!wa 32 126 v.fields[k].1)=l9 v.fields[k].1:=rfl;rw[fH c]at b;cases D:l9 v.fields[k].1
   case true=>simp[l,f,g,i,c,m,en,D,b,f88]
   have J:vg v.fields (k+1)=some v.fields[k].1:=by simp[vg,c]
   simp only[D,zO,wx]at b;by_cases k0:k=0
   ·subst k0;simp only[vg,kP,qI,zO,wx]at b;by_cases e:v.fields[0].2.fault=0
    ·rw[zf e]at b;have w1:=wX 1;simp[l,f,g,i,c,m,en,D,a,e,w1]
     and_intros<;>first|omega|(rw[b];rw[J];simp;done)|simp[z,p]
    ·rw[zc e]at b;have o:=ZX e;simp[l,f,g,i,c,m,en,D,a,o,b,f88]
   ·obtain⟨j,rfl⟩:∃j,k=j+1:=⟨k-1,by omega⟩;have N:j<v.fields.length:=by omega
    have Q:i6.wrap ((j:Int)+1-1)=(j:Int):=by rw[wQ (by omega) (by omega)];omega
    have E:=wX (j:Int);have R:((j:Int)+1).toNat=j+1:=by omega
    have S:0<(j:Int)+1:=by omega
    have T:0<=(j:Int)+1:=by omega
    have W:(j:Int)+1<v.fields.length:=by omega
    have wk:=wX ((j:Int)+1+1);have X:(Op.bytesLess v.fields[j+1].1 v.fields[j].1||v.fields[j+1].1==v.fields[j].1)=gM v.fields[j+1].1 v.fields[j].1:=rfl;have hpj:vg v.fields (j+1)=some v.fields[j].1:=by simp[vg,N]
    simp only[hpj,kP]at b;cases K:gM v.fields[j+1].1 v.fields[j].1
    case true=>simp only[K,qI]at b;simp[l,f,g,i,c,N,m,en,D,a,p,z,Q,E,R,S,T,W,X,K,b,f88]
    simp only[K,zO,wx]at b;by_cases e:v.fields[j+1].2.fault=0
    ·rw[zf e]at b;simp[l,f,g,i,c,N,m,en,D,a,p,z,Q,E,R,S,T,W,X,K,e,wk]
     and_intros<;>first|omega|(rw[b];rw[J])|simp[z,p]
    ·rw[zc e]at b;have o:=ZX e;simp[l,f,g,i,c,N,m,en,D,a,p,z,Q,E,R,S,T,W,X,K,o,b,f88]
  ·obtain rfl:k=v.fields.length:=by omega
   rw[zq]at b;have b:v.fault=0:=by rw[b];rfl
   simp[l,f,g,i,b,f88]
theorem gN:∀n,zg prog 88 (zi false [] (FV (fun v=>int v.fault) n)):=by
 intro n
 induction n with
 |zero=>exact iA ⟨_,func88,by kernel_rfl,by kernel_rfl⟩
 |succ n a=>
  have b:AM.Good (Ck n) (fun g=>[123].contains g):=qx mixed ⟨a,by simp,BD,by simp,lQ,fun _=>zr _ _,trivial⟩;exact yj (fn:=f88) b (qE func88) false [] _ fun args r h=>by obtain⟨v,rfl,c,rfl⟩:=Jt h;exact⟨zE (ze 1) (by decide),_,mb n v c,qq _⟩
def zZ.check(v:zZ):Int:=if decide ((1000:Int)<v.parts)||decide ((8:Int)<v.levels)then 2 else v.fault
noncomputable abbrev Cch:Ctx:=zW prog [(88,GV fun v=>int v.fault),(87,GV fun v=>.wq [int v.parts,int v.levels])]
theorem fI:zg prog 45 (GV fun v=>int v.check):=
 yj (fn:=f45) (qc mixed ⟨gN zx,BA zx,trivial⟩:AM.Good Cch _) (qE func45) false [] _ fun args r h=>by
  obtain⟨v,rfl,a,rfl⟩:=Jt h;have b:=fun Y Z=>Yd (fun v=>int v.fault) v Y Z a.1
  have c:=fun Y Z=>Yd (fun v=>.wq [int v.parts,int v.levels]) v Y Z a.1
  refine⟨by simp[f45],_,zn rfl ?_,qq _⟩;cases d:(decide ((1000:Int)<v.parts)||decide ((8:Int)<v.levels))
  ·simp[b,c,d,f45,zZ.check]
  ·simp[b,c,d,f45,zZ.check]
def kf(e s:Nat):zb->Option (Option kn)
 |[.nil]=>some none
 |[.em]=>some (some ⟨e,s,true,[]⟩)
 |[.sl a es]=>if a=s/\es≠[]/\es.length<=zx then some (some ⟨e,s,true,es⟩)else none
 |_=>none
def kC(e s:Nat)(es:List zb)(y:O)(Z:Nat):O×(Hp->Hp)×Nat:=match y with
 | .nil=>(.nil,fun h=>h,Z)
 |_=>(.own Z 0 es.length,fun h=>qt h Z (some ⟨e,s,true,es⟩),Z+1)
theorem QV{e s:Nat}{es:List zb}{y:O}(h:Xz s es y)(a:es.length<=zx)(Y:Hp)(Z:Nat):yh [] (kf e s) [y] Y Z=some ((kC e s es y Z).1,(kC e s es y Z).2.1 Y,(kC e s es y Z).2.2):=by
 cases h with
 |nil=>rfl
 |em=>rfl
 |sl=>simp at a;simp[yh,q6,kf,kC,a]
theorem Wq{e s:Nat}{es:List zb}{y:O}{Z:Nat}(Y:Hp){id:Nat}(h:id<Z):(kC e s es y Z).2.1 Y id=Y id:=by
 unfold kC;split
 ·rfl
 ·exact zm _ _ _ _ (by omega)
theorem XO(e s:Nat)(es:List zb)(y:O)(Z:Nat):(kC e s es y Z).1=.nil\/(kC e s es y Z).1=.own Z 0 es.length:=by
 unfold kC;split
 ·exact .inl rfl
 ·exact .inr rfl
theorem cH(e s:Nat)(es:List zb)(y:O)(Z:Nat):Z<=(kC e s es y Z).2.2:=by unfold kC;split<;>simp
theorem YB{e s:Nat}{es:List zb}{y:O}(h:Xz s es y)(Y:Hp)(Z:Nat):qU ((kC e s es y Z).2.1 Y) (kC e s es y Z).2.2 e s (kC e s es y Z).1 es:=by
 cases h with
 |nil=>exact .inl ⟨rfl,rfl⟩
 |em=>exact .inr ⟨Z,by simp[kC],rfl,by simp[kC]⟩
 |sl=>exact .inr ⟨Z,by simp[kC],rfl,by simp[kC]⟩
theorem BE(args:zb)(r:Option kn)(h:kf 52 5 args=some r):args.length<=f28.ntmps/\∃x Y Z,je C0 f28 args (fun _=>none) 0=some (x,Y,Z)/\WK r x Y Z:=by
 unfold kf at h;split at h
 ·injection h with h;subst h;exact⟨by simp[f28],qz rfl (by simp[xV,ZL,f28,WK])⟩
 ·injection h with h;subst h;exact⟨by simp[f28],qz rfl (by simp[xV,ZL,f28,WK,zp,yI,AM.view,maxLen,zy,zo])⟩
 ·rename_i es;split at h
  ·rename_i d;obtain⟨rfl,a,b⟩:=d;injection h with h;subst h
   cases es with
   |nil=>exact absurd rfl a
   |cons c es=>
    unfold zx at b;simp at b;have e:es.length+1<=maxLen:=by unfold maxLen;omega
    have f:(es.length+1)*80<=140737488355328:=by omega
    refine⟨by simp[f28],qz rfl ?_⟩;simp[xV,ZL,f28,WK,zp,yI,AM.view,zy,zo,e,f]
  ·cases h
 ·cases h
theorem Ky:zg prog 28 (yh [] (kf 52 5)):=
 xa (fn:=f28) (code:=_) jY ⟨func28,by kernel_rfl,rfl,by kernel_rfl⟩ [] _ BE
theorem BF(args:zb)(r:Option kn)(h:kf 78 6 args=some r):args.length<=f63.ntmps/\∃x Y Z,je C0 f63 args (fun _=>none) 0=some (x,Y,Z)/\WK r x Y Z:=by
 unfold kf at h;split at h
 ·injection h with h;subst h;exact⟨by simp[f63],qz rfl (by simp[xV,ZL,f63,WK])⟩
 ·injection h with h;subst h;exact⟨by simp[f63],qz rfl (by simp[xV,ZL,f63,WK,zp,yI,AM.view,maxLen,zy,zo])⟩
 ·rename_i es;split at h
  ·rename_i d;obtain⟨rfl,a,b⟩:=d;injection h with h;subst h
   cases es with
   |nil=>exact absurd rfl a
   |cons c es=>
    unfold zx at b;simp at b;have e:es.length+1<=maxLen:=by unfold maxLen;omega
    have f:(es.length+1)*96<=140737488355328:=by omega
    refine⟨by simp[f63],qz rfl ?_⟩;simp[xV,ZL,f63,WK,zp,yI,AM.view,zy,zo,e,f]
  ·cases h
 ·cases h
theorem tJ:zg prog 63 (yh [] (kf 78 6)):=
 xa (fn:=f63) (code:=_) jY ⟨func63,by kernel_rfl,rfl,by kernel_rfl⟩ [] _ BF
def zZ.inner(v:zZ):List zZ:=v.items++v.fields.map (·.2)
def Q9(v:zZ)(k:Nat):List zb:=(v.items++(v.fields.take k).map (·.2)).map zZ.V
theorem tK(v:zZ):Q9 v 0=v.items.map zZ.V:=by simp[Q9]
theorem tL{v:zZ}{k:Nat}(h:k<v.fields.length):Q9 v (k+1)=Q9 v k++[v.fields[k].2.V]:=by unfold Q9;rw[ql h,za3 (f:=fun x:List UInt8×zZ=>x.2),<-qT,za3 (f:=zZ.V)];rfl
theorem tM(v:zZ):Q9 v v.fields.length=v.inner.map zZ.V:=by simp[Q9,zZ.inner]
theorem mc(v:zZ)(k:Nat):(Q9 v k).length<=v.items.length+v.fields.length:=by simp[Q9];omega
noncomputable abbrev Cin:Ctx:=zW prog [(28,yh [] (kf 52 5))]
theorem E1(v:zZ)(z:v.vb<=zx)(y:O)(m:Xz 5 (v.items.map zZ.V) y) :
  ∃a,zt Cin f185 [.agg (v.V.set 3 y)]=some a/\∀(w:World) (S:Nat->Prop) (u:Value),wK w S a u->wK w S (.sl 5 (v.inner.map zZ.V)) u:=by
 have A:=xD v;have B:=yE v.items;have C:=jt v.fields;have o:=fun Y Z=>QV (e:=52) m (by simp;omega) Y Z
 have d:=fun Y Z=>YB (e:=52) m Y Z
 unfold zx at z;have f:v.V.set 3 y=[int v.kind,int v.n,str v.s,y,.sl 6 (v.fields.map ya)]:=by rw[vJ];rfl
 have g:∀{code},f185.body=some code->Zw Cin code ⟨jL [.agg (v.V.set 3 y)],fun _=>none,0⟩ (Yx Cin.P f185 (Ja (.sl 5 (v.inner.map zZ.V))))->∃a,zt Cin f185 [.agg (v.V.set 3 y)]=some a/\∀(w:World) (S:Nat->Prop) (u:Value),wK w S a u->wK w S (.sl 5 (v.inner.map zZ.V)) u:=by intro code D h;obtain⟨a,E,F⟩:=Kq D h;exact⟨a,E,fun w S u G=>tm G F⟩
 refine g rfl ?_;rw[f];have H:=fun Y=>Wq (e:=52) (s:=5) (es:=v.items.map zZ.V) (y:=y) (Z:=1) Y (id:=0) (by omega)
 simp[m.cell,o,H];refine zT (fun k U Y Z=>U 10=.sl 6 (v.fields.map ya)/\U 11=int v.fields.length/\U 12=int k/\qU Y Z 52 5 (U 3) (Q9 v k)) v.fields.length
  ⟨by simp,by simp,by simp,by rw[tK];simpa using d _ _⟩ ?_
 rintro k U Y Z K ⟨i,j,l,p⟩;have I:=mc v k;by_cases b:k<v.fields.length
 ·have J:=qH k;have q:=p.more (some ⟨78,6,false,[str v.fields[k].1::v.fields[k].2.V]⟩);have r:=q.yS (P:=prog) (t:=23) (c:=v.fields[k].2.V) IA SF by52 SG rfl (by omega) (by unfold maxLen;omega) (by omega);have x:∀Y Z,zp prog Y Z 23 1 [(0,.agg v.fields[k].2.V)]=some (.own Z 0 1,qt Y Z (some ⟨52,5,true,[v.fields[k].2.V]⟩),Z+1):=fun Y Z=>by simp only[zp,IA,SF,SG,zo,ZR];simp[zy]
  simp[i,j,l,b,x,J,r];refine⟨b,?_⟩;rw[tL b];exact qU.after
 ·obtain rfl:k=v.fields.length:=by omega
  rw[tM]at p;have:=p.freeze Z;simp[i,j,l,f185];exact this
theorem BG:zg prog 185 (GV fun v=>.sl 5 (v.inner.map zZ.V)):=
 xl (fn:=f185) (qc mixed ⟨Ky,trivial⟩:AM.Good Cin _) (qE func185) false [] _ fun args r h w S vs b=>by obtain⟨v,rfl,c,rfl⟩:=Jt h;obtain⟨u,d,e⟩:=ZI b;subst d;obtain⟨y,f,a⟩:=Z3 e (j:=3) (s:=5) (es:=v.items.map zZ.V) (by simp);obtain⟨g,i,k⟩:=E1 v c.1 y f;exact⟨_,g,.cons a .nil,by simp[f185],i,k⟩
def JS(s:Int×Bool):Bool:=s.2||decide (1000<s.1)
def me(s r:Int×Bool):Int×Bool:=if JS s then s else(s.1+r.1,s.2||r.2)
mutual
def zZ.rp:zZ->Int->Int×Bool
 | .mk _ _ _ a b,l=>rpF b l (rpV a l (1,decide (8<l)))
def rpV:List zZ->Int->Int×Bool->Int×Bool
 |[],_,s=>s
 |v::vs,l,s=>rpV vs l (me s (v.rp (l+1)))
def rpF:List (za×zZ)->Int->Int×Bool->Int×Bool
 |[],_,s=>s
 |(_,v)::vs,l,s=>rpF vs l (me s (v.rp (l+1)))
end
def rI(xs:List zZ)(l:Int)(s:Int×Bool):Int×Bool:=xs.foldl (fun s x=>me s (x.rp (l+1))) s
theorem NK:∀(xs:List zZ) (l:Int) (s:Int×Bool),rpV xs l s=rI xs l s
 |[],_,_=>rfl
 |v::vs,l,s=>by simp only[rpV,rI,xR];exact NK vs l _
theorem NL:∀(xs:List (za×zZ)) (l:Int) (s:Int×Bool),rpF xs l s=rI (xs.map (·.2)) l s
 |[],_,_=>rfl
 |(a,v)::vs,l,s=>by simp only[rpF,rI,wg,xR];exact NL vs l _
theorem zax(v:zZ)(l:Int):v.rp l=rI v.inner l (1,decide (8<l)):=by
 cases v with
 |mk k n s a b=>simp only[zZ.rp,NK,NL,zZ.inner,zZ.items,zZ.fields,rI,List.foldl_append]
theorem mf{xs:List zZ}{l:Int}{s:Int×Bool}(h:JS s=true):rI xs l s=s:=by
 induction xs with
 |nil=>rfl
 |cons x xs a=>simp only[rI,xR,me,h,qI];exact a
theorem NM{xs:List zZ}{l:Int}{s:Int×Bool}{k:Nat}(h:k<xs.length):rI (xs.drop k) l s=rI (xs.drop (k+1)) l (me s (xs[k].rp (l+1))):=by rw[zh h];rfl
def QW(xs:List zZ):Nat:=(xs.map zZ.parts).sum
def kQ:List zZ->Nat
 |[]=>0
 |v::l=>max v.levels (kQ l)
theorem IL(v:zZ):v.parts=1+QW v.inner:=by
 rw[Bz];have c:∀l:List zZ,kz l=QW l:=by
  intro l;induction l with
  |nil=>rfl
  |cons v l b=>simp[kz,QW,b]
 have d:∀l:List (za×zZ),kF l=QW (l.map (·.2)):=by
  intro l;induction l with
  |nil=>rfl
  |cons v l b=>obtain⟨a,v⟩:=v;simp[kF,QW]at b⊢;rw[b]
 rw[c,d];simp[QW,zZ.inner,iR]
theorem E2(v:zZ):v.levels=kQ v.inner+1:=by
 rw[rG];have d:∀l:List zZ,j7 l=kQ l:=by
  intro l;induction l with
  |nil=>rfl
  |cons v l c=>simp[j7,kQ,c]
 have e:∀l:List (za×zZ),kl l=kQ (l.map (·.2)):=by
  intro l;induction l with
  |nil=>rfl
  |cons v l c=>obtain⟨a,v⟩:=v;simp[kl,kQ,c]
 have f:∀a b:List zZ,kQ (a++b)=max (kQ a) (kQ b):=by
  intro a b;induction a with
  |nil=>simp[kQ]
  |cons v a c=>simp only[qX,kQ,c];omega
 rw[d,e,zZ.inner,f]
theorem rJ{v x:zZ}(h:x∈v.inner):x.vb<v.vb:=by
 have a:=xD v;rcases zF.1 h with h|h
 ·have:=js h;omega
 ·obtain⟨f,b,rfl⟩:=qp.1 h;have:=vx b;omega
structure RP (xs:List zZ) (l:Int) (s r:Int×Bool):Prop where
 lo:s.1<=r.1
 hi:r.1<=s.1+QW xs
 deep:r.2=true->s.2=true\/8<l+(kQ xs:Int)
 all:JS r=false->r.1=s.1+QW xs/\(xs≠[]->l+(kQ xs:Int)<=8)
theorem G5:∀(b:Nat) (v:zZ),v.vb<=b->∀l,0<=(v.rp l).1/\(v.rp l).1<=v.parts/\((v.rp l).2=true->8<l+(v.levels:Int)-1)/\(JS (v.rp l)=false->(v.rp l).1=v.parts/\l+(v.levels:Int)-1<=8):=by
 intro b
 induction b with
 |zero=>intro v t;have:=WN v;omega
 |succ b u=>
  intro v t l;have i:∀(xs:List zZ) (s:Int×Bool),0<=s.1->(∀x∈xs,x.vb<=b)->RP xs l s (rI xs l s):=by
   intro xs
   induction xs with
   |nil=>intro s _ _;exact⟨by simp[rI],by simp[rI,QW],fun h=>.inl (by simpa[rI]using h),fun _=>⟨by simp[rI,QW],fun h=>absurd rfl h⟩⟩
   |cons x xs j=>
    intro s D r;by_cases d:JS s=true
    ·rw[mf d];exact⟨by omega,by omega,fun h=>.inl h,fun h=>by rw[d]at h;cases h⟩
    ·have e:rI (x::xs) l s=rI xs l (s.1+(x.rp (l+1)).1,s.2||(x.rp (l+1)).2):=by simp only[rI,xR,me,d];rfl
     rw[e];obtain⟨E,F,w,z⟩:=u x (r x (by simp)) (l+1);have f:=j (s.1+(x.rp (l+1)).1,s.2||(x.rp (l+1)).2) (by simp only;omega) (fun y A=>r y (by simp[A]));have a:QW (x::xs)=x.parts+QW xs:=by simp[QW]
     have k:=f.lo;have m:=f.hi;simp only at k m;refine⟨by omega,by rw[a];omega,fun h=>?_,fun h=>?_⟩
     ·simp only[kQ];rcases f.deep h with h|h
      ·simp only[qF]at h;rcases h with h|h
       ·exact .inl h
       ·right;have:=w h;omega
      ·right;omega
     ·obtain⟨n,o⟩:=f.all h;have p:JS (x.rp (l+1))=false:=by
       simp only[JS,wy,yW]at h d⊢;refine⟨?_,by omega⟩;cases hd:(x.rp (l+1)).2 with
       |false=>rfl
       |true=>
        exfalso;have q:JS (s.1+(x.rp (l+1)).1,s.2||(x.rp (l+1)).2)=true:=by simp[JS,hd]
        rw[mf q]at h;simp[hd]at h
      obtain⟨G,H⟩:=z p;simp only at n;refine⟨by rw[a];omega,fun _=>?_⟩;simp only[kQ];by_cases c:xs=[]
      ·subst c;simp only[kQ];omega
      ·have:=o c;omega
  have g:=i v.inner (1,decide (8<l)) (by simp) fun x p=>by have:=rJ p;omega
  rw[zax,IL,E2];have B:=g.lo;have C:=g.hi;simp only at B C;refine⟨by omega,by omega,fun h=>?_,fun h=>?_⟩
  ·rcases g.deep h with h|h
   ·simp at h;omega
   ·omega
  ·obtain⟨n,o⟩:=g.all h;simp only at n;refine⟨by omega,?_⟩;by_cases c:v.inner=[]
   ·rw[c]at h⊢;simp[rI,JS]at h;simp only[kQ];omega
   ·have:=o c;omega
theorem NN(v:zZ):JS (v.rp 1)=(decide ((1000:Int)<v.parts)||decide ((8:Int)<v.levels)):=by
 obtain⟨f,g,d,e⟩:=G5 v.vb v (ze _) 1;cases c:JS (v.rp 1)with
 |false=>
  obtain⟨a,b⟩:=e c;simp only[JS,wy,yW]at c
  symm
  simp only[wy,yW];omega
 |true=>
  symm
  simp only[JS,qF,qi]at c⊢;rcases c with c|c
  ·right;have:=d c;omega
  ·left;omega
noncomputable def FV2 (out:zZ->Int->O) (lo hi:Int) (n:Nat):zb->Option O:=qu (α:=zZ×Int) (fun a=>[.agg a.1.V,int a.2]) (fun a=>a.1.vb<=zx/\a.1.vb<=n/\lo<=a.2/\a.2<=hi) (fun a=>out a.1 a.2)
theorem BH(out:zZ->Int->O)(lo hi:Int)(n:Nat)(v:zZ)(i:Int)(Y:Hp)(Z:Nat)(h:v.vb<=zx/\v.vb<=n/\lo<=i/\i<=hi):zi false [] (FV2 out lo hi n) [.agg v.V,int i] Y Z=some (out v i,Y,Z):=
 yk (Y1:=Y) (show zw Y [.agg v.V,int i]=some ([.agg v.V,int i],Y) by simp only[zw,ZR];simp)
  (qG (V:=fun a:zZ×Int=>[.agg a.1.V,int a.2]) (a:=(v,i)) (fun a b e=>by obtain⟨c,d⟩:=a;obtain⟨f,g⟩:=b;simp only[zl,zM,O.agg.injEq]at e;rw[Qs e.1,qS e.2]) h) (.inr (by simp only[q9,XN,Zn];rfl))
noncomputable abbrev Crp (n:Nat):Ctx:=zW prog [(150,zi false [] (FV2 (fun v l=>.wq [int (v.rp l).1,q8 (v.rp l).2]) 1 9 n)),(185,GV fun v=>.sl 5 (v.inner.map zZ.V))]
theorem tN(v:zZ):v.inner.length<v.vb:=by have:=xD v;have:=yE v.items;have:=jt v.fields;simp[zZ.inner];omega
theorem BI(n:Nat)(v:zZ)(l:Int)(h:v.vb<=zx/\v.vb<=n+1/\1<=l/\l<=9):zt (Crp n) f150 [.agg v.V,int l]=some (.wq [int (v.rp l).1,q8 (v.rp l).2]):=by
 obtain⟨r,E,t,u⟩:=h;have w:=tN v;have m:=fun Y Z=>Yd (fun v=>.sl 5 (v.inner.map zZ.V)) v Y Z r
 unfold zx at r;refine zn rfl ?_;simp[m];refine zT (fun k U Y Z=>U 1=int l/\U 15=.sl 5 (v.inner.map zZ.V)/\U 16=int v.inner.length/\U 17=int k/\∃s:Int×Bool,U 6=int s.1/\U 7=q8 s.2/\0<=s.1/\s.1<=400000000/\(s.2=false->l<=8)/\v.rp l=rI (v.inner.drop k) l s) v.inner.length
  ⟨by simp,by simp,by simp,by simp,(1,decide (8<l)),by simp,by simp,by simp,by simp,by simp,by rw[zax];simp⟩ ?_
 rintro k U Y Z F ⟨o,c,d,e,s,p,q,G,H,x,b⟩;by_cases a:k<v.inner.length
 ·have y:=qH k;have I:=rJ (zk a);have g:(s.2||decide (1000<s.1))=JS s:=rfl;cases i:JS s
  ·have j:s.2=false:=by cases h:s.2<;>simp_all[JS]
   have z:=x j;have A:=wX (l+1);have f:=fun Y Z=>BH (fun v l=>.wq [int (v.rp l).1,q8 (v.rp l).2]) 1 9 n v.inner[k] (l+1) Y Z ⟨by unfold zx;omega,by omega,by omega,by omega⟩
   obtain⟨J,K,L,M⟩:=G5 _ v.inner[k] (ze _) (l+1);have B:=l5 v.inner[k];have C:s.1<=1000:=by simp[JS]at i;omega
   have D:=wX (s.1+(v.inner[k].rp (l+1)).1);rw[NM a]at b;simp only[me,i,zO,wx]at b;simp[o,c,d,e,p,q,a,g,i,f,A,D,y];refine⟨a,?_⟩;rw[b,j];cases hd:(v.inner[k].rp (l+1)).2<;>simp[hd]<;>omega
  ·rw[mf i]at b;simp[o,c,d,e,p,q,a,g,i,b,f150,wc]
 ·obtain rfl:k=v.inner.length:=by omega
  rw[zq]at b;have b:v.rp l=s:=b;simp[o,c,d,e,p,q,b,f150,wc]
theorem G6{out:zZ->Int->O}{lo hi:Int}{n:Nat}{args:zb}{r:O}(h:FV2 out lo hi n args=some r):∃(v:zZ) (i:Int),args=[.agg v.V,int i]/\(v.vb<=zx/\v.vb<=n/\lo<=i/\i<=hi)/\r=out v i:=by obtain⟨⟨v,i⟩,a,b,c⟩:=zK h;exact⟨v,i,a,b,c⟩
theorem NO{out:zZ->Int->O}{lo hi:Int}{f:FuncId}(a:∃fn,prog.funcs[f]?=some fn/\(fn.name== "runtime.NumGoroutine")=false/\fn.body.isNone=false):zg prog f (zi false [] (FV2 out lo hi 0)):=by
 refine⟨a,fun args Y Z r Y' b h=>?_⟩;unfold zi at h;split at h
 ·split at h
  ·rename_i c hF;obtain⟨v,i,_,d,_⟩:=G6 hF;have:=WN v;omega
  ·cases h
 ·cases h
theorem tO:∀n,zg prog 150 (zi false [] (FV2 (fun v l=>.wq [int (v.rp l).1,q8 (v.rp l).2]) 1 9 n)):=by
 intro n
 induction n with
 |zero=>exact NO ⟨_,func150,by kernel_rfl,by kernel_rfl⟩
 |succ n a=>
  have b:Gd (Crp n):=qc mixed ⟨a,BG,trivial⟩;exact yj (fn:=f150) b (qE func150) false [] _ fun args r h=>by obtain⟨v,l,rfl,c,rfl⟩:=G6 h;exact⟨zE (ze 2) (by decide),_,BI n v l c,qq _⟩
noncomputable abbrev Crc:Ctx:=zW prog [(187,zi false [] (F3 xb)),(188,zi false [] (FS (wa 32 126)))]
@[simp]theorem qrc1:kN Crc 187:=jd (by rfl) (zr _ _)
def fJ(v:zZ):Int:=YA v.kind v.n v.s v.items.length v.fields.length
theorem NP(v:zZ):fJ v=if(!xb v.kind 0 5)then 4 else if(v.kind != 1&&v.kind != 2&&v.n != 0)then 3 else if(v.kind != 3&&!v.s.isEmpty)then 3 else if(v.kind != 4&&decide (0<v.items.length))then 3 else if(v.kind != 5&&decide (0<v.fields.length))then 3 else if(v.kind==1&&!xb v.n 0 1)then 1 else if(v.kind==2&&!xb v.n (-999999999999999) 999999999999999)then 1 else if(decide ((500:Int)<v.s.length))then 2 else if(!wa 32 126 v.s)then 1 else if(decide ((100:Int)<v.items.length)||decide ((100:Int)<v.fields.length))then 2 else 0:=by
 unfold fJ YA;have a:BB v.kind=!xb v.kind 0 5:=by rw[qv];simp[BB,xb]
 have b:VR v.kind v.n v.s v.items.length v.fields.length=((v.kind != 1&&v.kind != 2&&v.n != 0)||(v.kind != 3&&!v.s.isEmpty)||(v.kind != 4&&decide (0<v.items.length))||(v.kind != 5&&decide (0<v.fields.length))):=by
  unfold VR;have:(v.s==[])=v.s.isEmpty:=by cases v.s<;>rfl
  rw[this];generalize (v.kind != 1)=c;generalize (v.kind != 2)=d;generalize (v.kind != 3)=e;generalize (v.kind != 4)=f;generalize (v.kind != 5)=g;generalize (v.n != 0)=h;generalize v.s.isEmpty=i;generalize decide (0<v.items.length)=j;generalize decide (0<v.fields.length)=k;cases c<;>cases d<;>cases e<;>cases f<;>cases g<;>cases h<;>cases i<;>cases j<;>cases k<;>rfl
 have l:cF v.kind v.n=(v.kind==1&&!xb v.n 0 1):=by rw[qv];simp[cF,xb];omega
 have m:cG v.kind v.n=(v.kind==2&&!xb v.n (-999999999999999) 999999999999999):=by rw[qv];simp[cG,xb];omega
 rw[a,b,l,m,G3,GZ];generalize (!xb v.kind 0 5)=o;generalize (v.kind != 1&&v.kind != 2&&v.n != 0)=p;generalize (v.kind != 3&&!v.s.isEmpty)=q;generalize (v.kind != 4&&decide (0<v.items.length))=r;generalize (v.kind != 5&&decide (0<v.fields.length))=t;generalize (v.kind==1&&!xb v.n 0 1)=u;generalize (v.kind==2&&!xb v.n (-999999999999999) 999999999999999)=w;cases o<;>cases p<;>cases q<;>cases r<;>cases t<;>cases u<;>cases w<;>cases wa 32 126 v.s<;>rfl
theorem gO(v:zZ)(h:v.vb<=zx):zt Crc f186 [.agg v.V]=some (int (fJ v)):=by
 have q:=xD v;have m:v.s.length<=zx:=by omega
 refine zn rfl ?_;have o:=NP v;obtain⟨r,c⟩:∃b,(!xb v.kind 0 5)=b:=⟨_,rfl⟩;obtain⟨t,d⟩:∃b,(v.kind != 1&&v.kind != 2&&v.n != 0)=b:=⟨_,rfl⟩;obtain⟨u,e⟩:∃b,(v.kind != 3&&!v.s.isEmpty)=b:=⟨_,rfl⟩;obtain⟨w,f⟩:∃b,(v.kind != 4&&decide (0<v.items.length))=b:=⟨_,rfl⟩;obtain⟨x,g⟩:∃b,(v.kind != 5&&decide (0<v.fields.length))=b:=⟨_,rfl⟩;obtain⟨y,i⟩:∃b,(v.kind==1&&!xb v.n 0 1)=b:=⟨_,rfl⟩;obtain⟨z,j⟩:∃b,(v.kind==2&&!xb v.n (-999999999999999) 999999999999999)=b:=⟨_,rfl⟩;obtain⟨A,k⟩:∃b,(decide ((500:Int)<v.s.length))=b:=⟨_,rfl⟩;obtain⟨B,l⟩:∃b,(!wa 32 126 v.s)=b:=⟨_,rfl⟩;obtain⟨p,a⟩:∃b,(decide ((100:Int)<v.items.length)||decide ((100:Int)<v.fields.length))=b:=⟨_,rfl⟩;rw[c,d,e,f,g,i,j,k,l,a]at o;cases r
 case true=>simp[m,c,d,e,f,g,i,j,k,l,a,o,f186]
 cases t
 case true=>simp[m,c,d,e,f,g,i,j,k,l,a,o,f186]
 cases u
 case true=>simp[m,c,d,e,f,g,i,j,k,l,a,o,f186]
 cases w
 case true=>simp[m,c,d,e,f,g,i,j,k,l,a,o,f186]
 cases x
 case true=>simp[m,c,d,e,f,g,i,j,k,l,a,o,f186]
 cases y
 case true=>simp[m,c,d,e,f,g,i,j,k,l,a,o,f186]
 cases z
 case true=>simp[m,c,d,e,f,g,i,j,k,l,a,o,f186]
 cases A
 case true=>simp[m,c,d,e,f,g,i,j,k,l,a,o,f186]
 cases B
 case true=>simp[m,c,d,e,f,g,i,j,k,l,a,o,f186]
 cases p
 case true=>simp[m,c,d,e,f,g,i,j,k,l,a,o,f186]
 simp[m,c,d,e,f,g,i,j,k,l,a,o,f186]
theorem ed:zg prog 186 (GV fun v=>int (fJ v)):=
 yj (fn:=f186) (qx (q:=[187,188]) mixed ⟨Zx,fun _=>zr _ _,WL,fun _=>zr _ _,trivial⟩:AM.Good Crc _) (qE func186) false [] _ fun args r h=>by obtain⟨v,rfl,a,rfl⟩:=Jt h;exact⟨by simp[f186],_,gO v a.1,qq _⟩
noncomputable abbrev Cra (n:Nat):Ctx:=zW prog [(151,zi false [] (FV (fun v=>int v.fault) n)),(186,GV fun v=>int (fJ v)),(187,zi false [] (F3 xb)),(188,zi false [] (FS (wa 32 126)))]
@[simp]theorem qra2(n:Nat):kN (Cra n) 188:=jd (by rfl) (zr _ _)
theorem IM(a:za):(!xb a.length 1 60||!wa 32 126 a)=l9 a:=by
 unfold l9 xb;cases a with
 |nil=>rfl
 |cons c a=>generalize wa 32 126 (c::a)=x;rw[qv];cases x<;>simp<;>omega
theorem oZ(n:Nat)(v:zZ)(h:v.vb<=zx/\v.vb<=n+1):zt (Cra n) f151 [.agg v.V]=some (int v.fault):=by
 have Q:=xD v;have R:=yE v.items;have S:=jt v.fields;obtain⟨M,hb⟩:=h;have y:=fun Y Z=>Yd (fun v=>int (fJ v)) v Y Z M
 unfold zx at M;have c:=BC v;refine zn rfl ?_;by_cases B:fJ v=0
 case neg=>
  have D:=ZX B;have E:v.fault=fJ v:=by rw[c];exact zc B
  simp[y,D,E,f151]
 have c:v.fault=if Zu v.items=0 then K5 none v.fields else Zu v.items:=by rw[c];exact zf B
 simp[y,B];refine zT (fun k U Y Z=>U 1=.ref 0 0 0/\U 16=.sl 5 (v.items.map zZ.V)/\U 17=int v.items.length/\U 18=int k/\1<=Z/\Y 0=some ⟨52,5,false,[v.V]⟩/\Zu v.items=Zu (v.items.drop k)) v.items.length
  ⟨by simp,by simp,by simp,by simp,by simp,by simp,by simp⟩ ?_
 rintro k U Y Z N ⟨i,p,q,r,u,o,s⟩;have t:¬0=Z:=by omega
 by_cases b:k<v.items.length
 ·have T:=js (zk b);have P:=qH k;have a:=fun Y Z=>Yc (fun v=>int v.fault) n v.items[k] Y Z ⟨by unfold zx;omega,by omega⟩
  rw[fG b]at s;by_cases d:v.items[k].fault=0
  ·rw[zf d]at s;simp[i,p,q,r,b,a,d,P]
   and_intros<;>first|omega|exact s|simp[t,o]
  ·rw[zc d]at s;have m:=ZX d;rw[s,zc d]at c;simp[i,p,q,r,b,a,m,c,f151]
 ·obtain rfl:k=v.items.length:=by omega
  rw[zq]at s;have s:Zu v.items=0:=by rw[s];rfl
  rw[s,zf rfl]at c;simp[i,p,q,r,o];refine zT (fun k U Y Z=>U 1=.ref 0 0 0/\U 29=.sl 6 (v.fields.map ya)/\U 30=int v.fields.length/\U 31=int k/\1<=Z/\Y 0=some ⟨52,5,false,[v.V]⟩/\v.fault=K5 (vg v.fields k) (v.fields.drop k)) v.fields.length
   ⟨by simp[i],by simp,by simp,by simp,u,o,by simp[c,vg]⟩ ?_
  clear i p q r u o b N t Z Y U c;rintro k U Y Z N ⟨i,e,f,g,u,o,c⟩;have t:¬0=Z:=by omega
  by_cases b:k<v.fields.length
  ·have T:=vx (zk b);have P:=qH k;have l:v.fields[k].1.length<=zx:=by unfold zx;omega
   have a:=fun Y Z=>Yc (fun v=>int v.fault) n v.fields[k].2 Y Z ⟨by unfold zx;omega,by omega⟩
   have en:=IM v.fields[k].1;rw[fH b]at c;cases w:l9 v.fields[k].1
   case true=>simp[i,e,f,g,b,l,en,w,c,f151]
   have z:vg v.fields (k+1)=some v.fields[k].1:=by simp[vg,b]
   simp only[w,zO,wx]at c;by_cases W:k=0
   ·subst W;simp only[vg,kP,qI,zO,wx]at c;by_cases d:v.fields[0].2.fault=0
    ·rw[zf d]at c;have X:=wX 1;simp[i,e,f,g,b,l,en,w,a,d,X]
     and_intros<;>first|omega|(rw[c];rw[z];simp;done)|simp[t,o]
    ·rw[zc d]at c;have m:=ZX d;simp[i,e,f,g,b,l,en,w,a,m,c,f151]
   ·obtain⟨j,rfl⟩:∃j,k=j+1:=⟨k-1,by omega⟩;have C:j<v.fields.length:=by omega
    have F:i6.wrap ((j:Int)+1-1)=(j:Int):=by rw[wQ (by omega) (by omega)];omega
    have x:=wX (j:Int);have G:((j:Int)+1).toNat=j+1:=by omega
    have H:0<(j:Int)+1:=by omega
    have I:0<=(j:Int)+1:=by omega
    have J:(j:Int)+1<v.fields.length:=by omega
    have wk:=wX ((j:Int)+1+1);have K:(Op.bytesLess v.fields[j+1].1 v.fields[j].1||v.fields[j+1].1==v.fields[j].1)=gM v.fields[j+1].1 v.fields[j].1:=rfl;have L:vg v.fields (j+1)=some v.fields[j].1:=by simp[vg,C]
    simp only[L,kP]at c;cases A:gM v.fields[j+1].1 v.fields[j].1
    case true=>simp only[A,qI]at c;simp[i,e,f,g,b,C,l,en,w,a,o,t,F,x,G,H,I,J,K,A,c,f151]
    simp only[A,zO,wx]at c;by_cases d:v.fields[j+1].2.fault=0
    ·rw[zf d]at c;simp[i,e,f,g,b,C,l,en,w,a,o,t,F,x,G,H,I,J,K,A,d,wk]
     and_intros<;>first|omega|(rw[c];rw[z])|simp[t,o]
    ·rw[zc d]at c;have m:=ZX d;simp[i,e,f,g,b,C,l,en,w,a,o,t,F,x,G,H,I,J,K,A,m,c,f151]
  ·obtain rfl:k=v.fields.length:=by omega
   rw[zq]at c;have c:v.fault=0:=by rw[c];rfl
   simp[i,e,f,g,c,f151]
theorem mg:∀n,zg prog 151 (zi false [] (FV (fun v=>int v.fault) n)):=by
 intro n
 induction n with
 |zero=>exact iA ⟨_,func151,by kernel_rfl,by kernel_rfl⟩
 |succ n a=>
  have b:AM.Good (Cra n) (fun g=>[187,188].contains g):=qx mixed ⟨a,by simp,ed,by simp,Zx,fun _=>zr _ _,WL,fun _=>zr _ _,trivial⟩;exact yj (fn:=f151) b (qE func151) false [] _ fun args r h=>by obtain⟨v,rfl,c,rfl⟩:=Jt h;exact⟨zE (ze 1) (by decide),_,oZ n v c,qq _⟩
noncomputable abbrev Crch:Ctx:=zW prog [(151,GV fun v=>int v.fault),(150,zi false [] (FV2 (fun v l=>.wq [int (v.rp l).1,q8 (v.rp l).2]) 1 9 zx))]
theorem tP:zg prog 114 (GV fun v=>int v.check):=
 yj (fn:=f114) (qc mixed ⟨mg zx,tO zx,trivial⟩:AM.Good Crch _) (qE func114) false [] _ fun args r h=>by
  obtain⟨v,rfl,b,rfl⟩:=Jt h;have c:=fun Y Z=>Yd (fun v=>int v.fault) v Y Z b.1
  have d:=fun Y Z=>BH (fun v l=>.wq [int (v.rp l).1,q8 (v.rp l).2]) 1 9 zx v 1 Y Z ⟨b.1,b.1,by omega,by omega⟩
  refine⟨by simp[f114],_,zn rfl ?_,qq _⟩;have f:=NN v;have a:((v.rp 1).2||decide (1000<(v.rp 1).1))=JS (v.rp 1):=rfl;unfold zZ.check;rw[<-f];cases e:JS (v.rp 1)
  ·simp[c,d,a,e,f114]
  ·simp[c,d,a,e,f114]
def wA(a b:Int):Int:=if a<b then -1 else if b<a then 1 else 0
def gP(a b:za):Int:=if Op.bytesLess a b then -1 else if Op.bytesLess a b||a==b then 0 else 1
def NQ(f:Int->Int->Int):zb->Option O
 |[.v (.int .i64 a),.v (.int .i64 b)]=>some (int (f a b))
 |_=>none
theorem SN{f:Int->Int->Int}{args:zb}{r:O}(h:NQ f args=some r):∃a b,args=[int a,int b]/\r=int (f a b):=by
 unfold NQ at h;split at h
 ·injection h with h;exact⟨_,_,rfl,h.symm⟩
 ·cases h
@[simp]theorem zeO(f:Int->Int->Int)(a b:Int)(Y:Hp)(Z:Nat):zi false [] (NQ f) [.v (.int .i64 a),.v (.int .i64 b)] Y Z=some (int (f a b),Y,Z):=yk rfl rfl (.inl rfl)
def tQ:zb->Option O
 |[.v (.int .i64 _)]=>some (q8 false)
 |_=>none
def VS:zb->Option O
 |[.v (.string _)]=>some (q8 false)
 |_=>none
@[simp]theorem zay(a:Int)(Y:Hp)(Z:Nat):zi false [] tQ [.v (.int .i64 a)] Y Z=some (q8 false,Y,Z):=yk rfl rfl (.inl rfl)
@[simp]theorem zaz(a:ByteArray)(Y:Hp)(Z:Nat):zi false [] VS [.v (.string a)] Y Z=some (q8 false,Y,Z):=yk rfl rfl (.inl rfl)
theorem tR:zg prog 73 (zi false [] tQ):=
 yj (fn:=f73) jY (qE func73) false [] _ fun args r h=>by
  unfold tQ at h;split at h
  ·injection h with h;subst h;exact⟨by simp[f73],_,zn rfl (by simp[f73]),qq _⟩
  ·cases h
theorem cI:zg prog 74 (zi false [] VS):=
 yj (fn:=f74) jY (qE func74) false [] _ fun args r h=>by
  unfold VS at h;split at h
  ·injection h with h;subst h;exact⟨by simp[f74],_,zn rfl (by simp[f74]),qq _⟩
  ·cases h
noncomputable abbrev Cnn:Ctx:=zW prog [(73,zi false [] tQ),(74,zi false [] VS)]
theorem NR:AM.Good Cnn (fun g=>[73,74].contains g):=qx mixed ⟨tR,fun _=>zr _ _,cI,fun _=>zr _ _,trivial⟩
theorem ZS:zg prog 37 (zi false [] (NQ wA)):=
 yj (fn:=f37) NR (qE func37) false [] _ fun args r h=>by
  obtain⟨a,b,rfl,rfl⟩:=SN h;refine⟨by simp[f37],_,zn rfl ?_,qq _⟩;unfold wA;by_cases c:a<b
  ·simp[c,f37]
  ·by_cases d:b<a
   ·simp[c,d,f37]
   ·simp[c,d,f37]
noncomputable def IP (f:za->za->Int):zb->Option O:=qu (α:=za×za) (fun a=>[str a.1,str a.2]) (fun _=>True) (fun a=>int (f a.1 a.2))
@[simp]theorem zeP(f:za->za->Int)(a b:za)(Y:Hp)(Z:Nat):zi false [] (IP f) [str a,str b] Y Z=some (int (f a b),Y,Z):=
 Js (a,b) _ _ rfl (fun a b e=>by obtain⟨c,d⟩:=a;obtain⟨g,h⟩:=b;simp only[zl,zM]at e;rw[wR e.1,wR e.2]) trivial (.inl rfl)
theorem bp:zg prog 38 (zi false [] (IP gP)):=
 Z2 NR func38 false [] fun⟨a,b⟩ _=>by
  refine⟨by simp[f38],_,zn rfl ?_,qq _⟩;simp only[gP];cases c:Op.bytesLess a b
  ·cases d:(a==b)
   ·simp[c,d,f38]
   ·simp[c,d,f38]
  ·simp[c,f38]
theorem VT:∀a:za,Op.bytesLess a a=false
 |[]=>rfl
 |c::a=>by simp[Op.bytesLess,VT a]
@[simp]theorem zdt(a:za):gP a a=0:=by simp[gP,VT]
@[simp]theorem zdu(a:Int):wA a a=0:=by simp[wA]
noncomputable def FVV (out:zZ->O) (n:Nat):zb->Option O:=qu (α:=zZ) (fun v=>[.agg v.V,.agg v.V]) (fun v=>v.vb<=zx/\v.vb<=n) out
theorem mh(out:zZ->O)(n:Nat)(v:zZ)(Y:Hp)(Z:Nat)(h:v.vb<=zx/\v.vb<=n):zi false [] (FVV out n) [.agg v.V,.agg v.V] Y Z=some (out v,Y,Z):=
 yk (Y1:=Y) (show zw Y [.agg v.V,.agg v.V]=some ([.agg v.V,.agg v.V],Y) by simp only[zw,ZR])
  (qG (V:=fun v:zZ=>[O.agg v.V,O.agg v.V]) (a:=v) (fun a b e=>by simp only[zl,zM,O.agg.injEq]at e;exact Qs e.1) h) (.inr (by simp only[q9,XN,Zn,zhq]))
noncomputable abbrev Ccs (n:Nat):Ctx:=zW prog [(16,zi false [] (FVV (fun _=>int 0) n)),(37,zi false [] (NQ wA)),(38,zi false [] (IP gP))]
theorem tS(n:Nat)(v:zZ)(h:v.vb<=zx/\v.vb<=n+1):zt (Ccs n) f16 [.agg v.V,.agg v.V]=some (int 0):=by
 have r:=xD v;have s:=yE v.items;have t:=jt v.fields;obtain⟨u,D⟩:=h;unfold zx at u;refine zn rfl ?_;by_cases l:v.kind=1
 ·simp[l,f16]
 by_cases m:v.kind=2
 ·simp[m,f16]
 by_cases o:v.kind=3
 ·simp[o,f16]
 by_cases p:v.kind=4
 ·simp[p];refine zT (fun k U Y Z=>U 2=.ref 0 0 0/\U 3=.ref 1 0 0/\U 43=int v.items.length/\U 44=int k/\Y 0=some ⟨52,5,false,[v.V]⟩/\Y 1=some ⟨52,5,false,[v.V]⟩) v.items.length
   ⟨by simp,by simp,by simp,by simp,by simp,by simp⟩ ?_
  rintro k U Y Z w ⟨e,f,c,d,g,i⟩;by_cases a:k<v.items.length
  ·have x:=js (zk a);have j:=qH k;have b:=fun Y Z=>mh (fun _=>int 0) n v.items[k] Y Z ⟨by unfold zx;omega,by omega⟩
   simp[e,f,c,d,g,i,a,b,j];exact a
  ·obtain rfl:k=v.items.length:=by omega
   simp[e,f,c,d,g,i,f16]
 by_cases q:v.kind=5
 ·simp[q];refine zT (fun k U Y Z=>U 2=.ref 0 0 0/\U 3=.ref 1 0 0/\U 77=int v.fields.length/\U 78=int k/\Y 0=some ⟨52,5,false,[v.V]⟩/\Y 1=some ⟨52,5,false,[v.V]⟩) v.fields.length
   ⟨by simp,by simp,by simp,by simp,by simp,by simp⟩ ?_
  rintro k U Y Z w ⟨e,f,c,d,g,i⟩;by_cases a:k<v.fields.length
  ·have x:=vx (zk a);have j:=qH k;have b:=fun Y Z=>mh (fun _=>int 0) n v.fields[k].2 Y Z ⟨by unfold zx;omega,by omega⟩
   simp[e,f,c,d,g,i,a,b,j];exact a
  ·obtain rfl:k=v.fields.length:=by omega
   simp[e,f,c,d,g,i,f16]
 have y:=yq l;have z:=yq m;have A:=yq o;have B:=yq p;have C:=yq q;simp[y,z,A,B,C,f16]
theorem G7{out:zZ->O}{n:Nat}{args:zb}{r:O}(h:FVV out n args=some r):∃v:zZ,args=[.agg v.V,.agg v.V]/\(v.vb<=zx/\v.vb<=n)/\r=out v:=zK h
theorem o0:∀n,zg prog 16 (zi false [] (FVV (fun _=>int 0) n)):=by
 intro n
 induction n with
 |zero=>
  refine⟨⟨_,func16,by kernel_rfl,by kernel_rfl⟩,fun args Y Z r Y' d h=>?_⟩;unfold zi at h;split at h
  ·split at h
   ·rename_i e hF;obtain⟨v,_,a,_⟩:=G7 hF;have:=WN v;omega
   ·cases h
  ·cases h
 |succ n b=>
  have c:AM.Good (Ccs n) (fun g=>[16,37,38].contains g):=qx mixed ⟨b,fun _=>zr _ _,ZS,fun _=>zr _ _,bp,fun _=>zr _ _,trivial⟩;exact yj (fn:=f16) c (qE func16) false [] _ fun args r h=>by obtain⟨v,rfl,a,rfl⟩:=G7 h;exact⟨zE (ze 2) (by decide),_,tS n v a,qq _⟩
noncomputable abbrev yB:=Lib.compareBytes
theorem gQ:zg prog 103 (zi false [] (IP yB)):=
 tw ⟨_,func103,by kernel_rfl,by kernel_rfl⟩ fun args r h=>by obtain⟨⟨a,b⟩,rfl,_,rfl⟩:=zK h;exact⟨[.string ⟨a.toArray⟩,.string ⟨b.toArray⟩],rfl,by simp[lit],_,rfl,rfl,fun w=>by simpa using Tryz.bytealg_CompareString ⟨a.toArray⟩ ⟨b.toArray⟩ w⟩
noncomputable abbrev Cstr:Ctx:=zW prog [(103,zi false [] (IP yB))]
theorem vK:zg prog 56 (zi false [] (IP yB)):=
 Z2 (qc mixed ⟨gQ,trivial⟩:AM.Good Cstr _) func56 false [] fun⟨a,b⟩ _=>⟨by simp[f56],_,zn rfl (by simp[f56]),qq _⟩
end Go.Q
