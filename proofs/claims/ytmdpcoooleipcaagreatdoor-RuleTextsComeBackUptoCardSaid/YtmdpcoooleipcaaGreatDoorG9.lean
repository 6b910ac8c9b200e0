/- Lemmas. -/
import Derived.WalkKit
import Derived.Lib.TrimByte
import Derived.Shelf.SlSortCmp.WholeK
import Derived.Shelf.SlSortCmp.NoneTotal
import Derived.Test.YtmdpcoooleipcaaGreatDoorProg
import Derived.Test.YtmdpcoooleipcaaGreatDoorG8
set_option maxRecDepth 100000
set_option maxHeartbeats 4000000
open Go Proofs Proofs.YtmdpcoooleipcaaGreatDoor Proofs.Tryz RowKit AM SpanLaw Q Zz
open Go.IntKind renaming i64→i6
namespace Go.Q
def YW(op:Int):Bool:=ZO op 2 6||op==12
def j7(op:Int):Bool:=ZO op 7 11
def Zb(op:Int):Bool:=ZO op 3 6
noncomputable abbrev Cwi:Ctx:=qp prog [(29,zp false [] (F3 ZO))]
theorem pY:AM.Good Cwi (fun g=>[29].contains g):=qH mixed ⟨Zw,fun _=>zv _ _,trivial⟩
def sQ(f:Int->Bool):zb->Option O
 |[.v (.int .i64 a)]=>some (yW (f a))
 |_=>none
theorem iz{f:Int->Bool}{args:zb}{r:O}(h:sQ f args=some r):∃a,args=[int a]/\r=yW (f a):=by
 unfold sQ at h;split at h
 ·injection h with h;exact⟨_,rfl,h.symm⟩
 ·cases h
@[simp]theorem RY(f:Int->Bool)(a:Int)(Y:Hp)(Z:Nat):zp false [] (sQ f) [.v (.int .i64 a)] Y Z=some (yW (f a),Y,Z):=yg rfl rfl (.inl rfl)
theorem mW:zh prog 46 (zp false [] (sQ YW)):=
 jo (fn:=f46) pY (wL func46) false [] _ fun args r h=>by obtain⟨a,rfl,rfl⟩:=iz h;exact⟨by simp[f46],_,zw rfl (by simp[YW,f46]),wy _⟩
theorem Qr:zh prog 33 (zp false [] (sQ j7)):=
 jo (fn:=f33) pY (wL func33) false [] _ fun args r h=>by obtain⟨a,rfl,rfl⟩:=iz h;exact⟨by simp[f33],_,zw rfl (by simp[j7,f33]),wy _⟩
theorem YX:zh prog 42 (zp false [] (sQ Zb)):=
 jo (fn:=f42) pY (wL func42) false [] _ fun args r h=>by obtain⟨a,rfl,rfl⟩:=iz h;exact⟨by simp[f42],_,zw rfl (by simp[Zb,f42]),wy _⟩
noncomputable abbrev Cms (n:Nat):Ctx:=qp prog [(15,zp false [] (Rv (fun c=>.qS [int c.parts,int c.levels]) n))]
theorem iA(n:Nat)(c:Cnd)(h:c.parts<=zX/\c.parts<=n+1):zM (Cms n) f15 [.agg c.V]=some (.qS [int c.parts,int c.levels]):=by
 have hpe:=Jr c;have f:=WH c;have q:=pC c;have r:=cP c.args;obtain⟨s,w⟩:=h;unfold zX at s;refine zw rfl ?_;simp;refine qA (fun k X Y Z=>X 9=.sl 7 (c.args.map Cnd.V)/\X 10=int c.args.length/\X 11=int k/\X 2=int ((1+yV (c.args.take k):Nat):Int)/\X 3=int (yz (c.args.take k))) c.args.length
  ⟨by simp,by simp,by simp,by simp[yV],by simp[yz]⟩ ?_
 rintro k X Y Z x ⟨l,d,e,g,i⟩;by_cases a:k<c.args.length
 ·obtain⟨m,t⟩:=Rt a;have y:=cN (zz a);have u:=wP k;have o:=fu c.args k;have j:=fu c.args (k+1);have b:=fun Y Z=>Cf (fun c=>.qS [int c.parts,int c.levels]) n c.args[k] Y Z ⟨by unfold zX;omega,by omega⟩
  have p:i6.wrap (((1+yV (c.args.take k):Nat):Int)+c.args[k].parts)=((1+yV (c.args.take (k+1)):Nat):Int):=by rw[wN (by omega) (by omega),m];omega
  have v:(if(yz (c.args.take k))<c.args[k].levels then(c.args[k].levels:Int)else yz (c.args.take k))=(yz (c.args.take (k+1)):Int):=by rw[t];split<;>omega
  simp[g,i,l,d,e,a,b,u];exact⟨by omega,by rw[wN (by omega) (by omega),m];omega,v⟩
 ·obtain rfl:k=c.args.length:=by omega
  rw[js]at g i;have p:i6.wrap ((yz c.args:Int)+1)=(c.levels:Int):=by rw[wN (by omega) (by omega),f];omega
  simp[g,i,l,d,e,p,ja,f15];omega
theorem dx:∀n,zh prog 15 (zp false [] (Rv (fun c=>.qS [int c.parts,int c.levels]) n)):=by
 intro n
 induction n with
 |zero=>
  exact Xg ⟨_,func15,by kernel_rfl,by kernel_rfl⟩ fun args r h=>by obtain⟨c,_,⟨_,e⟩,_⟩:=zQ h;have:=fv c;omega
 |succ n a=>have b:Gd (Cms n):=qT mixed ⟨a,trivial⟩;exact XV b func15 false [] fun c d=>⟨qm (zi 1) (by decide),_,iA n c d,wy _⟩
theorem eK(n:Nat):zh prog 15 (zp false [] (FC (fun c=>.qS [int c.parts,int c.levels]) n)):=ur (L0 _ n) (dx zX)
def Uo(c:Cnd):Bool:=!(c.kind==4)&&(!c.attr.isEmpty||c.op != 0||decide (0<c.yl.length)||!c.pat.isEmpty)
def Up(c:Cnd):Bool:=c.kind != 5&&!c.name.isEmpty
def Uq(c:Cnd):Bool:=!ZO c.kind 1 3&&decide (0<c.args.length)
def Mv(c:Cnd):Bool:=c.kind==4&&!YW c.op&&decide (0<c.yl.length)
def Ur(c:Cnd):Bool:=c.kind==4&&!j7 c.op&&!c.pat.isEmpty
def Us(c:Cnd):Bool:=c.kind==3&&(c.args.length:Int) != 1
def Ut(c:Cnd):Bool:=c.kind==4&&Zb c.op&&(c.yl.length:Int) != 1
def Zc(c:Cnd):Bool:=Uo c||Up c||Uq c||Mv c||Ur c||Us c||Ut c
noncomputable abbrev RZ:Ctx:=qp prog [(29,zp false [] (F3 ZO)),(46,zp false [] (sQ YW)),(33,zp false [] (sQ j7)),(42,zp false [] (sQ Zb))]
theorem Mw:AM.Good RZ (fun g=>[29,46,33,42].contains g):=qH mixed ⟨Zw,fun _=>zv _ _,mW,fun _=>zv _ _,Qr,fun _=>zv _ _,YX,fun _=>zv _ _,trivial⟩
@[simp]theorem R0:kz RZ 46:=yZ (by rfl) (zv _ _)
@[simp]theorem R1:kz RZ 33:=yZ (by rfl) (zv _ _)
@[simp]theorem R2:kz RZ 42:=yZ (by rfl) (zv _ _)
theorem dy(c:Cnd)(h:c.cb<=zX):zM RZ f30 [.agg c.V]=some (int (if Zc c=true then 3 else 0)):=by
 refine zw rfl ?_;have a:(!(c.kind==4)&&(!c.attr.isEmpty||c.op != 0||decide (0<c.yl.length)||!c.pat.isEmpty))=Uo c:=rfl;have d:(c.kind != 5&&!c.name.isEmpty)=Up c:=rfl;have f:(!ZO c.kind 1 3&&decide (0<c.args.length))=Uq c:=rfl;have i:(c.kind==4&&!YW c.op&&decide (0<c.yl.length))=Mv c:=rfl;have k:(c.kind==4&&!j7 c.op&&!c.pat.isEmpty)=Ur c:=rfl;have m:(c.kind==3&&(c.args.length:Int) != 1)=Us c:=rfl;have o:(c.kind==4&&Zb c.op&&(c.yl.length:Int) != 1)=Ut c:=rfl;cases b:Uo c
 case true=>simp[a,b,Zc,f30]
 cases e:Up c
 case true=>simp[a,b,d,e,Zc,f30]
 cases g:Uq c
 case true=>simp[a,b,d,e,f,g,Zc,f30]
 cases j:Mv c
 case true=>simp[a,b,d,e,f,g,i,j,Zc,f30]
 cases l:Ur c
 case true=>simp[a,b,d,e,f,g,i,j,k,l,Zc,f30]
 cases n:Us c
 case true=>simp[a,b,d,e,f,g,i,j,k,l,m,n,Zc,f30]
 cases p:Ut c
 case true=>simp[a,b,d,e,f,g,i,j,k,l,m,n,o,p,Zc,f30]
 simp[a,b,d,e,f,g,i,j,k,l,m,n,o,p,Zc,f30]
theorem aJ:zh prog 30 (GC fun c=>int (if Zc c=true then 3 else 0)):=
 jo (fn:=f30) Mw (wL func30) false [] _ fun args r h=>by obtain⟨c,rfl,a,rfl⟩:=cM h;exact⟨by simp[f30],_,dy c a.1,wy _⟩
noncomputable def dz (p:Option Val) (v:Val):Bool:=match p with
 |none=>false
 |some p=>decide (0<=qJ p v)
def CZ(op:Int)(v:Val):Bool:=v.kind==0||Zb op&&v.kind != 2
noncomputable def aK (op:Int):Option Val->List Val->Int
 |_,[]=>0
 |p,v::l=>if v.check=0 then(if CZ op v=true then 6 else if dz p v=true then 8 else aK op (some v) l)else v.check
noncomputable def Z2 (op:Int) (l:List Val):Int:=if(100:Int)<l.length then 2 else aK op none l
def X4(l:List Val)(k:Nat):Option Val:=if k=0 then none else l[k-1]?
noncomputable def FIv (f:Int->List Val->O):zb->Option O:=qD (α:=Int×List Val) (fun a=>[int a.1,.sl 5 (a.2.map Val.V)]) (fun a=>kf a.2<=zX) (fun a=>f a.1 a.2)
theorem C2(f:Int->List Val->O)(op:Int)(l:List Val)(Y:Hp)(Z:Nat)(h:kf l<=zX):zp false [] (FIv f) [int op,.sl 5 (l.map Val.V)] Y Z=some (f op l,Y,Z):=
 sn (op,l) _ _ (by simp) (fun x y e=>by obtain⟨c,d⟩:=x;obtain⟨g,i⟩:=y;simp only[zn,z7]at e;obtain⟨b,a⟩:=e;injection a with _ a;rw[ql b,Xh a]) h (.inr (by simp))
noncomputable abbrev Mx:Ctx:=qp prog [(47,GV fun v=>int v.check),(42,zp false [] (sQ Zb)),(48,zp false [] (Mh zX))]
theorem Gv:AM.Good Mx (fun g=>[42,48].contains g):=qH mixed ⟨mc,by simp,YX,fun _=>zv _ _,ZY zX,fun _=>zv _ _,trivial⟩
@[simp]theorem OP:kz Mx 42:=yZ (by rfl) (zv _ _)
theorem Xv(op:Int)(l:List Val)(h:kf l<=zX):zM Mx f32 [int op,.sl 5 (l.map Val.V)]=some (int (Z2 op l)):=by
 have A:=y7 l;unfold zX at h;refine zw rfl ?_;by_cases c:(100:Int)<l.length
 ·have x:Z2 op l=2:=by unfold Z2;rw[zl c]
  simp[c,x,f32]
 have x:Z2 op l=aK op none l:=by unfold Z2;rw[zg c]
 rw[x];simp[c];refine qA (fun k X Y Z=>X 0=int op/\X 1=.sl 5 (l.map Val.V)/\X 11=.sl 5 (l.map Val.V)/\X 12=int l.length/\X 13=int k/\aK op none l=aK op (X4 l k) (l.drop k)) l.length
  ⟨by simp,by simp,by simp,by simp,by simp,by simp[X4]⟩ ?_
 rintro k X Y Z L ⟨p,q,d,e,f,a⟩;by_cases b:k<l.length
 ·have M:=kA (zz b);have B:=wP k;have i:=fun Y Z=>a8 (fun v=>int v.check) l[k] Y Z (by unfold zX;omega)
  rw[zj b]at a;simp only[aK]at a;have r:X4 l (k+1)=some l[k]:=by simp[X4,b]
  have m:(l[k].kind==0||Zb op&&l[k].kind != 2)=CZ op l[k]:=rfl;by_cases n:l[k].check=0
  case neg=>rw[zg n]at a;have y:=lx n;simp[p,q,d,e,f,b,i,y,a,f32]
  rw[zl n]at a;cases g:CZ op l[k]
  case true=>rw[g,zl rfl]at a;simp[p,q,d,e,f,b,i,n,m,g,a,f32]
  rw[g,zg (by simp)]at a;by_cases H:k=0
  ·subst H;have I:dz (X4 l 0) l[0]=false:=rfl;rw[I,zg (by simp)]at a;simp[p,q,d,e,f,b,i,n,m,g,B];exact⟨by omega,by rw[a,show X4 l 1=some l[0]from r];simp⟩
  ·obtain⟨j,rfl⟩:∃j,k=j+1:=⟨k-1,by omega⟩;have u:j<l.length:=by omega
   have J:=kA (zz u);have C:i6.wrap ((j:Int)+1-1)=(j:Int):=by rw[wN (by omega) (by omega)];omega
   have s:=wY (j:Int);have D:((j:Int)+1).toNat=j+1:=by omega
   have E:0<(j:Int)+1:=by omega
   have F:0<=(j:Int)+1:=by omega
   have G:(j:Int)+1<l.length:=by omega
   have t:=fun Y Z=>YT zX l[j] l[j+1] Y Z ⟨by unfold zX;omega,by unfold zX;omega,by unfold zX;omega⟩
   have z:dz (X4 l (j+1)) l[j+1]=decide (0<=qJ l[j] l[j+1]):=by simp[X4,u,dz]
   rw[z]at a;by_cases w:0<=qJ l[j] l[j+1]
   ·have o:decide (0<=qJ l[j] l[j+1])=true:=by simpa using w
    rw[zl o]at a;simp[p,q,d,e,f,b,u,i,n,m,g,B,C,s,D,E,F,G,t,w,a,f32]
   ·have o:¬decide (0<=qJ l[j] l[j+1])=true:=by simpa using w
    rw[zg o]at a;have K:=wY ((j:Int)+1+1);simp[p,q,d,e,f,b,u,i,n,m,g,K,C,s,D,E,F,G,t,w];exact⟨by omega,by rw[a,r]⟩
 ·obtain rfl:k=l.length:=by omega
  rw[zE]at a;simp only[aK]at a;simp[p,q,d,e,f,a,f32]
theorem Vv:zh prog 32 (zp false [] (FIv fun op l=>int (Z2 op l))):=
 XV Gv func32 false [] fun⟨op,l⟩ a=>⟨by simp[f32],_,Xv op l a,wy _⟩
noncomputable def Xw (op:Int) (s:za):Int:=if(500:Int)<s.length then 2 else if wi 32 126 s=true then(if op=11 then(Qq s).2 else 0)else 1
noncomputable def FIs (f:Int->za->O):zb->Option O:=qD (α:=Int×za) (fun a=>[int a.1,str a.2]) (fun a=>a.2.length<=zX) (fun a=>f a.1 a.2)
theorem C3(f:Int->za->O)(op:Int)(s:za)(Y:Hp)(Z:Nat)(h:s.length<=zX):zp false [] (FIs f) [int op,str s] Y Z=some (f op s,Y,Z):=
 sn (op,s) _ _ rfl (fun x y e=>by obtain⟨a,b⟩:=x;obtain⟨c,d⟩:=y;simp only[zn,z7]at e;rw[ql e.1,ya e.2]) h (.inr (by simp))
noncomputable abbrev Cpt:Ctx:=qp prog [(49,zp false [] (hP CX))]
theorem My:Gd Cpt:=qT mixed ⟨aI,trivial⟩
theorem Vw(op:Int)(s:za)(h:s.length<=zX):zM Cpt f34 [int op,str s]=some (int (Xw op s)):=by
 unfold zX at h;refine zw rfl ?_;by_cases a:(500:Int)<s.length
 ·have b:Xw op s=2:=by unfold Xw;rw[zl a]
  simp[a,b,f34]
 have i:=fun Y Z=>Jt CX s Y Z (by unfold zX;omega)
 simp only[CX]at i;have b:Xw op s=if wi 32 126 s=true then(if op=11 then(Qq s).2 else 0)else 1:=by unfold Xw;rw[zg a]
 simp[a];refine qA (fun k X Y Z=>X 0=int op/\X 1=str s/\X 12=int s.length/\X 13=int k/\wi 32 126 s=wi 32 126 (s.drop k)) s.length ⟨by simp,by simp,by simp,by simp,by simp⟩ ?_;rintro k X Y Z q ⟨l,m,c,d,g⟩;by_cases e:k<s.length
 ·have p:=wP k;rw[K1 e]at g;have o:=pc 32 126 s[k];simp only[qz]at o;cases n:pr 32 126 s[k]
  ·have g:wi 32 126 s=false:=by rw[g,n];rfl
   rw[g,zg (by simp)]at b;simp[l,m,c,d,e,b,o,n,f34]
  ·simp[l,m,c,d,e,o,n,p];exact⟨e,by rw[g,n];rfl⟩
 ·obtain rfl:k=s.length:=by omega
  have g:wi 32 126 s=true:=by rw[g,zE];rfl
  rw[g,zl rfl]at b;by_cases f:op=11
  ·rw[zl f]at b;subst f;simp[l,m,c,d,i,b,f34]
  ·rw[zg f]at b;have j:=vL f;simp[l,m,c,d,j,b,f34]
theorem KD:zh prog 34 (zp false [] (FIs fun op s=>int (Xw op s))):=
 XV My func34 false [] fun⟨op,s⟩ a=>⟨by simp[f34],_,Vw op s a,wy _⟩
def X5(c:Cnd):Bool:=!ZO c.kind 1 5
def IC(c:Cnd):Bool:=c.kind==4&&!ZO c.op 1 12
def fH(c:Cnd):Bool:=(c.kind==4&&!yq c.attr)||(c.kind==5&&!yq c.name)
def C4(c:Cnd):Bool:=c.kind==4&&j7 c.op
noncomputable def xx (c:Cnd):Int:=if(X5 c||IC c)=true then 4 else if Zc c=true then 3 else if fH c=true then 5 else if Z2 c.op c.yl=0 then(if C4 c=true then Xw c.op c.pat else 0)else Z2 c.op c.yl
mutual
noncomputable def Cnd.fault:Cnd->Int
 | .mk k a o v p n l=>if xx (.mk k a o v p n l)=0 then kv l else xx (.mk k a o v p n l)
noncomputable def kv:List Cnd->Int
 |[]=>0
 |c::l=>if c.fault=0 then kv l else c.fault
end
theorem fI(c:Cnd):c.fault=if xx c=0 then kv c.args else xx c:=by cases c;simp only[Cnd.fault];rfl
theorem X6{l:List Cnd}{k:Nat}(h:k<l.length):kv (l.drop k)=if l[k].fault=0 then kv (l.drop (k+1))else l[k].fault:=by rw[zj h,kv]
noncomputable abbrev C5 (n:Nat):Ctx:=qp prog [(16,zp false [] (FC (fun c=>int c.fault) n)),(29,zp false [] (F3 ZO)),(30,GC fun c=>int (if Zc c=true then 3 else 0)),(31,zp false [] (FS yq)),
 (32,zp false [] (FIv fun op l=>int (Z2 op l))),(33,zp false [] (sQ j7)),(34,zp false [] (FIs fun op s=>int (Xw op s)))]
@[simp]theorem OQ(n:Nat):kz (C5 n) 29:=yZ (by rfl) (zv _ _)
@[simp]theorem OR(n:Nat):kz (C5 n) 31:=yZ (by rfl) (zv _ _)
@[simp]theorem OS(n:Nat):kz (C5 n) 33:=yZ (by rfl) (zv _ _)
theorem aL(n:Nat)(c:Cnd)(h:c.cb<=zX/\c.cb<=n+1):zM (C5 n) f16 [.agg c.V]=some (int c.fault):=by
 have M:=ZT c;have N:=WG c.args;obtain⟨L,R⟩:=h;have x:=fI c;have i:=fun Y Z=>WI (fun c=>int (if Zc c=true then 3 else 0)) c Y Z L
 have r:=fun Y Z=>C2 (fun op l=>int (Z2 op l)) c.op c.yl Y Z (by omega)
 have D:=fun Y Z=>C3 (fun op s=>int (Xw op s)) c.op c.pat Y Z (by omega)
 have j:c.attr.length<=zX:=by omega
 have m:c.name.length<=zX:=by omega
 unfold zX at L;refine zw rfl ?_;have v:(!ZO c.kind 1 5)=X5 c:=rfl;have y:(c.kind==4&&!ZO c.op 1 12)=IC c:=rfl;have E:((c.kind==4&&!yq c.attr)||(c.kind==5&&!yq c.name))=fH c:=rfl;have H:(c.kind==4&&j7 c.op)=C4 c:=rfl;cases q:X5 c
 case true=>simp[v,q,x,xx,f16]
 cases t:IC c
 case true=>simp[v,q,y,t,x,xx,f16]
 cases w:Zc c
 case true=>simp[v,q,y,t,i,w,x,xx,f16]
 cases z:fH c
 case true=>simp[v,q,y,t,i,w,j,m,E,z,x,xx,f16]
 by_cases A:Z2 c.op c.yl=0
 case neg=>have I:=lx A;simp[v,q,y,t,i,w,j,m,E,z,r,A,I,x,xx,f16]
 have o:∀(C:xx c=0),c.fault=kv c.args:=fun C=>by rw[x,zl C]
 cases F:C4 c
 case false=>
  have C:xx c=0:=by simp[xx,q,t,w,z,A,F]
  have p:=o C;simp[v,q,y,t,i,w,j,m,E,z,r,A,H,F];refine qA (fun k X Y Z=>X 73=.sl 7 (c.args.map Cnd.V)/\X 74=int c.args.length/\X 75=int k/\kv c.args=kv (c.args.drop k)) c.args.length ⟨by simp,by simp,by simp,by simp⟩ ?_;rintro k X Y Z P ⟨e,f,g,b⟩;by_cases d:k<c.args.length
  ·have Q:=Va (zz d);have J:=wP k;have a:=fun Y Z=>hC (fun c=>int c.fault) n c.args[k] Y Z ⟨by unfold zX;omega,by omega⟩
   rw[X6 d]at b;by_cases u:c.args[k].fault=0
   ·rw[zl u]at b;simp[e,f,g,d,a,u,J];exact⟨by omega,b⟩
   ·rw[zg u]at b;have B:=lx u;simp[e,f,g,d,a,B,p,b,f16]
  ·obtain rfl:k=c.args.length:=by omega
   rw[zE]at b;have b:kv c.args=0:=by rw[b];rfl
   simp[e,f,g,p,b,f16]
 case true=>
  by_cases G:Xw c.op c.pat=0
  case neg=>have K:=lx G;simp[v,q,y,t,i,w,j,m,E,z,r,A,H,F,D,G,K,x,xx,f16]
  have C:xx c=0:=by simp[xx,q,t,w,z,A,F,G]
  have p:=o C;simp[v,q,y,t,i,w,j,m,E,z,r,A,H,F,D,G];refine qA (fun k X Y Z=>X 73=.sl 7 (c.args.map Cnd.V)/\X 74=int c.args.length/\X 75=int k/\kv c.args=kv (c.args.drop k)) c.args.length ⟨by simp,by simp,by simp,by simp⟩ ?_;rintro k X Y Z P ⟨e,f,g,b⟩;by_cases d:k<c.args.length
  ·have Q:=Va (zz d);have J:=wP k;have a:=fun Y Z=>hC (fun c=>int c.fault) n c.args[k] Y Z ⟨by unfold zX;omega,by omega⟩
   rw[X6 d]at b;by_cases u:c.args[k].fault=0
   ·rw[zl u]at b;simp[e,f,g,d,a,u,J];exact⟨by omega,b⟩
   ·rw[zg u]at b;have B:=lx u;simp[e,f,g,d,a,B,p,b,f16]
  ·obtain rfl:k=c.args.length:=by omega
   rw[zE]at b;have b:kv c.args=0:=by rw[b];rfl
   simp[e,f,g,p,b,f16]
theorem Xx:∀n,zh prog 16 (zp false [] (FC (fun c=>int c.fault) n)):=by
 intro n
 induction n with
 |zero=>exact FZ ⟨_,func16,by kernel_rfl,by kernel_rfl⟩
 |succ n a=>
  have b:AM.Good (C5 n) (fun g=>[29,31,33].contains g):=qH mixed ⟨a,by simp,Zw,fun _=>zv _ _,aJ,by simp,gO,fun _=>zv _ _,Vv,by simp,Qr,fun _=>zv _ _,KD,by simp,trivial⟩;exact jo (fn:=f16) b (wL func16) false [] _ fun args r h=>by obtain⟨c,rfl,d,rfl⟩:=cM h;exact⟨qm (zi 1) (by decide),_,aL n c d,wy _⟩
noncomputable def Cnd.check (c:Cnd):Int:=if(decide ((200:Int)<c.parts)||decide ((20:Int)<c.levels))=true then 2 else c.fault
noncomputable abbrev Ccch:Ctx:=qp prog [(16,GC fun c=>int c.fault),(15,GC fun c=>.qS [int c.parts,int c.levels])]
theorem Vx:zh prog 7 (GC fun c=>int c.check):=
 jo (fn:=Tryz.f7) (qT mixed ⟨Xx zX,eK zX,trivial⟩:AM.Good Ccch _) (wL func7) false [] _ fun args r h=>by
  obtain⟨c,rfl,a,rfl⟩:=cM h;have b:=fun Y Z=>WI (fun c=>int c.fault) c Y Z a.1
  have d:=fun Y Z=>WI (fun c=>.qS [int c.parts,int c.levels]) c Y Z a.1
  refine⟨by simp[Tryz.f7],_,zw rfl ?_,wy _⟩;cases e:(decide ((200:Int)<c.parts)||decide ((20:Int)<c.levels))
  ·simp[b,d,e,Tryz.f7,Cnd.check]
  ·simp[b,d,e,Tryz.f7,Cnd.check]
end Go.Q
namespace Go.Q
open Go.RowKit Go.AM Go.PrLaw
def VX:List za:=[[],[104,97,115],[61],[60],[60,61],[62],[62,61],[112,114,101,102,105,120],[115,117,102,102,105,120],[99,111,110,116,97,105,110,115],[108,105,107,101],[118,101,114,115,105,111,110],[111,118,101,114,108,97,112,115]]
def Vy(op:Int):za:=(VX[op.toNat]?).getD []
def Z3(l:List Val):za:=if l=[]then[110,101,118,101,114]else Lib.join (l.map Val.show) [32,124,32]
def YY(c:Cnd):za:=if j7 c.op=true then yB c.pat else Z3 c.yl
def xk(c:Cnd):za:=if c.op=1 then[104,97,115,32,46]++c.attr else[46]++(c.attr++([32]++(Vy c.op++([32]++YY c))))
def kC(k:Int):za:=if k=1 then[97,108,108]else if k=2 then[97,110,121]else[110,111,116]
mutual
def Cnd.show:Cnd->za
 | .mk k a o v p n l=>if k=4 then xk (.mk k a o v p n l)else if k=5 then[105,110,32]++n else kC k++([40]++(Lib.join (lg l) [44,32]++[41]))
def lg:List Cnd->List za
 |[]=>[]
 |c::l=>c.show::lg l
end
theorem dA:∀l:List Cnd,lg l=l.map Cnd.show
 |[]=>rfl
 |c::l=>by simp[lg,dA l]
theorem YZ(c:Cnd):c.show=if c.kind=4 then xk c else if c.kind=5 then[105,110,32]++c.name else kC c.kind++([40]++(Lib.join (c.args.map Cnd.show) [44,32]++[41])):=by cases c;rw[Cnd.show,dA];rfl
theorem jA(k:Int)(a:za)(o:Int)(v:List Val)(p n:za)(l:List Cnd):(Cnd.mk k a o v p n l).show=if k=4 then xk (.mk k a o v p n l)else if k=5 then[105,110,32]++n else kC k++([40]++(Lib.join (l.map Cnd.show) [44,32]++[41])):=YZ _
theorem fJ(k:Int)(a:za)(o:Int)(v:List Val)(p n:za)(l:List Cnd):(Cnd.mk k a o v p n l).fault=if xx (.mk k a o v p n l)=0 then kv l else xx (.mk k a o v p n l):=fI _
theorem mX(k:Int)(a:za)(o:Int)(v:List Val)(p n:za)(l:List Cnd):xx (.mk k a o v p n l)=if(X5 (.mk k a o v p n l)||IC (.mk k a o v p n l))=true then 4 else if Zc (.mk k a o v p n l)=true then 3 else if fH (.mk k a o v p n l)=true then 5 else if Z2 o v=0 then(if C4 (.mk k a o v p n l)=true then Xw o p else 0)else Z2 o v:=rfl
theorem C6(k:Int)(a:za)(o:Int)(v:List Val)(p n:za)(l:List Cnd):X5 (.mk k a o v p n l)=!ZO k 1 5:=rfl
theorem Mz(k:Int)(a:za)(o:Int)(v:List Val)(p n:za)(l:List Cnd):IC (.mk k a o v p n l)=(k==4&&!ZO o 1 12):=rfl
theorem MA(k:Int)(a:za)(o:Int)(v:List Val)(p n:za)(l:List Cnd):Mv (.mk k a o v p n l)=(k==4&&!YW o&&decide (0<v.length)):=rfl
inductive ag:Cnd->Prop
 |mk {k o:Int} {a p n:List UInt8} {v:List Val} {l:List Cnd}:1<=k->k<=5->(k=4->1<=o/\o<=12)->(∀x∈v,KK x)->(k=4->YW o=false->v=[])->(∀x∈l,ag x)->ag (.mk k a o v p n l)
theorem ag.kind{c:Cnd}(h:ag c):1<=c.kind/\c.kind<=5:=by cases h;exact⟨by assumption,by assumption⟩
theorem ag.op{c:Cnd}(h:ag c)(a:c.kind=4):1<=c.op/\c.op<=12:=by cases h with|mk _ _ b _ _ _=>exact b a
theorem ag.yl{c:Cnd}(h:ag c):∀x∈c.yl,KK x:=by cases h with|mk _ _ _ a _ _=>exact a
theorem ag.none{c:Cnd}(h:ag c)(a:c.kind=4)(b:YW c.op=false):c.yl=[]:=by cases h with|mk _ _ _ _ d _=>exact d a b
theorem ag.args{c:Cnd}(h:ag c):∀x∈c.args,ag x:=by cases h with|mk _ _ _ _ _ a=>exact a
theorem sR(op:Int):(Vy op).length<=8:=by
 unfold Vy;by_cases h:op.toNat<13
 ·have a:∀k:Nat,k<13->((VX[k]?).getD []).length<=8:=by decide
  exact a _ h
 ·rw[q5 (by simp[VX];omega)];simp
theorem fK(k:Int):(kC k).length<=3:=by
 unfold kC;split
 ·simp
 ·split<;>simp
theorem uY(l:List Val)(h:∀x∈l,KK x):(Z3 l).length<=30*kf l+5:=by
 unfold Z3;split
 ·simp
 ·have c:∀l:List Val,(∀x∈l,KK x)->((l.map Val.show).map fun x=>([32,124,32]:za).length+x.length).sum<=30*kf l:=by
   intro l
   induction l with
   |nil=>intro _;simp
   |cons v l e=>
    intro d;have a:=mn v (d v (by simp));have b:=e fun x f=>d x (by simp[f])
    simp only[zL,List.sum_cons,kf,zd,zf]at b⊢;omega
  have j:=K9 [32,124,32] (l.map Val.show);have:=c l h;omega
theorem uZ(c:Cnd)(h:∀x∈c.yl,KK x):(xk c).length+10<=30*(1+c.attr.length+kf c.yl+c.pat.length):=by
 have a:=sR c.op;have b:=uY c.yl h;have d:=YL c.pat;unfold xk YY;split
 ·simp only[qK,zd,zf];omega
 ·split<;>simp only[qK,zd,zf]<;>omega
theorem u4(c:Cnd)(h:ag c):c.show.length+10<=30*c.cb:=by
 induction c using Cnd.ind with
 |h k a o v p n l g=>
  have i:=ZT (.mk k a o v p n l);have m:=uZ (.mk k a o v p n l) h.yl;have r:=fK k;rw[jA];simp only[Cnd.attr,Cnd.yl,Cnd.pat,Cnd.name,Cnd.args]at i m;split
  ·omega
  split
  ·simp only[qK,zd,zf];omega
  ·have e:∀l:List Cnd,(∀x∈l,x.show.length+10<=30*x.cb)->((l.map Cnd.show).map fun x=>([44,32]:za).length+x.length).sum<=30*JT l:=by
    intro l
    induction l with
    |nil=>intro _;simp
    |cons v l q=>
     intro f;have a:=f v (by simp);have b:=q fun x d=>f x (by simp[d])
     simp only[zL,List.sum_cons,JT,zd,zf]at b⊢;omega
   have j:=K9 [44,32] (l.map Cnd.show);have:=e l fun x d=>g x d (h.args x d)
   simp only[qK,zd,zf];omega
theorem Vz(v:Val)(h:v.check=0):v.fault=0:=by
 unfold Val.check at h;split at h
 ·simp at h
 ·exact h
theorem sS(op:Int):∀(l:List Val) (p:Option Val),aK op p l=0->∀x∈l,KK x
 |[],_,_,x,a=>by cases a
 |v::l,p,h,x,a=>by
  rw[aK]at h;split at h
  case isFalse b=>exact(b h).elim
  rename_i b;split at h
  ·simp at h
  split at h
  ·simp at h
  rcases zJ.1 a with rfl|a
  ·exact gY _ (Vz _ b)
  ·exact sS op l _ h x a
theorem iB(c:Cnd)(h:c.fault=0):ag c:=by
 induction c using Cnd.ind with
 |h k a o v p n l t=>
  rw[fJ]at h;split at h
  case isFalse d=>exact(d h).elim
  rename_i d;rw[mX]at d;split at d
  ·simp at d
  rename_i B;split at d
  ·simp at d
  rename_i C;split at d
  ·simp at d
  split at d
  case isFalse g=>exact(g d).elim
  rename_i g;have i:X5 (.mk k a o v p n l)=false:=by cases hx:X5 (.mk k a o v p n l)<;>simp_all
  have j:IC (.mk k a o v p n l)=false:=by cases hx:IC (.mk k a o v p n l)<;>simp_all
  have m:Mv (.mk k a o v p n l)=false:=by cases hx:Mv (.mk k a o v p n l)<;>simp_all[Zc]
  rw[C6,Bool.not_eq_false']at i;rw[Mz]at j;rw[MA]at m;unfold ZO at i;rw[zs]at i;refine .mk (wT i.1) (wT i.2) (fun e=>?_) ?_ (fun e u=>?_) ?_
  ·subst e;have f:(decide (1<=o)&&decide (o<=12))=true:=by
    cases s:ZO o 1 12
    ·rw[s]at j;exact absurd j (by decide)
    ·exact s
   rw[zs]at f;exact⟨wT f.1,wT f.2⟩
  ·unfold Z2 at g;split at g
   ·simp at g
   ·exact sS o v none g
  ·subst e;rw[u]at m;cases v with
   |nil=>rfl
   |cons x v=>simp at m
  ·have q:∀l:List Cnd,(∀x∈l,x.fault=0->ag x)->kv l=0->∀x∈l,ag x:=by
    intro l
    induction l with
    |nil=>intro _ _ x hx;cases hx
    |cons y l w=>
     intro a b x hx;rw[kv]at b;split at b
     ·rename_i r;rcases zJ.1 hx with rfl|hx
      ·exact a _ (by simp) r
      ·exact w (fun z A=>a z (by simp[A])) b x hx
     ·rename_i r;exact(r b).elim
   exact q l t h
theorem iC(c:Cnd)(h:c.check=0):ag c:=by
 unfold Cnd.check at h;split at h
 ·simp at h
 ·exact iB c h
end Go.Q
namespace Go.Q
structure Pst where
 p:Nat
 d:Nat
 e:Int
 i:Nat
namespace Pst
def fail(st:Pst)(k:Nat)(x:Int):Pst:=if st.e=0 then⟨st.p,st.d,x,k⟩else st
def mv(st:Pst)(k:Nat):Pst:=⟨k,st.d,st.e,st.i⟩
def dn(st:Pst):Pst:=⟨st.p,st.d+1,st.e,st.i⟩
def up(st:Pst):Pst:=⟨st.p,st.d-1,st.e,st.i⟩
end Pst
def KE(c:UInt8):Bool:=QU c.toNat
def VA(c:UInt8):Bool:=c==40||c==41||c==44||c==46||c==124||c==61||c==60||c==62
def yw:za->za
 |[]=>[]
 |c::l=>if(c=60\/c=62)/\l.head?=some 61 then[c,61]else if VA c=true then[c]else(c::l).takeWhile KE
def zC:Cnd:=.mk 0 [] 0 [] [] [] []
section
variable(s:za)
def jg(st:Pst):Pst:=st.mv (st.p+((s.drop st.p).takeWhile (·==32)).length)
def Yn(st:Pst):za:=yw (s.drop (jg s st).p)
def eL(st:Pst):Pst:=(jg s st).fail (jg s st).p 10
def j8(st:Pst)(w:za):Bool×Pst:=if st.e≠0 then(false,st)else if Yn s st=w then(true,(jg s st).mv ((jg s st).p+w.length))else(false,jg s st)
def JO(st:Pst)(w:za):Pst:=if(j8 s st w).1=true then(j8 s st w).2 else eL s (j8 s st w).2
def C7(w:za):Bool:=match w with
 |[]=>false
 |c::_=>KE c
def aM(st:Pst):za×Pst:=if st.e≠0\/C7 (Yn s st)=false then([],eL s (jg s st))else(Yn s st,(jg s st).mv ((jg s st).p+(Yn s st).length))
def pZ(w:za):Bool:=match w with
 |[]=>false
 |c::_=>decide (97<=c)&&decide (c<=122)&&!(w==[110,117,108,108])&&!(w==[116,114,117,101])&&!(w==[102,97,108,115,101])
variable(srt:List (za×Val)->List (za×Val))(srv:List Val->List Val)
def Q4(st:Pst):Val×Pst:=
 let a:=jg s st
 if st.e≠0 then(zV,a)
 else if pZ (Yn s st)=true then(zV,eL s a)
 else let r:=xc srt s a.p
  (r.1,(if r.2.2=0 then a else a.fail r.2.1 10).mv r.2.1)
def mY:Nat->List Val->Pst->List Val×Pst
 | 0,l,st=>(l,st)
 |k+1,l,st=>if(j8 s st [124]).1=true then mY k (l++[(Q4 s srt (j8 s st [124]).2).1]) (Q4 s srt (j8 s st [124]).2).2 else(l,(j8 s st [124]).2)
def mZ(st:Pst):List Val×Pst:=
 if(j8 s st [110,101,118,101,114]).1=true then([],(j8 s st [110,101,118,101,114]).2)else
 let a:=Q4 s srt (j8 s st [110,101,118,101,114]).2;let r:=mY s srt (s.length+1) [a.1] a.2
 (srv r.1,r.2)
def iD(w:za):Int:=if w∈VX then(VX.idxOf w:Int)else -1
def ln(st:Pst):Cnd×Pst:=
 let a:=aM s st;let o:=iD (Yn s a.2);let c:=jg s a.2
 if c.e≠0 then(.mk 4 a.1 o [] [] [] [],c)
 else if o<2 then(.mk 4 a.1 o [] [] [] [],eL s c)
 else let b:=JO s c (Vy o)
  if j7 o=true then
   (if s[(jg s b).p]?=some 34 then(.mk 4 a.1 o [] (Q4 s srt (jg s b)).1.s [] [],(Q4 s srt (jg s b)).2)else(.mk 4 a.1 o [] [] [] [],eL s (jg s b)))
  else if Zb o=true then(.mk 4 a.1 o [(Q4 s srt b).1] [] [] [],(Q4 s srt b).2)
  else(.mk 4 a.1 o (mZ s srt srv b).1 [] [] [],(mZ s srt srv b).2)
variable(f:Pst->Cnd×Pst)
def oB:Nat->List Cnd->Pst->List Cnd×Pst
 | 0,l,st=>(l,st)
 |k+1,l,st=>if(j8 s st [44]).1=true then oB k (l++[(f (j8 s st [44]).2).1]) (f (j8 s st [44]).2).2 else(l,(j8 s st [44]).2)
def na(st:Pst):Pst:=
 let a:=if st.e=0 then(if Yn s st=[40]/\100<=st.d then(jg s st).fail 0 2 else jg s st)else st
 (JO s a [40]).dn
def dB(st:Pst):List Cnd×Pst:=
 let a:=na s st;let r:List Cnd×Pst:=if a.e=0 then(if Yn s a=[41]then([],jg s a)else oB s f (s.length+1) [(f (jg s a)).1] (f (jg s a)).2)else([],a)
 (r.1,(JO s r.2 [41]).up)
def lp(st:Pst):List Cnd×Pst:=
 let r:=f (na s st)
 ([r.1],(JO s r.2 [41]).up)
end
def VB(s:za)(srt:List (za×Val)->List (za×Val))(srv:List Val->List Val):Nat->Pst->Cnd×Pst
 | 0,st=>(zC,st)
 |k+1,st=>
  let a:=j8 s st [97,108,108]
  if a.1=true then(.mk 1 [] 0 [] [] [] (dB s (VB s srt srv k) a.2).1,(dB s (VB s srt srv k) a.2).2)else
  let b:=j8 s a.2 [97,110,121]
  if b.1=true then(.mk 2 [] 0 [] [] [] (dB s (VB s srt srv k) b.2).1,(dB s (VB s srt srv k) b.2).2)else
  let c:=j8 s b.2 [110,111,116]
  if c.1=true then(.mk 3 [] 0 [] [] [] (lp s (VB s srt srv k) c.2).1,(lp s (VB s srt srv k) c.2).2)else
  let d:=j8 s c.2 [105,110]
  if d.1=true then(.mk 5 [] 0 [] [] (aM s d.2).1 [],(aM s d.2).2)else
  let g:=j8 s d.2 [104,97,115]
  if g.1=true then(.mk 4 (aM s (JO s g.2 [46])).1 1 [] [] [] [],(aM s (JO s g.2 [46])).2)else
  let h:=j8 s g.2 [46]
  if h.1=true then ln s srt srv h.2 else
  (zC,eL s h.2)
noncomputable def xl (srt:List (za×Val)->List (za×Val)) (srv:List Val->List Val) (s:za):Cnd×Nat×Int:=
 if 20000<s.length then(zC,0,2)else
 let r:=VB s srt srv 102 ⟨0,0,0,0⟩;let a:=jg s r.2;let b:=if a.p<s.length then eL s a else a
 if b.e≠0 then(zC,b.i,b.e)
 else if r.1.check≠0 then(zC,0,r.1.check)else(r.1,0,0)
abbrev TP:TypeId:=43
def zG(s:za)(st:Pst):zb:=[str s,int st.p,int st.d,int st.e,int st.i]
abbrev qZ(s:za)(st:Pst):Blk:=zN TP (zG s st)
theorem p7{s b:za}{st a:Pst}(h:zG s st=zG b a):s=b/\st=a:=by cases st;cases a;simp only[zG,zn,z7]at h;obtain⟨g,c,d,e,f⟩:=h;have c:=ql c;have d:=ql d;have e:=ql e;have f:=ql f;refine⟨ya g,?_⟩;simp only[Pst.mk.injEq];omega
noncomputable def R3 {b:Type} (encA:b->zb) (pre:za->Pst->b->Prop) (c:za->Pst->b->Pst) (out:za->Pst->b->O):zb->zb->Option (zb×O):=
 fj (α:=za×Pst×b) (fun a=>zG a.1 a.2.1) (fun a=>encA a.2.2) (fun a=>a.1.length<=20000/\a.2.1.p<=a.1.length/\pre a.1 a.2.1 a.2.2) (fun a=>(zG a.1 (c a.1 a.2.1 a.2.2),out a.1 a.2.1 a.2.2))
noncomputable abbrev mP {a:Type} (encA:a->zb) (pre:za->Pst->a->Prop) (b:za->Pst->a->Pst) (out:za->Pst->a->O):AM.Spec:=eu TP (R3 encA pre b out)
theorem va{c:Type}{encA:c->zb}{pre:za->Pst->c->Prop}{d:za->Pst->c->Pst}{out:za->Pst->c->O}(f:∀a b,encA a=encA b->a=b)(j:∀b,(encA b).all O.isV=true){s:za}{st:Pst}(b:c){Y:Hp}{id Z:Nat}(k:Y id=some (qZ s st))(hs:s.length<=20000)(Y':st.p<=s.length)(h:pre s st b) :
  mP encA pre d out (.ref id 0 0::encA b) Y Z=some (out s st b,qb Y id (some (qZ s (d s st b))),Z):=
 gN (j b) k rfl (cq (encC:=fun a:List UInt8×Pst×c=>zG a.1 a.2.1) (encA:=fun a=>encA a.2.2) (a:=(s,st,b)) (fun x y l e=>by obtain⟨m,n,o⟩:=x;obtain⟨q,r,t⟩:=y;obtain⟨g,i⟩:=p7 l;simp only at g i;have e:=f _ _ e;simp only at e;rw[g,i,e]) ⟨hs,Y',h⟩) rfl rfl
theorem jB{c:Type}{encA:c->zb}{pre:za->Pst->c->Prop}{a:za->Pst->c->Pst}{out:za->Pst->c->O}{cs e cs':zb}{r:O}(h:R3 encA pre a out cs e=some (cs',r)) :
  ∃s st b,cs=zG s st/\e=encA b/\s.length<=20000/\st.p<=s.length/\pre s st b/\cs'=zG s (a s st b)/\r=out s st b:=by
 obtain⟨⟨s,st,b⟩,f,g,⟨i,j,k⟩,d⟩:=fk h;injection d with d l;exact⟨s,st,b,f,g,i,j,k,d,l⟩
noncomputable abbrev dC:AM.Spec:=mP B6 (fun _ _ _=>True) (fun _ st b=>st.fail b.1 b.2) (fun _ _ _=>.qS [])
theorem WU{s:za}{st:Pst}(k:Nat)(x:Int){Y:Hp}{id Z:Nat}(a:Y id=some (qZ s st))(hs:s.length<=20000)(Y':st.p<=s.length) :
  dC [.ref id 0 0,int k,int x] Y Z=some (.qS [],qb Y id (some (qZ s (st.fail k x))),Z):=va sC (fun _=>rfl) (k,x) a hs Y' trivial
theorem Y3:zh prog 26 dC:=
 wZ (code:=_) kM ⟨func26,by kernel_rfl,rfl,by kernel_rfl⟩ TP _ fun cs b cs' r h=>by
  obtain⟨s,st,⟨k,x⟩,rfl,rfl,hs,Y,c,rfl,rfl⟩:=jB h;refine⟨by simp[B6,f26],?_⟩;by_cases a:st.e=0
  ·simp[B6,qM,zN,zG,a,Pst.fail,f26];exact wx rfl rfl
  ·simp[B6,qM,zN,zG,a,vr a,Pst.fail,f26];exact wx rfl rfl
theorem C8{s:za}{p d i:Nat}{e:Int}(h:s[p]?=some 32):jg s ⟨p,d,e,i⟩=jg s ⟨p+1,d,e,i⟩:=by
 have a:=(ze.1 h).1;have b:s.drop p=32::s.drop (p+1):=by rw[zj a,(ze.1 h).2]
 simp only[jg,b,kU,Pst.mv];simp;omega
theorem nb{s:za}{st:Pst}(h:s[st.p]?≠some 32):jg s st=st:=by
 have:(s.drop st.p).takeWhile (·==32)=[]:=by
  cases a:s.drop st.p with
  |nil=>rfl
  |cons c l=>
   have:s[st.p]?=some c:=by
    have b:(s.drop st.p)[0]?=some c:=by rw[a];rfl
    simpa using b
   have d:¬c=32:=fun e=>h (by rw[this,e])
   simp[kU,d]
 simp[jg,this,Pst.mv]
theorem jJ{s:za}{st:Pst}(h:st.p<=s.length):st.p<=(jg s st).p/\(jg s st).p<=s.length/\(jg s st).e=st.e/\(jg s st).i=st.i/\(jg s st).d=st.d:=by have:=(List.takeWhile_sublist (fun c:UInt8=>c==32) (l:=s.drop st.p)).length_le;simp only[jg,Pst.mv];simp at this;refine⟨by omega,by omega,trivial,trivial,trivial⟩
noncomputable abbrev nc:AM.Spec:=mP aU (fun _ _ _=>True) (fun s st _=>jg s st) (fun _ _ _=>.qS [])
theorem VC{s:za}{st:Pst}{Y:Hp}{id Z:Nat}(a:Y id=some (qZ s st))(hs:s.length<=20000)(Y':st.p<=s.length):nc [.ref id 0 0] Y Z=some (.qS [],qb Y id (some (qZ s (jg s st))),Z):=va kq (fun _=>rfl) () a hs Y' trivial
theorem JA:zh prog 12 nc:=
 wZ (code:=_) kM ⟨func12,by kernel_rfl,rfl,by kernel_rfl⟩ TP _ fun cs w cs' r h=>by
  obtain⟨s,st,⟨⟩,rfl,rfl,hs,Y,o,rfl,rfl⟩:=jB h;refine⟨by simp[aU,f12],?_⟩;clear h;simp;refine qA (fun k X Y Z=>X 0=.ref 0 0 0/\Z=1/\∃q,q=st.p+k/\Y=qM TP (zG s ⟨q,st.d,st.e,st.i⟩)/\q<=s.length/\jg s ⟨q,st.d,st.e,st.i⟩=jg s st) (s.length-st.p) ⟨by simp[aU],rfl,st.p,rfl,rfl,Y,rfl⟩ ?_;rintro k X Y _ o ⟨g,rfl,q,x,rfl,t,j⟩;by_cases b:q<s.length
  ·obtain⟨c,l⟩:=yX (s[q]);have f:s[q]?=some c:=by rw[<-l];exact zm b
   have u:=wP q;by_cases m:c=32
   ·subst m;have a:=C8 (d:=st.d) (e:=st.e) (i:=st.i) f;simp[g,qM,zN,zG,b,l,u,f12];have v:(q:Int)+1=st.p+(k+1):=by omega
    refine⟨by omega,by rw[v],by omega,?_⟩;rw[show st.p+(k+1)=q+1 by omega,<-j,a]
   ·have n:((c.toNat:Int)==32)=false:=ee 32 m;have a:=nb (s:=s) (st:=⟨q,st.d,st.e,st.i⟩) (by simp only[f,ne_eq,qu];exact m);simp[g,qM,zN,zG,b,l,n,f12];rw[<-j,a];exact wx rfl rfl
  ·have a:=nb (s:=s) (st:=⟨q,st.d,st.e,st.i⟩) (by rw[q5 (by simp only;omega)];simp);simp[g,qM,zN,zG,b,f12];rw[<-j,a];exact wx rfl rfl
theorem Gw(c:UInt8):decide (0<=Lib.indexByte [40,41,44,46,124,61,60,62] c)=VA c:=by rw[pw];simp only[List.contains_cons,List.contains_nil,VA,Bool.or_false,Bool.or_assoc]
theorem u5(c:UInt8)(l:za):yw (c::l)=if([60,61]:za).isPrefixOf (c::l)=true\/([62,61]:za).isPrefixOf (c::l)=true then(c::l).take 2 else if VA c=true then[c]else(c::l).takeWhile KE:=by
 rw[yw];cases l with
 |nil=>simp[List.isPrefixOf]
 |cons x l=>
  simp only[List.isPrefixOf,List.head?_cons,qu,Bool.and_true,zs,yJ,xS,List.take_zero];by_cases a:x=61
  ·subst a;by_cases b:c=60
   ·subst b;simp
   ·by_cases d:c=62
    ·subst d;simp
    ·have f:¬60=c:=fun e=>b e.symm
     have g:¬62=c:=fun e=>d e.symm
     simp[b,d,f,g]
  ·have h:¬61=x:=fun e=>a e.symm
   simp[a,h]
noncomputable abbrev Cpk:Ctx:=qp prog [(12,nc),(52,zp false [] (Wd B5 fun _ _=>True)),(53,zp false [] (Ir E4)),(39,zp false [] (LH QU))]
theorem MB:AM.Good Cpk (fun g=>[52,53,39].contains g):=qH mixed ⟨JA,by simp,ax,fun _=>zv _ _,Zh,fun _=>zv _ _,Wx,fun _=>zv _ _,trivial⟩
noncomputable abbrev iE:AM.Spec:=mP aU (fun _ _ _=>True) (fun s st _=>jg s st) (fun s st _=>str (Yn s st))
theorem Z4{s:za}{st:Pst}{Y:Hp}{id Z:Nat}(a:Y id=some (qZ s st))(hs:s.length<=20000)(Y':st.p<=s.length):iE [.ref id 0 0] Y Z=some (str (Yn s st),qb Y id (some (qZ s (jg s st))),Z):=va kq (fun _=>rfl) () a hs Y' trivial
theorem Q5:zh prog 38 iE:=
 wZ (code:=_) MB ⟨func38,by kernel_rfl,rfl,by kernel_rfl⟩ TP _ fun cs az cs' r h=>by
  obtain⟨s,st,⟨⟩,rfl,rfl,hs,Y,U,rfl,rfl⟩:=jB h;refine⟨by simp[aU,f38],?_⟩;clear h;have R:zX=268435456:=rfl;obtain⟨i,I⟩:=yX (jg s st);obtain⟨rest,E⟩:=yX (s.drop i.p);have z:=jJ (s:=s) Y;have J:rest.length<=20000:=by rw[<-E,List.length_drop];omega
  have K:nc [.ref 0 0 0] (qM TP (zG s st)) 1=some (.qS [],qb (qM TP (zG s st)) 0 (some (qZ s (jg s st))),1):=VC rfl hs Y;rw[I]at K z;rw[show Yn s st=yw rest by rw[Yn,I,E]];simp only[I];refine qq (fun X Y Z=>X 0=.ref 0 0 0/\X 2=str []/\Y=qM TP (zG s st)/\Z=1) (by simp[aU]) ?_;rintro X _ _ ⟨A,W,rfl,rfl⟩;refine qq (fun X Y Z=>X 0=.ref 0 0 0/\Y 0=some (qZ s i)/\Z=1) (by simp[A,K]) ?_;clear A W K X;rintro X Y1 _ ⟨A,j,rfl⟩;have u:=j;simp only[zN,zG,zd,zf,zo,Nat.reduceAdd]at u;have L:i.p<=s.length:=z.2.1;refine qq (fun X Y Z=>X 3=str rest/\Y 0=some (qZ s i)/\Z=1) ?_ ?_
  ·simp[A,u,L,E];exact⟨qv (by rw[<-E,List.length_drop];omega),rfl⟩
  clear A j u X Y1;rintro X Y1 _ ⟨d,j,rfl⟩;cases rest with
  |nil=>simp[d,f38];exact wx rfl j
  |cons c l=>
   have y:∀(Y:Hp) (Z:Nat),zp false [] (Wd B5 fun _ _=>True) [str (c::l),.v (.string ⟨#[60,61]⟩)] Y Z=some (yW (([60,61]:za).isPrefixOf (c::l)),Y,Z):=fun Y Z=>K7 (c::l) [60,61] Y Z (by omega) (by decide)
   have B:∀(Y:Hp) (Z:Nat),zp false [] (Wd B5 fun _ _=>True) [str (c::l),.v (.string ⟨#[62,61]⟩)] Y Z=some (yW (([62,61]:za).isPrefixOf (c::l)),Y,Z):=fun Y Z=>K7 (c::l) [62,61] Y Z (by omega) (by decide)
   have M:∀(Y:Hp) (Z:Nat),zp false [] (Ir E4) [.v (.string ⟨#[40,41,44,46,124,61,60,62]⟩),.v (.int .u8 c.toNat)] Y Z=some (int (Lib.indexByte [40,41,44,46,124,61,60,62] c),Y,Z):=fun Y Z=>cC E4 [40,41,44,46,124,61,60,62] c Y Z (by decide) rfl
   have f:=Gw c;have b:=u5 c l;obtain⟨S,m⟩:=yX (([60,61]:za).isPrefixOf (c::l));obtain⟨T,n⟩:=yX (([62,61]:za).isPrefixOf (c::l));have F:S=true->2<=(c::l).length:=fun e=>by rw[e]at m;have:=(n9.1 m).length_le;simpa using this
   have G:T=true->2<=(c::l).length:=fun e=>by rw[e]at n;have:=(n9.1 n).length_le;simpa using this
   rw[m]at y b;rw[n]at B b;cases S
   case true=>
    have F:=F rfl;simp only[true_or,qa]at b;have N:1<=l.length:=by simpa using F
    simp[d,y,N,f38];rw[b];exact wx rfl j
   cases T
   case true=>
    have G:=G rfl;simp only[or_true,qa]at b;have N:1<=l.length:=by simpa using G
    simp[d,y,B,N,f38];rw[b];exact wx rfl j
   simp only[zq,or_self,qf]at b;cases w:VA c
   case true=>rw[w]at f b;simp only[qa]at b;simp[d,y,B,M,f,f38];rw[b];exact wx rfl j
   rw[w]at f b;simp only[zq,qf]at b;simp[d,y,B,M,f];rw[b];obtain⟨t,C⟩:=yX (c::l);rw[C]at d J⊢;refine qA (fun k X Y Z=>X 3=str t/\X 4=int k/\Y=Y1/\Z=1/\t.takeWhile KE=t.take k++(t.drop k).takeWhile KE) t.length ⟨by simp[d],by simp,rfl,rfl,by simp⟩ ?_;clear y B M f b m n F G w C d X;rintro k X _ _ U ⟨d,P,rfl,rfl,o⟩;by_cases g:k<t.length
   ·obtain⟨x,H⟩:=yX (t[k]);have Q:=wP k;rw[zj g,H,kU (a:=x)]at o;have D:KE x=QU x.toNat:=rfl;cases q:QU x.toNat
    ·rw[D,q]at o;simp only[zq,qf,yo]at o;simp[d,P,g,H,q,Nat.le_of_lt g,f38];rw[o];exact wx rfl j
    ·rw[D,q]at o;simp only[qa]at o;simp[d,P,g,H,q,Q];exact⟨by omega,by rw[o,qR g,H,qt];rfl⟩
   ·obtain rfl:k=t.length:=by omega
    rw[zE,List.takeWhile_nil,yo,js]at o;simp[d,P,f38];rw[o];exact wx rfl j
noncomputable abbrev Cwr:Ctx:=qp prog [(12,nc),(26,dC)]
theorem MC:Gd Cwr:=qT mixed ⟨JA,Y3,trivial⟩
noncomputable abbrev nd:AM.Spec:=mP aU (fun _ _ _=>True) (fun s st _=>eL s st) (fun _ _ _=>.qS [])
theorem Z5{s:za}{st:Pst}{Y:Hp}{id Z:Nat}(a:Y id=some (qZ s st))(hs:s.length<=20000)(Y':st.p<=s.length):nd [.ref id 0 0] Y Z=some (.qS [],qb Y id (some (qZ s (eL s st))),Z):=va kq (fun _=>rfl) () a hs Y' trivial
theorem ZI:zh prog 13 nd:=
 wZ (code:=_) MC ⟨func13,by kernel_rfl,rfl,by kernel_rfl⟩ TP _ fun cs d cs' r h=>by obtain⟨s,st,⟨⟩,rfl,rfl,hs,Y,e,rfl,rfl⟩:=jB h;refine⟨by simp[aU,f13],?_⟩;clear h;have a:=jJ (s:=s) Y;have b:nc [.ref 0 0 0] (qM TP (zG s st)) 1=some (.qS [],qb (qM TP (zG s st)) 0 (some (qZ s (jg s st))),1):=VC rfl hs Y;have c:=WU (Y:=qb (qM TP (zG s st)) 0 (some (qZ s (jg s st)))) (id:=0) (Z:=1) (jg s st).p 10 (by simp) hs a.2.1;simp only[qM,zN,zG,zd,zf,zo,Nat.reduceAdd,wI]at b c;simp[aU,qM,zN,zG,b,c,f13];exact wx rfl (by simp[zN,zG,eL])
noncomputable abbrev Ctk:Ctx:=qp prog [(38,iE)]
theorem MD:Gd Ctk:=qT mixed ⟨Q5,trivial⟩
noncomputable abbrev nf:AM.Spec:=mP aS (fun _ _ _=>True) (fun s st w=>(j8 s st w).2) (fun s st w=>yW (j8 s st w).1)
theorem vw{s:za}{st:Pst}(w:za){Y:Hp}{id Z:Nat}(a:Y id=some (qZ s st))(hs:s.length<=20000)(Y':st.p<=s.length):nf [.ref id 0 0,str w] Y Z=some (yW (j8 s st w).1,qb Y id (some (qZ s (j8 s st w).2)),Z):=va pt (fun _=>rfl) w a hs Y' trivial
theorem u6(l:za):(yw l).length<=l.length:=by
 unfold yw;split
 ·simp
 ·rename_i c l;split
  ·rename_i h;cases l with
   |nil=>simp at h
   |cons x l=>simp
  ·split
   ·simp
   ·exact(List.takeWhile_sublist _).length_le
theorem dD{s:za}{st:Pst}(h:st.p<=s.length):(jg s st).p+(Yn s st).length<=s.length:=by have a:=u6 (s.drop (jg s st).p);have b:=(jJ (s:=s) h).2.1;rw[List.length_drop]at a;unfold Yn;omega
theorem jx{s:za}{st:Pst}(w:za)(h:st.p<=s.length):st.p<=(j8 s st w).2.p/\(j8 s st w).2.p<=s.length/\(j8 s st w).2.e=st.e/\(j8 s st w).2.d=st.d/\((j8 s st w).1=true->st.e=0/\st.p+w.length<=(j8 s st w).2.p):=by
 have a:=jJ (s:=s) h;have c:=dD (s:=s) h;unfold j8;split
 ·exact⟨zi _,h,rfl,rfl,fun e=>by cases e⟩
 ·rename_i f;split
  ·rename_i b;rw[<-b];simp only[Pst.mv];exact⟨by omega,by omega,a.2.2.1,a.2.2.2.2,fun _=>⟨by omega,by omega⟩⟩
  ·exact⟨a.1,a.2.1,a.2.2.1,a.2.2.2.2,fun e=>by cases e⟩
theorem JB:zh prog 20 nf:=
 wZ (code:=_) MD ⟨func20,by kernel_rfl,rfl,by kernel_rfl⟩ TP _ fun cs k cs' r h=>by
  obtain⟨s,st,w,rfl,rfl,hs,Y,l,rfl,rfl⟩:=jB h;refine⟨by simp[aS,f20],?_⟩;clear h;have j:=jJ (s:=s) Y;have f:=dD (s:=s) Y;have d:iE [.ref 0 0 0] (qM TP (zG s st)) 1=some (str (Yn s st),qb (qM TP (zG s st)) 0 (some (qZ s (jg s st))),1):=Z4 rfl hs Y;simp only[zN,zG,zd,zf,zo,Nat.reduceAdd,qM,wI]at d;by_cases a:st.e=0
  ·rw[a]at d;by_cases b:Yn s st=w
   ·have c:j8 s st w=(true,(jg s st).mv ((jg s st).p+w.length)):=by simp[j8,a,b]
    rw[c];rw[b]at f;have g:=wY (((jg s st).p:Int)+w.length);simp[aS,qM,zN,zG,a,d,b,g,Pst.mv,f20];exact wx rfl rfl
   ·have c:j8 s st w=(false,jg s st):=by simp[j8,a,b]
    rw[c];have i:=vL b;simp[aS,qM,zN,zG,a,d,i,f20];exact wx rfl (by first|rfl|simp[zN,zG])
  ·have c:j8 s st w=(false,st):=by simp[j8,a]
   rw[c];simp[aS,qM,zN,zG,a,vr a,bne,f20];exact wx rfl rfl
noncomputable abbrev Cmu:Ctx:=qp prog [(20,nf),(13,nd)]
theorem ME:Gd Cmu:=qT mixed ⟨JB,ZI,trivial⟩
noncomputable abbrev C9:AM.Spec:=mP aS (fun _ _ _=>True) (fun s st w=>JO s st w) (fun _ _ _=>.qS [])
theorem Q6{s:za}{st:Pst}(w:za){Y:Hp}{id Z:Nat}(a:Y id=some (qZ s st))(hs:s.length<=20000)(Y':st.p<=s.length):C9 [.ref id 0 0,str w] Y Z=some (.qS [],qb Y id (some (qZ s (JO s st w))),Z):=va pt (fun _=>rfl) w a hs Y' trivial
theorem Qs(st:Pst)(k:Nat)(x:Int):(st.fail k x).p=st.p/\(st.fail k x).d=st.d:=by unfold Pst.fail;split<;>exact⟨rfl,rfl⟩
theorem WV{s:za}{st:Pst}(h:st.p<=s.length):st.p<=(eL s st).p/\(eL s st).p<=s.length/\(eL s st).d=st.d/\(eL s st).e≠0:=by
 have a:=jJ (s:=s) h;unfold eL;rw[(Qs _ _ _).1,(Qs _ _ _).2];refine⟨a.1,a.2.1,a.2.2.2.2,?_⟩;unfold Pst.fail;split
 ·simp
 ·assumption
theorem vQ{s:za}{st:Pst}(w:za)(h:st.p<=s.length):st.p<=(JO s st w).p/\(JO s st w).p<=s.length/\(JO s st w).d=st.d/\((JO s st w).e=0->st.e=0/\st.p+w.length<=(JO s st w).p):=by
 have a:=jx (s:=s) w h;have b:=WV (s:=s) a.2.1;unfold JO;split
 ·rename_i c;have:=a.2.2.2.2 c;exact⟨a.1,a.2.1,a.2.2.2.1,fun _=>this⟩
 ·exact⟨by omega,b.2.1,by rw[b.2.2.1];exact a.2.2.2.1,fun e=>absurd e b.2.2.2⟩
theorem Xy:zh prog 24 C9:=
 wZ (code:=_) ME ⟨func24,by kernel_rfl,rfl,by kernel_rfl⟩ TP _ fun cs e cs' r h=>by
  obtain⟨s,st,w,rfl,rfl,hs,Y,f,rfl,rfl⟩:=jB h;refine⟨by simp[aS,f24],?_⟩;clear h;have b:=jx (s:=s) w Y;have a:nf [.ref 0 0 0,str w] (qM TP (zG s st)) 1=some (yW (j8 s st w).1,qb (qM TP (zG s st)) 0 (some (qZ s (j8 s st w).2)),1):=vw w rfl hs Y;have c:=Z5 (Y:=qb (qM TP (zG s st)) 0 (some (qZ s (j8 s st w).2))) (id:=0) (Z:=1) (by simp) hs b.2.1;simp only[qM,zN,zG,zd,zf,zo,Nat.reduceAdd,wI]at a c;unfold JO;cases d:(j8 s st w).1
  ·rw[d]at a;simp[aS,qM,zN,zG,a,c,f24];exact wx rfl (by simp[zN,zG])
  ·rw[d]at a;simp[aS,qM,zN,zG,a,f24];exact wx rfl (by simp[zN,zG])
noncomputable abbrev Cwo:Ctx:=qp prog [(38,iE),(13,nd),(39,zp false [] (LH QU))]
theorem MF:AM.Good Cwo (fun g=>[39].contains g):=qH mixed ⟨Q5,by simp,ZI,by simp,Wx,fun _=>zv _ _,trivial⟩
noncomputable abbrev Gx:AM.Spec:=mP aU (fun _ _ _=>True) (fun s st _=>(aM s st).2) (fun s st _=>str (aM s st).1)
theorem dE{s:za}{st:Pst}{Y:Hp}{id Z:Nat}(a:Y id=some (qZ s st))(hs:s.length<=20000)(Y':st.p<=s.length):Gx [.ref id 0 0] Y Z=some (str (aM s st).1,qb Y id (some (qZ s (aM s st).2)),Z):=va kq (fun _=>rfl) () a hs Y' trivial
theorem iF{s:za}{st:Pst}(h:st.p<=s.length):st.p<=(aM s st).2.p/\(aM s st).2.p<=s.length/\(aM s st).2.d=st.d/\st.p+(aM s st).1.length<=(aM s st).2.p:=by
 have a:=jJ (s:=s) h;have c:=dD (s:=s) h;have b:=WV (s:=s) a.2.1;unfold aM;split
 ·exact⟨by simp only;omega,b.2.1,b.2.2.1.trans a.2.2.2.2,by simp only[zf];omega⟩
 ·simp only[Pst.mv];exact⟨by omega,by omega,a.2.2.2.2,by omega⟩
theorem fL:zh prog 23 Gx:=
 wZ (code:=_) MF ⟨func23,by kernel_rfl,rfl,by kernel_rfl⟩ TP _ fun cs u cs' r h=>by
  obtain⟨s,st,⟨⟩,rfl,rfl,hs,Y,v,rfl,rfl⟩:=jB h;refine⟨by simp[aU,f23],?_⟩;clear h;have d:=jJ (s:=s) Y;have f:=dD (s:=s) Y;have g:iE [.ref 0 0 0] (qM TP (zG s st)) 1=some (str (Yn s st),qb (qM TP (zG s st)) 0 (some (qZ s (jg s st))),1):=Z4 rfl hs Y;have k:=Z5 (Y:=qb (qM TP (zG s st)) 0 (some (qZ s (jg s st)))) (id:=0) (Z:=1) (by simp) hs d.2.1;simp only[zN,zG,zd,zf,zo,Nat.reduceAdd,qM,wI]at g k;unfold aM;obtain⟨a,m⟩:=yX (jg s st);obtain⟨w,q⟩:=yX (Yn s st);rw[m]at d;rw[m,q]at f;rw[m]at k;rw[m,q]at g;rw[m,q];have i:a.e=st.e:=d.2.2.1;by_cases j:st.e=0
  ·rw[i,j]at g k;cases w with
   |nil=>rw[zl (.inr rfl)];simp[aU,qM,zN,zG,j,g,k,f23];exact wx rfl (by first|rfl|simp[zN,zG])
   |cons c l=>
    have n:C7 (c::l)=QU c.toNat:=rfl;have t:i6.wrap ((a.p:Int)+((l.length:Int)+1))=(a.p:Int)+((l.length:Int)+1):=wN (by simp at f;omega) (by simp at f;omega);cases b:QU c.toNat
    ·rw[zl (.inr (by rw[n,b]))];simp[aU,qM,zN,zG,j,g,k,b,f23];exact wx rfl (by first|rfl|simp[zN,zG])
    ·rw[zg (by rw[n,b];simp[j])];simp[aU,qM,zN,zG,g,b,t,Pst.mv,i,j,f23];exact wx rfl (by first|rfl|simp[zN,zG])
  ·have o:¬a.e=0:=by rw[i];exact j
   rw[zl (.inl j)];simp[aU,qM,zN,zG,g,k,o,vr o,bne,f23];exact wx rfl (by first|rfl|simp[zN,zG])
theorem wu8m(n:Nat):IntKind.u8.wrap (n:Int)=((UInt8.ofNat n).toNat:Int):=by simp[IntKind.wrap,IntKind.bits,IntKind.signed]
theorem or8'(c:UInt8):IntKind.u8.wrap ((c.toNat % 2 ^ IntKind.u8.bits||| 32 % 2 ^ IntKind.u8.bits:Nat):Int)=((c||| 32).toNat:Int):=by
 have h:(c.toNat % 2 ^ IntKind.u8.bits||| 32 % 2 ^ IntKind.u8.bits:Nat)=(c||| 32).toNat:=by rw[UInt8.toNat_or,show(2 ^ IntKind.u8.bits:Nat)=256 from rfl,aT c.toNat_lt];rfl
 rw[h];exact wu8 _ (sD _)
def u7:za:=[48,49,50,51,52,53,54,55,56,57,97,98,99,100,101,102]
def Uu(c:UInt8):Int:=if jM c=true then(c.toNat-48:Nat)else if 97<=(c||| 32).toNat/\(c||| 32).toNat<=102 then Lib.indexByte u7 (c||| 32)else -1
theorem Gy(c:UInt8):Uu c=match gS c with
  |some d=>(d:Int)
  |none=>-1:=by
 unfold Uu gS;split
 ·rfl
 ·have e:(97<=(c||| 32)/\(c||| 32)<=102)↔(97<=(c||| 32).toNat/\(c||| 32).toNat<=102):=by rw[wq,wq];rfl
  by_cases h:97<=(c||| 32).toNat/\(c||| 32).toNat<=102
  ·rw[zl h,zl (e.2 h)];have a:∀x:UInt8,97<=x.toNat->x.toNat<=102->Lib.indexByte u7 x=((x.toNat-87:Nat):Int):=fun x f g=>by
    have:x.toNat=97\/x.toNat=98\/x.toNat=99\/x.toNat=100\/x.toNat=101\/x.toNat=102:=by omega
    rcases this with h|h|h|h|h|h
    ·obtain rfl:x=97:=wE.1 h;decide
    ·obtain rfl:x=98:=wE.1 h;decide
    ·obtain rfl:x=99:=wE.1 h;decide
    ·obtain rfl:x=100:=wE.1 h;decide
    ·obtain rfl:x=101:=wE.1 h;decide
    ·obtain rfl:x=102:=wE.1 h;decide
   rw[a _ h.1 h.2]
  ·rw[zg h,zg fun b=>h (e.1 b)]
theorem Gz{c:UInt8}{d:Nat}(h:gS c=some d):d<16:=by
 unfold gS at h;rw[Ql]at h;split at h
 ·rename_i a;simp at a h;omega
 ·split at h
  ·rename_i a;rw[wq,wq]at a;have b:(102:UInt8).toNat=102:=rfl;have e:=Option.some.inj h;omega
  ·cases h
noncomputable abbrev Cej:Ctx:=qp prog [(106,YI),(105,YJ),(53,zp false [] (Ir E4))]
theorem MG:AM.Good Cej (fun g=>[105,53].contains g):=qH mixed ⟨kO,by simp,kP,fun _=>kL _ _,Zh,fun _=>zv _ _,trivial⟩
noncomputable abbrev Da:AM.Spec:=mJ aU (fun _ _ _=>True) (fun s st _=>(Zy s st).2) (fun s st _=>Xb (Zy s st).1)
theorem u9{s:za}{st:Jst}{Y:Hp}{id Z:Nat}(a:Y id=some (qG s st))(hs:s.length<=1048576)(Y':st.p<=s.length):Da [.ref id 0 0] Y Z=some (Xb (Zy s st).1,qb Y id (some (qG s (Zy s st).2)),Z):=vF kq (fun _=>rfl) () a hs Y' trivial
theorem Db{s:za}{k n:Nat}{st:Jst}{c:UInt8}{d:Nat}(h:s[st.qL.p]?=some c)(a:gS c=some d):au s (k+1) n st=au s k (n*16+d) st.qL:=by simp[au,h,a]
theorem Dc{s:za}{k n:Nat}{st:Jst}(h:(s[st.qL.p]?).bind gS=none):au s (k+1) n st=(none,st.qL.fail s.length st.qL.p 10):=by rw[au,h]
theorem p8:zh prog 144 Da:=
 wZ (code:=_) MG ⟨func144,by kernel_rfl,rfl,by kernel_rfl⟩ TJ _ fun cs az cs' r h=>by
  obtain⟨s,st,⟨⟩,rfl,rfl,hs,Y,_,rfl,rfl⟩:=xf h;refine⟨by simp[aU,f144],?_⟩;clear h;obtain⟨c,W⟩:=yX (yD s st);have g0:=vG (Y:=qM TJ (zA s st)) (Z:=1) rfl hs Y;rw[W]at g0;have t:=kd (Y:=qM TJ (zA s st)) (id:=0) (Z:=1) st.p 10 rfl hs Y (by omega);refine qq (fun X Y Z=>X 0=.ref 0 0 0/\Y=qM TJ (zA s st)/\Z=1) (by simp[aU]) ?_;rintro X _ _ ⟨f,rfl,rfl⟩;refine qq (fun a Y Z=>a 0=.ref 0 0 0/\a 3=Xb c/\Y=qM TJ (zA s st)/\Z=1) (by simp[f,g0,Xb]) ?_;clear f X;rintro X _ _ ⟨f,C,rfl,rfl⟩;simp only[qM,zN,zA,Xb,zd,zf,zo,Nat.reduceAdd]at t C⊢;have hw:=wY ((st.p:Int)+1);by_cases o:st.p<s.length
  case neg=>
   have u:s.length<=st.p:=by omega
   have H:Zy s st=(0,st.fail s.length st.p 10):=by rw[Zy,zg (fun h=>o h.1),zl (.inl u)]
   rw[H];simp[f,C,o,u,t,f144];exact qB rfl rfl .id rfl
  have u:¬s.length<=st.p:=by omega
  by_cases D:c=34\/c=92\/c=47
  ·have H:Zy s st=(c,st.qL):=by rw[Zy,W,zl ⟨o,D⟩]
   rw[H];rcases D with rfl|rfl|rfl
   ·simp[f,C,o,hw,Jst.qL,f144];exact qB rfl rfl .id rfl
   ·simp[f,C,o,hw,Jst.qL,f144];exact qB rfl rfl .id rfl
   ·simp[f,C,o,hw,Jst.qL,f144];exact qB rfl rfl .id rfl
  simp only[not_or]at D;have q1:((c.toNat:Int)==34)=false:=ee 34 D.1;have q2:((c.toNat:Int)==92)=false:=ee 92 D.2.1;have q3:((c.toNat:Int)==47)=false:=ee 47 D.2.2;by_cases hu:c=117
  case neg=>
   have q4:((c.toNat:Int)==117)=false:=ee 117 hu;have H:Zy s st=(0,st.fail s.length st.p 10):=by rw[Zy,W,zg (by simp[D]),zl (.inr hu)]
   rw[H];simp[f,C,o,u,q1,q2,q3,q4,bne,t,f144];exact qB rfl rfl .id rfl
  have H:Zy s st=match(au s 4 0 st).1 with
    |none=>(0,(au s 4 0 st).2)
    |some n=>(UInt8.ofNat n,if n<32\/126<n then(au s 4 0 st).2.fail s.length st.p 10 else(au s 4 0 st).2):=by
   rw[Zy,W,zg (by simp[D]),zg (by simp[hu,u])];cases (au s 4 0 st).1<;>rfl
  rw[H];subst hu;refine qq (fun a Y Z=>a 0=.ref 0 0 0/\Y=qM TJ (zA s st)/\Z=1) (by simp[f,C,o,u,qM,zN,zA]) ?_;clear f C X;rintro X _ _ ⟨f,rfl,rfl⟩;simp only[qM,zN,zA,zd,zf,zo,Nat.reduceAdd];simp[f];refine qA (fun k a Y Z=>a 0=.ref 0 0 0/\Z=1/\∃n q,a 4=int st.p/\a 5=int (n:Nat)/\a 66=int k/\q=st.p+k/\q<s.length/\n<16 ^ k/\Y=qM TJ (zA s ⟨q,st.e,st.i⟩)/\au s (4-k) n ⟨q,st.e,st.i⟩=au s 4 0 st) 4 ⟨by simp[f],by simp,0,st.p,by simp,by simp,by simp,rfl,o,by simp,by simp[qM,zN,zA],rfl⟩ ?_;clear f g0 t hw X;rintro k X _ _ hk ⟨f,rfl,n,q,l,m,b,hq',hql,hn,rfl,hx⟩;have hn16:n<65536:=q8 hn (SB (by omega) hk);have w1:=wP q;by_cases hk4:k<4
  ·have M:(k:Int)<4:=by omega
   have w2:=wP k;obtain⟨c2,N⟩:=yX (yD s ⟨q+1,st.e,st.i⟩);have g:=vG (st:=⟨q+1,st.e,st.i⟩) (Y:=qM TJ (zA s ⟨q+1,st.e,st.i⟩)) (Z:=1) rfl hs (by simp only;omega);rw[N]at g;have t:=kd (st:=⟨q+1,st.e,st.i⟩) (Y:=qM TJ (zA s ⟨q+1,st.e,st.i⟩)) (id:=0) (Z:=1) (q+1) 10 rfl hs (by simp only;omega) (by omega);have z:=or8' c2;have j:Uu c2=if jM c2=true then((c2.toNat-48:Nat):Int)else if 97<=(c2||| 32).toNat/\(c2||| 32).toNat<=102 then Lib.indexByte u7 (c2||| 32)else -1:=rfl
   obtain⟨x,E⟩:=yX (c2||| 32);rw[E]at z j;have gi:∀(Y:Hp) (Z:Nat),zp false [] (Ir E4) [.v (.string ⟨#[48,49,50,51,52,53,54,55,56,57,97,98,99,100,101,102]⟩),.v (.int .u8 x.toNat)] Y Z=some (int (Lib.indexByte u7 x),Y,Z):=fun Y Z=>cC E4 u7 x Y Z (by decide) rfl
   refine qq (fun a Y Z=>(a 0=.ref 0 0 0/\a 4=int st.p/\a 5=int n/\a 66=int k)/\a 67=yW true/\Y=qM TJ (zA s ⟨q,st.e,st.i⟩)/\Z=1) (by simp[f,l,m,b,M]) ?_;clear f l m b X;rintro X _ _ ⟨⟨f,l,m,b⟩,P,rfl,rfl⟩;refine qq (fun a Y Z=>(a 0=.ref 0 0 0/\a 4=int st.p/\a 5=int n/\a 66=int k)/\Y=qM TJ (zA s ⟨q,st.e,st.i⟩)/\Z=1) (by simp[f,l,m,b,P]) ?_;clear f l m b P X;rintro X _ _ ⟨⟨f,l,m,b⟩,rfl,rfl⟩;rw[gB,fb];refine qq (fun a Y Z=>(a 0=.ref 0 0 0/\a 4=int st.p/\a 5=int n/\a 66=int k)/\Y=qM TJ (zA s ⟨q+1,st.e,st.i⟩)/\Z=1) (by simp[f,l,m,b,w1,qM,zN,zA]) ?_;clear f l m b X;rintro X _ _ ⟨⟨f,l,m,b⟩,rfl,rfl⟩;refine qq (fun a Y Z=>(a 0=.ref 0 0 0/\a 4=int st.p/\a 5=int n/\a 66=int k)/\a 6=int (Lib.indexByte u7 x)/\Y=qM TJ (zA s ⟨q+1,st.e,st.i⟩)/\Z=1) (by simp[f,l,m,b,g,gi,ak,z]) ?_;clear f l m b X;rintro X _ _ ⟨⟨f,l,m,b⟩,y,rfl,rfl⟩;refine qq (fun a Y Z=>(a 0=.ref 0 0 0/\a 4=int st.p/\a 5=int n/\a 66=int k)/\a 6=int (Uu c2)/\Y=qM TJ (zA s ⟨q+1,st.e,st.i⟩)/\Z=1) ?_ ?_
   ·have hlt8:=sD c2;have L:=Ql c2;by_cases c1:48<=c2.toNat
    ·have F:(48:Int)<=c2.toNat:=by omega
     by_cases c3:c2.toNat<=57
     ·have Q:(c2.toNat:Int)<=57:=by omega
      have w3:IntKind.u8.wrap ((c2.toNat:Int)-48)=((c2.toNat-48:Nat):Int):=by rw[show(c2.toNat:Int)-48=((c2.toNat-48:Nat):Int) by omega];exact wu8 _ (by omega)
      have w4:=wY ((c2.toNat-48:Nat):Int);simp[c1,c3]at L;rw[L,zl rfl]at j;simp[f,l,m,b,y,g,F,Q,w3,w4,j]
     ·have Q:¬(c2.toNat:Int)<=57:=by omega
      simp[c1,c3]at L;rw[L,zg (by decide)]at j;by_cases R:97<=x.toNat
      ·have A:¬(x.toNat:Int)<97:=by omega
       by_cases S:x.toNat<=102
       ·have I:¬(102:Int)<x.toNat:=by omega
        rw[zl ⟨R,S⟩]at j;simp[f,l,m,b,y,g,F,Q,A,I,ak,z,j]
       ·have I:(102:Int)<x.toNat:=by omega
        rw[zg (fun h=>S h.2)]at j;simp[f,l,m,b,y,g,F,Q,A,I,ak,z,j]
      ·have A:(x.toNat:Int)<97:=by omega
       rw[zg (fun h=>R h.1)]at j;simp[f,l,m,b,y,g,F,Q,A,ak,z,j]
    ·have F:¬(48:Int)<=c2.toNat:=by omega
     simp[c1]at L;rw[L,zg (by decide)]at j;by_cases R:97<=x.toNat
     ·have A:¬(x.toNat:Int)<97:=by omega
      by_cases S:x.toNat<=102
      ·have I:¬(102:Int)<x.toNat:=by omega
       rw[zl ⟨R,S⟩]at j;simp[f,l,m,b,y,g,F,A,I,ak,z,j]
      ·have I:(102:Int)<x.toNat:=by omega
       rw[zg (fun h=>S h.2)]at j;simp[f,l,m,b,y,g,F,A,I,ak,z,j]
     ·have A:(x.toNat:Int)<97:=by omega
      rw[zg (fun h=>R h.1)]at j;simp[f,l,m,b,y,g,F,A,ak,z,j]
   clear f l m b y X;rintro X _ _ ⟨⟨f,l,m,b⟩,y,rfl,rfl⟩;clear g gi z j E x;have w:=Gy c2;have G:∀J,(s[(Jst.qL ⟨q,st.e,st.i⟩).p]?).bind gS=none->J=(Jst.fail s.length ⟨q+1,st.e,st.i⟩ (q+1) 10)->au s 4 0 st=(none,J):=fun J h1 h2=>by rw[<-hx,show 4-k=(3-k)+1 by omega,Dc h1,h2];rfl
   by_cases hq1:q+1<s.length
   case neg=>
    have B:(s.length:Int)<=q+1:=by omega
    have K:=G _ (by rw[q5 (by simp only[Jst.qL];omega)];rfl) rfl;rw[K];simp only[qM,zN,zA,zd,zf,zo,Nat.reduceAdd,yp,qz]at t⊢;simp[f,l,m,b,y,B,t,f144];exact qB rfl rfl .id rfl
   have B:¬(s.length:Int)<=q+1:=by omega
   have T:s[q+1]?=some c2:=by rw[<-N,yD,zm hq1];rfl
   cases U:gS c2 with
   |none=>rw[U]at w;simp only at w;have K:=G _ (by simp only[Jst.qL,T,zH,U]) rfl;rw[K];simp only[qM,zN,zA,zd,zf,zo,Nat.reduceAdd,yp,qz]at t⊢;simp[f,l,m,b,y,B,w,t,f144];exact qB rfl rfl .id rfl
   |some d=>
    rw[U]at w;simp only at w;have hd16:=Gz U;have hd0:¬(d:Int)<0:=by omega
    have w3:=wY ((n:Int)*16);have w4:i6.wrap ((n:Int)*16+d)=((n*16+d:Nat):Int):=by rw[wN (by omega) (by omega)];omega
    have hx2:=Db (s:=s) (k:=3-k) (n:=n) (st:=⟨q,st.e,st.i⟩) T U;simp only[qM,zN,zA,zd,zf,zo,Nat.reduceAdd,yp,qz];simp[f,l,m,b,y,B,w,hd0,w2,w3,w4];refine⟨by omega,n*16+d,by omega,by omega,by rw[HF];omega,by rw[show(q:Int)+1=st.p+(k+1) by omega],?_⟩;rw[show st.p+(k+1)=q+1 by omega,<-hx,show 4-k=(3-k)+1 by omega,hx2];rfl
  ·obtain rfl:k=4:=by omega
   have hr:au s 4 0 st=(some n,⟨q+1,st.e,st.i⟩):=hx.symm;rw[hr];have t:=kd (st:=⟨q+1,st.e,st.i⟩) (Y:=qM TJ (zA s ⟨q+1,st.e,st.i⟩)) (id:=0) (Z:=1) st.p 10 rfl hs (by simp only;omega) (by omega);have wb:=wu8m n;simp only[qM,zN,zA,zd,zf,zo,Nat.reduceAdd,yp,qz]at t⊢;by_cases n1:n<32
   ·have m1:(n:Int)<32:=by omega
    simp[f,l,m,b,w1,m1,n1,t,wb,f144];exact qB rfl rfl .id rfl
   ·have m1:¬(n:Int)<32:=by omega
    by_cases n2:126<n
    ·have m2:(126:Int)<n:=by omega
     simp[f,l,m,b,w1,m1,m2,n1,n2,t,wb,f144];exact qB rfl rfl .id rfl
    ·have m2:¬(126:Int)<n:=by omega
     simp[f,l,m,b,w1,m1,m2,n1,n2,wb,f144];exact qB rfl rfl .id rfl
end Go.Q
namespace Go.AM
variable{dr:Prop}
section
variable{C:Ctx}{pf:FuncId->Bool}{N:Nat}
@[simp]theorem JC(y:Code)(K:Exit->St->Prop)(st:St):ss dr C N y K .normal st=Wp dr C N y st K:=rfl
@[simp]theorem Uv(y:Code)(K:Exit->St->Prop)(st:St):ss dr C N y K .ret st=K .ret st:=rfl
@[simp]theorem Uw(y:Code)(K:Exit->St->Prop)(i:Nat)(st:St):ss dr C N y K (.exit i) st=K (.exit i) st:=rfl
@[simp]theorem R4(I:Nat->St->Prop)(n:Nat)(K:Exit->St->Prop)(st:St):gJ I n K .normal st=∃m,m<n/\I m st:=rfl
@[simp]theorem R5(I:Nat->St->Prop)(n:Nat)(K:Exit->St->Prop)(st:St):gJ I n K .ret st=K .ret st:=rfl
@[simp]theorem R6(I:Nat->St->Prop)(n i:Nat)(K:Exit->St->Prop)(st:St):gJ I n K (.exit i) st=K (.exit i) st:=rfl
theorem Wp.cut(f:j9 dr C pf){a b:Code}{st:St}{K:Exit->St->Prop}(Q:(Nat->O)->Hp->Nat->Prop)(c:jS pf C.dyn C.AV C.bk N a=true)(g:vB C a st (uj (fun st=>Q st.X st.Y st.Z) K))(h:∀X Y Z,Q X Y Z->Wp dr C N b ⟨X,Y,Z⟩ K):Wp dr C N (.seq a b) st K:=
 Wp.seq ((Wp.of f c g).mono fun e i d=>by
  cases e<;>first
   |exact h _ _ _ d
   |exact d)
theorem fM{a:Array Oper}{K:St->Prop}(j:j9 dr C pf):∀{l:List Nat} {c:List Oper} {e:List Nat} {st b:St},l.map (fun i=>a[i]?)=c.map some->(∀o∈c,∀d,o.dst=some d->d<N)->kh C a c st=some b->KH dr C N a e b K->KH dr C N a (l++e) st K
 |[],[],e,st,b,_,_,h,f=>by simp only[kh]at h;injection h with h;subst h;exact f
 |[],_::_,_,_,_,h,_,_,_=>by simp at h
 |_::_,[],_,_,_,h,_,_,_=>by simp at h
 |i::l,o::c,e,st,b,g,k,h,f=>by
  simp only[zL,zn]at g;simp only[kh]at h;split at h
  ·rename_i s hs;exact KH.cons j g.1 (k o (by simp)) hs (fM j g.2 (fun o m=>k o (by simp[m])) h f)
  ·cases h
theorem KH.pre(g:j9 dr C pf){a:Array Oper}{l f:List Nat}{c:List Oper}{st:St}{K:St->Prop}(j:l.map (fun i=>a[i]?)=c.map some)(k:c.all (fun o=>match o.dst with|some d=>decide (d<N)|none=>true)=true)(h:bV C a c st fun b=>KH dr C N a f b K):KH dr C N a (l++f) st K:=by
 obtain⟨b,m,n⟩:=h;exact fM g j (fun o p d e=>by have:=qc.1 k o p;rw[e]at this;simpa using this) m n
theorem KH.gb(k:j9 dr C pf){c:Array Oper}{j:List Nat}{st:St}{K:St->Prop}(a b:Nat)(n:a+b<=c.size)(l:c.toList.all (fun o=>match o.dst with|some d=>decide (d<N)|none=>true)=true)(h:bV C c ((c.toList.drop a).take b) st fun f=>KH dr C N c j f K):KH dr C N c (List.range' a b++j) st K:=by
 refine KH.pre k ?_ ?_ h
 ·apply List.ext_getElem?;intro i;rw[z8,z8,wG];by_cases g:i<b
  ·have e:(List.range' a b)[i]?=some (a+i):=by rw[List.getElem?_range' g];simp
   rw[e,zl g,wu];have:a+i<c.size:=by omega
   simp[this]
  ·rw[zg g,q5 (by simp;omega)];rfl
 ·exact qc.2 fun o m=>qc.1 l o (aR _ _ (W4 _ _ m))
@[simp]theorem zax(P:Program)(t:TypeId)(a:Addr):Yp P t (.v (.slice (some a) 0 0))=(w5 P t).map fun _=>.v (.int .i64 0):=rfl
end
end Go.AM
namespace Go.Q
theorem _root_.Go.AM.qV.put{Y:Hp}{Z e s j:Nat}{v:O}{xs:List zb}(h:qV Y Z e s v xs)(a:∀n,v≠.own j 0 n)(b:Option Blk):qV (qb Y j b) Z e s v xs:=
 h.same (zi _) fun id n e=>wA _ _ _ _ (by rintro rfl;exact a n e)
theorem fN{Y:Hp}{Z:Nat}{v:O}{b:za}(g:qV Y Z 5 1 v (b.map ao))(c:UInt8)(h:b.length<1000000000000):∃Y2,yM prog (qb Y Z (some ⟨5,1,true,[ao c]⟩)) (Z+1) 35 35 v (.own Z 0 1)=some (.own (Z+1) 0 (b.length+1),Y2,Z+2)/\qV Y2 (Z+2) 5 1 (.own (Z+1) 0 (b.length+1)) ((b++[c]).map ao)/\∀j,j<Z->(∀n,v≠.own j 0 n)->Y2 j=Y j:=by
 have a:=g.jt (P:=prog) (t:=35) (c:=ao c) el35 sz5 by5 ze5 rfl (by omega) (by simp[maxLen];omega) (by simp;omega);have d:=qV.after (Y:=Y) (Z:=Z) (e:=5) (s:=1) (v:=v) (xs:=b.map ao) (c:=ao c) (tmp:=some ⟨5,1,true,[ao c]⟩);rw[yK]at a;refine⟨_,a,?_,fun j i f=>?_⟩
 ·rw[JI];simpa using d
 ·rw[wA _ _ _ _ (by omega),yf g _ j f,wA _ _ _ _ (by omega)]
theorem sT{s:za}{st:Jst}(h:st.p<=s.length):st.p<=(Zy s st).2.p/\(Zy s st).2.p<=s.length:=by
 have a:∀(k n:Nat) (st:Jst),st.p<s.length->st.p<=(au s k n st).2.p/\(au s k n st).2.p<=s.length:=by
  intro k
  induction k with
  |zero=>intro n st h;simp only[au,Jst.qL];omega
  |succ k e=>
   intro n st h;rw[au];split
   ·rename_i d f;obtain⟨c,b,_⟩:=zT.1 f;have:=(ze.1 b).1;have:=e (n*16+d) st.qL this;simp only[Jst.qL]at this⊢;omega
   ·simp only[vl,Jst.qL];omega
 unfold Zy;split
 ·rename_i j;simp only[Jst.qL];omega
 ·split
  ·simp only[vl];omega
  ·rename_i b g;have i:st.p<s.length:=by refine rY fun l=>g (.inl (by omega))
   have:=a 4 0 st i;split
   ·exact this
   ·simp only;split
    ·rw[vl];exact this
    ·exact this
theorem p9{s:za}:∀(k:Nat) (b:za) (st:Jst),st.p<=s.length->st.p<=(gT s k b st).2.p/\(gT s k b st).2.p<=s.length/\(gT s k b st).1.length<=b.length+((gT s k b st).2.p-st.p)
 | 0,b,st,h=>by simp only[gT];exact⟨zi _,h,by simp⟩
 |k+1,b,st,h=>by
  rw[gT];split
  ·exact⟨zi _,h,by simp⟩
  ·split
   ·simp only[vl];exact⟨zi _,h,by simp⟩
   ·rename_i f d;have e:st.p<s.length:=by refine rY fun g=>d (.inl (by omega))
    split
    ·simp only[Jst.qL];exact⟨by omega,by omega,Nat.le_add_right _ _⟩
    ·split
     ·have c:=sT (s:=s) (st:=st.qL) (by simp only[Jst.qL];omega);have a:=p9 (s:=s) k (b++[(Zy s st.qL).1]) (Zy s st.qL).2 c.2;simp only[Jst.qL,qK,jZ]at c a⊢;omega
     ·have a:=p9 (s:=s) k (b++[yD s st]) st.qL (by simp only[Jst.qL];omega);simp only[Jst.qL,qK,jZ]at a⊢;omega
theorem VD{s:za}{st:Jst}(h:st.p<=s.length):st.p<=(yR s st).2.p/\(yR s st).2.p<=s.length/\(yR s st).1.length<=(yR s st).2.p-st.p:=by
 have a:=WD (s:=s) 34 h;unfold yR;split
 ·have:=p9 (s:=s) (s.length+1) [] (xH s st 34).2 a.2;simp only[zf,zo]at this;omega
 ·exact⟨a.1,a.2,by simp⟩
noncomputable abbrev Ctj:Ctx:=qp prog [(106,YI),(105,YJ),(143,B8),(144,Da)]
theorem MH:AM.Good Ctj (fun g=>[105].contains g):=qH mixed ⟨kO,by simp,kP,fun _=>kL _ _,Jq,by simp,p8,by simp,trivial⟩
noncomputable abbrev GA:AM.Spec:=mJ aU (fun _ _ _=>True) (fun s st _=>(yR s st).2) (fun s st _=>str (yR s st).1)
theorem dF{s:za}{st:Jst}{Y:Hp}{id Z:Nat}(a:Y id=some (qG s st))(hs:s.length<=1048576)(Y':st.p<=s.length):GA [.ref id 0 0] Y Z=some (str (yR s st).1,qb Y id (some (qG s (yR s st).2)),Z):=vF kq (fun _=>rfl) () a hs Y' trivial
def Yg(s:za)(st:Jst):Nat:=if st.e=0 then s.length-st.p+1 else 0
def NF(s:za)(c:Jst)(n:Nat)(st:St):Prop:=st.X 0=.ref 0 0 0/\0<st.Z/\∃b a k,qV st.Y st.Z 5 1 (st.X 3) (b.map ao)/\st.Y 0=some (qG s a)/\a.p<=s.length/\b.length<=a.p/\Yg s a=n/\n<=k/\gT s k b a=yR s c
theorem NF.congr{s:za}{b:Jst}{n:Nat}{X a:Nat->O}{Y:Hp}{Z:Nat}(h:NF s b n ⟨X,Y,Z⟩)(c:a 0=X 0)(d:a 3=X 3):NF s b n ⟨a,Y,Z⟩:=by unfold NF at h⊢;simp only[c,d];exact h
theorem X7:zh prog 108 GA:=
 yQ (C:=Ctj) func108 (by kernel_rfl) rfl TJ _ fun cs az cs' r h=>by
  obtain⟨s,st,⟨⟩,rfl,rfl,hs,Y,_,rfl,rfl⟩:=xf h;refine⟨by simp[aU,f108],?_⟩;clear h;have l:=MH;have Q:B8 [.ref 0 0 0,.v (.int .u8 34)] (qM TJ (zA s st)) 1=some (yW (xH s st 34).1,qb (qM TJ (zA s st)) 0 (some (qG s (xH s st 34).2)),1):=YK 34 rfl hs Y;refine Wp.cut l (fun X Y Z=>X 0=.ref 0 0 0/\Y=qM TJ (zA s st)/\Z=1) (by kernel_rfl) (by simp[aU]) ?_;rintro X _ _ ⟨f,rfl,rfl⟩;have L:=WD (s:=s) 34 Y;cases t:(xH s st 34).1
  ·have i:yR s st=([],(xH s st 34).2):=by rw[yR,t];rfl
   rw[t]at Q;refine Wp.seq (Wp.of l (by kernel_rfl) ?_);simp[f,Q,i,f108];exact wx rfl (by simp)
  have i:gT s (s.length+1) [] (xH s st 34).2=yR s st:=by rw[yR,t];rfl
  rw[t]at Q;obtain⟨a,H⟩:=yX ((xH s st 34).2);rw[H]at Q i L;refine Wp.cut l (fun d Y Z=>d 0=.ref 0 0 0/\Y 0=some (qG s a)/\Z=1) (by kernel_rfl) (by simp[f,Q]) ?_;clear Q f t H X;rintro X Y1 _ ⟨f,t,rfl⟩;refine Wp.cut l (fun d Y Z=>NF s st (Yg s a) ⟨d,Y,Z⟩) (by kernel_rfl) ?_ ?_
  ·simp[f];refine⟨by simp[f],by simp,[],a,s.length+1,.inl ⟨by simp,rfl⟩,t,L.2,by simp,rfl,?_,i⟩;unfold Yg;split<;>omega
  clear f t X Y1 i L;rintro X Y1 Z hI;refine Wp.seq (Wp.block (Wp.loop (NF s st) _ hI ?_));clear hI X Y1 Z a;rintro n ⟨X,Y1,Z⟩ ⟨f,F,b,a,k,E,t,M,HG,hn,hnk,i⟩;simp only at f F E t;have m:=wc E t rfl;by_cases I:a.e=0
  case neg=>
   have ht2:yR s st=([],a):=by
    rw[<-i];cases k with
    |zero=>rfl
    |succ k=>rw[gT,zl I]
   have g:=t;simp only[zN,zA,zd,zf,zo,Nat.reduceAdd]at g;refine Wp.seq (Wp.of l (by kernel_rfl) ?_);simp[f,g,I,vr I];refine Wp.of l (by kernel_rfl) ?_;rw[ht2];simp[f108];exact wx rfl t
  have zaY:s.length-a.p+1=n:=by rw[<-hn,Yg,zl I]
  obtain⟨k,rfl⟩:∃k',k=k'+1:=⟨k-1,by omega⟩;obtain⟨c,R⟩:=yX (yD s a);have g1:=vG (Z:=Z) t hs M;rw[R]at g1;have g:=t;simp only[zN,zA,zd,zf,zo,Nat.reduceAdd]at g;refine Wp.cut l (fun d Y' Z'=>d 0=.ref 0 0 0/\d 3=X 3/\Y'=Y1/\Z'=Z) (by kernel_rfl) (by simp[f,g,I]) ?_;rintro u Y1 Z ⟨e0,w,rfl,rfl⟩;rw[<-w]at E m;clear f w X;refine Wp.block ?_;refine Wp.cut l (fun d Y' Z'=>d 0=.ref 0 0 0/\d 3=u 3/\d 4=Xb c/\Y'=Y1/\Z'=Z) (by kernel_rfl) (by simp[e0,g1,Xb]) ?_;rintro X Y1 Z ⟨f,w,B,rfl,rfl⟩;rw[<-w]at E m;clear e0 w u;refine Wp.block ?_;rw[gT,zg (by simpa using I)]at i;simp only[Xb]at B;have c8:=sD c;have S:(c<32)↔c.toNat<32:=wK;have T:(126<c)↔126<c.toNat:=wK;have gf:=kd (Z:=Z) a.p 10 t hs M (by omega);have o:s.length<=a.p\/yD s a<32\/126<yD s a->NF s st (Yg s (a.fail s.length a.p 10)) ⟨X,qb Y1 0 (some (qG s (a.fail s.length a.p 10))),Z⟩/\Yg s (a.fail s.length a.p 10)<n:=fun h=>by
   rw[zl h]at i;have hl:Yg s (a.fail s.length a.p 10)=0:=by simp[Yg,Jst.fail,I]
   refine⟨⟨f,F,b,a.fail s.length a.p 10,0,E.put m _,by simp,by rw[vl];exact M,by rw[vl];exact HG,rfl,by omega,?_⟩,by omega⟩;rw[<-i];rfl
  by_cases J:s.length<=a.p
  ·obtain⟨U,y⟩:=o (.inl J);refine Wp.of l (by kernel_rfl) ?_;simp[f,B,g,J,gf];exact⟨_,y,U.congr (by simp) (by simp)⟩
  have s1':¬(s.length:Int)<=a.p:=by omega
  by_cases s2:c<32
  ·obtain⟨U,y⟩:=o (.inr (.inl (by rw[R];exact s2)));have z:(c.toNat:Int)<32:=by have:=S.1 s2;omega
   refine Wp.of l (by kernel_rfl) ?_;simp[f,B,g,J,z,gf];exact⟨_,y,U.congr (by simp) (by simp)⟩
  have z:¬(c.toNat:Int)<32:=by have h2:¬c.toNat<32:=fun h=>s2 (S.2 h);omega
  by_cases s3:126<c
  ·obtain⟨U,y⟩:=o (.inr (.inr (by rw[R];exact s3)));have D:(126:Int)<c.toNat:=by have:=T.1 s3;omega
   refine Wp.of l (by kernel_rfl) ?_;simp[f,B,g,J,z,D,gf];exact⟨_,y,U.congr (by simp) (by simp)⟩
  have D:¬(126:Int)<c.toNat:=by have h2:¬126<c.toNat:=fun h=>s3 (T.2 h);omega
  rw[zg (by rw[R];simp[J,s2,s3]),R]at i;clear o;have hw:=wY ((a.p:Int)+1);by_cases c1:c=34
  ·subst c1;rw[zl rfl]at i;rw[<-i];refine Wp.cut l (fun d Y' Z'=>d 0=.ref 0 0 0/\d 3=X 3/\d 4=.v (.int .u8 34)/\d 26=yW false/\Y'=Y1/\Z'=Z) (by kernel_rfl) (by simp[f,B,g,J,z,D]) ?_;clear f B;rintro u Y1 Z ⟨f,w,B,W,rfl,rfl⟩;rw[<-w]at E m;clear w X;refine Wp.cond (b:=false) (by simp[AM.get,W]) ?_;simp only[zq,qf];refine Wp.cut l (fun d Y' Z'=>d 0=.ref 0 0 0/\d 3=u 3/\d 51=yW true/\Y'=Y1/\Z'=Z) (by kernel_rfl) (by simp[f,B]) ?_;clear f B W;rintro X Y1 Z ⟨f,w,h51,rfl,rfl⟩;rw[<-w]at E m;clear w u;refine Wp.cond (b:=true) (by simp[AM.get,h51]) ?_;simp only[qa];refine Wp.cut l (fun d Y' Z'=>d 3=X 3/\Y'=qb Y1 0 (some (qG s a.qL))/\Z'=Z) (by kernel_rfl) (by simp[f,g,hw,zN,zA,Jst.qL]) ?_;clear f h51;rintro u _ _ ⟨w,rfl,rfl⟩;have hO2:=E.put m (some (qG s a.qL));rw[<-w]at hO2;refine Wp.seq (Wp.region ?_);show KH True Ctj _ _ (List.range' 0 1++(1::(List.range' 2 1++[]))) _ _;refine KH.gb l 0 1 (by decide) (by decide) ?_;simp;refine KH.SS (q:=u 3) (s:=b) rfl (by decide) (by simp[AM.get]) hO2.view un35 un5 un9 ?_;refine KH.gb l 2 1 (by decide) (by decide) ?_;simp;refine KH.nil ?_;simp only[BE,JC];refine Wp.of l (by kernel_rfl) ?_;simp[f108];exact wx rfl (by simp)
  have c1':((c.toNat:Int)==34)=false:=ee 34 c1;rw[zg c1]at i;by_cases c2:c=92
  ·subst c2;rw[zl rfl]at i;have lr:qb Y1 0 (some (qG s a.qL)) 0=some (qG s a.qL):=by simp
   have hal:a.qL.p<=s.length:=by simp only[Jst.qL];omega
   have ge:=u9 (id:=0) (Z:=Z) lr hs hal;have G:=sT (s:=s) hal;obtain⟨x,A,hx⟩:∃x A,Zy s a.qL=(x,A):=⟨_,_,rfl⟩;rw[hx]at ge i G;simp only at ge i G;obtain⟨Y2,a1,O2,f2⟩:=fN (E.put m (some (qG s A))) x (by omega);have N:Y2 0=some (qG s A):=by rw[f2 0 F m];simp
   rw[wI]at ge;simp only[zN,zA,Jst.qL,ao,Xb,zd,zf,zo,Nat.reduceAdd,yp,qz]at ge a1;refine Wp.of l (by kernel_rfl) ?_;simp[f,B,g,J,z,D,zu,zP,zr,ge,a1,hw];simp only[Jst.qL]at G;have P:Yg s A<n:=by unfold Yg;split<;>omega
   exact⟨_,P,by simp[f],by simp,b++[x],A,k,by simpa using O2,N,G.2,by simp;omega,rfl,by omega,i⟩
  have c2':((c.toNat:Int)==92)=false:=ee 92 c2;rw[zg c2]at i;obtain⟨Y2,a1,O2,f2⟩:=fN E c (by omega);have N:Y2 0=some (qG s a):=by rw[f2 0 F m];exact t
  have K:=N;simp only[zN,zA,zd,zf,zo,Nat.reduceAdd]at K;simp only[ao]at a1;have y:a.p<s.length:=by omega
  have P:Yg s a.qL<n:=by simp only[Yg,Jst.qL,I,qa];omega
  refine Wp.of l (by kernel_rfl) ?_;simp[f,B,g,J,z,D,c1',c2',zu,zP,zr,a1,K,hw];have O3:=O2.put (j:=0) (fun n e=>by injection e with e;omega) (some (qG s a.qL));simp only[zN,zA,Jst.qL,zd,zf,zo,Nat.reduceAdd,yp,qz]at O3;exact⟨_,P,by simp[f],by simp,b++[c],a.qL,k,by simpa using O3,by simp[zN,zA,Jst.qL],by simp only[Jst.qL];omega,by simp[Jst.qL];omega,rfl,by omega,i⟩
structure XS (v:Val) (o3 o4:O) (Y:Hp) (Z:Nat):Prop where
 b0:Y 0=some ⟨48,5,false,[[int v.kind,int v.n,str v.s,o3,o4]]⟩
 b1:Y 1=some ⟨48,5,false,[[int 0,int 0,.v (.string ⟨#[]⟩),.nil,.nil]]⟩
 s3:qV Y Z 48 5 o3 (v.items.map Val.V)
 s4:qV Y Z 65 6 o4 (v.fields.map q6)
 d3:∀id m,id<2->o3≠.own id 0 m
 d4:∀id m,id<2->o4≠.own id 0 m
 d:∀id m m',o3=.own id 0 m->o4≠.own id 0 m'
 HI:2<=Z
structure Ctxt where
 key:List UInt8
 attrs:List (List UInt8×Val)
theorem ra(a b:UInt8):a<b\/a=b\/b<a:=by
 rcases Nat.lt_trichotomy a.toNat b.toNat with h|h|h
 ·exact .inl (wK.2 h)
 ·exact .inr (.inl (wE.1 h))
 ·exact .inr (.inr (wK.2 h))
theorem dG(a:UInt8):¬a<a:=fun h=>Nat.lt_irrefl _ (wK.1 h)
theorem ng{a b:UInt8}(h:a<b):¬b<a:=fun c=>Nat.lt_asymm (wK.1 h) (wK.1 c)
theorem Dd{a b c:UInt8}(h:a<b)(d:b<c):a<c:=wK.2 (Nat.lt_trans (wK.1 h) (wK.1 d))
theorem iG:∀a b:za,jb a b<0↔Op.bytesLess a b=true
 |[],[]=>by simp[jb,Lib.compareBytes,Op.bytesLess]
 |[],_::_=>by simp[jb,Lib.compareBytes,Op.bytesLess]
 |_::_,[]=>by simp[jb,Lib.compareBytes,Op.bytesLess]
 |a::x,b::y=>by
  have d:=iG x y;unfold jb at d⊢;rcases ra a b with h|rfl|h
  ·simp[Lib.compareBytes,Op.bytesLess,h]
  ·simp[Lib.compareBytes,Op.bytesLess,dG,d]
  ·have c:¬a=b:=fun e=>dG b (e ▸ h)
   simp[Lib.compareBytes,Op.bytesLess,h,ng h,c]
theorem fO:∀a b:za,jb a b=0↔a=b
 |[],[]=>by simp[jb,Lib.compareBytes]
 |[],_::_=>by simp[jb,Lib.compareBytes]
 |_::_,[]=>by simp[jb,Lib.compareBytes]
 |a::x,b::y=>by
  have d:=fO x y;unfold jb at d⊢;rcases ra a b with h|rfl|h
  ·have c:¬a=b:=fun e=>dG b (e ▸ h)
   simp[Lib.compareBytes,h,c]
  ·simp[Lib.compareBytes,dG,d]
  ·have c:¬a=b:=fun e=>dG b (e ▸ h)
   simp[Lib.compareBytes,h,ng h,c]
theorem dH:∀{a b c:za},Op.bytesLess a b=true->Op.bytesLess b c=true->Op.bytesLess a c=true
 |_,[],_,h,_=>by simp[Op.bytesLess]at h
 |_,_::_,[],_,h=>by simp[Op.bytesLess]at h
 |[],_::_,_::_,_,_=>by simp[Op.bytesLess]
 |a::x,b::y,c::z,e,d=>by
  simp only[Op.bytesLess,qU,qE,zs,yJ]at e d⊢;rcases e with e|⟨rfl,e⟩
  ·rcases d with d|⟨rfl,d⟩
   ·exact .inl (Dd e d)
   ·exact .inl e
  ·rcases d with d|⟨rfl,d⟩
   ·exact .inl d
   ·exact .inr ⟨rfl,dH e d⟩
theorem Y4:∀{a b:za},FQ a b=false->Op.bytesLess b a=true
 |[],[],h=>by simp[FQ]at h
 |[],_::_,h=>by simp[FQ,Op.bytesLess]at h
 |_::_,[],_=>by simp[Op.bytesLess]
 |a::x,b::y,h=>by
  simp only[FQ,Op.bytesLess,Q8,Ew,Bool.and_eq_false_iff,wv]at h;obtain⟨⟨d,c⟩,f⟩:=h;simp only[Op.bytesLess,qU,qE,zs,yJ];rcases ra a b with g|rfl|g
  ·exact absurd g d
  ·refine .inr ⟨rfl,Y4 ?_⟩;rcases c with c|c
   ·exact absurd rfl c
   ·have:¬x=y:=fun e=>f (by rw[e])
    simp[FQ,c,this]
  ·exact .inl g
def GB(f:Nat->Bool)(a b:Nat):Nat:=if h:a<b then(if f ((a+b)/2)then GB f ((a+b)/2+1) b else GB f a ((a+b)/2))else a
termination_by b-a
decreasing_by all_goals omega
noncomputable def ID (l:List za) (s:za) (k:Nat):Bool:=match l[k]? with
 |some x=>decide (jb x s<0)
 |none=>false
noncomputable def bsN (l:List za) (s:za):Nat×Bool:=(GB (ID l s) 0 l.length,match l[GB (ID l s) 0 l.length]? with
 |some x=>jb x s==0
 |none=>false)
def UpN(l:List za):Prop:=l.Pairwise fun a b=>Op.bytesLess a b=true
theorem De(a:za):Op.bytesLess a a=false:=by
 cases h:Op.bytesLess a a with
 |false=>rfl
 |true=>have b:=(iG a a).2 h;have c:=(fO a a).2 rfl;omega
end Go.Q
namespace Go.AM
def Df(st:List Int):Nat:=st.count 0
structure Kept (st st':List Int):Prop where
 len:st'.length=st.length
 wh:Df st'<=Df st
 black:∀j:Nat,st[j]?=some 2->st'[j]?=some 2
 grey:∀j:Nat,st'[j]?=some 1↔st[j]?=some 1
 yl:(∀v∈st,v=0\/v=1\/v=2)->∀v∈st',v=0\/v=1\/v=2
inductive HS (E:Nat->Nat->Prop):Nat->Nat->Prop
 |one {a b:Nat}:E a b->HS E a b
 |tail {a b c:Nat}:HS E a b->E b c->HS E a c
structure Bfs {α:Type} (next:α->List α) (start out queue:List α):Prop where
 nodup:out.Nodup
 strt:∀a∈start,a∈out\/a∈queue
 step:∀a∈out,∀b∈next a,b∈out\/b∈queue
 only:∀(Q:α->Prop),(∀a∈start,Q a)->(∀a b,Q a->b∈next a->Q b)->(∀a∈out,Q a)/\∀a∈queue,Q a
inductive NG {α:Type} (next:α->List α) (start:List α):α->Prop
 |here {a:α}:a∈start->NG next start a
 |there {a b:α}:NG next start a->b∈next a->NG next start b
end Go.AM
namespace Go.Q
structure lu where
 name:List UInt8
 ins:List (List UInt8)
 outs:List (List UInt8)
 cond:Cnd
def lu.V(s:lu):zb:=[str s.name,.sl 1 (qo s.ins),.sl 1 (qo s.outs)]++s.cond.V
theorem sU(s:lu):s.V=[str s.name,.sl 1 (qo s.ins),.sl 1 (qo s.outs),int s.cond.kind,str s.cond.attr,int s.cond.op,.sl 5 (s.cond.yl.map Val.V),str s.cond.pat,str s.cond.name,.sl 7 (s.cond.args.map Cnd.V)]:=by unfold lu.V;rw[qC];rfl
@[simp]theorem Ux(s:lu):s.V.length=10:=by rw[sU];rfl
@[simp]theorem R7(s:lu):s.V.drop 3=s.cond.V:=rfl
@[simp]theorem zaR(s:lu)(h:0<s.V.length):s.V[0]=str s.name:=rfl
@[simp]theorem zaS(s:lu)(h:1<s.V.length):s.V[1]=.sl 1 (qo s.ins):=rfl
@[simp]theorem zaT(s:lu)(h:2<s.V.length):s.V[2]=.sl 1 (qo s.outs):=rfl
@[simp]theorem OT(s:lu):s.V.all O.we=true:=by rw[sU];rfl
mutual
def Cnd.names:Cnd->List za
 | .mk k _ _ _ _ n l=>(if k=5 then[n]else[])++EO l
def EO:List Cnd->List za
 |[]=>[]
 |c::l=>c.names++EO l
end
noncomputable def idxG (l:List lu) (n:za):Nat:=(bsN (l.map lu.name) n).1
noncomputable def R8 (l:List lu) (n:za):Bool:=(bsN (l.map lu.name) n).2
noncomputable def R9 (l:List lu) (i:Nat):List Nat:=match l[i]? with
 |some s=>s.cond.names.map (idxG l)
 |none=>[]
def IE:Option za->List za->Int
 |_,[]=>0
 |p,k::l=>if LI k=true then(if fq p k=true then 8 else IE (some k) l)else 3
def sV(l:List za):Int:=if(1000:Int)<l.length then 2 else IE none l
noncomputable def segF (s:lu):Int:=if sV s.ins=0 then(if sV s.outs=0 then(if(s.ins.any fun k=>s.outs.contains k)=true then 7 else s.cond.check)else sV s.outs)else sV s.ins
structure zaZ (l:List lu):Prop where
 len:l.length<=100
 up:UpN (l.map lu.name)
 right:∀s∈l,yq s.name=true/\segF s=0
 known:∀s∈l,∀n∈s.cond.names,R8 l n=true
 acyc:∀i:Nat,¬HS (fun a b=>b∈R9 l a) i i
mutual
def Cnd.EP(gb:za->Bool)(b:Cnd->Bool):Cnd->Bool
 | .mk k a o v p n l=>if k=1 then allM gb b l else if k=2 then anyM gb b l else if k=3 then !(Tq gb b l)else if k=5 then gb n else b (.mk k a o v p n l)
def allM(gb:za->Bool)(a:Cnd->Bool):List Cnd->Bool
 |[]=>true
 |c::l=>c.EP gb a&&allM gb a l
def anyM(gb:za->Bool)(a:Cnd->Bool):List Cnd->Bool
 |[]=>false
 |c::l=>c.EP gb a||anyM gb a l
def Tq(gb:za->Bool)(a:Cnd->Bool):List Cnd->Bool
 |[]=>false
 |c::_=>c.EP gb a
end
@[simp]theorem Uy(s:yt):s.V.length=11:=rfl
end Go.Q
namespace Go.LikeLaw
inductive Lk:List UInt8->List UInt8->Prop
 |nil:Lk [] []
 |ER {t p:List UInt8}:Lk t p->Lk t (42::p)
 |ES {c:UInt8} {t p:List UInt8}:Lk t (42::p)->Lk (c::t) (42::p)
 |one {c q:UInt8} {t p:List UInt8}:q≠42->(q=63\/q=c)->Lk t p->Lk (c::t) (q::p)
theorem ov{t p:za}:Lk t (42::p)↔∃a b,t=a++b/\Lk b p:=by
 constructor
 ·intro h;generalize d:(42::p:za)=q at h
  induction h with
  |nil=>cases d
  |ER h _=>cases d;exact⟨[],_,rfl,h⟩
  | @ES c t i h e=>obtain⟨a,b,rfl,g⟩:=e d;exact⟨c::a,b,rfl,g⟩
  |one f _ _=>cases d;exact absurd rfl f
 ·rintro⟨a,b,rfl,h⟩
  induction a with
  |nil=>exact .ER h
  |cons c a e=>exact .ES e
theorem sW{c q:UInt8}{t p:za}(a:q≠42):Lk (c::t) (q::p)↔(q=63\/q=c)/\Lk t p:=by
 constructor
 ·intro h;cases h with
  |ER=>exact absurd rfl a
  |ES=>exact absurd rfl a
  |one _ b d=>exact⟨b,d⟩
 ·rintro⟨b,d⟩;exact .one a b d
theorem nh{q:UInt8}{p:za}(a:q≠42):¬Lk [] (q::p):=by intro h;cases h;exact a rfl
theorem split{k:za}:∀{g t:za},Lk t (g++k)->∃d e,t=d++e/\Lk d g/\Lk e k
 |[],t,h=>⟨[],t,rfl,.nil,h⟩
 |q::g,t,h=>by
  by_cases f:q=42
  ·subst f;obtain⟨a,b,rfl,l⟩:=ov.1 h;obtain⟨d,e,rfl,i,j⟩:=split l;exact⟨a++d,e,by simp,ov.2 ⟨a,d,rfl,i⟩,j⟩
  ·cases t with
   |nil=>exact absurd h (nh f)
   |cons c t=>obtain⟨a,b⟩:=(sW f).1 h;obtain⟨d,e,rfl,i,j⟩:=split b;exact⟨c::d,e,rfl,.one f a i,j⟩
theorem gb{s:za}(hs:∀q∈s,q≠42){p:za}:∀{t:za},Lk t (s++p)->s.length<=t.length/\Lk (t.drop s.length) p:=by
 induction s with
 |nil=>intro t h;exact⟨by simp,h⟩
 |cons q s d=>
  intro t h;have a:q≠42:=hs q (by simp);cases t with
  |nil=>exact absurd h (nh a)
  |cons c t=>obtain⟨_,b⟩:=(sW a).1 h;obtain⟨g,e⟩:=d (fun x f=>hs x (by simp[f])) b;exact⟨by simp;omega,by simpa using e⟩
structure Inv (t p:List UInt8) (star:Int) (fr i k:Nat):Prop where
 hi:i<=t.length
 hk:k<=p.length
 none_:star<0->star=-1/\(Lk t p↔Lk (t.drop i) (p.drop k))
 some_:0<=star->∃s,p.drop (star.toNat+1)=s++p.drop k/\star.toNat+1+s.length=k/\fr+s.length=i/\(∀q∈s,q≠42) /\
  (∀r,Lk (t.drop i) r->Lk (t.drop fr) (s++r))/\(Lk t p↔∃f,fr<=f/\f<=t.length/\Lk (t.drop f) (p.drop (star.toNat+1)))
end Go.LikeLaw
namespace Go.Q
open Go.RowKit Go.AM Go.LikeLaw
structure LInv (t p:List UInt8) (star:Int) (fr i k:Nat):Prop extends LikeLaw.Inv t p star fr i k where
 s0:-1<=star
 s1:star<k
 f1:fr<=i
end Go.Q
namespace Go.Q
theorem dI{α d:Type}(f:d->α)(c:α->α->Int):∀a b:List d,yj c (a.map f) (b.map f)=yj (fun x y=>c (f x) (f y)) a b
 |[],[]=>rfl
 |[],_::_=>rfl
 |_::_,[]=>rfl
 |x::a,y::b=>by simp only[zL,yj,dI f c a b]
def Aa(v:Val):Int:=if v.kind=1\/v.kind=2 then v.n else 0
def Ab(v:Val):za:=if v.kind=3 then v.s else[]
def ni(v:Val):List Val:=if v.kind=4 then v.items else[]
def nj(v:Val):List (za×Val):=if v.kind=5 then v.fields else[]
theorem rb(a b:Val):qJ a b=kF (fun x y=>wU x.kind y.kind) (kF (fun x y=>wU (Aa x) (Aa y)) (kF (fun x y=>jb (Ab x) (Ab y)) (kF (fun x y=>yj qJ (ni x) (ni y)) fun x y=>yj kr (nj x) (nj y)))) a b:=by
 rw[fy];unfold kF;by_cases i:a.kind=b.kind
 ·have j:wU a.kind b.kind=0:=by rw[i];exact vJ.refl _
  have s:wU 0 0=0:=vJ.refl _;have n:jb [] []=0:=vK.refl _;have k:yj qJ [] []=0:=rfl;have g:yj kr [] []=0:=rfl;rw[zl i,zl j];unfold Aa Ab ni nj;dsimp only;by_cases o:b.kind=1\/b.kind=2
  ·have t:¬b.kind=3:=by omega
   have l:¬b.kind=4:=by omega
   have e:¬b.kind=5:=by omega
   have m:a.kind=1\/a.kind=2:=by omega
   have f:¬a.kind=3:=by omega
   have d:¬a.kind=4:=by omega
   have c:¬a.kind=5:=by omega
   simp only[zl o,zg t,zg l,zg e,zl m,zg f,zg d,zg c,n,k,g,qa];split
   ·rename_i h;exact h
   ·rfl
  ·have m:¬(a.kind=1\/a.kind=2):=by omega
   simp only[zg o,zg m,s,qa];by_cases p:b.kind=3
   ·have l:¬b.kind=4:=by omega
    have e:¬b.kind=5:=by omega
    have f:a.kind=3:=by omega
    have d:¬a.kind=4:=by omega
    have c:¬a.kind=5:=by omega
    simp only[zl p,zg l,zg e,zl f,zg d,zg c,k,g,qa];split
    ·rename_i h;exact h
    ·rfl
   ·have f:¬a.kind=3:=by omega
    simp only[zg p,zg f,n,qa];by_cases q:b.kind=4
    ·have e:¬b.kind=5:=by omega
     have d:a.kind=4:=by omega
     have c:¬a.kind=5:=by omega
     simp only[zl q,zg e,zl d,zg c,g];split
     ·rename_i h;exact h
     ·rfl
    ·have d:¬a.kind=4:=by omega
     simp only[zg q,zg d,k,qa];by_cases r:b.kind=5
     ·have c:a.kind=5:=by omega
      simp only[zl r,zl c]
     ·have c:¬a.kind=5:=by omega
      simp only[zg r,zg c,g]
 ·have j:¬wU a.kind b.kind=0:=by unfold wU;split<;>(try split)<;>omega
  rw[zg i,zg j]
abbrev Y5(n:Nat):={v:Val // v.vb<=n}
def re(n:Nat)(v:Y5 (n+1)):List (Y5 n):=(ni v.1).attach.map fun x=>⟨x.1,by
 have a:=x.2;unfold ni at a;split at a
 ·have b:=kA a;have c:=xa v.1;have d:=v.2;omega
 ·cases a⟩
def rf(n:Nat)(v:Y5 (n+1)):List (za×Y5 n):=(nj v.1).attach.map fun x=>(x.1.1,⟨x.1.2,by
 have a:=x.2;unfold nj at a;split at a
 ·have b:=Qi a;have c:=xa v.1;have d:=v.2;omega
 ·cases a⟩)
theorem nk(n:Nat)(v:Y5 (n+1)):(re n v).map (·.1)=ni v.1:=by unfold re;rw[List.map_map];exact List.attach_map_subtype_val _
theorem nm(n:Nat)(v:Y5 (n+1)):(rf n v).map (fun x=>(x.1,x.2.1))=nj v.1:=by unfold rf;rw[List.map_map];exact List.attach_map_subtype_val _
theorem rh(a b:za×Val):kr a b=kF (fun x y=>jb x.1 y.1) (fun x y=>qJ x.2 y.2) a b:=by
 unfold kr kF cY;simp only[cY];split
 ·split
  ·rename_i c;rw[c]
  ·rfl
 ·rfl
theorem bh:∀n:Nat,TO fun a b:Y5 n=>qJ a.1 b.1
 | 0=>⟨fun x=>absurd x.2 (by have:=WA x.1;omega),fun x _=>absurd x.2 (by have:=WA x.1;omega),fun x _ _=>absurd x.2 (by have:=WA x.1;omega)⟩
 |n+1=>by
  have c:=bh n;have:(fun a b:Y5 (n+1)=>qJ a.1 b.1)=kF (fun x y=>wU x.1.kind y.1.kind) (kF (fun x y=>wU (Aa x.1) (Aa y.1)) (kF (fun x y=>jb (Ab x.1) (Ab y.1)) (kF (fun x y=>yj (fun p q:Y5 n=>qJ p.1 q.1) (re n x) (re n y)) fun x y=>yj (kF (fun p q:za×Y5 n=>jb p.1 q.1) fun p q=>qJ p.2.1 q.2.1) (rf n x) (rf n y)))):=by
   funext a b;rw[rb];unfold kF;have d:yj qJ (ni a.1) (ni b.1)=yj (fun p q:Y5 n=>qJ p.1 q.1) (re n a) (re n b):=by rw[<-nk n a,<-nk n b,dI]
   have e:yj kr (nj a.1) (nj b.1)=yj (fun x y:za×Y5 n=>if jb x.1 y.1=0 then qJ x.2.1 y.2.1 else jb x.1 y.1) (rf n a) (rf n b):=by rw[<-nm n a,<-nm n b,dI];congr 1;funext x y;exact rh _ _
   simp only[d,e]
  rw[this];exact TO.lex (vJ.pull fun x:Y5 (n+1)=>x.1.kind) (TO.lex (vJ.pull fun x:Y5 (n+1)=>Aa x.1) (TO.lex (vK.pull fun x:Y5 (n+1)=>Ab x.1) (TO.lex ((bf c).pull (re n)) ((bf (TO.lex (vK.pull fun p:List UInt8×Y5 n=>p.1) (c.pull fun p:List UInt8×Y5 n=>p.2))).pull (rf n)))))
theorem Je:TO qJ where
 refl x:=(bh x.vb).refl ⟨x,zi _⟩
 flip x y:=(bh (x.vb+y.vb)).flip ⟨x,by omega⟩ ⟨y,by omega⟩
 tr x y z:=(bh (x.vb+y.vb+z.vb)).tr ⟨x,by omega⟩ ⟨y,by omega⟩ ⟨z,by omega⟩
def Dg(l:List Val):Prop:=l.Pairwise fun a b=>qJ a b<0
end Go.Q
namespace Go.Proofs
open Go.Shelf
def Tryz.AO:Go.Shelf.Ren:=⟨fun|6=>55|15=>79|14=>78|28=>120|29=>121|20=>112|21=>113|22=>114|23=>115|24=>116|25=>117|26=>118|27=>119|46=>149|47=>150|48=>151|49=>152|50=>153|57=>179|n=>n,fun|22=>22|24=>48|25=>45|3=>3|39=>126|0=>0|53=>160|55=>162|4=>4|46=>153|45=>152|50=>157|5=>5|9=>9|66=>189|70=>193|76=>209|77=>49|n=>n,fun|n=>n⟩
theorem Tryz.I6:Go.Proofs.SlLaysF0.n6 prog Tryz.AO:={
 mixed:=by kernel_rfl
 f6:=⟨f55.name,by decide,func55.trans (zk some (by kernel_rfl))⟩
 f14:=⟨f78.name,by decide,func78.trans (zk some (by kernel_rfl))⟩
 f15:=func79.trans (zk some (by kernel_rfl))
 f20:=⟨f112.name,by decide,func112.trans (zk some (by kernel_rfl))⟩
 f21:=⟨f113.name,by decide,func113.trans (zk some (by kernel_rfl))⟩
 f22:=⟨f114.name,by decide,func114.trans (zk some (by kernel_rfl))⟩
 f23:=⟨f115.name,by decide,func115.trans (zk some (by kernel_rfl))⟩
 f24:=⟨f116.name,by decide,func116.trans (zk some (by kernel_rfl))⟩
 f25:=⟨f117.name,by decide,func117.trans (zk some (by kernel_rfl))⟩
 f26:=⟨f118.name,by decide,func118.trans (zk some (by kernel_rfl))⟩
 f27:=⟨f119.name,by decide,func119.trans (zk some (by kernel_rfl))⟩
 f28:=func120.trans (zk some (by kernel_rfl))
 f29:=func121.trans (zk some (by kernel_rfl))
 f46:=⟨f149.name,by decide,func149.trans (zk some (by kernel_rfl))⟩
 f47:=func150.trans (zk some (by kernel_rfl))
 f48:=func151.trans (zk some (by kernel_rfl))
 f49:=⟨f152.name,by decide,func152.trans (zk some (by kernel_rfl))⟩
 f50:=⟨f153.name,by decide,func153.trans (zk some (by kernel_rfl))⟩
 f57:=⟨f179.name,by decide,func179.trans (zk some (by kernel_rfl))⟩
 t0:=underlying0
 a0:=isAgg0
 z0:=sizeOf0
 v0:=zeroValue0
 t3:=underlying3
 a3:=isAgg3
 z3:=sizeOf3
 v3:=zeroValue3
 t4:=underlying4
 a4:=isAgg4
 z4:=sizeOf4
 v4:=zeroValue4
 t5:=underlying5
 a5:=isAgg5
 z5:=sizeOf5
 v5:=zeroValue5
 t9:=underlying9
 a9:=isAgg9
 z9:=sizeOf9
 v9:=zeroValue9
 t22:=underlying22
 a22:=isAgg22
 z22:=sizeOf22
 v22:=zeroValue22
 t25:=underlying45
 a25:=isAgg45
 z25:=sizeOf45
 v25:=zeroValue45
 t39:=underlying126
 a39:=isAgg126
 z39:=sizeOf126
 v39:=zeroValue126
 t45:=underlying152
 a45:=isAgg152
 z45:=sizeOf152
 v45:=zeroValue152
 t46:=underlying153
 a46:=isAgg153
 z46:=sizeOf153
 v46:=zeroValue153
 t50:=underlying157
 a50:=isAgg157
 z50:=sizeOf157
 v50:=zeroValue157
 t53:=underlying160
 a53:=isAgg160
 z53:=sizeOf160
 v53:=zeroValue160
 t55:=underlying162
 a55:=isAgg162
 z55:=sizeOf162
 v55:=zeroValue162
 t66:=underlying189
 a66:=isAgg189
 z66:=sizeOf189
 v66:=zeroValue189
 t70:=underlying193
 a70:=isAgg193
 z70:=sizeOf193
 v70:=zeroValue193
 t76:=underlying209
 a76:=isAgg209
 z76:=sizeOf209
 v76:=zeroValue209
 t77:=underlying49
 a77:=isAgg49
 z77:=sizeOf49
 v77:=zeroValue49}
theorem Tryz.ET:gI prog 55 5:=⟨fun _ _ V e f h i g blk off cap d w j a k b c=>AnyQ.slices_SortFunc_eq Tryz.I6 5 isAgg48 sizeOf48 V e f h i g #[] blk off cap d w j a k b c,
 fun p cap l w=>AnyF.slices_SortFunc_none Tryz.I6 p cap l w⟩
def Tryz.AP:Go.Shelf.Ren:=⟨fun|6=>146|15=>79|14=>178|28=>120|29=>121|20=>201|21=>202|22=>203|23=>204|24=>205|25=>206|26=>207|27=>208|46=>224|47=>150|48=>151|49=>225|50=>226|57=>232|n=>n,fun|22=>46|24=>65|25=>93|3=>3|39=>126|0=>0|53=>160|55=>162|4=>4|46=>153|45=>152|50=>157|5=>5|9=>9|66=>189|70=>193|76=>209|77=>49|n=>n,fun|n=>n⟩
theorem Tryz.I7:Go.Proofs.SlLaysF0.n6 prog Tryz.AP:={
 mixed:=by kernel_rfl
 f6:=⟨f146.name,by decide,func146.trans (zk some (by kernel_rfl))⟩
 f14:=⟨f178.name,by decide,func178.trans (zk some (by kernel_rfl))⟩
 f15:=func79.trans (zk some (by kernel_rfl))
 f20:=⟨f201.name,by decide,func201.trans (zk some (by kernel_rfl))⟩
 f21:=⟨f202.name,by decide,func202.trans (zk some (by kernel_rfl))⟩
 f22:=⟨f203.name,by decide,func203.trans (zk some (by kernel_rfl))⟩
 f23:=⟨f204.name,by decide,func204.trans (zk some (by kernel_rfl))⟩
 f24:=⟨f205.name,by decide,func205.trans (zk some (by kernel_rfl))⟩
 f25:=⟨f206.name,by decide,func206.trans (zk some (by kernel_rfl))⟩
 f26:=⟨f207.name,by decide,func207.trans (zk some (by kernel_rfl))⟩
 f27:=⟨f208.name,by decide,func208.trans (zk some (by kernel_rfl))⟩
 f28:=func120.trans (zk some (by kernel_rfl))
 f29:=func121.trans (zk some (by kernel_rfl))
 f46:=⟨f224.name,by decide,func224.trans (zk some (by kernel_rfl))⟩
 f47:=func150.trans (zk some (by kernel_rfl))
 f48:=func151.trans (zk some (by kernel_rfl))
 f49:=⟨f225.name,by decide,func225.trans (zk some (by kernel_rfl))⟩
 f50:=⟨f226.name,by decide,func226.trans (zk some (by kernel_rfl))⟩
 f57:=⟨f232.name,by decide,func232.trans (zk some (by kernel_rfl))⟩
 t0:=underlying0
 a0:=isAgg0
 z0:=sizeOf0
 v0:=zeroValue0
 t3:=underlying3
 a3:=isAgg3
 z3:=sizeOf3
 v3:=zeroValue3
 t4:=underlying4
 a4:=isAgg4
 z4:=sizeOf4
 v4:=zeroValue4
 t5:=underlying5
 a5:=isAgg5
 z5:=sizeOf5
 v5:=zeroValue5
 t9:=underlying9
 a9:=isAgg9
 z9:=sizeOf9
 v9:=zeroValue9
 t22:=underlying46
 a22:=isAgg46
 z22:=sizeOf46
 v22:=zeroValue46
 t25:=underlying93
 a25:=isAgg93
 z25:=sizeOf93
 v25:=zeroValue93
 t39:=underlying126
 a39:=isAgg126
 z39:=sizeOf126
 v39:=zeroValue126
 t45:=underlying152
 a45:=isAgg152
 z45:=sizeOf152
 v45:=zeroValue152
 t46:=underlying153
 a46:=isAgg153
 z46:=sizeOf153
 v46:=zeroValue153
 t50:=underlying157
 a50:=isAgg157
 z50:=sizeOf157
 v50:=zeroValue157
 t53:=underlying160
 a53:=isAgg160
 z53:=sizeOf160
 v53:=zeroValue160
 t55:=underlying162
 a55:=isAgg162
 z55:=sizeOf162
 v55:=zeroValue162
 t66:=underlying189
 a66:=isAgg189
 z66:=sizeOf189
 v66:=zeroValue189
 t70:=underlying193
 a70:=isAgg193
 z70:=sizeOf193
 v70:=zeroValue193
 t76:=underlying209
 a76:=isAgg209
 z76:=sizeOf209
 v76:=zeroValue209
 t77:=underlying49
 a77:=isAgg49
 z77:=sizeOf49
 v77:=zeroValue49}
theorem Tryz.EU:gI prog 146 6:=⟨fun _ _ V e f h i g blk off cap d w j a k b c=>AnyQ.slices_SortFunc_eq Tryz.I7 6 isAgg65 sizeOf65 V e f h i g #[] blk off cap d w j a k b c,
 fun p cap l w=>AnyF.slices_SortFunc_none Tryz.I7 p cap l w⟩
end Go.Proofs
namespace Go.SpanLaw
abbrev Sp:=Int×Int
def IF:Int->List Sp->Prop
 |_,[]=>True
 |lo,s::l=>lo<s.1/\s.1<s.2/\IF s.2 l
def mem(l:List Sp)(k:Int):Prop:=∃s∈l,s.1<=k/\k<s.2
def skip(x:Int):List Sp->List Sp
 |[]=>[]
 |b::l=>if b.2<=x then skip x l else b::l
def Below(a:Int)(l:List Sp):Prop:=∀s∈l,s.2<=a
structure za0 (op:Int->Prop) (at_:Int) (out:List Sp):Prop where
 canon:IF (-1) out
 below:Below at_ out
 holds:∀k,mem out k↔0<=k/\k<at_/\op k
end Go.SpanLaw
namespace Go.Q
end Go.Q
namespace Go.Proofs
open Go.Shelf
end Go.Proofs
namespace Go.Q
theorem VE{α d:Type}{f:α->d}:∀{l:List α} {m:List d},m.Perm (l.map f)->∃l':List α,l'.Perm l/\m=l'.map f:=by
 have e:∀{m n:List d},m.Perm n->∀l:List α,n=l.map f->∃l':List α,l'.Perm l/\m=l'.map f:=by
  intro m n h
  induction h with
  |nil=>intro l c;exact⟨l,.refl _,c⟩
  |cons x _ o=>
   intro l c;cases l with
   |nil=>cases c
   |cons a l=>simp only[zL,zn]at c;obtain⟨l',g,i⟩:=o l c.2;exact⟨a::l',g.cons a,by rw[zL,c.1,i]⟩
  |swap x y r=>
   intro l c
   match l,c with
   |a::b::l,c=>simp only[zL,zn]at c;exact⟨b::a::l,.swap _ _ _,by rw[zL,zL,c.1,c.2.1,c.2.2]⟩
  |trans _ _ j k=>intro l c;obtain⟨p,g,i⟩:=k l c;obtain⟨q,s,t⟩:=j p i;exact⟨q,s.trans g,t⟩
 intro l m h;exact e h l rfl
end Go.Q
namespace Go.Q
open Go.RowKit Go.AM Go.PrLaw
def jv(s:za)(p:Nat)(l:za):Prop:=s.drop p=l
section
variable{s:za}{p i:Nat}{e:Int}{c:UInt8}{l:za}
theorem jv.get(h:jv s p (c::l)):s[p]?=some c:=by
 have:(s.drop p)[0]?=some c:=by rw[show s.drop p=c::l from h];rfl
 simpa using this
theorem jv.lt(h:jv s p (c::l)):p<s.length:=(ze.1 h.get).1
theorem jv.UW(h:jv s p (c::l)):¬s.length<=p:=by have:=h.lt;omega
theorem jv.end_(h:jv s p []):s[p]?=none:=by have:s.length<=p:=List.drop_eq_nil_iff.1 h;exact q5 this
theorem jv.app{a:za}(h:jv s p (a++l)):jv s (p+a.length) l:=by have:=zk (List.drop a.length) (show s.drop p=a++l from h);rw[List.drop_drop]at this;simpa[jv]using this
theorem jv.qL(h:jv s p (c::l)):jv s (p+1) l:=jv.app (a:=[c]) h
theorem jv.len(h:jv s p l):l.length<=s.length:=by have:=zk List.length (show s.drop p=l from h);simp at this;omega
theorem yT(h:jv s p (c::l)):yD s ⟨p,e,i⟩=c:=by simp[yD,h.get]
theorem dJ(h:jv s p (c::l)):xH s ⟨p,0,i⟩ c=(true,⟨p+1,0,i⟩):=by simp[xH,h.get,Jst.qL]
theorem Zm(h:jv s p l)(a:l.takeWhile JJ=[]):xb s ⟨p,e,i⟩=⟨p,e,i⟩:=by have:s.drop p=l:=h;simp[xb,this,a,Jst.go]
theorem iH:∀(w:za) {p:Nat},jv s p (w++l)->oy s w ⟨p,0,i⟩=⟨p+w.length,0,i⟩
 |[],p,_=>rfl
 |c::w,p,h=>by rw[oy,dJ h];simp only[qa];rw[iH w h.qL];simp;omega
end
section
variable{s:za}{i:Nat}{l:za}
theorem ri{c:UInt8}{t:za}(h:wi 32 126 (c::t)=true):¬c<32/\¬126<c/\wi 32 126 t=true:=by
 simp only[wi,wC,zs,pr,qE]at h;refine⟨fun e=>?_,fun e=>?_,h.2⟩
 ·have:=wK.1 e;simp at this;omega
 ·have:=wK.1 e;simp at this;omega
theorem rj:∀(t b:za) (k p:Nat),wi 32 126 t=true->jv s p (Zj t++34::l)->t.length<k->gT s k b ⟨p,0,i⟩=(b++t,⟨p+(Zj t).length+1,0,i⟩)
 |[],b,k+1,p,_,h,_=>by have h:jv s p (34::l):=h;have n:=h.UW;have Y:yD s ⟨p,0,i⟩=34:=yT h;simp[gT,n,Y,Jst.qL,Zj]
 |c::t,b,k+1,p,q,h,m=>by
  obtain⟨r,u,o⟩:=ri q;by_cases a:(c==34||c==92)=true
  ·have d:Zj (c::t)=92::c::Zj t:=by rw[Zj,zl a]
   rw[d]at h;have h:jv s p (92::(c::(Zj t++34::l))):=h;have n:=h.UW;have Y:yD s ⟨p,0,i⟩=92:=yT h;have f:=h.qL;have Y2:yD s ⟨p+1,0,i⟩=c:=yT f;have v:=f.lt;have w:Zy s ⟨p+1,0,i⟩=(c,⟨p+1+1,0,i⟩):=by
    have g:c=34\/c=92\/c=47:=by simp at a;rcases a with h|h<;>simp[h]
    rw[Zy,Y2,zl ⟨v,g⟩];rfl
   have j:=rj t (b++[c]) k (p+1+1) o f.qL (by simp at m;omega);rw[gT];simp only[Y,n,ne_eq,not_true,qf,false_or,Jst.qL,w,j];rw[zg (by decide),zg (by decide),zl trivial,d];simp;omega
  ·have d:Zj (c::t)=c::Zj t:=by rw[Zj,zg a]
   rw[d]at h;have h:jv s p (c::(Zj t++34::l)):=h;have n:=h.UW;have Y:yD s ⟨p,0,i⟩=c:=yT h;have e:¬c=34/\¬c=92:=by simp at a;exact a
   have j:=rj t (b++[c]) k (p+1) o h.qL (by simp at m;omega);rw[gT];simp only[Y,n,ne_eq,not_true,qf,false_or,r,u,e.1,e.2,Jst.qL,j,d];simp;omega
theorem MI(t:za):t.length<=(Zj t).length:=by
 induction t with
 |nil=>simp
 |cons c t a=>rw[Zj];split<;>simp<;>omega
theorem nn{t:za}{p:Nat}(b:wi 32 126 t=true)(h:jv s p (yB t++l)):yR s ⟨p,0,i⟩=(t,⟨p+(yB t).length,0,i⟩):=by
 have a:jv s p (34::(Zj t++34::l)):=by
  have e:yB t++l=34::(Zj t++34::l):=by simp[yB]
  rwa [e]at h
 have c:=a.qL.len;have:=MI t;rw[yR,dJ a];simp only[qa];rw[rj t [] (s.length+1) (p+1) b a.qL (by simp at c;omega)];simp[yB];omega
end
def fP(l:za):Prop:=∀c,l.head?=some c->jM c=false/\c≠46
theorem Xz{d:Nat}(h:d<10):jM (UInt8.ofNat (48+d))=true/\(UInt8.ofNat (48+d)).toNat-48=d:=by
 have e:(UInt8.ofNat (48+d)).toNat=48+d:=by rw[UInt8.toNat_ofNat'];exact aT (by omega)
 refine⟨?_,by omega⟩;simp only[jM,zs,qE,wq,e];simp;omega
def eM(n:Nat)(c:UInt8):Nat:=n*10+(c.toNat-48)
theorem rk{s:za}{a:Nat}{l:za}(d:∀c,l.head?=some c->jM c=false):∀(D:za) (n m:Nat) (st:Jst),(∀c∈D,jM c=true)->m+D.length<=a->0<m+D.length->cy s a (D++l) n m st=(D.foldl eM n,m+D.length,st.go D.length)
 |[],n,m,st,_,_,e=>by
  have b:¬m=0:=by simp at e;omega
  cases l with
  |nil=>simp[cy,b,Jst.go]
  |cons c l=>have:=d c rfl;simp[cy,this,b,Jst.go]
 |c::D,n,m,st,f,g,e=>by
  have h:=f c (by simp);have b:¬m=a:=by simp at g;omega
  rw[qg,cy,zl h,zg b,rk d D _ _ _ (fun x i=>f x (by simp[i])) (by simp at g;omega) (by omega)];simp[eM,Jst.go,Jst.qL];omega
theorem bj:∀(k u:Nat),u<k->(∀c∈Lib.decDigits u,jM c=true)/\(Lib.decDigits u).foldl eM 0=u
 | 0,u,h=>by omega
 |k+1,u,h=>by
  by_cases b:u<10
  ·rw[Kp b];have:=Xz b;generalize UInt8.ofNat (48+u)=x at this;simp[this.1,eM,this.2]
  ·rw[Kq (by omega)];obtain⟨e,f⟩:=bj k (u/10) (by omega);have:=Xz (d:=u % 10) (by omega);generalize UInt8.ofNat (48+u % 10)=x at this;refine⟨fun c a=>?_,?_⟩
   ·rcases wg.1 a with a|a
    ·exact e c a
    ·simp at a;rw[a];exact this.1
   ·rw[List.foldl_append,f];simp[eM,this.2];omega
theorem np:∀(k u:Nat),u<k->0<u->∃c l,Lib.decDigits u=c::l/\c≠48/\jM c=true
 | 0,u,h,_=>by omega
 |k+1,u,h,f=>by
  by_cases a:u<10
  ·refine⟨_,[],Kp a,?_,(Xz a).1⟩;have:=ba a;intro e;rw[e]at this;simp at this;omega
  ·obtain⟨c,l,b,d⟩:=np k (u/10) (by omega) (by omega);exact⟨c,l++[_],by rw[Kq (by omega),b];rfl,d⟩
theorem rl{r:Nat}(h:r<1000)(m:0<r):(∀c∈yb r,jM c=true)/\0<(yb r).length/\(yb r).length<=3/\(yb r).foldl eM 0*10 ^ (3-(yb r).length)=r:=by
 have a:=Xz (d:=r/100) (by omega);have b:=Xz (d:=r/10 % 10) (by omega);have c:=Xz (d:=r % 10) (by omega);have g:=ba (d:=r/100) (by omega);have i:=ba (d:=r/10 % 10) (by omega);have j:=ba (d:=r % 10) (by omega);have e:yb r=if r % 10=0 then(if r/10 % 10=0 then[UInt8.ofNat (48+r/100)]else[UInt8.ofNat (48+r/100),UInt8.ofNat (48+r/10 % 10)])else[UInt8.ofNat (48+r/100),UInt8.ofNat (48+r/10 % 10),UInt8.ofNat (48+r % 10)]:=by
  unfold yb Lib.trimRightB;rw[Zz h];simp only[List.reverse_cons,List.reverse_nil,jh,qg,List.dropWhile_cons,g,i,j,qE];by_cases f:r % 10=0
  ·by_cases k:r/10 % 10=0
   ·have l:¬r/100=0:=by omega
    simp[f,k,l]
   ·simp[f,k]
  ·simp[f]
 rw[e];clear e g i j;generalize UInt8.ofNat (48+r/100)=x at a;generalize UInt8.ofNat (48+r/10 % 10)=y at b;generalize UInt8.ofNat (48+r % 10)=z at c;split
 ·split
  ·simp[a.1,a.2,eM];omega
  ·simp[a.1,a.2,b.1,b.2,eM];omega
 ·simp[a.1,a.2,b.1,b.2,c.1,c.2,eM];omega
section
variable{s:za}{i:Nat}{l:za}
theorem GD{u p:Nat}(k:u<1000000000000)(a:∀c,l.head?=some c->jM c=false)(h:jv s p (Lib.decDigits u++l)):YH s ⟨p,0,i⟩=(u,⟨p+(Lib.decDigits u).length,0,i⟩):=by
 by_cases m:u=0
 ·subst m;have e:Lib.decDigits 0=[48]:=by rw[Kp (by omega)];rfl
  rw[e]at h⊢;have h:jv s p (48::l):=h;have Y:yD s ⟨p,0,i⟩=48:=yT h;have n:jM (yD s ⟨p+1,0,i⟩)=false:=by
   cases l with
   |nil=>simp[yD,h.qL.end_];decide
   |cons c l=>rw[yT h.qL];exact a c rfl
  simp[YH,Y,Jst.qL,n]
 ·obtain⟨c,l',b,o,_⟩:=np (u+1) u (by omega) (by omega);have d:=h;rw[b]at d;have Y:yD s ⟨p,0,i⟩=c:=yT d;have f:=bj (u+1) u (by omega);have g:=gW 11 u (by simpa using k);have j:0<(Lib.decDigits u).length:=by rw[b];simp
  have hs:s.drop p=Lib.decDigits u++l:=h;rw[YH,Y,zg o,K4];simp only;rw[hs,rk a _ _ _ _ f.1 (by omega) (by omega),f.2];rfl
theorem Dh{n r p:Nat}(d:r<1000)(a:fP l)(h:jv s p ((if r=0 then[]else 46::yb r)++l)):xv s n ⟨p,0,i⟩=(n+r,⟨p+(if r=0 then[]else 46::yb r).length,0,i⟩):=by
 by_cases b:r=0
 ·subst b;have h:jv s p l:=h;have e:¬yD s ⟨p,0,i⟩=46:=by
   cases l with
   |nil=>simp[yD,h.end_]
   |cons c l=>rw[yT h];exact(a c rfl).2
  simp[xv,e]
 ·rw[zg b]at h⊢;have h:jv s p (46::(yb r++l)):=h;have Y:yD s ⟨p,0,i⟩=46:=yT h;obtain⟨f,m,o,g⟩:=rl d (by omega);have hs:s.drop (p+1)=yb r++l:=h.qL;have j:K4 s 3 ⟨p+1,0,i⟩=((yb r).foldl eM 0,(yb r).length,⟨p+1+(yb r).length,0,i⟩):=by rw[K4];simp only;rw[hs,rk (fun c k=>(a c k).1) _ _ _ _ f (by omega) (by omega)];simp[Jst.go]
  simp only[xv,Y,and_self,qa,Jst.qL,j,g];simp;omega
theorem GF{n:Int}{p:Nat}(t:-1000000000000000<n)(u:n<1000000000000000)(g:fP l)(h:jv s p (ZS n++l)):JK s ⟨p,0,i⟩=(pj n,⟨p+(ZS n).length,0,i⟩):=by
 have a:∀p,jv s p (Lib.decDigits (n.natAbs/1000)++((if n.natAbs % 1000=0 then[]else 46::yb (n.natAbs % 1000))++l))->YH s ⟨p,0,i⟩=(n.natAbs/1000,⟨p+(Lib.decDigits (n.natAbs/1000)).length,0,i⟩) /\
   xv s (n.natAbs/1000*1000) ⟨p+(Lib.decDigits (n.natAbs/1000)).length,0,i⟩=(n.natAbs,⟨p+(Lib.decDigits (n.natAbs/1000)).length+(if n.natAbs % 1000=0 then[]else 46::yb (n.natAbs % 1000)).length,0,i⟩):=by
  intro p h;refine⟨GD (by omega) (fun c b=>?_) h,?_⟩
  ·by_cases j:n.natAbs % 1000=0
   ·rw[zl j]at b;exact(g c b).1
   ·rw[zg j]at b;simp at b;rw[<-b];decide
  ·rw[Dh (by omega) g h.app];congr 1;omega
 unfold ZS at h⊢;by_cases k:n<0
 ·simp only[zl k]at h⊢;have h:jv s p (45::(Lib.decDigits (n.natAbs/1000)++((if n.natAbs % 1000=0 then[]else 46::yb (n.natAbs % 1000))++l))):=by rw[qt,qt]at h;exact h
  have Y:yD s ⟨p,0,i⟩=45:=yT h;obtain⟨d,f⟩:=a (p+1) h.qL;simp only[JK,Y,qa,Jst.qL,d,f];have e:-(n.natAbs:Int)=n:=by omega
  rw[e];simp;omega
 ·simp only[zg k]at h⊢;have h:jv s p (Lib.decDigits (n.natAbs/1000)++((if n.natAbs % 1000=0 then[]else 46::yb (n.natAbs % 1000))++l)):=by rw[jh,qt]at h;exact h
  have Y:¬yD s ⟨p,0,i⟩=45:=by
   have:∃c l',Lib.decDigits (n.natAbs/1000)=c::l'/\jM c=true:=by
    have q:=bj (n.natAbs/1000+1) (n.natAbs/1000) (by omega);cases m:Lib.decDigits (n.natAbs/1000)with
    |nil=>exact(YM _ m).elim
    |cons c l'=>exact⟨c,l',rfl,q.1 c (by rw[m];simp)⟩
   obtain⟨c,l',r,o⟩:=this;rw[r]at h;rw[yT h];intro e;rw[e]at o;exact absurd o (by decide)
  obtain⟨d,f⟩:=a p h;simp only[JK,Y,qf,d,f];have e:(n.natAbs:Int)=n:=by omega
  rw[e];simp;omega
end
def RB(f:Jst->Val×Jst)(s:za)(v:Val):Prop:=∀(p i:Nat) (l:za),fP l->jv s p (v.show++l)->f ⟨p,0,i⟩=(v,⟨p+v.show.length,0,i⟩)
theorem iI{c:UInt8}{l:za}(h:jM c=false)(b:c≠46):fP (c::l):=fun x a=>by simp at a;subst a;exact⟨h,b⟩
def rm(c:UInt8):Bool:=c==110||c==116||c==102||c==34||c==91||c==123||c==45||jM c
theorem XA(n:Int):∃c l,ZS n=c::l/\(c=45\/jM c=true):=by
 unfold ZS;split
 ·exact⟨_,_,rfl,.inl rfl⟩
 ·have b:=bj (n.natAbs/1000+1) (n.natAbs/1000) (by omega);cases a:Lib.decDigits (n.natAbs/1000)with
  |nil=>exact(YM _ a).elim
  |cons c l'=>exact⟨c,_,rfl,.inr (b.1 c (by rw[a];simp))⟩
theorem JD(v:Val):∃c l,v.show=c::l/\rm c=true:=by
 rw[xP];split
 ·exact⟨_,_,rfl,rfl⟩
 split
 ·split<;>exact⟨_,_,rfl,rfl⟩
 split
 ·obtain⟨c,l,b,a⟩:=XA v.n;exact⟨c,l,b,by rcases a with rfl|a<;>simp[rm, *]⟩
 split
 ·exact⟨_,_,rfl,rfl⟩
 split<;>exact⟨_,_,rfl,rfl⟩
theorem Di{c:UInt8}{l:za}(h:rm c=true):(c::l).takeWhile JJ=[]:=by
 have:JJ c=false:=by
  cases a:JJ c
  ·rfl
  ·simp only[JJ,qU,yJ]at a;rcases a with((rfl|rfl)|rfl)|rfl<;>exact absurd h (by decide)
 simp[List.takeWhile,this]
theorem iJ(v:Val)(l:za):(v.show++l).takeWhile JJ=[]:=by obtain⟨c,t,a,b⟩:=JD v;rw[a];exact Di b
section
variable{s:za}{i:Nat}{l:za}{f:Jst->Val×Jst}
theorem wD(sep y:za)(ys:List za):Lib.joinTail sep (y::ys)=sep++(y++Lib.joinTail sep ys):=by simp[Lib.joinTail]
theorem Dj:∀(xs:List Val) (x:Val) (b:List Val) (k p:Nat),RB f s x->(∀y∈xs,RB f s y)->jv s p (x.show++(Lib.joinTail [44] (xs.map Val.show)++93::l))->xs.length<k ->
  oz s f k b ⟨p,0,i⟩=(b++x::xs,⟨p+x.show.length+(Lib.joinTail [44] (xs.map Val.show)).length+1,0,i⟩)
 |[],x,b,k+1,p,c,_,h,_=>by have h:jv s p (x.show++93::l):=h;have d:=c p i (93::l) (iI (by decide) (by decide)) h;have a:=h.app;have e:xb s ⟨p+x.show.length,0,i⟩=⟨p+x.show.length,0,i⟩:=Zm a (by rfl);have Y:yD s ⟨p+x.show.length,0,i⟩=93:=yT a;have m:=dJ (i:=i) a;rw[oz];simp[d,e,Y,m,Lib.joinTail]
 |y::ys,x,b,k+1,p,c,j,h,n=>by
  rw[zL,wD]at h;have h:jv s p (x.show++(44::(y.show++(Lib.joinTail [44] (ys.map Val.show)++93::l)))):=by simpa using h
  have d:=c p i _ (iI (by decide) (by decide)) h;have a:=h.app;have e:xb s ⟨p+x.show.length,0,i⟩=⟨p+x.show.length,0,i⟩:=Zm a (by rfl);have Y:yD s ⟨p+x.show.length,0,i⟩=44:=yT a;have g:xb s ⟨p+x.show.length+1,0,i⟩=⟨p+x.show.length+1,0,i⟩:=Zm a.qL (iJ _ _);have o:=Dj ys y (b++[x]) k (p+x.show.length+1) (j y (by simp)) (fun z q=>j z (by simp[q])) a.qL (by simp at n;omega);rw[oz];simp only[d,e,Y,ne_eq,not_true,qf,and_self,qa,Jst.qL,g,o];rw[zL,wD];simp;omega
theorem VF{sep x:za}:∀{xs:List za},x∈xs->x.length<=(Lib.joinTail sep xs).length
 |y::ys,h=>by
  rw[wD];rcases zJ.1 h with rfl|h
  ·simp;omega
  ·have:=VF (sep:=sep) h;simp;omega
theorem nq{sep x:za}{xs:List za}(h:x∈xs):x.length<=(Lib.join xs sep).length:=by
 cases xs with
 |nil=>cases h
 |cons y ys=>
  rw[lq];rcases zJ.1 h with rfl|h
  ·simp
  ·have:=VF (sep:=sep) h;simp;omega
theorem WW{c:UInt8}:∀(xs:List za),xs.length<=(Lib.joinTail [c] xs).length
 |[]=>by simp
 |y::ys=>by rw[wD];have:=WW (c:=c) ys;simp;omega
theorem Dk{xs:List Val}{p:Nat}(d:∀y∈xs,RB f s y)(h:jv s p (91::(Lib.join (xs.map Val.show) [44]++93::l))):vt s f ⟨p,0,i⟩=(xs,⟨p+(Lib.join (xs.map Val.show) [44]).length+2,0,i⟩):=by
 have a:=h.qL;cases xs with
 |nil=>have a:jv s (p+1) (93::l):=a;have b:xb s ⟨p+1,0,i⟩=⟨p+1,0,i⟩:=Zm a (by rfl);have Y:yD s ⟨p+1,0,i⟩=93:=yT a;simp[vt,Jst.qL,b,Y,Lib.join_nil]
 |cons x xs=>
  rw[zL,lq]at a⊢;rw[qt]at a;have b:xb s ⟨p+1,0,i⟩=⟨p+1,0,i⟩:=Zm a (iJ _ _);obtain⟨c,t,e,g⟩:=JD x;have Y:yD s ⟨p+1,0,i⟩=c:=by rw[e]at a;exact yT a
  have j:¬c=93:=by rintro rfl;exact absurd g (by decide)
  have k:=a.len;have m:=WW (c:=44) (xs.map Val.show);rw[vt];simp only[Jst.qL,b,Y,zg j];rw[Dj xs x [] _ _ (d x (by simp)) (fun y n=>d y (by simp[n])) a (by simp at k m;omega)];simp;omega
theorem sX{a:za}{seen:List za}{v:Val}{p:Nat}(e:wi 32 126 a=true)(hs:a ∉ seen)(h:jv s p (yB a++(58::(v.show++l)))):yR s ⟨p,0,i⟩=(a,⟨p+(yB a).length,0,i⟩)/\K5 s seen ⟨p,0,i⟩=⟨p+(yB a).length+1,0,i⟩:=by
 have d:=nn (i:=i) e h;have b:=h.app;have f:xb s ⟨p+(yB a).length,0,i⟩=⟨p+(yB a).length,0,i⟩:=Zm b (by rfl);have g:=dJ (i:=i) b;have c:xb s ⟨p+(yB a).length+1,0,i⟩=⟨p+(yB a).length+1,0,i⟩:=Zm b.qL (iJ _ _);refine⟨d,?_⟩;have j:xY s seen ⟨p,0,i⟩=⟨p+(yB a).length,0,i⟩:=by simp[xY,d,hs]
 simp[K5,j,f,g,c]
theorem Dl(a l:za):(yB a++l).takeWhile JJ=[]:=by simp[yB,List.takeWhile,JJ]
theorem Dm:∀(c:List (za×Val)) (a:za) (x:Val) (seen:List za) (j:List (za×Val)) (k p:Nat),RB f s x->(∀y∈c,RB f s y.2)->wi 32 126 a=true->(∀y∈c,wi 32 126 y.1=true)->(a::c.map Prod.fst).Nodup->(∀b∈a::c.map Prod.fst,b ∉ seen) ->
  jv s p (jk (a,x)++(Lib.joinTail [44] (c.map jk)++125::l))->c.length<k ->
  oA s f k seen j ⟨p,0,i⟩=(j++(a,x)::c,⟨p+(jk (a,x)).length+(Lib.joinTail [44] (c.map jk)).length+1,0,i⟩)
 |[],a,x,seen,j,k+1,p,n,_,o,_,_,hs,h,_=>by
  have h:jv s p (yB a++(58::(x.show++125::l))):=by simpa[jk,Lib.joinTail]using h
  obtain⟨q,r⟩:=sX (i:=i) o (hs a (by simp)) h;have t:=n _ i _ (iI (by decide) (by decide)) h.app.qL;have d:=h.app.qL.app;have u:xb s ⟨p+(yB a).length+1+x.show.length,0,i⟩=⟨p+(yB a).length+1+x.show.length,0,i⟩:=Zm d (by rfl);have Y:yD s ⟨p+(yB a).length+1+x.show.length,0,i⟩=125:=yT d;have A:=dJ (i:=i) d;rw[oA];simp[q,r,t,u,Y,A,jk,Lib.joinTail];omega
 |(b,y)::c,a,x,seen,j,k+1,p,n,w,o,m,e,hs,h,B=>by
  rw[zL,wD]at h;have h:jv s p (yB a++(58::(x.show++(44::(jk (b,y)++(Lib.joinTail [44] (c.map jk)++125::l)))))):=by simpa[jk]using h
  obtain⟨q,r⟩:=sX (i:=i) o (hs a (by simp)) h;have t:=n _ i _ (iI (by decide) (by decide)) h.app.qL;have d:=h.app.qL.app;have u:xb s ⟨p+(yB a).length+1+x.show.length,0,i⟩=⟨p+(yB a).length+1+x.show.length,0,i⟩:=Zm d (by rfl);have Y:yD s ⟨p+(yB a).length+1+x.show.length,0,i⟩=44:=yT d;have v:xb s ⟨p+(yB a).length+1+x.show.length+1,0,i⟩=⟨p+(yB a).length+1+x.show.length+1,0,i⟩:=Zm d.qL (by rw[jk,qt];exact Dl _ _);rw[zL,List.nodup_cons]at e;have C:=Dm c b y (seen++[a]) (j++[(a,x)]) k _ (w (b,y) (by simp)) (fun z g=>w z (by simp[g])) (m (b,y) (by simp)) (fun z g=>m z (by simp[g])) e.2
   (fun z g=>by
    have D:=hs z (by simp at g⊢;right;exact g);have E:z≠a:=by rintro rfl;exact e.1 (by simpa using g)
    simp[D,E]) d.qL (by simp at B;omega)
  rw[oA];simp only[q,r,t,u,Y,ne_eq,not_true,qf,and_self,qa,Jst.qL,v,C];rw[zL,wD];simp[jk];omega
theorem GG{b:List (za×Val)}{p:Nat}(m:∀y∈b,RB f s y.2)(e:∀y∈b,wi 32 126 y.1=true)(n:(b.map Prod.fst).Nodup)(h:jv s p (123::(Lib.join (b.map jk) [44]++125::l))):ZQ s f ⟨p,0,i⟩=(b,⟨p+(Lib.join (b.map jk) [44]).length+2,0,i⟩):=by
 have d:=h.qL;cases b with
 |nil=>have d:jv s (p+1) (125::l):=d;have e:xb s ⟨p+1,0,i⟩=⟨p+1,0,i⟩:=Zm d (by rfl);have Y:yD s ⟨p+1,0,i⟩=125:=yT d;simp[ZQ,Jst.qL,e,Y,Lib.join_nil]
 |cons x b=>
  obtain⟨a,x⟩:=x;rw[zL,lq]at d⊢;rw[qt]at d;have g:xb s ⟨p+1,0,i⟩=⟨p+1,0,i⟩:=Zm d (by rw[jk,qt];exact Dl _ _);have Y:yD s ⟨p+1,0,i⟩=34:=by obtain⟨l',j⟩:∃l',jk (a,x)++(Lib.joinTail [44] (b.map jk)++125::l)=34::l':=⟨_,rfl⟩;rw[j]at d;exact yT d
  have o:=d.len;have q:=WW (c:=44) (b.map jk);rw[ZQ];simp only[Jst.qL,g,Y];rw[zg (by decide),Dm b a x [] [] _ _ (m (a,x) (by simp)) (fun y k=>m y (by simp[k])) (e (a,x) (by simp)) (fun y k=>e y (by simp[k])) (by simpa using n) (by simp) d (by simp at o q;omega)];simp;omega
end
theorem rn{k n:Int}{s:za}{i f:Nat}(h:vg k n s i f=0):K2 k=false/\WB k n s i f=false/\Jp k n=false/\Zx k n=false/\wi 32 126 s=true:=by
 unfold vg at h;split at h
 ·omega
 split at h
 ·omega
 split at h
 ·omega
 split at h
 ·omega
 split at h
 ·rename_i b c a e d;simp only[qU,not_or,Bool.not_eq_true]at b c a;exact⟨b,c,a.1,a.2,d⟩
 ·omega
theorem dK:∀{l:List Val},kg l=0->∀x∈l,x.fault=0
 |y::l,h,x,a=>by
  rw[kg]at h;split at h
  ·rename_i b;rcases zJ.1 a with rfl|a
   ·exact b
   ·exact dK h x a
  ·rename_i b;exact(b h).elim
def sb(l:List (za×Val)):Prop:=l.Pairwise fun a b=>Op.bytesLess a.1 b.1=true
theorem dL:∀{l:List (za×Val)} {q:Option za},xr q l=0->(∀x∈l,x.2.fault=0/\wi 32 126 x.1=true)/\sb l/\∀a,q=some a->∀x∈l,Op.bytesLess a x.1=true
 |[],q,_=>⟨by simp,List.Pairwise.nil,by simp⟩
 |(a,v)::l,q,h=>by
  rw[xr]at h;split at h
  ·simp at h
  split at h
  ·simp at h
  split at h
  case isFalse g=>exact(g h).elim
  rename_i d i j;obtain⟨k,m,e⟩:=dL h;have n:wi 32 126 a=true:=by simp[l7]at d;exact d.2
  have f:∀b,q=some b->Op.bytesLess b a=true:=fun b c=>by
   subst c;have:FQ a b=false:=by simpa[fq]using i
   exact Y4 this
  refine⟨fun x hx=>?_,oa.2 ⟨fun x hx=>e a rfl x hx,m⟩,fun b c x hx=>?_⟩
  ·rcases zJ.1 hx with rfl|hx
   ·exact⟨j,n⟩
   ·exact k x hx
  ·rcases zJ.1 hx with rfl|hx
   ·exact f b c
   ·exact dH (f b c) (e a rfl x hx)
theorem sb.nodup{l:List (za×Val)}(h:sb l):(l.map Prod.fst).Nodup:=by
 unfold List.Nodup;rw[tl];refine h.imp fun{a b} c e=>?_
 rw[e,De]at c;cases c
theorem GH{s:za}{g:List (za×Val)->List (za×Val)}(G:∀l,sb l->g l=l)(v:Val):v.fault=0->∀k,v.show.length<=k->RB (QV g s k) s v:=by
 induction v using Val.ind with
 |h K n t r m h1 h2=>
  intro u k d p i l hl h;have H:vg K n t r.length m.length=0/\kg r=0/\xr none m=0:=by
   rw[cJ]at u;split at u
   ·rename_i a;split at u
    ·rename_i b;exact⟨a,b,u⟩
    ·rename_i b;exact(b u).elim
   ·rename_i a;exact(a u).elim
  obtain⟨H,hV,hF⟩:=H;obtain⟨c1,P,Q,c4,c5⟩:=rn H;obtain⟨R,S,g3⟩:=dL hF;simp only[K2,Q8,Ew]at c1;simp only[WB,Q8,Bool.and_eq_false_iff,bne_eq_false_iff_eq,Bool.not_eq_false',yJ,Ew]at P;obtain⟨⟨⟨d1,d2⟩,d3⟩,d4⟩:=P;have w:K≠4->r=[]:=fun e=>by
   rcases d3 with h|h
   ·exact qy.1 (by omega)
   ·exact(e h).elim
  have x:K≠5->m=[]:=fun e=>by
   rcases d4 with h|h
   ·exact qy.1 (by omega)
   ·exact(e h).elim
  have z:K≠3->t=[]:=fun e=>by
   rcases d2 with h|h
   ·exact h
   ·exact(e h).elim
  have E:K≠1->K≠2->n=0:=fun e e'=>by
   rcases d1 with(h|h)|h
   ·exact h
   ·exact(e h).elim
   ·exact(e' h).elim
  obtain⟨c,t',T,e2⟩:=JD (.mk K n t r m);obtain⟨k,rfl⟩:∃k',k=k'+1:=⟨k-1,by rw[T]at d;simp at d;omega⟩;have U:=h;rw[T]at U;have o:=U.UW;rw[gX]at h d⊢;rw[QV];by_cases I:K=0
  ·rw[zl I]at h⊢;have Y:yD s ⟨p,0,i⟩=110:=yT h;rw[iH [110,117,108,108] h,w (by omega),x (by omega),z (by omega),E (by omega) (by omega),I];simp[o,Y,zV]
  rw[zg I]at h d⊢;by_cases A:K=1
  ·rw[zl A]at h⊢;rw[w (by omega),x (by omega),z (by omega)];have B:n=0\/n=1:=by simp only[Jp,A,beq_self_eq_true,Bool.true_and,Bool.and_eq_false_iff,bne_eq_false_iff_eq]at Q;exact Q
   rcases B with rfl|rfl
   ·have h:jv s p ([102,97,108,115,101]++l):=h;have Y:yD s ⟨p,0,i⟩=102:=yT h;rw[iH [102,97,108,115,101] h];simp[o,Y,A]
   ·have h:jv s p ([116,114,117,101]++l):=h;have Y:yD s ⟨p,0,i⟩=116:=yT h;rw[iH [116,114,117,101] h];simp[o,Y,A]
  rw[zg A]at h d⊢;by_cases F:K=2
  ·rw[zl F]at h⊢;rw[w (by omega),x (by omega),z (by omega),F];have W:-1000000000000000<n/\n<1000000000000000:=by simp[Zx,F]at c4;omega
   obtain⟨q,t2,f1,f2⟩:=XA n;have C:=h;rw[f1]at C;have Y:yD s ⟨p,0,i⟩=q:=yT C;rw[GF W.1 W.2 hl h];have q1:¬q=110/\¬q=116/\¬q=102/\¬q=34/\¬q=91/\¬q=123:=by
    rcases f2 with rfl|f2
    ·decide
    ·refine⟨?_,?_,?_,?_,?_,?_⟩<;>(rintro rfl;exact absurd f2 (by decide))
   simp[o,Y,q1,f2,pj]
  rw[zg F]at h d⊢;by_cases J:K=3
  ·rw[zl J]at h⊢;rw[w (by omega),x (by omega),E (by omega) (by omega),J];have Y:yD s ⟨p,0,i⟩=34:=by obtain⟨l',L⟩:∃l',yB t++l=34::l':=⟨_,rfl⟩;have h3:=h;rw[L]at h3;exact yT h3
   rw[nn c5 h];simp[o,Y]
  rw[zg J]at h d⊢;by_cases M:K=4
  ·rw[zl M]at h d⊢;rw[x (by omega),E (by omega) (by omega),z (by omega),M];have D:jv s p (91::(Lib.join (r.map Val.show) [44]++93::l)):=by simpa using h
   have Y:yD s ⟨p,0,i⟩=91:=yT D;have N:∀y∈r,RB (QV g s k) s y:=fun y j=>h1 y j (dK hV y j) k (by have:=nq (sep:=[44]) (List.mem_map_of_mem (f:=Val.show) j);simp at d;omega)
   rw[Dk N D];simp[o,Y];omega
  rw[zg M]at h d⊢;have k5:K=5:=by omega
  rw[w (by omega),E (by omega) (by omega),z (by omega),k5];have D:jv s p (123::(Lib.join (m.map jk) [44]++125::l)):=by simpa using h
  have Y:yD s ⟨p,0,i⟩=123:=yT D;have N:∀y∈m,RB (QV g s k) s y.2:=fun y j=>h2 y j (R y j).1 k (by have:=nq (sep:=[44]) (List.mem_map_of_mem (f:=jk) j);simp[jk]at d this;omega)
  rw[GG N (fun y j=>(R y j).2) S.nodup D,G m S];simp[o,Y];omega
theorem Dn{s:za}{a:List (za×Val)->List (za×Val)}(c:∀l,sb l->a l=l){v:Val}(d:v.fault=0){p:Nat}{l:za}(e:fP l)(h:jv s p (v.show++l)):xc a s p=(v,p+v.show.length,0):=by have b:=h.len;have:=GH (s:=s) c v d (s.length+1) (by simp at b;omega) p 0 l e h;simp[xc,this]
end Go.Q
