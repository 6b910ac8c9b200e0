/- Lemmas. -/
import Derived.Test.YtmngbpkapamhoaaGreatDoorG6
set_option maxRecDepth 100000
set_option maxHeartbeats 4000000
open Go Proofs Proofs.YtmngbpkapamhoaaGreatDoor Proofs.Tryz RowKit AM SpanLaw Q Zz
namespace Go.AM
variable{dr:Prop}
def n1(s:Nat):O->O
 | .nil=>.sl s []
 | .em=>.sl s []
 |x=>x
@[simp]theorem zj3(s:Nat):n1 s .nil=.sl s []:=rfl
@[simp]theorem zkp(s:Nat):n1 s .em=.sl s []:=rfl
@[simp]theorem zkq(s t:Nat)(es:List zb):n1 s (.sl t es)=.sl t es:=rfl
@[simp]theorem n1_v(s:Nat)(x:Value):n1 s (.v x)=.v x:=rfl
def QN:List (Option Nat)->zb->zb
 |some s::l,x::xs=>n1 s x::QN l xs
 |none::l,x::xs=>x::QN l xs
 |_,xs=>xs
inductive Sh where
 |a
 |g (p:List (Option Nat))
 |s (n:Nat) (p:List (Option Nat))
def Sh.fix:Sh->O->O
 | .g p,.agg cs=>.agg (QN p cs)
 | .s _ p,.sl m es=>.sl m (es.map (QN p))
 | .s n _,x=>n1 n x
 |_,x=>x
@[simp]theorem Sh.zkA(x:O):Sh.fix .a x=x:=by cases x<;>rfl
@[simp]theorem Sh.zkB(p:List (Option Nat))(cs:zb):Sh.fix (.g p) (.agg cs)=.agg (QN p cs):=rfl
@[simp]theorem Sh.rY(n m:Nat)(p:List (Option Nat))(es:List zb):Sh.fix (.s n p) (.sl m es)=.sl m (es.map (QN p)):=rfl
@[simp]theorem Sh.zjJ(n:Nat)(p:List (Option Nat)):Sh.fix (.s n p) .nil=.sl n []:=rfl
@[simp]theorem Sh.zkg(n:Nat)(p:List (Option Nat)):Sh.fix (.s n p) .em=.sl n []:=rfl
attribute [simp] QN
def dU:List Sh->zb->zb
 |h::l,x::xs=>h.fix x::dU l xs
 |_,xs=>xs
attribute [simp] dU
theorem Nq(s:Nat)(x:O):wL x (n1 s x):=by
 intro w S u h;cases x with
 |nil=>exact XN .nil h
 |em=>exact XN .em h
 |_=>exact h
theorem xG:∀(p:List (Option Nat)) (cs:zb),(QN p cs).length=cs.length
 |[],cs=>by cases cs<;>rfl
 |none::p,[]=>rfl
 |some s::p,[]=>rfl
 |none::p,x::cs=>by simp[xG p cs]
 |some s::p,x::cs=>by simp[xG p cs]
theorem ZI:∀(p:List (Option Nat)) (cs:zb),xr cs (QN p cs)
 |[],[]=>.nil
 |[],x::cs=>by have:=ZI [] cs;rw[show QN [] cs=cs by cases cs<;>rfl]at this;exact .cons (wL.refl x) this
 |none::p,[]=>.nil
 |some s::p,[]=>.nil
 |none::p,x::cs=>.cons (wL.refl x) (ZI p cs)
 |some s::p,x::cs=>.cons (Nq s x) (ZI p cs)
theorem Vy(h:Sh)(x:O):wL x (h.fix x):=by
 intro w S u f;cases h with
 |a=>simpa using f
 |g p=>
  cases x with
  |agg cs=>exact(ZI p cs).agg w S u f
  |_=>exact f
 |s n p=>
  cases x with
  |sl m es=>
   cases f with
   |sl us o q r t v y=>
    rename_i A cap;have:=ya.sl (w:=w) (S:=S) (es:=es.map (QN p)) (A:=A) (cap:=cap) (s:=m) us o (by simpa using q) r (fun c z=>by
     obtain⟨b,d,rfl⟩:=q9.1 z;rw[xG];exact t b d) (fun i j c B hi l=>by
     rw[qz]at hi;obtain⟨b,d,rfl⟩:∃b,es[i]?=some b/\QN p b=c:=by
      cases k:es[i]? with
      |none=>rw[k]at hi;cases hi
      |some b=>rw[k]at hi;injection hi with hi;exact⟨b,rfl,hi⟩
     have e:j<b.length:=by have:=(zk.1 l).1;rwa [xG]at this
     exact v i j b _ d (zq e)) (fun i j c B hi l=>by
     rw[qz]at hi;obtain⟨b,d,rfl⟩:∃b,es[i]?=some b/\QN p b=c:=by
      cases k:es[i]? with
      |none=>rw[k]at hi;cases hi
      |some b=>rw[k]at hi;injection hi with hi;exact⟨b,rfl,hi⟩
     have e:j<b.length:=by have:=(zk.1 l).1;rwa [xG]at this
     exact(ZI p b).get (zq e) l _ _ _ (y i j b _ d (zq e)))
    rw[Zn]at this;exact this
  |nil=>exact XN .nil f
  |em=>exact XN .em f
  |_=>exact f
theorem KG{w:World}{S:Nat->Prop}:∀{hs:List Sh} {xs:zb} {us:List Value},Zip (ya w S) xs us->Zip (ya w S) (dU hs xs) us
 |[],xs,us,h=>by cases xs<;>exact h
 |s::hs,[],us,h=>h
 |s::hs,x::xs,us,h=>by obtain⟨u,a,rfl,b,c⟩:=h.y9;exact .cons (Vy s x w S u b) (KG c)
def qP(a:List Sh)(F:zb->Option O):AM.Spec:=zh false [] fun args=>F (dU a args)
theorem jD(a:List Sh)(F:zb->Option O):WZ (qP a F):=zu _ _
theorem yf{C:Ctx}{pf:FuncId->Bool}{f:FuncId}{fn:Func}(c:kB dr C pf)(d:Vx C pf f fn)(a:List Sh)(F:zb->Option O)
  (e:∀args r,F args=some r->args.length<=fn.ntmps/\∃b,zv C fn args=some b/\wL b r):yY dr C.P f (qP a F):=
 W6 c d false [] _ fun args r h w S vs g=>by obtain⟨i,b,j,k⟩:=e _ _ h;exact⟨dU a args,b,KG g,i,j,k⟩
theorem xv{a:List Sh}{F:zb->Option O}{args:zb}{Y:Hp}{Z:Nat}{b:zb}{r:O}(c:zC Y args=some (b,Y))(d:F (dU a b)=some r)(e:r.flat=true\/args.all O.noOwn=true) :
  qP a F args Y Z=some (r,Y,Z):=by
 have f:yS [] b=b:=by cases b<;>rfl
 exact yI c (by rw[f];exact d) e
def XP(sh:Sh)(r:O)(x:O)(Y:Hp)(_:Nat):Prop:=∃a,(AM.freeze Y x).map (·.1)=some a/\sh.fix a=r
theorem QO{C:Ctx}{fn:Func}{code:Code}{args:zb}{sh:Sh}{r:O}(b:fn.body=some code)
  (h:ZX C code ⟨vn args,fun _=>none,0⟩ (Vq C.P fn (XP sh r))):∃a,zv C fn args=some a/\wL a r:=by
 obtain⟨x,Y',Z',c,a,d,e⟩:=qF b h;exact⟨a,by unfold zv;simp only[c];exact d,e ▸ Vy sh a⟩
def qB(sh:Sh)(r:O)(x:O)(Y:Hp)(_:Nat):Prop:=∃a y,(AM.freeze Y x).map (·.1)=some (.w5 [a,y])/\.w5 [sh.fix a,y]=r
theorem ji{C:Ctx}{fn:Func}{code:Code}{args:zb}{sh:Sh}{r:O}(b:fn.body=some code)
  (h:ZX C code ⟨vn args,fun _=>none,0⟩ (Vq C.P fn (qB sh r))):∃a,zv C fn args=some a/\wL a r:=by
 obtain⟨x,Y',Z',c,a,y,d,e⟩:=qF b h;exact⟨.w5 [a,y],by unfold zv;simp only[c];exact d,e ▸ (xr.cons (Vy sh a) (.cons (wL.refl y) .nil)).w5⟩
theorem jy{P:Program}{g:FuncId}{F:zb->Option O}(j:∃fn,P.funcs[g]?=some fn/\(fn.name== "runtime.NumGoroutine")=false/\fn.body.isNone=false)
  (h:∀args r,F args=some r->∃us:List Value,args=us.map O.v/\(∀u∈us,lit u=true)/\r.flat=true/\∃v,(∀w S,ya w S r v)/\∀w S,MH P w S->Calls P g us.toArray w fun e w'=>e=.returned v/\Fr dr w (fun _=>False) w'):yY dr P g (hP F):=by
 refine⟨j,?_⟩;intro args Y Z r Y' Z' hs w S G vs hi q
 try unfold hP at hs
 unfold zh at hs;split at hs
 ·rename_i k Y1 m;split at hs
  ·rename_i I s;obtain⟨us,e,t,n,v,z,A⟩:=h _ _ s;have B:yS [] k=k:=by cases k<;>rfl
   rw[B]at e;subst e;have d:args=us.map O.v:=by
    have o:∀(args:zb) (us:List Value) (Y1:Hp),zC Y args=some (us.map O.v,Y1)->args=us.map O.v:=by
     intro args
     induction args with
     |nil=>intro us Y1 b;simp only[zC]at b;injection b with b;injection b with b _
     |cons x l C=>
      intro us Y1 b;simp only[zC]at b;split at b
      ·rename_i y Y2 a;split at b
       ·rename_i J hp3 p;injection b with b
        injection b with b _;cases us with
        |nil=>simp at b
        |cons u us=>
         simp only[z6,zj]at b;obtain⟨rfl,rfl⟩:=b;have D:x=.v u/\Y2=Y:=by
          unfold qt at a;split at a
          ·split at a
           ·injection a with a;injection a with a _;cases a
           ·cases a
          ·unfold wI at a;split at a<;>first
            |(split at a<;>first|(split at a<;>first|(injection a with a;injection a with a _;cases a;done)|cases a)|cases a)
            |(injection a with a;injection a with i f;first|(exact⟨by rw[<-i],f.symm⟩)|cases i)
            |cases a
         obtain⟨rfl,rfl⟩:=D;rw[C us hp3 p];rfl
       ·cases b
      ·cases b
    exact o args us Y1 m
   subst d;simp only[n,true_or,qV]at hs;injection hs with hs
   injection hs with i f;injection f with f E;subst i;subst f;subst E;rw[nY t q];refine(A w S hi.fS).mono fun e w' b=>?_
   obtain⟨rfl,H⟩:=b;exact⟨v,_,G,rfl,kW.outer hi H,.c (z _ _)⟩
  ·cases hs
 ·cases hs
end Go.AM
namespace Go.Proofs
open Go.Shelf
def Tryz.Gx:Go.Shelf.Ren:=⟨fun|213=>151|265=>184|n=>n,fun|9=>9|3=>3|n=>n,fun|n=>n⟩
theorem Tryz.zcT:Go.Proofs.Lays.n213 prog Tryz.Gx:={
 mixed:=by kernel_rfl
 f213:=Xb func151
 f265:=Xb func184
 t3:=underlying3
 a3:=isAgg3
 z3:=sizeOf3
 v3:=zeroValue3
 t9:=underlying9
 a9:=isAgg9
 z9:=sizeOf9
 v9:=zeroValue9}
open Go.RowKit in
theorem Tryz.bytealg_CompareString(a b:ByteArray)(w:World) :
  Calls prog 151 #[.string a,.string b] w fun e w'=>e=.returned (.int .i64 (Lib.compareBytes a.data.toList b.data.toList))/\w'=w:=Any.bytealg_CompareString Tryz.zcT a b w
end Go.Proofs
namespace Go.Q
abbrev int(n:Int):O:=.v (.int .i64 n)
abbrev wb(b:Bool):O:=.v (.bool b)
abbrev M5(c:UInt8):O:=.v (.int .u8 c.toNat)
abbrev zA:Nat:=268435456
theorem mixed:prog.follows .mixedOrders=true:=by kernel_rfl
noncomputable abbrev C0:Ctx:=zV prog []
theorem je:Gd C0:=qC mixed trivial
def F3(f:Int->Int->Int->Bool):zb->Option O
 |[.v (.int .i64 a),.v (.int .i64 b),.v (.int .i64 c)]=>some (.v (.bool (f a b c)))
 |_=>none
def nF(f:Int->Bool):zb->Option O
 |[.v (.int .u8 a)]=>some (.v (.bool (f a)))
 |_=>none
def jG(n a b:Int):Bool:=decide (a<=n)&&decide (n<=b)
def b5(n:Int):Bool:=decide (97<=n)&&decide (n<=122)||decide (48<=n)&&decide (n<=57)||n==45||n==95
@[simp]theorem zjC(f:Int->Int->Int->Bool)(a b c:Int)(Y:Hp)(Z:Nat):hP (F3 f) [.v (.int .i64 a),.v (.int .i64 b),.v (.int .i64 c)] Y Z=some (.v (.bool (f a b c)),Y,Z):=yI rfl rfl (.inl rfl)
@[simp]theorem zh1(f:Int->Bool)(a:Int)(Y:Hp)(Z:Nat):hP (nF f) [.v (.int .u8 a)] Y Z=some (.v (.bool (f a)),Y,Z):=yI rfl rfl (.inl rfl)
theorem oc{f:Int->Int->Int->Bool}{args:zb}{r:O}(h:F3 f args=some r):∃a b c,args=[int a,int b,int c]/\r=wb (f a b c):=by
 unfold F3 at h;split at h
 ·injection h with h;exact⟨_,_,_,rfl,h.symm⟩
 ·cases h
theorem AX{f:Int->Bool}{args:zb}{r:O}(h:nF f args=some r):∃a,args=[.v (.int .u8 a)]/\r=wb (f a):=by
 unfold nF at h;split at h
 ·injection h with h;exact⟨_,rfl,h.symm⟩
 ·cases h
theorem QP:zg prog 55 (hP (F3 jG)):=
 yy (fn:=f55) je (qX func55) false [] _ fun args r h=>by obtain⟨a,b,c,rfl,rfl⟩:=oc h;exact⟨by simp[f55],_,zn rfl (by simp[f55,jG]),z8 _⟩
theorem ZZ:zg prog 248 (hP (F3 jG)):=
 yy (fn:=f248) je (qX func248) false [] _ fun args r h=>by obtain⟨a,b,c,rfl,rfl⟩:=oc h;exact⟨by simp[f248],_,zn rfl (by simp[f248,jG]),z8 _⟩
theorem AY:zg prog 56 (hP (nF b5)):=
 yy (fn:=f56) je (qX func56) false [] _ fun args r h=>by obtain⟨a,rfl,rfl⟩:=AX h;exact⟨by simp[f56],_,zn rfl (by simp[f56,b5]),z8 _⟩
theorem od:zg prog 153 (hP (nF b5)):=
 yy (fn:=f153) je (qX func153) false [] _ fun args r h=>by obtain⟨a,rfl,rfl⟩:=AX h;exact⟨by simp[f153],_,zn rfl (by simp[f153,b5]),z8 _⟩
noncomputable def FS (f:za->Bool):zb->Option O:=qd (α:=za) (fun l=>[str l]) (fun l=>l.length<=zA) (fun l=>wb (f l))
@[simp]theorem vw(f:za->Bool)(l:za)(Y:Hp)(Z:Nat)(h:l.length<=zA):hP (FS f) [str l] Y Z=some (wb (f l),Y,Z):=
 QL l _ _ rfl (fun a b e=>by simp only[zj,zG]at e;exact wC e) h (.inl rfl)
def pr(a b:Nat)(c:UInt8):Bool:=decide (a<=c.toNat)&&decide (c.toNat<=b)
theorem Vz(a b:Nat)(c:UInt8):(decide ((c.toNat:Int)<a)||decide ((b:Int)<c.toNat))=!pr a b c:=by rw[qA];simp[pr]
def wc(a b:Nat)(l:za):Bool:=l.all (pr a b)
def Zb(l:za):Bool:=wc 33 126 l&&jG l.length 1 100
def oe(l:za):Bool:=wc 33 126 l&&!(l==[])
def QQ(l:za):Bool:=l.all fun c=>b5 c.toNat
def JU(l:za):Bool:=QQ l&&!(l==[])
def tV:za->Bool
 |[]=>false
 |c::_=>decide ((97:Int)<=c.toNat)&&decide ((c.toNat:Int)<=(122:Int))
def wy(l:za):Bool:=jG l.length 1 40&&tV l&&QQ l
noncomputable abbrev C1:Ctx:=zV prog [(55,hP (F3 jG)),(56,hP (nF b5)),(248,hP (F3 jG)),(153,hP (nF b5))]
abbrev qRl1:List Nat:=[55,56,248,153]
theorem tW:AM.Good C1 (fun g=>qRl1.contains g):=qC mixed ⟨QP,fun _=>zu _ _,AY,fun _=>zu _ _,ZZ,fun _=>zu _ _,od,fun _=>zu _ _,trivial⟩
theorem dW{l:za}{p:UInt8->Bool}{k:Nat}(h:k<l.length):(l.drop k).all p=(p l[k]&&(l.drop (k+1)).all p):=by rw[zc h,wi]
theorem xJ{a b:Nat}{l:za}{k:Nat}(h:k<l.length):wc a b (l.drop k)=(pr a b l[k]&&wc a b (l.drop (k+1))):=dW h
theorem iV{l:za}{k:Nat}(h:k<l.length):QQ (l.drop k)=(b5 l[k].toNat&&QQ (l.drop (k+1))):=dW h
@[simp]theorem zdp(a b:Nat):wc a b []=true:=rfl
@[simp]theorem zes:QQ []=true:=rfl
theorem Nr(l:za)(h:l.length<=zA):zv C1 f196 [str l]=some (wb (wc 32 126 l)):=by
 refine zn rfl ?_;unfold zA at h;simp;refine zL (fun k σ Y Z=>σ 0=str l/\σ 5=int l.length/\σ 6=int k/\wc 32 126 l=wc 32 126 (l.drop k)) l.length ⟨by simp,by simp,by simp,by simp⟩ ?_;rintro k σ Y Z j ⟨d,e,f,b⟩;by_cases a:k<l.length
 ·have i:=qe k;rw[xJ a]at b;have g:=Vz 32 126 l[k];simp only[xF]at g;cases c:pr 32 126 l[k]
  ·have b:wc 32 126 l=false:=by rw[b,c];rfl
   simp[d,e,f,a,b,g,c,f196]
  ·simp[d,e,f,a,g,c,i];exact⟨a,by rw[b,c];rfl⟩
 ·obtain rfl:k=l.length:=by omega
  have b:wc 32 126 l=true:=by rw[b,zp];rfl
  simp[d,e,f,b,f196]
theorem og(l:za)(h:l.length<=zA):zv C1 f249 [str l]=some (wb (wc 32 126 l)):=by
 refine zn rfl ?_;unfold zA at h;simp;refine zL (fun k σ Y Z=>σ 0=str l/\σ 5=int l.length/\σ 6=int k/\wc 32 126 l=wc 32 126 (l.drop k)) l.length ⟨by simp,by simp,by simp,by simp⟩ ?_;rintro k σ Y Z j ⟨d,e,f,b⟩;by_cases a:k<l.length
 ·have i:=qe k;rw[xJ a]at b;have g:=Vz 32 126 l[k];simp only[xF]at g;cases c:pr 32 126 l[k]
  ·have b:wc 32 126 l=false:=by rw[b,c];rfl
   simp[d,e,f,a,b,g,c,f249]
  ·simp[d,e,f,a,g,c,i];exact⟨a,by rw[b,c];rfl⟩
 ·obtain rfl:k=l.length:=by omega
  have b:wc 32 126 l=true:=by rw[b,zp];rfl
  simp[d,e,f,b,f249]
theorem HH(l:za)(h:l.length<=zA):zv C1 f106 [str l]=some (wb (Zb l)):=by
 refine zn rfl ?_;unfold zA at h;simp;refine zL (fun k σ Y Z=>σ 0=str l/\σ 5=int l.length/\σ 6=int k/\wc 33 126 l=wc 33 126 (l.drop k)) l.length ⟨by simp,by simp,by simp,by simp⟩ ?_;rintro k σ Y Z j ⟨d,e,f,b⟩;by_cases a:k<l.length
 ·have i:=qe k;rw[xJ a]at b;have g:=Vz 33 126 l[k];simp only[xF]at g;cases c:pr 33 126 l[k]
  ·have b:wc 33 126 l=false:=by rw[b,c];rfl
   simp[d,e,f,a,b,g,c,Zb,f106]
  ·simp[d,e,f,a,g,c,i];exact⟨a,by rw[b,c];rfl⟩
 ·obtain rfl:k=l.length:=by omega
  have b:wc 33 126 l=true:=by rw[b,zp];rfl
  simp[d,e,f,b,Zb,f106]
theorem HI(l:za)(h:l.length<=zA):zv C1 f154 [str l]=some (wb (oe l)):=by
 refine zn rfl ?_;unfold zA at h;simp;refine zL (fun k σ Y Z=>σ 0=str l/\σ 5=int l.length/\σ 6=int k/\wc 33 126 l=wc 33 126 (l.drop k)) l.length ⟨by simp,by simp,by simp,by simp⟩ ?_;rintro k σ Y Z j ⟨d,e,f,b⟩;by_cases a:k<l.length
 ·have i:=qe k;rw[xJ a]at b;have g:=Vz 33 126 l[k];simp only[xF]at g;cases c:pr 33 126 l[k]
  ·have b:wc 33 126 l=false:=by rw[b,c];rfl
   simp[d,e,f,a,b,g,c,oe,f154]
  ·simp[d,e,f,a,g,c,i];exact⟨a,by rw[b,c];rfl⟩
 ·obtain rfl:k=l.length:=by omega
  have b:wc 33 126 l=true:=by rw[b,zp];rfl
  simp[d,e,f,b,oe,f154]
theorem AZ(l:za)(g:l.length<=zA):zv C1 f124 [str l]=some (wb (JU l)):=by
 refine zn rfl ?_;unfold zA at g;simp;refine zL (fun k σ Y Z=>σ 0=str l/\σ 5=int l.length/\σ 6=int k/\QQ l=QQ (l.drop k)) l.length ⟨by simp,by simp,by simp,by simp⟩ ?_;rintro k σ Y Z i ⟨d,e,f,b⟩;by_cases a:k<l.length
 ·have h:=qe k;rw[iV a]at b;cases c:b5 l[k].toNat
  ·have b:QQ l=false:=by rw[b,c];rfl
   simp[d,e,f,a,b,c,JU,f124]
  ·simp[d,e,f,a,c,h];exact⟨a,by rw[b,c];rfl⟩
 ·obtain rfl:k=l.length:=by omega
  have b:QQ l=true:=by rw[b,zp];rfl
  simp[d,e,f,b,JU,f124]
theorem DM(l:za)(n:l.length<=zA):zv C1 f29 [str l]=some (wb (wy l)):=by
 refine zn rfl ?_;unfold zA at n;cases e:jG l.length 1 40
 ·simp[e,wy,f29]
 have a:0<l.length:=by simp[jG]at e;omega
 have o:tV l=(decide ((97:Int)<=l[0].toNat)&&decide ((l[0].toNat:Int)<=(122:Int))):=by
  cases l with
  |nil=>simp at a
  |cons c l=>rfl
 have m:(decide ((l[0].toNat:Int)<(97:Int))||decide ((122:Int)<l[0].toNat))=!tV l:=by rw[o,qA];simp
 cases g:tV l
 ·simp[e,a,m,g,wy,f29]
 simp[e,a,m,g];refine zL (fun k σ Y Z=>σ 0=str l/\σ 19=int l.length/\σ 20=int k/\QQ l=QQ (l.drop k)) l.length ⟨by simp,by simp,by simp,by simp⟩ ?_;rintro k σ Y Z q ⟨h,i,j,d⟩;by_cases b:k<l.length
 ·have p:=qe k;rw[iV b]at d;cases f:b5 l[k].toNat
  ·have d:QQ l=false:=by rw[d,f];rfl
   simp[h,i,j,b,d,f,wy,f29]
  ·simp[h,i,j,b,f,p];exact⟨b,by rw[d,f];rfl⟩
 ·obtain rfl:k=l.length:=by omega
  have d:QQ l=true:=by rw[d,zp];rfl
  simp[h,i,j,d,e,g,wy,f29]
theorem oh:zg prog 196 (hP (FS (wc 32 126))):=
 vM tW func196 false [] fun l Y=>⟨by simp[f196],_,Nr l Y,z8 _⟩
theorem Yw:zg prog 249 (hP (FS (wc 32 126))):=
 vM tW func249 false [] fun l Y=>⟨by simp[f249],_,og l Y,z8 _⟩
theorem XQ:zg prog 106 (hP (FS Zb)):=
 vM tW func106 false [] fun l Y=>⟨by simp[f106],_,HH l Y,z8 _⟩
theorem DN:zg prog 154 (hP (FS oe)):=
 vM tW func154 false [] fun l Y=>⟨by simp[f154],_,HI l Y,z8 _⟩
theorem sn:zg prog 124 (hP (FS JU)):=
 vM tW func124 false [] fun l Y=>⟨by simp[f124],_,AZ l Y,z8 _⟩
theorem ZJ:zg prog 29 (hP (FS wy)):=
 vM tW func29 false [] fun l Y=>⟨by simp[f29],_,DM l Y,z8 _⟩
noncomputable abbrev CRw:Ctx:=zV prog [(196,hP (FS (wc 32 126))),(249,hP (FS (wc 32 126))),(106,hP (FS Zb)),(154,hP (FS oe)),(124,hP (FS JU)),(29,hP (FS wy)),(55,hP (F3 jG)),(248,hP (F3 jG))]
abbrev qRw:List Nat:=[196,249,106,154,124,29,55,248]
theorem RJ:AM.Good CRw (fun g=>qRw.contains g):=qC mixed ⟨oh,fun _=>zu _ _,Yw,fun _=>zu _ _,XQ,fun _=>zu _ _,DN,fun _=>zu _ _,sn,fun _=>zu _ _,ZJ,fun _=>zu _ _,QP,fun _=>zu _ _,ZZ,fun _=>zu _ _,trivial⟩
theorem Ns(l:za):(oe l&&decide ((l.length:Int)<=100))=Zb l:=by
 cases l with
 |nil=>rfl
 |cons c l=>rw[qA];simp[oe,Zb,jG];omega
theorem DO(l:za)(a:l.length<=zA):zv CRw f125 [str l]=some (wb (Zb l)):=by refine zn rfl ?_;simp[a,f125,Ns]
theorem A0(l:za)(h:0<l.length):(JU l&&decide ((l.length:Int)<=40)&&decide ((97:Int)<=l[0].toNat)&&decide ((l[0].toNat:Int)<=(122:Int)))=wy l:=by
 cases l with
 |nil=>simp at h
 |cons c l=>unfold JU wy;generalize QQ (c::l)=w;rw[qA];cases w<;>simp[jG,tV]<;>omega
theorem A1(l:za)(b:l.length<=zA):zv CRw f75 [str l]=some (wb (wy l)):=by
 refine zn rfl ?_;cases l with
 |nil=>simp[f75,JU,wy,tV]
 |cons c l=>
  have a:0<(c::l).length:=by simp
  have:=A0 (c::l) a;generalize d:c::l=m at *;simp[b,a,f75,this]
theorem A2:zg prog 125 (hP (FS Zb)):=
 vM RJ func125 false [] fun l Y=>⟨by simp[f125],_,DO l Y,z8 _⟩
theorem Z1:zg prog 75 (hP (FS wy)):=
 vM RJ func75 false [] fun l Y=>⟨by simp[f75],_,A1 l Y,z8 _⟩
end Go.Q
namespace Go.Proofs
open Go.Shelf
def Tryz.Gy:Go.Shelf.Ren:=⟨fun|161=>289|231=>319|227=>243|233=>320|235=>321|228=>284|197=>224|151=>286|260=>263|152=>318|137=>291|119=>335|224=>303|225=>302|217=>301|266=>327|n=>n,fun|9=>9|4=>4|3=>3|5=>5|117=>270|116=>269|0=>0|124=>273|105=>247|21=>21|119=>311|46=>165|139=>314|138=>313|n=>n,fun|3=>4|4=>5|n=>n⟩
theorem Tryz.zcU:Go.Proofs.Lays.n161 prog Tryz.Gy:={
 mixed:=by kernel_rfl
 f119:=Xb func335
 f137:=Xb func291
 f151:=Xb func286
 f152:=Xb func318
 f161:=Xb func289
 f197:=Xb func224
 f217:=Xb func301
 f224:=Xb func303
 f225:=Xb func302
 f227:=Xb func243
 f228:=Xb func284
 f231:=Xb func319
 f233:=Xb func320
 f235:=Xb func321
 f260:=Xb func263
 f266:=Xb func327
 t0:=underlying0
 a0:=isAgg0
 z0:=sizeOf0
 v0:=zeroValue0
 t3:=underlying3
 a3:=isAgg3
 z3:=sizeOf3
 v3:=zeroValue3
 t4:=underlying4
 a4:=isAgg4
 z4:=sizeOf4
 v4:=zeroValue4
 t5:=underlying5
 a5:=isAgg5
 z5:=sizeOf5
 v5:=zeroValue5
 t9:=underlying9
 a9:=isAgg9
 z9:=sizeOf9
 v9:=zeroValue9
 t21:=underlying21
 a21:=isAgg21
 z21:=sizeOf21
 v21:=zeroValue21
 t46:=underlying165
 a46:=isAgg165
 z46:=sizeOf165
 v46:=zeroValue165
 t105:=underlying247
 a105:=isAgg247
 z105:=sizeOf247
 v105:=zeroValue247
 t116:=underlying269
 a116:=isAgg269
 z116:=sizeOf269
 t117:=underlying270
 a117:=isAgg270
 z117:=sizeOf270
 v117:=zeroValue270
 t119:=underlying311
 a119:=isAgg311
 z119:=sizeOf311
 t124:=underlying273
 a124:=isAgg273
 z124:=sizeOf273
 v124:=zeroValue273
 t138:=underlying313
 a138:=isAgg313
 z138:=sizeOf313
 v138:=zeroValue313
 t139:=underlying314
 a139:=isAgg314
 z139:=sizeOf314
 v139:=zeroValue314
 g3:=by kernel_rfl
 g4:=by kernel_rfl}
def Tryz.Gz:Go.Shelf.Ren:=⟨fun|160=>288|232=>242|231=>319|227=>243|234=>244|233=>320|236=>245|235=>321|228=>284|271=>285|151=>286|197=>224|120=>317|152=>318|260=>263|137=>291|119=>335|224=>303|225=>302|217=>301|266=>327|n=>n,fun|9=>9|4=>4|3=>3|5=>5|117=>270|116=>269|0=>0|124=>273|21=>21|105=>247|46=>165|119=>311|139=>314|138=>313|n=>n,fun|3=>4|4=>5|n=>n⟩
theorem Tryz.zcV:Go.Proofs.Lays.n160 prog Tryz.Gz:={
 mixed:=by kernel_rfl
 f119:=Xb func335
 f120:=Xb func317
 f137:=Xb func291
 f151:=Xb func286
 f152:=Xb func318
 f160:=Xb func288
 f197:=Xb func224
 f217:=Xb func301
 f224:=Xb func303
 f225:=Xb func302
 f227:=Xb func243
 f228:=Xb func284
 f231:=Xb func319
 f232:=Xb func242
 f233:=Xb func320
 f234:=Xb func244
 f235:=Xb func321
 f236:=Xb func245
 f260:=Xb func263
 f266:=Xb func327
 f271:=Xb func285
 t0:=underlying0
 a0:=isAgg0
 z0:=sizeOf0
 v0:=zeroValue0
 t3:=underlying3
 a3:=isAgg3
 z3:=sizeOf3
 v3:=zeroValue3
 t4:=underlying4
 a4:=isAgg4
 z4:=sizeOf4
 v4:=zeroValue4
 t5:=underlying5
 a5:=isAgg5
 z5:=sizeOf5
 v5:=zeroValue5
 t9:=underlying9
 a9:=isAgg9
 z9:=sizeOf9
 v9:=zeroValue9
 t21:=underlying21
 a21:=isAgg21
 z21:=sizeOf21
 v21:=zeroValue21
 t46:=underlying165
 a46:=isAgg165
 z46:=sizeOf165
 v46:=zeroValue165
 t105:=underlying247
 a105:=isAgg247
 z105:=sizeOf247
 v105:=zeroValue247
 t116:=underlying269
 a116:=isAgg269
 z116:=sizeOf269
 t117:=underlying270
 a117:=isAgg270
 z117:=sizeOf270
 v117:=zeroValue270
 t119:=underlying311
 a119:=isAgg311
 z119:=sizeOf311
 t124:=underlying273
 a124:=isAgg273
 z124:=sizeOf273
 v124:=zeroValue273
 t138:=underlying313
 a138:=isAgg313
 z138:=sizeOf313
 v138:=zeroValue313
 t139:=underlying314
 a139:=isAgg314
 z139:=sizeOf314
 v139:=zeroValue314
 g3:=by kernel_rfl
 g4:=by kernel_rfl}
def Tryz.GA:Go.Shelf.Ren:=⟨fun|137=>291|217=>301|266=>327|n=>n,fun|9=>9|5=>5|3=>3|n=>n,fun|n=>n⟩
theorem Tryz.zcW:Go.Proofs.Lays.n137 prog Tryz.GA:={
 mixed:=by kernel_rfl
 f137:=Xb func291
 f217:=Xb func301
 f266:=Xb func327
 t3:=underlying3
 a3:=isAgg3
 z3:=sizeOf3
 v3:=zeroValue3
 t5:=underlying5
 a5:=isAgg5
 z5:=sizeOf5
 v5:=zeroValue5
 t9:=underlying9
 a9:=isAgg9
 z9:=sizeOf9
 v9:=zeroValue9}
def Tryz.GB:Go.Shelf.Ren:=⟨fun|172=>271|244=>312|245=>313|247=>329|279=>330|280=>331|281=>332|282=>333|287=>338|316=>339|171=>12|205=>340|321=>343|322=>344|243=>25|246=>48|283=>90|284=>91|285=>92|286=>93|129=>133|317=>132|318=>134|319=>135|320=>136|337=>157|338=>158|n=>n,fun|9=>9|3=>3|75=>40|76=>41|4=>4|5=>5|167=>326|37=>35|0=>0|85=>327|2=>2|168=>329|53=>133|175=>334|46=>165|210=>337|127=>80|145=>343|143=>341|21=>21|171=>132|173=>136|212=>162|51=>163|20=>20|213=>164|232=>221|233=>222|80=>67|n=>n,fun|15=>6|16=>7|17=>1|18=>2|19=>3|n=>n⟩
theorem Tryz.zcX:Go.Proofs.Lays.n172 prog Tryz.GB:={
 mixed:=by kernel_rfl
 f129:=Xb func133
 f171:=Xb func12
 f172:=Xb func271
 f205:=Xb func340
 f243:=Xb func25
 f244:=Xb func312
 f245:=Xb func313
 f246:=Xb func48
 f247:=Xb func329
 f279:=Xb func330
 f280:=Xb func331
 f281:=Xb func332
 f282:=Xb func333
 f283:=Xb func90
 f284:=Xb func91
 f285:=Xb func92
 f286:=Xb func93
 f287:=Xb func338
 f316:=Xb func339
 f317:=Xb func132
 f318:=Xb func134
 f319:=Xb func135
 f320:=Xb func136
 f321:=Xb func343
 f322:=Xb func344
 f337:=Xb func157
 f338:=Xb func158
 t0:=underlying0
 a0:=isAgg0
 z0:=sizeOf0
 v0:=zeroValue0
 t2:=underlying2
 a2:=isAgg2
 z2:=sizeOf2
 v2:=zeroValue2
 t3:=underlying3
 a3:=isAgg3
 z3:=sizeOf3
 v3:=zeroValue3
 t4:=underlying4
 a4:=isAgg4
 z4:=sizeOf4
 v4:=zeroValue4
 t5:=underlying5
 a5:=isAgg5
 z5:=sizeOf5
 v5:=zeroValue5
 t9:=underlying9
 a9:=isAgg9
 z9:=sizeOf9
 v9:=zeroValue9
 t20:=underlying20
 a20:=isAgg20
 z20:=sizeOf20
 v20:=zeroValue20
 t21:=underlying21
 a21:=isAgg21
 z21:=sizeOf21
 v21:=zeroValue21
 t37:=underlying35
 a37:=isAgg35
 z37:=sizeOf35
 v37:=zeroValue35
 t46:=underlying165
 a46:=isAgg165
 z46:=sizeOf165
 v46:=zeroValue165
 t51:=underlying163
 a51:=isAgg163
 z51:=sizeOf163
 v51:=zeroValue163
 t53:=underlying133
 a53:=isAgg133
 z53:=sizeOf133
 v53:=zeroValue133
 t75:=underlying40
 a75:=isAgg40
 z75:=sizeOf40
 v75:=zeroValue40
 t76:=underlying41
 a76:=isAgg41
 z76:=sizeOf41
 v76:=zeroValue41
 t85:=underlying327
 a85:=isAgg327
 z85:=sizeOf327
 v85:=zeroValue327
 t127:=underlying80
 a127:=isAgg80
 z127:=sizeOf80
 v127:=zeroValue80
 t143:=underlying341
 a143:=isAgg341
 z143:=sizeOf341
 v143:=zeroValue341
 t145:=underlying343
 a145:=isAgg343
 z145:=sizeOf343
 v145:=zeroValue343
 t167:=underlying326
 a167:=isAgg326
 z167:=sizeOf326
 v167:=zeroValue326
 t168:=underlying329
 a168:=isAgg329
 z168:=sizeOf329
 v168:=zeroValue329
 t171:=underlying132
 a171:=isAgg132
 z171:=sizeOf132
 v171:=zeroValue132
 t173:=underlying136
 a173:=isAgg136
 z173:=sizeOf136
 v173:=zeroValue136
 t175:=underlying334
 a175:=isAgg334
 z175:=sizeOf334
 v175:=zeroValue334
 t210:=underlying337
 a210:=isAgg337
 z210:=sizeOf337
 v210:=zeroValue337
 t212:=underlying162
 a212:=isAgg162
 z212:=sizeOf162
 v212:=zeroValue162
 t213:=underlying164
 a213:=isAgg164
 z213:=sizeOf164
 t232:=underlying221
 a232:=isAgg221
 z232:=sizeOf221
 v232:=zeroValue221
 t233:=underlying222
 a233:=isAgg222
 z233:=sizeOf222
 v233:=zeroValue222
 g15:=by kernel_rfl
 g16:=by kernel_rfl
 g17:=by kernel_rfl
 g18:=by kernel_rfl
 g19:=by kernel_rfl}
def Tryz.GD:Go.Shelf.Ren:=⟨fun|219=>262|217=>301|225=>302|224=>303|267=>304|266=>327|314=>328|n=>n,fun|9=>9|3=>3|4=>4|5=>5|46=>165|146=>315|51=>163|n=>n,fun|1=>0|n=>n⟩
theorem Tryz.zcY:Go.Proofs.Lays.n219 prog Tryz.GD:={
 mixed:=by kernel_rfl
 f217:=Xb func301
 f219:=Xb func262
 f224:=Xb func303
 f225:=Xb func302
 f266:=Xb func327
 f267:=Xb func304
 f314:=Xb func328
 t3:=underlying3
 a3:=isAgg3
 z3:=sizeOf3
 v3:=zeroValue3
 t4:=underlying4
 a4:=isAgg4
 z4:=sizeOf4
 v4:=zeroValue4
 t5:=underlying5
 a5:=isAgg5
 z5:=sizeOf5
 v5:=zeroValue5
 t9:=underlying9
 a9:=isAgg9
 z9:=sizeOf9
 v9:=zeroValue9
 t46:=underlying165
 a46:=isAgg165
 z46:=sizeOf165
 v46:=zeroValue165
 t51:=underlying163
 a51:=isAgg163
 z51:=sizeOf163
 v51:=zeroValue163
 t146:=underlying315
 a146:=isAgg315
 z146:=sizeOf315
 v146:=zeroValue315
 g1:=by kernel_rfl}
def Tryz.GF:Go.Shelf.Ren:=⟨fun|138=>222|195=>260|218=>261|143=>223|219=>262|217=>301|225=>302|224=>303|267=>304|266=>327|314=>328|n=>n,fun|9=>9|3=>3|4=>4|5=>5|0=>0|46=>165|146=>315|51=>163|n=>n,fun|1=>0|n=>n⟩
theorem Tryz.zcZ:Go.Proofs.Lays.n138 prog Tryz.GF:={
 mixed:=by kernel_rfl
 f138:=Xb func222
 f143:=Xb func223
 f195:=Xb func260
 f217:=Xb func301
 f218:=Xb func261
 f219:=Xb func262
 f224:=Xb func303
 f225:=Xb func302
 f266:=Xb func327
 f267:=Xb func304
 f314:=Xb func328
 t0:=underlying0
 a0:=isAgg0
 z0:=sizeOf0
 v0:=zeroValue0
 t3:=underlying3
 a3:=isAgg3
 z3:=sizeOf3
 v3:=zeroValue3
 t4:=underlying4
 a4:=isAgg4
 z4:=sizeOf4
 v4:=zeroValue4
 t5:=underlying5
 a5:=isAgg5
 z5:=sizeOf5
 v5:=zeroValue5
 t9:=underlying9
 a9:=isAgg9
 z9:=sizeOf9
 v9:=zeroValue9
 t46:=underlying165
 a46:=isAgg165
 z46:=sizeOf165
 v46:=zeroValue165
 t51:=underlying163
 a51:=isAgg163
 z51:=sizeOf163
 v51:=zeroValue163
 t146:=underlying315
 a146:=isAgg315
 z146:=sizeOf315
 v146:=zeroValue315
 g1:=by kernel_rfl}
end Go.Proofs
namespace Go.Q
noncomputable def Yx (f:za->za->O) (pre:za->za->Prop):zb->Option O:=qd (α:=za×za) (fun a=>[str a.1,str a.2]) (fun a=>a.1.length<=zA/\a.2.length<=zA/\pre a.1 a.2) (fun a=>f a.1 a.2)
theorem A3:∀a b:za×za,[str a.1,str a.2]=[str b.1,str b.2]->a=b:=by rintro⟨c,d⟩ ⟨f,g⟩ e;simp only[zj,zG]at e;rw[wC e.1,wC e.2]
theorem xT(f:za->za->O)(pre:za->za->Prop)(a b:za)(Y:Hp)(Z:Nat)(h:a.length<=zA)(c:b.length<=zA)(d:pre a b)(e:(f a b).flat=true):hP (Yx f pre) [str a,str b] Y Z=some (f a b,Y,Z):=
 QL (a,b) _ _ rfl A3 ⟨h,c,d⟩ (.inl e)
theorem xl{f:za->za->O}{pre:za->za->Prop}{args:zb}{r:O}(h:Yx f pre args=some r):∃a b,args=[str a,str b]/\a.length<=zA/\b.length<=zA/\pre a b/\r=f a b:=by obtain⟨⟨a,b⟩,rfl,⟨c,d,e⟩,rfl⟩:=zO h;exact⟨a,b,rfl,c,d,e,rfl⟩
theorem A4:PR prog 0:=by refine⟨vV (by kernel_rfl),#[.int .i64 0],3,by kernel_rfl,rfl,by kernel_rfl,by kernel_rfl,by kernel_rfl⟩
def HJ(a b:za):O:=int (Lib.index a b)
def cntP(a b:za):O:=int (Lib.count a b)
theorem DP:zg prog 262 (hP (Yx HJ fun _ _=>True)):=
 jy ⟨_,func262,by kernel_rfl,by kernel_rfl⟩ fun args r h=>by
  obtain⟨a,b,rfl,c,d,_,rfl⟩:=xl h;unfold zA at c d;refine⟨[.string ⟨a.toArray⟩,.string ⟨b.toArray⟩],rfl,by simp[lit],rfl,.int .i64 (Lib.index a b),fun w S=>.v rfl,fun w S f=>?_⟩;obtain⟨_,m,g⟩:=f.1 0 A4;refine(Any.stringslite_Index Tryz.zcY ⟨a.toArray⟩ ⟨b.toArray⟩ m w (by simp;omega) g).mono fun e w' i=>?_
  obtain⟨rfl,rfl⟩:=i;exact⟨by simp,Fr.refl _ _⟩
theorem A5:zg prog 222 (hP (Yx cntP fun _ b=>1<=b.length)):=
 jy ⟨_,func222,by kernel_rfl,by kernel_rfl⟩ fun args r h=>by
  obtain⟨a,b,rfl,c,d,f,rfl⟩:=xl h;unfold zA at c d;refine⟨[.string ⟨a.toArray⟩,.string ⟨b.toArray⟩],rfl,by simp[lit],rfl,.int .i64 (Lib.count a b),fun w S=>.v rfl,fun w S g=>?_⟩;obtain⟨_,m,i⟩:=g.1 0 A4;refine(Any.strings_Count_any Tryz.zcZ ⟨a.toArray⟩ ⟨b.toArray⟩ m w (by simp;omega) i (by simpa using f)).mono fun e w' j=>?_
  obtain⟨rfl,rfl⟩:=j;exact⟨by simp[Lib.countB],Fr.refl _ _⟩
noncomputable abbrev Ci:Ctx:=zV prog [(262,hP (Yx HJ fun _ _=>True))]
theorem zdq:AM.Good Ci (fun g=>[262].contains g):=qC mixed ⟨DP,fun _=>zu _ _,trivial⟩
theorem KH(a b:za)(Y:Hp)(Z:Nat)(h:a.length<=zA)(c:b.length<=zA):hP (Yx HJ fun _ _=>True) [str a,str b] Y Z=some (int (Lib.index a b),Y,Z):=xT _ _ a b Y Z h c trivial rfl
theorem dX:zg prog 223 (hP (Yx HJ fun _ _=>True)):=
 yy (fn:=f223) zdq (qX func223) false [] _ fun args r h=>by obtain⟨a,b,rfl,c,d,_,rfl⟩:=xl h;exact⟨by simp[f223],_,zn rfl (by simp[KH,c,d,HJ,f223]),z8 _⟩
noncomputable abbrev Ci2:Ctx:=zV prog [(223,hP (Yx HJ fun _ _=>True)),(222,hP (Yx cntP fun _ b=>1<=b.length))]
theorem RL:AM.Good Ci2 (fun g=>[223].contains g):=qC mixed ⟨dX,fun _=>zu _ _,A5,fun _=>zu _ _,trivial⟩
def M6(a b:za):O:=wb (Lib.contains a b)
theorem oi:zg prog 233 (hP (Yx M6 fun _ _=>True)):=
 yy (fn:=f233) RL (qX func233) false [] _ fun args r h=>by obtain⟨a,b,rfl,c,d,_,rfl⟩:=xl h;exact⟨by simp[f233],_,zn rfl (by simp[KH,c,d,M6,Lib.contains,f233]),z8 _⟩
def sq(a b:za):O:=.w5 [str (Lib.cut a b).1,str (Lib.cut a b).2.1,wb (Lib.cut a b).2.2]
theorem RM(a b:za)(c:a.length<=zA)(d:b.length<=zA):zv Ci f308 [str a,str b]=some (sq a b):=by
 refine zn rfl ?_;unfold zA at c d;by_cases h:0<=Lib.index a b
 ·have l:=Lib.index_room a b h;have e:Lib.cut a b=(a.take (Lib.index a b).toNat,a.drop ((Lib.index a b).toNat+b.length),true):=by unfold Lib.cut;rw[zd h]
  have f:=wq (Lib.index a b+b.length);have g:(Lib.index a b+b.length).toNat=(Lib.index a b).toNat+b.length:=by omega
  have i:0<=Lib.index a b+b.length:=by omega
  have j:(Lib.index a b).toNat<=a.length:=by omega
  have k:(Lib.index a b).toNat+b.length<=a.length:=by omega
  simp[KH,zA,c,d,h,f,g,i,j,k,sq,e,wK,f308];rw[zZ (by simp)]
 ·have e:Lib.cut a b=(a,[],false):=by unfold Lib.cut;rw[ze h]
  simp[KH,zA,c,d,h,sq,e,wK,f308]
theorem Nt:zg prog 308 (hP (Yx sq fun _ _=>True)):=
 yy (fn:=f308) zdq (qX func308) false [] _ fun args r h=>by obtain⟨a,b,rfl,c,d,_,rfl⟩:=xl h;exact⟨by simp[f308],_,RM a b c d,z8 _⟩
def M7(a b:za):O:=wb (b.isPrefixOf a)
theorem DQ(a b:za):(decide (b.length<=a.length)&&(a.take b.length==b))=b.isPrefixOf a:=by
 rw[qA];simp only[zE,zS,jY,Gq];constructor
 ·rintro⟨_,h⟩;exact List.prefix_iff_eq_take.2 h.symm
 ·intro h;exact⟨h.length_le,(List.prefix_iff_eq_take.1 h).symm⟩
noncomputable abbrev Cw0:Ctx:=zV prog []
theorem zet:Gd Cw0:=qC mixed trivial
theorem lZ(a b:za):zv Cw0 f307 [str a,str b]=some (M7 a b):=by
 refine zn rfl ?_;have Y:=DQ a b;by_cases h:b.length<=a.length
 ·rw[kp h,kv]at Y;simp[h,M7,<-Y,f307]
 ·rw[kr h,Qc]at Y;have c:¬((b.length:Int)<=a.length):=by omega
  simp[h,c,M7,<-Y,f307]
theorem gh:zg prog 307 (hP (Yx M7 fun _ _=>True)):=
 yy (fn:=f307) zet (qX func307) false [] _ fun args r h=>by obtain⟨a,b,rfl,c,d,_,rfl⟩:=xl h;exact⟨by simp[f307],_,lZ a b,z8 _⟩
noncomputable abbrev Cw1:Ctx:=zV prog [(307,hP (Yx M7 fun _ _=>True)),(308,hP (Yx sq fun _ _=>True))]
theorem HK:AM.Good Cw1 (fun g=>[307].contains g):=qC mixed ⟨gh,fun _=>zu _ _,Nt,fun _=>zu _ _,trivial⟩
theorem mJ(a b:za)(Y:Hp)(Z:Nat)(h:a.length<=zA)(c:b.length<=zA):hP (Yx M7 fun _ _=>True) [str a,str b] Y Z=some (wb (b.isPrefixOf a),Y,Z):=xT _ _ a b Y Z h c trivial rfl
theorem oj(a b:za)(Y:Hp)(Z:Nat)(h:a.length<=zA)(c:b.length<=zA):hP (Yx sq fun _ _=>True) [str a,str b] Y Z=some (.w5 [str (Lib.cut a b).1,str (Lib.cut a b).2.1,wb (Lib.cut a b).2.2],Y,Z):=xT _ _ a b Y Z h c trivial rfl
theorem l0:zg prog 265 (hP (Yx M7 fun _ _=>True)):=
 yy (fn:=f265) HK (qX func265) false [] _ fun args r h=>by obtain⟨a,b,rfl,c,d,_,rfl⟩:=xl h;exact⟨by simp[f265],_,zn rfl (by simp[mJ,c,d,M7,f265]),z8 _⟩
theorem om:zg prog 268 (hP (Yx sq fun _ _=>True)):=
 yy (fn:=f268) HK (qX func268) false [] _ fun args r h=>by obtain⟨a,b,rfl,c,d,_,rfl⟩:=xl h;exact⟨by simp[f268],_,zn rfl (by simp[oj,c,d,sq,wK,f268]),z8 _⟩
def M8(a b:za):O:=.w5 [str (if b.isPrefixOf a then a.drop b.length else a),wb (b.isPrefixOf a)]
theorem l6(a b:za)(c:a.length<=zA)(d:b.length<=zA):zv Cw1 f272 [str a,str b]=some (M8 a b):=by
 refine zn rfl ?_;cases h:b.isPrefixOf a
 ·simp[mJ,c,d,h,M8,wK,f272]
 ·have e:=(Gq.1 h).length_le;simp[mJ,c,d,h,e,M8,wK,f272];rw[zZ (by simp)]
theorem gj:zg prog 272 (hP (Yx M8 fun _ _=>True)):=
 yy (fn:=f272) HK (qX func272) false [] _ fun args r h=>by obtain⟨a,b,rfl,c,d,_,rfl⟩:=xl h;exact⟨by simp[f272],_,l6 a b c d,z8 _⟩
noncomputable abbrev Cw2:Ctx:=zV prog [(272,hP (Yx M8 fun _ _=>True))]
theorem zeu:Gd Cw2:=qC mixed ⟨gj,fun _=>zu _ _,trivial⟩
theorem LM(a b:za)(Y:Hp)(Z:Nat)(h:a.length<=zA)(c:b.length<=zA):hP (Yx M8 fun _ _=>True) [str a,str b] Y Z=some (.w5 [str (if b.isPrefixOf a then a.drop b.length else a),wb (b.isPrefixOf a)],Y,Z):=xT _ _ a b Y Z h c trivial rfl
theorem l7:zg prog 236 (hP (Yx M8 fun _ _=>True)):=
 yy (fn:=f236) zeu (qX func236) false [] _ fun args r h=>by obtain⟨a,b,rfl,c,d,_,rfl⟩:=xl h;exact⟨by simp[f236],_,zn rfl (by simp[LM,c,d,M8,wK,f236]),z8 _⟩
def tlP(a b:za):O:=str (Lib.trimLeftB a (b.headD 0))
def tbP(a b:za):O:=str (Lib.trimB a (b.headD 0))
def dY(b:za):Prop:=∃c:UInt8,b=[c]/\c.toNat<128
theorem Jo:zg prog 289 (hP (Yx tlP fun _ b=>dY b)):=
 jy ⟨_,func289,by kernel_rfl,by kernel_rfl⟩ fun args r h=>by
  obtain⟨a,b,rfl,g,i,⟨c,rfl,d⟩,rfl⟩:=xl h;refine⟨[.string ⟨a.toArray⟩,.string ⟨#[c]⟩],rfl,by simp[lit],rfl,.string ⟨(Lib.trimLeftB a c).toArray⟩,fun w S=>.v rfl,fun w S _=>?_⟩;refine(Any.strings_TrimLeft_one Tryz.zcU ⟨a.toArray⟩ c d w).mono fun e w' f=>?_
  obtain⟨rfl,rfl⟩:=f;exact⟨by simp,Fr.refl _ _⟩
theorem DR:zg prog 288 (hP (Yx tbP fun _ b=>dY b)):=
 jy ⟨_,func288,by kernel_rfl,by kernel_rfl⟩ fun args r h=>by
  obtain⟨a,b,rfl,d,i,⟨c,rfl,f⟩,rfl⟩:=xl h;unfold zA at d;refine⟨[.string ⟨a.toArray⟩,.string ⟨#[c]⟩],rfl,by simp[lit],rfl,.string ⟨(Lib.trimB a c).toArray⟩,fun w S=>.v rfl,fun w S _=>?_⟩;refine(Any.strings_Trim_one Tryz.zcV ⟨a.toArray⟩ c f w (by simp;omega)).mono fun e w' g=>?_
  obtain⟨rfl,rfl|rfl⟩:=g
  ·exact⟨by simp,Fr.refl _ _⟩
  ·exact⟨by simp,Fr.drew _ _⟩
noncomputable def FSB (f:za->UInt8->O):zb->Option O:=qd (α:=za×UInt8) (fun a=>[str a.1,M5 a.2]) (fun a=>a.1.length<=zA) (fun a=>f a.1 a.2)
theorem zev:∀a b:za×UInt8,[str a.1,M5 a.2]=[str b.1,M5 b.2]->a=b:=by
 rintro⟨g,c⟩ ⟨h,d⟩ e;simp only[zj,zG]at e;have i:=qR e.2;have f:c.toNat=d.toNat:=by omega
 rw[wC e.1,ve.1 f]
theorem RN(f:za->UInt8->O)(a:za)(c:UInt8)(Y:Hp)(Z:Nat)(h:a.length<=zA)(b:(f a c).flat=true):hP (FSB f) [str a,M5 c] Y Z=some (f a c,Y,Z):=
 QL (a,c) _ _ rfl zev h (.inl b)
def ibP(a:za)(c:UInt8):O:=int (Lib.indexByte a c)
theorem l8:zg prog 291 (hP (FSB ibP)):=
 jy ⟨_,func291,by kernel_rfl,by kernel_rfl⟩ fun args r h=>by
  obtain⟨⟨a,c⟩,rfl,d,rfl⟩:=zO h;refine⟨[.string ⟨a.toArray⟩,.int .u8 c.toNat],rfl,by simp[lit],rfl,.int .i64 (Lib.indexByte a c),fun w S=>.v rfl,fun w S _=>?_⟩;refine(Any.strings_IndexByte Tryz.zcW ⟨a.toArray⟩ c.toNat w).mono fun e w' b=>?_
  obtain⟨rfl,rfl⟩:=b;exact⟨by simp,Fr.refl _ _⟩
end Go.Q
namespace Go.AM
variable{dr:Prop}
def PC(c:UInt8):zb:=[.v (.int .u8 c.toNat)]
def JJ(U:TypeId)(l:za):Blk:=⟨U,1,true,l.map PC⟩
def W7(T:TypeId):Blk:=⟨T,2,false,[[.v (.pointer none),.nil]]⟩
def xw(T:TypeId)(id m n:Nat):Blk:=⟨T,2,false,[[.ref id 0 0,.own m 0 n]]⟩
def DS:List zb->Option za
 |[]=>some []
 |[.v (.int .u8 z)]::l=>if z=(UInt8.ofNat z.toNat).toNat then(DS l).map (UInt8.ofNat z.toNat::·)else none
 |_=>none
@[simp]theorem zh2(l:za):DS (l.map PC)=some l:=by
 induction l with
 |nil=>rfl
 |cons c l a=>simp[DS,PC]at a⊢;simp[a]
theorem DT:∀{es:List zb} {l:za},DS es=some l->es=l.map PC
 |[],l,h=>by simp only[DS]at h;injection h with h;subst h;rfl
 |e::es,l,h=>by
  unfold DS at h;split at h
  ·rename_i a;cases a
  ·rename_i z l' a;injection a with b c
   subst b;subst c;split at h
   ·rename_i d;obtain⟨l2,f,g⟩:=z7 h;have:=DT f;subst this;subst g;simp only[z6,PC];rw[<-d]
   ·cases h
  ·cases h
def oo(U:TypeId)(Y:Hp)(m n:Nat)(c:Blk):Option (za×Hp):=
 if c.e=U/\c.s=1/\c.arr=true then(DS c.es).bind fun l=>if n=l.length then some (l,qq Y m none)else none else none
def b6(T U:TypeId)(Y:Hp)(id:Nat)(b:Blk):Option (za×Hp):=
 if b.e=T/\b.s=2/\b.arr=false then match b.es with
  |[[.v (.pointer none),.nil]]=>some ([],Y)
  |[[.ref i 0 0,.own m 0 n]]=>if i=id/\m≠id then(Y m).bind (oo U Y m n)else none
  |_=>none
 else none
def HL(T U:TypeId)(Y:Hp)(id Z:Nat)(l t:za)(r:O):Option (O×Hp×Nat):=
 if l.length+t.length<=140737488355328 then some (r,qq (qq Y Z (some (JJ U (l++t)))) id (some (xw T id Z (l++t).length)),Z+1)else none
def xh(T U:TypeId)(F:zb->Option (za×O)):AM.Spec:=fun args Y Z=>match args with
 | .ref id 0 0::rest=>if rest.all O.noOwn=true then(zC Y rest).bind fun p=>(F p.1).bind fun q=>(Y id).bind fun b=>(b6 T U Y id b).bind fun s=>HL T U s.2 id Z s.1 q.1 q.2 else none
 |_=>none
theorem mK{T U:TypeId}{F:zb->Option (za×O)}{rest a:zb}{Y Y1:Hp}{id Z:Nat}{t:za}{r:O}(c:zC Y rest=some (a,Y1))(d:rest.all O.noOwn=true)(e:F a=some (t,r)) :
  xh T U F (.ref id 0 0::rest) Y Z=(Y id).bind fun b=>(b6 T U Y id b).bind fun s=>HL T U s.2 id Z s.1 t r:=by
 simp[xh,c,d,e]
@[simp]theorem zgu(T U:TypeId)(Y:Hp)(id:Nat):b6 T U Y id (W7 T)=some ([],Y):=by simp[b6,W7]
@[simp]theorem gl(T U:TypeId)(Y:Hp)(id m n:Nat)(h:¬m=id):b6 T U Y id (xw T id m n)=(Y m).bind (oo U Y m n):=by simp[b6,xw,h]
@[simp]theorem zew(U:TypeId)(Y:Hp)(m n:Nat)(l:za)(h:n=l.length):oo U Y m n (JJ U l)=some (l,qq Y m none):=by simp[oo,JJ,h]
theorem aP{T U:TypeId}{Y Y1:Hp}{id:Nat}{b:Blk}{l:za}(h:b6 T U Y id b=some (l,Y1)) :
  (b=W7 T/\l=[]/\Y1=Y)\/∃m,m≠id/\b=xw T id m l.length/\Y m=some (JJ U l)/\Y1=qq Y m none:=by
 unfold b6 at h;split at h
 ·rename_i k;obtain⟨d,f,g⟩:=k;obtain⟨e,s,a,es⟩:=b;simp only at d f g h;subst d;subst f;subst g;split at h
  ·injection h with h;injection h with o p;exact .inl ⟨rfl,o.symm,p.symm⟩
  ·rename_i i m n;split at h
   ·rename_i hi;obtain⟨rfl,r⟩:=hi;cases q:Y m with
    |none=>rw[q]at h;cases h
    |some c=>
     rw[q]at h;simp only[qc]at h;unfold oo at h;split at h
     ·rename_i k;obtain⟨d,f,g⟩:=k;cases j:DS c.es with
      |none=>rw[j]at h;cases h
      |some l'=>
       rw[j]at h;simp only[qc]at h;split at h
       ·rename_i t;injection h with h
        injection h with o p;subst o;subst p;subst t;refine .inr ⟨m,r,rfl,?_,rfl⟩;obtain⟨e,s,a,es⟩:=c;simp only at d f g j;rw[q,d,f,g,DT j];rfl
       ·cases h
     ·cases h
   ·cases h
  ·cases h
 ·cases h
section
variable{P:Program}{w w':World}{S S':Nat->Prop}{G G':Nat->GI}{Y Y':Hp}{Z Z':Nat}
theorem HM{r:O}{v:Value}(h:qw w S G Z r v)(a:r.flat=true):ya w S r v:=by
 cases h with
 |c h=>exact h
 |w5 e f=>
  refine .w5 e fun j b u d g=>?_
  simp only[O.flat,ql]at a;have i:=a b (zN d);have k:=f j b u d g;cases b with
  |v x=>cases k with|c h=>exact h
  |_=>simp[O.isV]at i
 |_=>simp[O.flat]at a
theorem kW.zfN{n:World}{j:Nat->Prop}{d:Nat->GI}{Y2:Hp}{e:Nat}(h:kW dr P Y Z S G w Y2 e j d n){id:Nat}{s b:Blk}(v:Y id=some s)(hid:id<Z)(x:xc P n j d e (d id) b)(y:¬j (d id).g)
  (hd:∀k c,Y2 k=some c->k≠id->(d k).g≠(d id).g):kW dr P Y Z S G w (qq Y2 id (some b)) e j d n:=by
 have i:∀k c,qq Y2 id (some b) k=some c->(k=id/\c=b)\/(k≠id/\Y2 k=some c):=by
  intro k c a;by_cases f:k=id
  ·subst f;simp at a;exact .inl ⟨rfl,a.symm⟩
  ·rw[zD _ _ _ _ f]at a;exact .inr ⟨f,a⟩
 have z:=h.up;refine⟨⟨h.inv.st,fun k c a=>?_,fun k c a=>?_,fun k c a=>?_,fun k o c p a q r=>?_,h.inv.fS⟩,h.up,h.loc,h.keep,h.from_,fun k c a=>?_,h.fr⟩
 ·rcases i k c a with⟨rfl,_⟩|⟨_,a⟩
  ·omega
  ·exact h.inv.top k c a
 ·rcases i k c a with⟨rfl,rfl⟩|⟨_,a⟩
  ·exact x
  ·exact h.inv.live k c a
 ·rcases i k c a with⟨rfl,rfl⟩|⟨_,a⟩
  ·exact y
  ·exact h.inv.apart k c a
 ·rcases i k c a with⟨l,_⟩|⟨l,t⟩<;>rcases i o p q with⟨m,_⟩|⟨m,u⟩
  ·rw[l,m]
  ·exact(hd o p u m (by rw[<-r,l])).elim
  ·exact(hd k c t l (by rw[r,m])).elim
  ·exact h.inv.inj k o c p t u r
 ·rcases i k c a with⟨rfl,rfl⟩|⟨_,a⟩
  ·exact .inl ⟨k,s,v,by rw[h.loc k hid]⟩
  ·exact h.own k c a
end
structure ZY (T U:TypeId) (Y:Hp) (Z:Nat) (l:List UInt8) (b0:Blk) (K:Hp->Hp):Prop where
 pos:0<Z
 top:∀j b,Y j=some b->j<Z
 at0:Y 0=some b0
 ok:∀h:Hp,(∀j,j<Z->h j=Y j)->b6 T U h 0 b0=some (l,K h)
 keep:∀(h:Hp) (j:Nat),Z<=j->K h j=h j
theorem ZY.new(T U:TypeId):ZY T U (qq (fun _=>none) 0 (some (W7 T))) 1 [] (W7 T) (fun h=>h):=
 ⟨by omega,fun j b h=>by by_cases e:j=0<;>simp_all,by simp,fun h _=>by simp,fun _ _ _=>rfl⟩
theorem ZY.use(T U:TypeId)(l:za):ZY T U (qq (qq (fun _=>none) 0 (some (xw T 0 1 l.length))) 1 (some (JJ U l))) 2 l (xw T 0 1 l.length) (fun h=>qq h 1 none):=
 ⟨by omega,fun j b h=>by by_cases e:j=0<;>by_cases c:j=1<;>simp_all,by rw[zD _ _ _ _ (by omega)];simp,fun h a=>by rw[gl _ _ _ _ _ _ (by omega),a 1 (by omega)];simp,fun h j d=>zD _ _ _ _ (by omega)⟩
def tX(T U:TypeId)(o:Option (O×Hp×Nat))(l:za)(r:O):Prop:=∃Y Z m,o=some (r,Y,Z)/\Y 0=some (xw T 0 m l.length)/\Y m=some (JJ U l)
theorem W8{T U:TypeId}{C:Ctx}{fn:Func}{code:Code}{args:zb}{Y:Hp}{Z:Nat}{l:za}{r:O}(a:fn.body=some code)
  (h:ZX C code ⟨vn args,Y,Z⟩ (Vq C.P fn fun x Y' _=>x=r/\∃m,Y' 0=some (xw T 0 m l.length)/\Y' m=some (JJ U l))):tX T U (yR C fn args Y Z) l r:=by
 obtain⟨x,Y',Z',b,rfl,m,c,d⟩:=qF a h;exact⟨Y',Z',m,b,c,d⟩
section
variable{C:Ctx}{pf:FuncId->Bool}{f:FuncId}{fn:Func}{code:Code}
theorem Ql(hg:kB dr C pf)(a:fK C pf f fn code)(T U:TypeId)(F:zb->Option (za×O))
  (hF:∀aZ t r,F aZ=some (t,r)->r.flat=true/\aZ.length+1<=fn.ntmps/\∀Y Z l b0 K,ZY T U Y Z l b0 K->l.length+t.length<=140737488355328->tX T U (yR C fn (.ref 0 0 0::aZ) Y Z) (l++t) r):yY dr C.P f (xh T U F):=by
 refine⟨⟨fn,a.func,a.name,by rw[a.body];rfl⟩,?_⟩;intro args Y Z r Y' Z' h w S G vs hi hz;unfold xh at h;split at h
 case h_2=>cases h
 rename_i id rest;obtain⟨u,us,rfl,hu,hz'⟩:=hz.y9;split at h
 case isFalse=>cases h
 rename_i hno;obtain⟨⟨aZ,hpx⟩,PN,h⟩:=yw.1 h;obtain rfl:=Xf PN hno;obtain⟨⟨t,r0⟩,hF0,h⟩:=yw.1 h;obtain⟨b,R,h⟩:=yw.1 h;obtain⟨⟨l,Y2⟩,hbo,h⟩:=yw.1 h;simp only at h hbo;unfold HL at h;split at h
 case isFalse=>cases h
 rename_i hlen;injection h with h
 injection h with e1 h;injection h with e2 e3;subst e1;subst e2;subst e3;obtain⟨S1,k1,hz1,hSS⟩:=jJ (dr:=dr) hi PN hz';obtain rfl:=hSS hno;obtain⟨ziS,hn,hE⟩:=hF aZ t r0 hF0;have hrp:=hu.WV;obtain⟨hid,rfl⟩:=hu.xq;have o:=hi.live id b R;obtain⟨B,W,Gs,b0,K,y,hinv,hG0,zab,hD,hp2n,hp2s⟩:∃(B:Hp) (W:Nat) (Gs:Nat->GI) (b0:Blk) (K:Hp->Hp),ZY T U B W l b0 K/\Inv C.P w S1 Gs B W/\Gs 0=G id /\
   (∀x,ke B Gs x->ke hpx G x)/\(∀k c,Y2 k=some c->k≠id->hpx k=some c/\¬ke B Gs (G k).g)/\True/\True:=by
  rcases aP hbo with⟨rfl,rfl,rfl⟩|⟨m,hmid,rfl,hm,rfl⟩
  ·have I:∀k c,qq (fun _=>none) 0 (some (W7 T)) k=some c->k=0/\c=W7 T:=by
    intro k c a;unfold qq at a;split at a
    ·injection a with a;exact⟨by assumption,a.symm⟩
    ·cases a
   refine⟨_,_,fun _=>G id,_,_,ZY.new T U,⟨hi.st,fun k c a=>by rw[(I k c a).1];omega,fun k c a=>?_,fun k c a=>?_,fun k k' c c' a J _=>by rw[(I k c a).1,(I k' c' J).1],hi.fS⟩,rfl,?_,fun k c a E=>⟨a,?_⟩,trivial,trivial⟩
   ·rw[(I k c a).2];refine⟨o.bs,fun p=>⟨o.size p,o.len p,o.fit p,?_⟩,o.AD⟩;obtain⟨cur,q1,q2,X⟩:=o.row p;refine⟨cur,q1,q2,fun i j c pv n d=>?_⟩;obtain⟨u,M,q⟩:=X i j c pv n d;refine⟨u,M,fun h=>by simp[W7]at h,?_,q.2.2⟩;have hc:ya w S1 pv u:=by
     have h6:=q.2.1;obtain rfl:i=0:=by have:=(zk.1 n).1;simpa[W7]using this
     simp only[W7,cx,qa]at n;subst n
     match j,d with
     | 0,d=>simp at d;subst d;cases h6 with|c h=>exact h
     | 1,d=>simp at d;subst d;cases h6 with|c h=>exact h
     |j+2,d=>simp at d
    exact .c hc
   ·exact hi.apart id _ R
   ·rintro x ⟨k,c,a,rfl⟩;exact⟨id,_,R,rfl⟩
   ·rintro⟨k',c',J,N⟩;exact E (hi.inj k id c _ a R N.symm)
  ·have I:∀k c,qq (qq (fun _=>none) 0 (some (xw T 0 1 l.length))) 1 (some (JJ U l)) k=some c->(k=0/\c=xw T 0 1 l.length)\/(k=1/\c=JJ U l):=by
    intro k c a;unfold qq at a;split at a
    ·injection a with a;exact .inr ⟨by assumption,a.symm⟩
    ·split at a
     ·injection a with a;exact .inl ⟨by assumption,a.symm⟩
     ·cases a
   have L:=hi.live m _ hm;have hgne:(G id).g≠(G m).g:=fun N=>hmid (hi.inj m id _ _ hm R N.symm)
   have g1:∀k,k=1->(fun k=>if k=0 then G id else G m) k=G m:=fun k a=>by subst a;rfl
   refine⟨_,_,fun k=>if k=0 then G id else G m,_,_,ZY.use T U l,⟨hi.st,fun k c a=>?_,fun k c a=>?_,fun k c a=>?_,fun k k' c c' a J N=>?_,hi.fS⟩,rfl,?_,fun k c a E=>?_,trivial,trivial⟩
   ·rcases I k c a with⟨rfl,_⟩|⟨rfl,_⟩<;>omega
   ·rcases I k c a with⟨rfl,rfl⟩|⟨rfl,rfl⟩
    ·refine⟨o.bs,fun p=>⟨o.size p,?_,o.fit p,?_⟩,fun p=>(Nat.lt_irrefl 0 (by rw[zd rfl]at p;omega)).elim⟩
     ·intro c hc;have:=o.len p [.ref id 0 0,.own m 0 l.length] (by simp[xw]);simp only[xw,wG]at hc;subst hc;simpa using this
     ·obtain⟨cur,q1,q2,X⟩:=o.row p;refine⟨cur,q1,q2,fun i j c pv n d=>?_⟩;obtain rfl:i=0:=by have:=(zk.1 n).1;simpa[xw]using this
      simp only[xw,cx,qa]at n;subst n
      match j,d with
      | 0,d=>obtain⟨u,M,q⟩:=X 0 0 _ (.ref id 0 0) (by simp[xw];rfl) rfl;simp at d;subst d;refine⟨u,M,fun h=>by simp[xw]at h,?_,q.2.2⟩;obtain⟨_,rfl⟩:=q.2.1.xq;exact qw.ref (G:=fun k=>if k=0 then G id else G m) (id:=0) (by omega) q.2.1.WV
      | 1,d=>obtain⟨u,M,q⟩:=X 0 1 _ (.own m 0 l.length) (by simp[xw];rfl) rfl;simp at d;subst d;refine⟨u,M,fun h=>by simp[xw]at h,?_,q.2.2⟩;obtain⟨cap,a1,a2,a3,a4,rfl⟩:=q.2.1.vf;exact qw.own (G:=fun k=>if k=0 then G id else G m) (id:=1) (by omega) a2 a3 a4 q.2.1.vy
      |j+2,d=>simp at d
    ·refine⟨L.bs,fun p=>⟨L.size p,L.len p,L.fit p,?_⟩,L.AD⟩;obtain⟨cur,q1,q2,X⟩:=L.row p;refine⟨cur,q1,q2,fun i j c pv n d=>?_⟩;obtain⟨u,M,q⟩:=X i j c pv n d;exact⟨u,M,q.1,.c (q.1 rfl),q.2.2⟩
   ·rcases I k c a with⟨rfl,rfl⟩|⟨rfl,rfl⟩
    ·exact hi.apart id _ R
    ·exact hi.apart m _ hm
   ·rcases I k c a with⟨rfl,rfl⟩|⟨rfl,rfl⟩<;>rcases I k' c' J with⟨rfl,rfl⟩|⟨rfl,rfl⟩
    ·rfl
    ·exact(hgne N).elim
    ·exact(hgne N.symm).elim
    ·rfl
   ·rintro x ⟨k,c,a,rfl⟩;rcases I k c a with⟨rfl,rfl⟩|⟨rfl,rfl⟩
    ·exact⟨id,_,R,rfl⟩
    ·exact⟨m,_,hm,rfl⟩
   ·have hkm:k≠m:=by rintro rfl;simp at a
    refine⟨vL a,?_⟩;rintro⟨k',c',J,N⟩;rcases I k' c' J with⟨rfl,rfl⟩|⟨rfl,rfl⟩
    ·exact E (hi.inj k id c _ (vL a) R N.symm)
    ·exact hkm (hi.inj k m c _ (vL a) hm N.symm)
 obtain⟨hpe,nxe,m',hef,he0,H⟩:=hE _ _ _ _ _ y hlen;have hz2:Zip (qw w S1 Gs W) (.ref 0 0 0::aZ) (.pointer (some ⟨(G id).g,0*(G id).s+0,none⟩)::us):=
  .cons (by rw[<-hG0];exact .ref y.pos (by rw[hG0];exact hrp)) hz1.closed
 refine(cD hg.spec hg.quiet hg.box hg.iter hg.mixed a.func a.body a.ok hef hinv hz2 (by simpa using hn)).mono fun e w' hh=>?_
 obtain⟨v,S',G',N,k,I⟩:=hh;have z:G' 0=G id:=by rw[k.loc 0 y.pos,hG0]
 have hm0:m'≠0:=by rintro rfl;rw[he0]at H;injection H with H;have:=zo Blk.arr H;simp[xw,JJ]at this
 have hsub:∀k c,qq Y2 id none k=some c->hpx k=some c/\¬ke B Gs (G k).g:=fun k c a=>by
  have E:k≠id:=by rintro rfl;simp at a
  exact hD k c (vL a) E
 have kk:=nR (dr:=dr) (D:=ke B Gs) (Y2:=qq Y2 id none) hi hsub zab k.fr k.inv k.keep k.from_ H rfl (k.own m' _ H);have A:qq G Z (G' m') id=G id:=zD _ _ _ _ (by omega);have Q:=k.inv.live 0 _ he0;have hfin:=kk.zfN (id:=id) (b:=xw T id Z (l++t).length) R hid ?_ ?_ ?_
 ·have hpe':qq (qq (qq Y2 id none) Z (some (JJ U (l++t)))) id (some (xw T id Z (l++t).length))=qq (qq Y2 Z (some (JJ U (l++t)))) id (some (xw T id Z (l++t).length)):=by
   funext j;by_cases h1:j=id
   ·subst h1;simp
   ·rw[zD _ _ _ _ h1,zD _ _ _ _ h1];by_cases h2:j=Z
    ·subst h2;simp
    ·rw[zD _ _ _ _ h2,zD _ _ _ _ h2,zD _ _ _ _ h1]
  rw[hpe']at hfin;exact⟨v,_,_,N,hfin,.c (HM I ziS)⟩
 ·rw[A,<-z];refine⟨Q.bs,fun p=>⟨Q.size p,?_,Q.fit p,?_⟩,fun p=>by rw[z]at p;omega⟩
  ·intro c hc;have:=Q.len p [.ref 0 0 0,.own m' 0 (l++t).length] (by simp[xw]);simp only[xw,wG]at hc;subst hc;simpa using this
  ·obtain⟨cur,q1,q2,X⟩:=Q.row p;refine⟨cur,q1,q2,fun i j c pv n d=>?_⟩;obtain rfl:i=0:=by have:=(zk.1 n).1;simpa[xw]using this
   simp only[xw,cx,qa]at n;subst n
   match j,d with
   | 0,d=>obtain⟨u,M,q⟩:=X 0 0 _ (.ref 0 0 0) (by simp[xw];rfl) rfl;simp at d;subst d;refine⟨u,M,fun h=>by simp[xw]at h,?_,q.2.2⟩;obtain⟨_,rfl⟩:=q.2.1.xq;have:=qw.ref (w:=w') (S:=S') (G:=qq G Z (G' m')) (Z:=Z+1) (id:=id) (i:=0) (j:=0) (by omega) (by rw[A];exact hrp);rw[A]at this;rw[z];exact this
   | 1,d=>obtain⟨u,M,q⟩:=X 0 1 [.ref 0 0 0,.own m' 0 (l++t).length] (.own m' 0 (l++t).length) (by simp[xw]) rfl;injection d with d;subst d;exact⟨u,M,fun h=>by simp[xw]at h,nS q.2.1,q.2.2⟩
   |j+2,d=>simp at d
 ·rw[A,<-z];exact k.inv.apart 0 _ he0
 ·intro j c d E;rw[A];by_cases hjn:j=Z
  ·subst hjn;simp only[wU];rw[<-z];exact fun he'=>hm0 (k.inv.inj m' 0 _ _ H he0 he')
  ·rw[zD _ _ _ _ hjn]at d⊢;obtain⟨a1,a2⟩:=hsub j c d;exact fun he'=>E (hi.inj j id c b a1 R he')
end
end Go.AM
namespace Go.Q
theorem RO:PX prog 9=true:=by kernel_rfl
theorem LN:De prog 5=true:=by kernel_rfl
def hCC:AM.Spec:=fun args Y Z=>match args with
 |[.ref id 0 0]=>match Y id with
  |some b=>if b.e=37/\b.s=2/\b.arr=false then match b.es with
    |[[.v (.pointer none),x]]=>some (.w5 [],qq Y id (some ⟨37,2,false,[[.ref id 0 0,x]]⟩),Z)
    |[[.ref i 0 0,_]]=>if i=id then some (.w5 [],Y,Z)else none
    |_=>none
   else none
  |none=>none
 |_=>none
def HN:AM.Spec:=fun args Y Z=>match args with
 |[.ref id 0 0]=>(Y id).bind fun b=>(b6 37 5 Y id b).bind fun s=>if s.1.length=0 then none else some (str s.1,qq s.2 id none,Z)
 |_=>none
theorem Nu(w:World)(a:Addr)(p:Option Addr)(v:Value)(h:w.cell? a=some v)(b:w.frozen? a=false):(Instr.storeAt 34 (.pointer (some a)) (.pointer p)).run prog w=.ok () (w.setCell a (.pointer p)):=by
 have c:=isAgg34;have d:=sizeOf34;simp[Instr.storeAt,storeVar,Instr.sureAddr,c,d];have e:a.add 0=a:=by simp[Addr.add]
 simp[Value.cells,storeCells,run_store_pointer,stored,e,h,b]
theorem zdr:(prog.info? 37).map (·.size)=some 2:=by kernel_rfl
theorem RQ:prog.cellsOf 37=2:=by kernel_rfl
theorem RR(d count:Nat)(h:1<=count):liesAt prog (d+1) 37 count 0 37 1=true:=by
 have hd:∃k,prog.depth=k+1:=⟨2*(prog.types.size+Made.depth)+1,rfl⟩;obtain⟨k,a⟩:=hd;have hs:sameLayout prog (k+1) 37 37=true:=by simp[sameLayout]
 simp only[liesAt,a,rowAt,RQ];simp[hs,h]
theorem zaS(b:Nat)(w:World)(h0:w.cell? ⟨b,0,none⟩=some (.pointer (some ⟨b,0,none⟩))):Calls prog 23 #[.pointer (some ⟨b,0,none⟩)] w fun e w'=>e=.returned (.tuple #[])/\w'=w:=by
 obtain⟨j,hj,_⟩:=fH.1 zdr
 go_enter func23,Tryz.ntmps23
 go_wp2
 rw[Lib.run_neq_ptr_same w _ underlying34 hj]
 go_wp2
 go_end0
 exact⟨rfl,rfl⟩
theorem RS(b z:Nat)(w:World)(h0:w.cell? ⟨b,0,none⟩=some (.pointer none))(hsh:w.shape? b=some (37,z))(hz:2<=z)(hfz:w.frozen? ⟨b,0,none⟩=false) :
  Calls prog 23 #[.pointer (some ⟨b,0,none⟩)] w fun e w'=>e=.returned (.tuple #[])/\w'=w.setCell ⟨b,0,none⟩ (.pointer (some ⟨b,0,none⟩)):=by
 obtain⟨j,hj,hjs⟩:=fH.1 zdr;have hlies:liesAt prog prog.depth 37 (z/prog.cellsOf 37) 0 37 1=true:=by rw[RQ];exact RR (2*(prog.types.size+Made.depth)+1) _ (by omega)
 go_enter func23,Tryz.ntmps23
 go_wp2
 rw[Lib.run_to_unsafe w ⟨b,0,none⟩ underlying34 underlying99 hj (by rw[hjs];decide) hsh (by show 0<z;omega)];simp only[Result.andThen];rw[Oper.upon_value]
 go_wp2
 rw[run_callFunc_extern func46 (by kernel_rfl) (by kernel_rfl) (by kernel_rfl) (e:=Extern.AbiNoEscape.same) (by kernel_rfl),Lib.run_noEscape];simp only[Result.andThen];rw[Oper.upon_value]
 go_wp2
 rw[Lib.run_from_unsafe w ⟨b,0,none⟩ underlying99 underlying34 hj hsh hlies];simp only[Result.andThen];rw[Oper.upon_value]
 go_wp2
 go_end0
 exact⟨rfl,rfl⟩
theorem RT:zg prog 23 hCC:=by
 refine⟨⟨_,func23,by kernel_rfl,by kernel_rfl⟩,?_⟩;intro args Y Z r Y' Z' h w S G vs hi W;unfold hCC at h;split at h
 case h_2=>cases h
 rename_i id;obtain⟨u,us,rfl,t,A⟩:=W.y9;have B:us=[]:=wx (by simpa using A.1.symm);subst B;have l:=t;have n:=t.WV;obtain⟨hid,rfl⟩:=t.xq;simp only[Y4,vS]at l⊢;split at h
 case h_2=>cases h
 rename_i b P;split at h
 case isFalse=>cases h
 rename_i X;obtain⟨Q,R,T⟩:=X;obtain⟨e,s,a,es⟩:=b;simp only at Q R T h;subst Q;subst R;subst T;have m:=hi.live id _ P;have C:(G id).s=2:=m.bs.symm;obtain⟨cur,D,q2,U⟩:=m.row n;have o:=m.fit n;have p:w.frozen? ⟨(G id).g,0,none⟩=false:=by simp[World.frozen?,D]
 have d:∀j,w.cell? ⟨(G id).g,j,none⟩=cur[j]?:=fun j=>by simp[World.cell?,D]
 split at h
 ·rename_i x;injection h with h
  injection h with E h;injection h with F H;subst E;subst F;subst H;obtain⟨u0,I,J⟩:=U 0 0 [.v (.pointer none),x] (.v (.pointer none)) rfl rfl;obtain⟨rfl,_⟩:=J.2.1.yi;have f:w.cell? ⟨(G id).g,0,none⟩=some (.pointer none):=by rw[d];simpa using I
  simp only[zfJ,C]at o;have K:w.shape? (G id).g=some (37,(G id).z):=by simp[World.shape?,D,q2]
  have L:Qj prog Y 34 (.ref id 0 0) (.ref id 0 0)=some (qq Y id (some ⟨37,2,false,[[.ref id 0 0,x]]⟩)):=by simp[Qj,P]
  obtain⟨w',S',G',q,k⟩:=nk (dr:=True) hi L l l;rw[Nu w _ _ _ f p]at q;injection q with _ q;subst q;refine(RS (G id).g (G id).z w f K (by omega) p).mono fun e w' M=>?_
  obtain⟨rfl,rfl⟩:=M;exact⟨_,_,_,rfl,k,.c (.w5 rfl (by simp))⟩
 ·rename_i i y;split at h
  case isFalse=>cases h
  rename_i N;subst N;injection h with h
  injection h with E h;injection h with F H;subst E;subst F;subst H;obtain⟨u0,I,J⟩:=U 0 0 [.ref i 0 0,y] (.ref i 0 0) rfl rfl;obtain⟨_,rfl⟩:=J.2.1.xq;have f:w.cell? ⟨(G i).g,0,none⟩=some (.pointer (some ⟨(G i).g,0,none⟩)):=by rw[d];simpa using I
  refine(zaS (G i).g w f).mono fun e w' M=>?_
  obtain⟨rfl,rfl⟩:=M;exact⟨_,_,_,rfl,kW.refl hi,.c (.w5 rfl (by simp))⟩
 ·cases h
theorem RU(b g cap z:Nat)(p:Value)(l:za)(cb cg:Array Value)(w:World)(h0:l≠[])(hb:w.heap[b]?=some (.cells cb 37 (0,0)))(hcb:cb[1]?=some (.slice (some ⟨g,0,none⟩) l.length cap))(hg:w.heap[g]?=some (.cells cg 5 (0,0)))
  (hcap:l.length<=cap) (hz:cg.size=z) (hlz:l.length<=z) (hlc:l.length<=maxLen) (hcg:∀(j:Nat) (x:UInt8),l[j]?=some x->cg[j]?=some (Value.int .u8 x.toNat)) :
  Calls prog 15 #[.pointer (some ⟨b,0,none⟩)] w fun e w'=>e=.returned (.string ⟨l.toArray⟩)/\w'=w.drew.freeze ⟨g,0,none⟩ l.length:=by
 have c1:w.drew.cell? ⟨b,1,none⟩=some (.slice (some ⟨g,0,none⟩) l.length cap):=by have:w.drew.heap[b]?=some (.cells cb 37 (0,0)):=hb;rw[Lib.cell_of_heap this];exact hcb
 have hSD:(Builtin.unsafeSliceData_ #[35] 80 #[.slice (some ⟨g,0,none⟩) l.length cap]).run prog w.drew=.ok (.pointer (some ⟨g,0,none⟩)) w.drew:=
  Lib.run_unsafeSliceData_row _ _ _ _ _ _ (fun e=>h0 (wx (by omega)))
 have hUS:(Builtin.unsafeString_ #[80,3] 9 #[.pointer (some ⟨g,0,none⟩),.int .i64 l.length]).run prog w.drew=.ok (.string ⟨l.toArray⟩) (w.drew.freeze ⟨g,0,none⟩ l.length):=by refine Lib.run_unsafeString_row w.drew 80 3 9 5 underlying80 (by kernel_rfl) g cg.size (by have hg':w.drew.heap[g]?=some (.cells cg 5 (0,0)):=hg;simp[World.shape?,hg']) l h0 (by omega) (by unfold maxLen at hlc;omega) ?_;intro j x hx;have hg':w.drew.heap[g]?=some (.cells cg 5 (0,0)):=hg;rw[show((⟨g,0,none⟩:Addr).add j)=⟨g,j,none⟩from by rw[ko,wg],Lib.cell_of_heap hg'];exact hcg j x hx
 have hmixed:=mixed
 go_enter func15,Tryz.ntmps15
 go_wp2
 go_region_o
 all_goals (go_wp2;go_ret;exact⟨rfl,rfl⟩)
theorem Nv{dr:Prop}(w:World)(p:Addr)(n:Nat):Fr dr w (fun b=>b=p.block) (w.drew.freeze p n):=by
 unfold World.freeze;split
 ·exact Fr.drew w _
 ·exact⟨rfl,rfl,rfl,by simp,fun _=>yd _,fun k _ a=>by simp only[];rw[kS,ze (fun e=>a e.symm)];rfl⟩
theorem iE:zg prog 15 HN:=by
 refine⟨⟨_,func15,by kernel_rfl,by kernel_rfl⟩,?_⟩;intro args Y Z r Y' Z' h w S G vs hi L;unfold HN at h;split at h
 case h_2=>cases h
 rename_i id;obtain⟨u,us,rfl,F,p⟩:=L.y9;have q:us=[]:=wx (by simpa using p.1.symm);subst q;have t:=F.WV;obtain⟨hid,rfl⟩:=F.xq;simp only[Y4,vS];obtain⟨b,M,h⟩:=yw.1 h;obtain⟨⟨l,Y1⟩,y,h⟩:=yw.1 h;simp only at h;split at h
 case isTrue=>cases h
 rename_i H;injection h with h
 injection h with N h;injection h with P Q;subst N;subst P;subst Q;rcases aP y with⟨_,rfl,_⟩|⟨m,I,rfl,o,rfl⟩
 ·exact(H rfl).elim
 have d:=hi.live id _ M;obtain⟨cur,R,q2,T⟩:=d.row t;obtain⟨u1,U,J⟩:=T 0 1 [.ref id 0 0,.own m 0 l.length] (.own m 0 l.length) rfl rfl;have A:=J.2.1.vy;obtain⟨cap,a1,W,a3,X,rfl⟩:=J.2.1.vf;have f:=hi.live m _ o;obtain⟨cg,p1,p2,p3⟩:=f.row A;have i:(G m).s=1:=f.bs.symm;have hs2:(G id).s=2:=d.bs.symm;rw[i]at X;refine(RU (G id).g (G m).g cap (G m).z (.pointer none) l cur cg w (fun e=>H (by rw[e];rfl)) R (by simpa using U) p1 W p2 (by omega) (by omega) (fun j x hx=>?_)).mono fun e w' hh=>?_
 ·obtain⟨u,K,g2⟩:=p3 j 0 (PC x) (.v (.int .u8 x.toNat)) (by simp[JJ,hx]) rfl;obtain⟨rfl,_⟩:=g2.2.1.yi;rw[i]at K;simpa using K
 ·obtain⟨rfl,rfl⟩:=hh;have B:=Nv (dr:=True) w ⟨(G m).g,0,none⟩ l.length;have hS:∀b,S b->S b/\(w.drew.freeze ⟨(G m).g,0,none⟩ l.length).heap[b]?=w.heap[b]?:=fun b a=>⟨a,B.block b (hi.st b a) fun e=>hi.apart m _ o ((show b=(G m).g from e) ▸ a)⟩
  have k:=aO (dr:=True) (D:=fun b=>b=(G m).g) (Y2:=qq (qq Y m none) id none) (S':=S) (G':=G) (hpe:=fun _=>none) (nxe:=0) hi (fun k c n=>by
   have C:k≠id:=by rintro rfl;simp at n
   rw[zD _ _ _ _ C]at n;have E:k≠m:=by rintro rfl;simp at n
   exact⟨vL n,fun e=>E (hi.inj k m c _ (vL n) o e)⟩) (fun b a=>⟨m,_,o,a.symm⟩) B
   (aN G (fun b a=>ja (hi.st b a) B.size) (hi.fS.mono hS)) (fun _ h=>h) (fun _ h=>.inl h)
  exact⟨_,_,_,rfl,k,.c (.v rfl)⟩
noncomputable def RV:zb->Option (za×O):=qd (α:=za) (fun s=>[str s]) (fun s=>s≠[]) (fun s=>(s,.w5 [int s.length,.v .nilIface]))
noncomputable def M9:zb->Option (za×O):=qd (α:=UInt8) (fun c=>[.v (.int .u8 c.toNat)]) (fun _=>True) (fun c=>([c],.v .nilIface))
noncomputable abbrev nG:Ctx:=zV prog [(23,hCC)]
theorem HO:Gd nG:=zW mixed ⟨RT,trivial⟩
theorem Vd:zg prog 10 (xh 37 5 RV):=
 Ql (code:=_) HO ⟨func10,by kernel_rfl,rfl,by kernel_rfl⟩ _ _ RV fun xs t r h=>by
  obtain⟨s,rfl,hs,e⟩:=zO h;injection e with n o;subst n;subst o;refine⟨rfl,by simp[f10],fun Y Z l u K c a=>W8 rfl ?_⟩;have j:=c.pos;have p:=jV.2 hs;have k:¬0=Z:=by omega
  have n1:¬Z=0:=by omega
  have b:l.length+t.length<=maxLen:=by simp only[maxLen];omega
  rcases aP (c.ok Y fun _ _=>rfl)with⟨rfl,rfl,_⟩|⟨m,d,rfl,q,_⟩
  ·have f:Y 0=some ⟨37,2,false,[[.v (.pointer none),.nil]]⟩:=c.at0;simp only[qj,wg]at a b;simp[f,k,n1,hCC,jb,RO,LN,hs,a,b,f10,xw,JJ,PC]
  ·have f:Y 0=some ⟨37,2,false,[[.ref 0 0 0,.own m 0 l.length]]⟩:=c.at0;have g:¬0=m:=fun e=>d e.symm
   have i:Y m=some ⟨5,1,true,l.map PC⟩:=q;simp[f,k,n1,hCC,i,g,jb,RO,LN,a,b,f10,xw,JJ,PC]
theorem dZ:zg prog 52 (xh 37 5 M9):=
 Ql (code:=_) HO ⟨func52,by kernel_rfl,rfl,by kernel_rfl⟩ _ _ M9 fun xs t r h=>by
  obtain⟨c,rfl,_,e⟩:=zO h;injection e with q s;subst q;subst s;refine⟨rfl,by simp[f52],fun Y Z l u K b a=>W8 rfl ?_⟩;have n:=b.pos;have o:¬0=Z:=by omega
  have n1:¬Z=0:=by omega
  simp only[zfJ]at a;have d:l.length+1<=maxLen:=by simp only[maxLen];omega
  rcases aP (b.ok Y fun _ _=>rfl)with⟨rfl,rfl,_⟩|⟨m,f,rfl,p,_⟩
  ·have g:Y 0=some ⟨37,2,false,[[.v (.pointer none),.nil]]⟩:=b.at0;simp[g,o,n1,hCC,jb,AM.view,zt,zJ,zr,maxLen,f52,xw,JJ,PC]
  ·have g:Y 0=some ⟨37,2,false,[[.ref 0 0 0,.own m 0 l.length]]⟩:=b.at0;have i:Y m=some ⟨5,1,true,l.map PC⟩:=p;have j:¬0=m:=fun e=>f e.symm
   have k:¬m=Z:=by have:=b.top m _ p;omega
   simp[g,o,n1,hCC,i,j,k,jb,AM.view,zt,zJ,zr,a,d,f52,xw,JJ,PC]
theorem LO(Y:Hp)(Z id m n:Nat)(h:Y id=some (xw 37 id m n)):wD nG f14 [.ref id 0 0] Y Z=some (int n,Y,Z):=by
 unfold wD;rw[zd (by simp[f14])];obtain⟨x,Y',Z',a,b,c,d⟩:∃x Y' Z',yR nG f14 [.ref id 0 0] Y Z=some (x,Y',Z')/\x=int n/\Y'=Y/\Z'=Z:=by have e:Y id=some ⟨37,2,false,[[.ref id 0 0,.own m 0 n]]⟩:=h;refine qF rfl ?_;simp[e,f14]
 rw[a,b,c,d]
theorem iF:zg prog 14 (wD nG f14):=kL HO func14
theorem oq(Y:Hp)(Z id m:Nat)(l:za)(h:Y id=some (xw 37 id m l.length))(b:Y m=some (JJ 5 l))(c:l≠[])(a:m≠id):HN [.ref id 0 0] Y Z=some (str l,qq (qq Y m none) id none,Z):=by simp[HN,h,b,c,a]
end Go.Q
namespace Go.AM
def lS(T U:TypeId)(Y:Hp)(Z m:Nat)(cur:za):Prop:=Y 0=some (xw T 0 m cur.length)/\Y m=some (JJ U cur)/\m≠0/\m<Z
theorem lS.put{T U:TypeId}{Y Y1:Hp}{Z m:Nat}{cur t:za}{F:zb->Option (za×O)}{rest b:zb}{r:O}(B:lS T U Y Z m cur)(c:zC Y rest=some (b,Y1))(d:rest.all O.noOwn=true)(e:F b=some (t,r))(f:cur.length+t.length<=140737488355328) :
  ∃Y',xh T U F (.ref 0 0 0::rest) Y Z=some (r,Y',Z+1)/\lS T U Y' (Z+1) Z (cur++t)/\∀j,j≠0->j≠m->j≠Z->Y' j=Y j:=by
 obtain⟨g,h,a,i⟩:=B;have n1:Z≠0:=by omega
 refine⟨_,by rw[mK c d e,g];simp[gl,a,h,HL,f];rfl,⟨by simp,?_,n1,by omega⟩,fun j k l n=>?_⟩
 ·rw[zD _ _ _ _ n1];simp
 ·rw[zD _ _ _ _ k,zD _ _ _ _ n,zD _ _ _ _ l]
theorem lS.same{T U:TypeId}{Y Y':Hp}{Z Z' m:Nat}{cur:za}(B:lS T U Y Z m cur)(e:Z<=Z')(h:∀j,j<Z->Y' j=Y j):lS T U Y' Z' m cur:=by obtain⟨c,d,a,b⟩:=B;exact⟨by rw[h 0 (by omega),c],by rw[h m b,d],a,by omega⟩
theorem lS.ends{T U:TypeId}{Y:Hp}{Z m n:Nat}{cur l:za}(B:lS T U Y Z m cur)(h:l=cur)(a:n=l.length):∃m,Y 0=some (xw T 0 m n)/\Y m=some (JJ U l):=⟨m,by rw[a,h];exact B.1,by rw[h];exact B.2.1⟩
theorem ZY.put{T U:TypeId}{Y h Y1:Hp}{Z Z':Nat}{l t:za}{b0:Blk}{K:Hp->Hp}{F:zb->Option (za×O)}{rest c:zb}{r:O}(b:ZY T U Y Z l b0 K)(o:Z<=Z')(d:∀j,j<Z->h j=Y j)
  (e:zC h rest=some (c,Y1)) (f:rest.all O.noOwn=true) (g:F c=some (t,r)) (i:l.length+t.length<=140737488355328) :
  ∃Y',xh T U F (.ref 0 0 0::rest) h Z'=some (r,Y',Z'+1)/\lS T U Y' (Z'+1) Z' (l++t)/\∀j,Z<=j->j≠Z'->Y' j=h j:=by
 have a:=b.pos;have n1:Z'≠0:=by omega
 have k:h 0=some b0:=by rw[d 0 a,b.at0]
 refine⟨_,by rw[mK e f g,k];simp[b.ok h d,HL,i];rfl,⟨by simp,?_,n1,by omega⟩,fun j m n=>?_⟩
 ·rw[zD _ _ _ _ n1];simp
 ·rw[zD _ _ _ _ (by omega),zD _ _ _ _ n,b.keep _ _ m]
theorem ot{T U:TypeId}{h Y1:Hp}{id Z':Nat}{t:za}{F:zb->Option (za×O)}{rest a:zb}{r:O}(b:h id=some (W7 T))(n1:Z'≠id)
  (c:zC h rest=some (a,Y1)) (d:rest.all O.noOwn=true) (e:F a=some (t,r)) (f:t.length<=140737488355328) :
  ∃Y',xh T U F (.ref id 0 0::rest) h Z'=some (r,Y',Z'+1)/\Y' id=some (xw T id Z' t.length)/\Y' Z'=some (JJ U t)/\∀j,j≠id->j≠Z'->Y' j=h j:=by
 refine⟨_,by rw[mK c d e,b];simp[HL,f];rfl,by simp,?_,fun j g i=>?_⟩
 ·rw[zD _ _ _ _ n1];simp
 ·rw[zD _ _ _ _ g,zD _ _ _ _ i]
end Go.AM
namespace Go.PrLaw
open Go
def bw:za->za
 |[]=>[]
 |c::l=>if(c==34||c==92)=true then 92::c::bw l else c::bw l
def Z2(s:za):za:=34::(bw s++[34])
def KI(c:UInt8)(a:za):za->za
 |[]=>[]
 |x::l=>if x=c then a++KI c a l else x::KI c a l
theorem gm(c x:UInt8)(l:za):Lib.index (x::l) [c]=if x=c then 0 else if Lib.index l [c]=-1 then -1 else Lib.index l [c]+1:=by
 rw[Lib.index];by_cases h:x=c
 ·subst h;simp
 ·have a:¬c=x:=fun e=>h e.symm
  simp[h,a]
theorem ea(c:UInt8)(a:za):∀s:za,Lib.replaceK [c] a (Lib.count s [c]) s=KI c a s
 |[]=>by have:Lib.count [] [c]=0:=U5 (by simp[Lib.index]);rw[this];rfl
 |x::l=>by
  have b:=ea c a l;by_cases h:x=c
  ·have hi:Lib.index (x::l) [c]=(0:Nat):=by rw[gm,zd h];rfl
   have e:=zfK (s:=x::l) (sub:=[c]) (by simp) hi;have hd:(x::l).drop (0+[c].length)=l:=rfl;rw[hd]at e;rw[e,Q5,Lib.replaceK_hit _ _ _ _ 0 hi,hd,b,KI,zd h];simp
  ·rcases Int.lt_or_le (Lib.index l [c]) 0 with f|g
   ·have j:Lib.index l [c]=-1:=by have:=Lib.index_ge l [c];omega
    have d:Lib.index (x::l) [c]=-1:=by rw[gm,ze h,zd j]
    rw[U5 j]at b;rw[U5 d,KI,ze h,<-b];rfl
   ·obtain⟨i,hi⟩:∃i:Nat,Lib.index l [c]=i:=⟨(Lib.index l [c]).toNat,by omega⟩;have d:Lib.index (x::l) [c]=((i+1:Nat):Int):=by rw[gm,ze h,ze (by omega),hi];rfl
    have n:=zfK (s:=l) (sub:=[c]) (by simp) hi;have k:=zfK (s:=x::l) (sub:=[c]) (by simp) d;have m:(x::l).drop (i+1+[c].length)=l.drop (i+[c].length):=rfl;rw[m]at k;rw[n,Q5,Lib.replaceK_hit _ _ _ _ i hi]at b;rw[k,Q5,Lib.replaceK_hit _ _ _ _ (i+1) d,m,KI,ze h,<-b];rfl
theorem ou(c:UInt8)(a s:za)(b:[c]≠a):Lib.replaceAll s [c] a=KI c a s:=by unfold Lib.replaceAll Lib.replace;rw[ze (by simpa using b)];unfold Lib.replaceNum;rw[zd (.inl (by decide))];exact ea c a s
theorem zaT(s:za):KI 34 [92,34] (KI 92 [92,92] s)=bw s:=by
 induction s with
 |nil=>rfl
 |cons c l a=>
  by_cases b:c=92
  ·subst b;simp[KI,bw,a]
  ·by_cases d:c=34
   ·subst d;simp[KI,bw,a]
   ·simp[KI,bw,a,b,d]
theorem DU(c:UInt8)(a b:UInt8)(s:za):(KI c [a,b] s).length<=2*s.length:=by
 induction s with
 |nil=>simp[KI]
 |cons x l d=>simp only[KI];split<;>simp<;>omega
theorem RW(s:za):(bw s).length<=2*s.length:=by
 induction s with
 |nil=>simp[bw]
 |cons x l a=>simp only[bw];split<;>simp<;>omega
theorem W9(s:za):(Z2 s).length<=2*s.length+2:=by have:=RW s;simp[Z2];omega
def Zg(r:Nat):za:=Lib.trimRightB ((Lib.decDigits (1000+r)).drop 1) 48
def Jp(n:Int):za:=(if n<0 then[45]else[])++(Lib.decDigits (n.natAbs/1000)++if n.natAbs % 1000=0 then[]else 46::Zg (n.natAbs % 1000))
theorem cF{u:Nat}(h:u<10):Lib.decDigits u=[UInt8.ofNat (48+u)]:=by rw[Lib.decDigits,zcP h]
theorem XR{u:Nat}(h:10<=u):Lib.decDigits u=Lib.decDigits (u/10)++[UInt8.ofNat (48+u % 10)]:=by rw[Lib.decDigits,dif_neg (by omega)]
theorem ZK{r:Nat}(h:r<1000):(Lib.decDigits (1000+r)).drop 1=[UInt8.ofNat (48+r/100),UInt8.ofNat (48+r/10 % 10),UInt8.ofNat (48+r % 10)]:=by rw[XR (by omega),XR (u:=(1000+r)/10) (by omega),XR (u:=(1000+r)/10/10) (by omega),cF (u:=(1000+r)/10/10/10) (by omega)];simp only[wB,w7,jq,wY];rw[show(1000+r)/10/10 % 10=r/100 from by omega,show(1000+r)/10 % 10=r/10 % 10 from by omega,show(1000+r) % 10=r % 10 from by omega]
theorem zaU{r:Nat}(h:r<1000):Lib.repeatL [48] (3-(Lib.decDigits r).length)++Lib.decDigits r=(Lib.decDigits (1000+r)).drop 1:=by
 rw[ZK h];by_cases a:r<10
 ·rw[cF a,show r/100=0 from by omega,show r/10 % 10=0 from by omega,show r % 10=r from by omega];rfl
 ·by_cases b:r<100
  ·rw[XR (by omega),cF (u:=r/10) (by omega),show r/100=0 from by omega,show r/10 % 10=r/10 from by omega];rfl
  ·rw[XR (by omega),XR (u:=r/10) (by omega),cF (u:=r/10/10) (by omega),show r/10/10=r/100 from by omega];rfl
theorem A6{d:Nat}(h:d<10):(UInt8.ofNat (48+d)==48)=decide (d=0):=by rw[qA];simp only[jY,zS,<-ve,UInt8.toNat_ofNat'];rw[Nat.mod_eq_of_lt (by omega)];show 48+d=48↔d=0;omega
theorem HP{r:Nat}(h:r<1000):Zg r=[]↔r=0:=by
 unfold Zg Lib.trimRightB;rw[ZK h,List.reverse_eq_nil_iff];have b:∀l:za,List.dropWhile (·==48) l=[]↔∀x∈l,(x==48)=true:=by
  intro l
  induction l with
  |nil=>simp
  |cons x l c=>
   rw[List.dropWhile_cons];split
   ·rename_i a;rw[c];simp only[zw,forall_eq_or_imp,a,Gr]
   ·rename_i a;simp only[zw,forall_eq_or_imp];exact⟨fun e=>by simp at e,fun e=>(a e.1).elim⟩
 rw[b];simp only[List.mem_reverse,zw,mE,or_false,forall_eq_or_imp,forall_eq];rw[A6 (by omega),A6 (by omega),A6 (by omega)];simp only[zS];omega
theorem fL:∀(k u:Nat),u<10 ^ (k+1)->(Lib.decDigits u).length<=k+1
 | 0,u,h=>by rw[cF (by simpa using h)];simp
 |k+1,u,h=>by
  by_cases a:u<10
  ·rw[cF a];simp
  ·rw[XR (by omega),zm];have:=fL k (u/10) (by rw[Nat.pow_succ]at h;omega);simp;omega
theorem gn(u:Nat):Lib.decDigits u≠[]:=by
 by_cases h:u<10
 ·rw[cF h];simp
 ·rw[XR (by omega)];simp
theorem RX(l:za)(c:UInt8):(Lib.trimRightB l c).length<=l.length:=by unfold Lib.trimRightB;have:=(List.dropWhile_sublist (l:=l.reverse) (·==c)).length_le;simpa using this
theorem cG{r:Nat}(h:r<1000):(Zg r).length<=3:=by have:=RX ((Lib.decDigits (1000+r)).drop 1) 48;rw[ZK h]at this;unfold Zg;rw[ZK h];simpa using this
theorem Nw{n:Int}(a:-1000000000000000<n)(b:n<1000000000000000):(Jp n).length<=17:=by
 unfold Jp;have d:=fL 11 (n.natAbs/1000) (by omega);have p:=cG (r:=n.natAbs % 1000) (by omega);rw[zm,zm];have c:(if n<0 then([45]:za)else[]).length<=1:=by split<;>simp
 have e:(if n.natAbs % 1000=0 then([]:za)else 46::Zg (n.natAbs % 1000)).length<=4:=by split<;>simp<;>omega
 omega
def JV(sep:za)(k:Nat)(l:List za):za:=if k=0 then Lib.join l sep else Lib.joinTail sep l
theorem Y8(sep:za)(k:Nat):JV sep k []=[]:=by unfold JV;split<;>rfl
theorem VA(sep:za)(k:Nat)(x:za)(l:List za):JV sep k (x::l)=(if k=0 then[]else sep)++(x++JV sep (k+1) l):=by
 unfold JV;rw[ze (Nat.succ_ne_zero k)];split
 ·rw[Lib.join_cons,w7]
 ·simp[Lib.joinTail]
theorem ec(sep:za):∀l:List za,(Lib.joinTail sep l).length=(l.map fun x=>sep.length+x.length).sum
 |[]=>rfl
 |x::l=>by have:=ec sep l;unfold Lib.joinTail at this⊢;simp[this];omega
theorem Jq(sep:za)(l:List za):(Lib.join l sep).length<=(l.map fun x=>sep.length+x.length).sum:=by
 cases l with
 |nil=>simp[Lib.join_nil]
 |cons x l=>rw[Lib.join_cons,zm,ec];simp
end Go.PrLaw
namespace Go.Q
inductive qu where
 |mk (kind n:Int) (s:List UInt8) (items:List qu) (fields:List (List UInt8×qu))
namespace qu
def kind:qu->Int|.mk k _ _ _ _=>k
def n:qu->Int|.mk _ n _ _ _=>n
def s:qu->za|.mk _ _ s _ _=>s
def items:qu->List qu|.mk _ _ _ l _=>l
def fields:qu->List (za×qu)|.mk _ _ _ _ l=>l
end qu
theorem qu.ind{P:qu->Prop}(h:∀k n s e g,(∀x∈e,P x)->(∀f∈g,P f.2)->P (.mk k n s e g))(v:qu):P v:=
 qu.rec (motive_1:=P) (motive_2:=fun l=>∀x∈l,P x) (motive_3:=fun l=>∀f∈l,P f.2) (motive_4:=fun f=>P f.2) (fun k n s e g i j=>h k n s e g i j)
  (by simp) (fun x l c d y b=>by rcases zw.1 b with rfl|b;(first|exact c|exact d y b);(first|exact c|exact d y b)) (by simp) (fun x l c d y b=>by rcases zw.1 b with rfl|b;(first|exact c|exact d y b);(first|exact c|exact d y b)) (fun a v m=>m) v
mutual
def qu.V:qu->zb
 | .mk k n s a b=>[int k,int n,str s,.sl 5 (MJ a),.sl 6 (MK b)]
def MJ:List qu->List zb
 |[]=>[]
 |v::l=>v.V::MJ l
def MK:List (za×qu)->List zb
 |[]=>[]
 |(a,v)::l=>(str a::v.V)::MK l
end
abbrev kI(f:za×qu):zb:=str f.1::f.2.V
theorem tY:∀l:List qu,MJ l=l.map qu.V
 |[]=>rfl
 |v::l=>by simp[MJ,tY l]
theorem tZ:∀l:List (za×qu),MK l=l.map kI
 |[]=>rfl
 |(a,v)::l=>by simp[MK,tZ l]
theorem Qm(v:qu):v.V=[int v.kind,int v.n,str v.s,.sl 5 (v.items.map qu.V),.sl 6 (v.fields.map kI)]:=by
 cases v with
 |mk k n s a b=>simp[qu.V,tY,tZ,qu.kind,qu.n,qu.s,qu.items,qu.fields]
@[simp]theorem zex(v:qu):v.V.length=5:=by rw[Qm];rfl
@[simp]theorem ua(v:qu):v.V.all O.yk=true:=by rw[Qm];rfl
@[simp]theorem zey(v:qu):(∀x,x∈v.V->O.yk x=true)=True:=by have:=ua v;rw[ql]at this;exact eq_true this
@[simp]theorem zh3(v:qu):v.V.take 5=v.V:=zZ (by simp)
@[simp]theorem zkr(v:qu)(h:0<v.V.length):v.V[0]=int v.kind:=by simp[Qm v]
@[simp]theorem zks(v:qu)(h:1<v.V.length):v.V[1]=int v.n:=by simp[Qm v]
@[simp]theorem zkt(v:qu)(h:2<v.V.length):v.V[2]=str v.s:=by simp[Qm v]
@[simp]theorem zku(v:qu)(h:3<v.V.length):v.V[3]=.sl 5 (v.items.map qu.V):=by simp[Qm v]
@[simp]theorem zkv(v:qu)(h:4<v.V.length):v.V[4]=.sl 6 (v.fields.map kI):=by simp[Qm v]
theorem VB{α a:Type}{f:α->a}:∀{xs ys:List α},(∀x∈xs,∀y,f x=f y->x=y)->xs.map f=ys.map f->xs=ys
 |[],[],_,_=>rfl
 |[],y::ys,_,e=>by simp at e
 |x::xs,[],_,e=>by simp at e
 |x::xs,y::ys,h,e=>by simp only[z6,zj]at e;rw[h x (by simp) y e.1,VB (fun z b=>h z (by simp[b])) e.2]
theorem YW:∀{a b:qu},a.V=b.V->a=b:=by
 intro a
 induction a using qu.ind with
 |h k n s q r g i=>
  intro b e;cases b with
  |mk t u v j l=>
   simp only[Qm,qu.kind,qu.n,qu.s,qu.items,qu.fields,zj,zG]at e;obtain⟨m,o,p,c,d⟩:=e;obtain rfl:=qR m;obtain rfl:=qR o;obtain rfl:=wC p;injection c with _ c
   injection d with _ d;obtain rfl:=VB (fun x f y=>g x f) c;obtain rfl:=VB (fun x f y e=>by simp only[kI,zj]at e;exact Prod.ext (wC e.1) (i x f e.2)) d
   rfl
mutual
def qu.vb:qu->Nat
 | .mk _ _ s a b=>1+s.length+Vg a+lT b
def Vg:List qu->Nat
 |[]=>0
 |v::l=>v.vb+Vg l
def lT:List (za×qu)->Nat
 |[]=>0
 |(a,v)::l=>a.length+v.vb+lT l
end
theorem Wg(v:qu):v.vb=1+v.s.length+Vg v.items+lT v.fields:=by cases v;rfl
theorem Kk(v:qu):0<v.vb:=by rw[Wg];omega
theorem kY:∀{l:List qu} {x:qu},x∈l->x.vb<=Vg l
 |y::l,x,h=>by
  simp only[Vg];rcases zw.1 h with rfl|h
  ·omega
  ·have:=kY h;omega
theorem ZL:∀{l:List (za×qu)} {x:za×qu},x∈l->x.1.length+x.2.vb<=lT l
 |(a,y)::l,x,h=>by
  simp only[lT];rcases zw.1 h with rfl|h
  ·simp only;omega
  ·have:=ZL h;omega
theorem jw:∀l:List qu,l.length<=Vg l
 |[]=>by simp[Vg]
 |v::l=>by have:=jw l;have:=Kk v;simp only[Vg,zx];omega
theorem kP:∀l:List (za×qu),l.length<=lT l
 |[]=>by simp[lT]
 |(a,v)::l=>by have:=kP l;have:=Kk v;simp only[lT,zx];omega
noncomputable def FV (out:qu->O) (n:Nat):zb->Option O:=qd (α:=qu) (fun v=>[.agg v.V]) (fun v=>v.vb<=zA/\v.vb<=n) out
theorem zh4(out:qu->O)(n:Nat)(v:qu)(h:v.vb<=zA/\v.vb<=n):FV out n [.agg v.V]=some (out v):=
 qD (V:=fun v:qu=>[.agg v.V]) (a:=v) (fun a b e=>by simp only[zj,zG,O.agg.injEq]at e;exact YW e) h
@[simp]theorem PD(Y:Hp)(v:qu):wJ Y v.V=some (v.V,Y):=by rw[Qm];simp
theorem Zt(Y:Hp)(v:qu):qt Y (.agg v.V)=some (.agg v.V,Y):=by rw[Qm];simp
theorem aQ(v:qu):O.noOwn (.agg v.V)=true:=by rw[Qm];simp
theorem aR(out:qu->O)(n:Nat)(v:qu)(Y:Hp)(Z:Nat)(h:v.vb<=zA/\v.vb<=n):hP (FV out n) [.agg v.V] Y Z=some (out v,Y,Z):=
 yI (Y1:=Y) (show zC Y [.agg v.V]=some ([.agg v.V],Y) by simp only[zC,Zt]) (zh4 out n v h) (.inr (by simp only[wi,aQ,V4,Pq]))
mutual
def qu.parts:qu->Nat
 | .mk _ _ _ a b=>1+vv a+vG b
def vv:List qu->Nat
 |[]=>0
 |v::l=>v.parts+vv l
def vG:List (za×qu)->Nat
 |[]=>0
 |(_,v)::l=>v.parts+vG l
end
mutual
def qu.levels:qu->Nat
 | .mk _ _ _ a b=>max (kO a) (vg b)+1
def kO:List qu->Nat
 |[]=>0
 |v::l=>max v.levels (kO l)
def vg:List (za×qu)->Nat
 |[]=>0
 |(_,v)::l=>max v.levels (vg l)
end
theorem DV(v:qu):v.parts=1+vv v.items+vG v.fields:=by cases v;rfl
theorem ub(v:qu):v.levels=max (kO v.items) (vg v.fields)+1:=by cases v;rfl
theorem ov(v:qu):v.parts<=v.vb:=by
 induction v using qu.ind with
 |h k n s e f g i=>
  have a:∀l:List qu,(∀x∈l,x.parts<=x.vb)->vv l<=Vg l:=by
   intro l
   induction l with
   |nil=>simp[vv]
   |cons v l c=>intro h;have:=h v (by simp);have:=c fun x d=>h x (by simp[d]);simp only[vv,Vg];omega
  have b:∀l:List (za×qu),(∀x∈l,x.2.parts<=x.2.vb)->vG l<=lT l:=by
   intro l
   induction l with
   |nil=>simp[vG]
   |cons v l c=>intro h;have:=h v (by simp);have:=c fun x d=>h x (by simp[d]);obtain⟨a,v⟩:=v;simp only[vG,lT];simp only at *;omega
  have:=a e g;have:=b f i;simp only[qu.parts,qu.vb];omega
theorem uc(v:qu):v.levels<=v.parts:=by
 induction v using qu.ind with
 |h k n s e f g i=>
  have a:∀l:List qu,(∀x∈l,x.levels<=x.parts)->kO l<=vv l:=by
   intro l
   induction l with
   |nil=>simp[kO]
   |cons v l c=>intro h;have:=h v (by simp);have:=c fun x d=>h x (by simp[d]);simp only[kO,vv];omega
  have b:∀l:List (za×qu),(∀x∈l,x.2.levels<=x.2.parts)->vg l<=vG l:=by
   intro l
   induction l with
   |nil=>simp[vg]
   |cons v l c=>intro h;have:=h v (by simp);have:=c fun x d=>h x (by simp[d]);obtain⟨a,v⟩:=v;simp only[vg,vG];simp only at *;omega
  have:=a e g;have:=b f i;simp only[qu.parts,qu.levels];omega
noncomputable abbrev Cc (n:Nat):Ctx:=Vs prog [(159,hP (FV (fun v=>.w5 [int v.parts,int v.levels]) n))] (DI 2 [(2,1)])
theorem jf{C:Ctx}{fn:Func}{code:Code}{args:zb}{Y:Hp}{Z:Nat}{x:O}{Y':Hp}{Z':Nat}(a:fn.body=some code)
  (h:ZX C code ⟨vn args,Y,Z⟩ (Vq C.P fn (fun y h m=>y=x/\h=Y'/\m=Z'))):yR C fn args Y Z=some (x,Y',Z'):=by
 obtain⟨y,c,n1,b,rfl,rfl,rfl⟩:=qF a h;exact b
theorem ow(n:Nat)(v:qu)(h:v.vb<=zA/\v.vb<=n)(Y:Hp)(Z i j:Nat)(hi:i<Z)(s:j<Z)(b:i≠j)(p q:Nat)(c:Y i=some ⟨3,1,false,[[int p]]⟩)(d:Y j=some ⟨3,1,false,[[int q]]⟩)(f:p<=zA) :
  wD (Cc n) f194 [.agg v.V,.ref i 0 0,.ref j 0 0] Y Z =
   some (.w5 [],qq (qq (qq Y Z (some ⟨145,5,false,[v.V]⟩)) i (some ⟨3,1,false,[[int ((p+v.parts:Nat):Int)]]⟩)) j (some ⟨3,1,false,[[int ((max q v.levels:Nat):Int)]]⟩),Z+1):=by
 have g:=ov v;have k:=uc v;unfold zA at *;have l:=wq ((p:Int)+v.parts);unfold wD;rw[zd (by simp[f194])];refine jf rfl ?_;have a:=fun Y Z=>aR (fun v=>.w5 [int v.parts,int v.levels]) n v Y Z h
 have e:¬i=Z:=by omega
 have m:¬j=Z:=by omega
 have o:¬j=i:=by omega
 have r:(if q<v.levels then(v.levels:Int)else q)=((max q v.levels:Nat):Int):=by split<;>omega
 simp[a];rw[W0 _ _ _ _ _ _ (nX (blk:=⟨3,1,false,[[int p]]⟩) (id:=j) (i:=0) (j:=0) (id':=i) (i':=0) (j':=0) (by simp) (by simp) (Ne.symm b) (by simp[e,c]) rfl) (fun _ h=>by cases h)];simp[c,d,e,m,o,b,l,r,f194]
theorem b7(a b:List qu):vv (a++b)=vv a+vv b:=by
 induction a with
 |nil=>simp[vv]
 |cons v a c=>simp only[wB,vv,c];omega
theorem ox(a b:List qu):kO (a++b)=max (kO a) (kO b):=by
 induction a with
 |nil=>simp[kO]
 |cons v a c=>simp only[wB,kO,c];omega
theorem b8(a b:List (za×qu)):vG (a++b)=vG a+vG b:=by
 induction a with
 |nil=>simp[vG]
 |cons v a c=>obtain⟨x,v⟩:=v;simp only[wB,vG,c];omega
theorem oy(a b:List (za×qu)):vg (a++b)=max (vg a) (vg b):=by
 induction a with
 |nil=>simp[vg]
 |cons v a c=>obtain⟨x,v⟩:=v;simp only[wB,vg,c];omega
theorem zh5{l:List qu}{k:Nat}(h:k<l.length):vv (l.take (k+1))=vv (l.take k)+l[k].parts/\kO (l.take (k+1))=max (kO (l.take k)) l[k].levels:=by rw[zQ h,b7,ox];simp[vv,kO]
theorem zh6{l:List (za×qu)}{k:Nat}(h:k<l.length):vG (l.take (k+1))=vG (l.take k)+l[k].2.parts/\vg (l.take (k+1))=max (vg (l.take k)) l[k].2.levels:=by rw[zQ h,b8,oy];simp[vG,vg]
theorem Nx(l:List qu)(k:Nat):vv (l.take k)<=vv l:=by have:=b7 (l.take k) (l.drop k);rw[xB]at this;omega
theorem Ny(l:List (za×qu))(k:Nat):vG (l.take k)<=vG l:=by have:=b8 (l.take k) (l.drop k);rw[xB]at this;omega
noncomputable abbrev Cd (n:Nat):Ctx:=Vs prog [(194,wD (Cc n) f194)] (DI 13 [(3,2)])
theorem HQ(n:Nat)(v:qu)(h:v.vb<=zA/\v.vb<=n+1):zv (Cd n) f159 [.agg v.V]=some (.w5 [int v.parts,int v.levels]):=by
 have z:=ov v;have hpe:=DV v;have A:=Wg v;have t:=ub v;have B:=jw v.items;have C:=kP v.fields;obtain⟨D,G⟩:=h;unfold zA at D;refine zn rfl ?_;simp;refine zL (fun k σ Y Z=>σ 1=.ref 0 0 0/\σ 2=.ref 1 0 0/\σ 3=.ref 2 0 0/\σ 4=.fn (.func 194) [] [.ref 1 0 0,.ref 2 0 0]/\σ 11=.sl 5 (v.items.map qu.V)/\σ 12=int v.items.length/\σ 13=int k/\3<=Z/\Y 0=some ⟨145,5,false,[v.V]⟩ /\
   Y 1=some ⟨3,1,false,[[int ((1+vv (v.items.take k):Nat):Int)]]⟩/\Y 2=some ⟨3,1,false,[[int (kO (v.items.take k))]]⟩) v.items.length
  ⟨by simp,by simp,by simp,by simp,by simp,by simp,by simp,by simp,by simp,by simp[vv],by simp[kO]⟩ ?_
 rintro k σ Y Z y ⟨m,f,g,p,c,d,e,q,u,l,o⟩;by_cases a:k<v.items.length
 ·obtain⟨w,x⟩:=zh5 a;have E:=kY (zi a);have r:=qe k;have s:=Nx v.items k;have b:=ow n v.items[k] ⟨by unfold zA;omega,by omega⟩ (qq Y Z (some ⟨145,5,false,[v.items[k].V]⟩)) (Z+1) 1 2 (by omega) (by omega) (by omega) _ _ (by rw[zz _ _ _ _ (by omega)];exact l) (by rw[zz _ _ _ _ (by omega)];exact o) (by unfold zA;omega);simp[m,f,g,p,c,d,e,a,b,r];refine⟨a,by omega,?_,?_,?_⟩
  ·simp[u,show¬0=Z by omega,show¬0=Z+1 by omega]
  ·rw[w];omega
  ·rw[x]
 ·obtain rfl:k=v.items.length:=by omega
  rw[qf]at l o;simp[m,f,g,p,c,d,e,u];refine zL (fun k σ Y Z=>σ 1=.ref 0 0 0/\σ 2=.ref 1 0 0/\σ 3=.ref 2 0 0/\σ 4=.fn (.func 194) [] [.ref 1 0 0,.ref 2 0 0]/\σ 22=.sl 6 (v.fields.map kI)/\σ 23=int v.fields.length/\σ 24=int k/\3<=Z /\
    Y 1=some ⟨3,1,false,[[int ((1+vv v.items+vG (v.fields.take k):Nat):Int)]]⟩/\Y 2=some ⟨3,1,false,[[int ((max (kO v.items) (vg (v.fields.take k)):Nat):Int)]]⟩) v.fields.length
   ⟨by simp[m],by simp[f],by simp[g],by simp[p],by simp,by simp,by simp,q,by simp[l,vG],by simp[o,vg]⟩ ?_
  clear m f g p c d e q u l o a y Z Y σ;rintro k σ Y Z y ⟨m,f,g,p,c,d,e,q,l,o⟩;by_cases a:k<v.fields.length
  ·obtain⟨w,x⟩:=zh6 a;have E:=ZL (zi a);have r:=qe k;have s:=Ny v.fields k;have b:=ow n v.fields[k].2 ⟨by unfold zA;omega,by omega⟩ (qq Y Z (some ⟨184,6,false,[kI v.fields[k]]⟩)) (Z+1) 1 2 (by omega) (by omega) (by omega) _ _ (by rw[zz _ _ _ _ (by omega)];exact l) (by rw[zz _ _ _ _ (by omega)];exact o) (by unfold zA;omega);simp[kI]at b;simp[m,f,g,p,c,d,e,a,r,b];refine⟨a,by omega,?_,?_⟩
   ·rw[w];omega
   ·rw[x]
  ·obtain rfl:k=v.fields.length:=by omega
   rw[qf]at l o;have F:=uc v;have r:IntKind.i64.wrap (((max (kO v.items) (vg v.fields):Nat):Int)+1)=(v.levels:Int):=by rw[wS (by omega) (by omega),t];omega
   simp[m,f,g,p,c,d,e];rw[W0 _ _ _ _ _ _ (nX (id:=2) (i:=0) (j:=0) (id':=1) (i':=0) (j':=0) (by simp[g]) (by simp[f]) (by omega) (by exact l) rfl) (fun _ h=>by cases h)];simp[m,f,g,l,o,r,f159,wK];omega
theorem VC{out:qu->O}{n:Nat}{args:zb}{r:O}(h:FV out n args=some r):∃v:qu,args=[.agg v.V]/\(v.vb<=zA/\v.vb<=n)/\r=out v:=zO h
theorem zaV{out:qu->O}:∀args r,FV out 0 args=some r->False:=fun args r h=>by obtain⟨v,rfl,a,rfl⟩:=VC h;have:=Kk v;omega
theorem A7{out:qu->O}{f:FuncId}(a:∃fn,prog.funcs[f]?=some fn/\(fn.name== "runtime.NumGoroutine")=false/\fn.body.isNone=false):zg prog f (hP (FV out 0)):=by
 refine⟨a,fun args Y Z r Y' Z' h=>?_⟩
 try unfold hP at h
 unfold zh at h;split at h
 ·split at h
  ·rename_i c b;exact(zaV _ _ b).elim
  ·cases h
 ·cases h
theorem DW:∀n,zg prog 159 (hP (FV (fun v=>.w5 [int v.parts,int v.levels]) n)):=by
 intro n
 induction n with
 |zero=>exact A7 ⟨_,func159,by kernel_rfl,by kernel_rfl⟩
 |succ n a=>
  have b:Gd (Cc n):=DC _ mixed ⟨a,by simp,trivial⟩;have c:zg prog 194 (wD (Cc n) f194):=kL b func194;have hd:Gd (Cd n):=DC _ mixed ⟨c,by simp,trivial⟩;exact yy (fn:=f159) hd (qX func159) false [] _ fun args r h=>by obtain⟨v,rfl,d,rfl⟩:=VC h;exact⟨zI (zl 1) (by decide),_,HQ n v d,z8 _⟩
noncomputable abbrev GV (out:qu->O):AM.Spec:=hP (FV out zA)
theorem JW(out:qu->O)(v:qu)(Y:Hp)(Z:Nat)(h:v.vb<=zA):GV out [.agg v.V] Y Z=some (out v,Y,Z):=aR out zA v Y Z ⟨h,h⟩
def iW(k:Int):Bool:=decide (k<0)||decide (5<k)
def XT(k n:Int)(s:za)(i f:Nat):Bool:=n != 0&&k != 1&&k != 2||!(s==[])&&k != 3||decide (0<i)&&k != 4||decide (0<f)&&k != 5
def ed(k n:Int):Bool:=k==1&&n != 0&&n != 1
def JX(k n:Int):Bool:=k==2&&(decide (n<=-1000000000000000)||decide (1000000000000000<=n))
def LP(i f:Nat):Bool:=decide ((100:Int)<i)||decide ((100:Int)<f)
def LQ(s:za):Bool:=decide ((500:Int)<s.length)
def QR(k n:Int)(s:za)(i f:Nat):Int:=
 if iW k then 4 else if XT k n s i f then 3 else if ed k n||JX k n then 1 else if LQ s then 2 else if wc 32 126 s then(if LP i f then 2 else 0)else 1
def Xh(a b:za):Bool:=Op.bytesLess a b||a==b
def oz(a:za):Bool:=a.isEmpty||decide ((60:Int)<a.length)||!wc 32 126 a
def xU(b:Option za)(a:za):Bool:=match b with
 |none=>false
 |some p=>Xh a p
mutual
def qu.fault:qu->Int
 | .mk k n s a b=>if QR k n s a.length b.length=0 then(if xD a=0 then YF none b else xD a)else QR k n s a.length b.length
def xD:List qu->Int
 |[]=>0
 |v::l=>if v.fault=0 then xD l else v.fault
def YF:Option za->List (za×qu)->Int
 |_,[]=>0
 |prev,(a,v)::l=>if oz a then 5 else if xU prev a then 8 else if v.fault=0 then YF (some a) l else v.fault
end
theorem oA(v:qu):v.fault=if QR v.kind v.n v.s v.items.length v.fields.length=0 then(if xD v.items=0 then YF none v.fields else xD v.items)else QR v.kind v.n v.s v.items.length v.fields.length:=by cases v;rfl
theorem DX:zg prog 195 (GV fun v=>wb (XT v.kind v.n v.s v.items.length v.fields.length)):=
 yy (fn:=f195) je (qX func195) false [] _ fun args r h=>by obtain⟨v,rfl,a,rfl⟩:=VC h;exact⟨by simp[f195],_,zn rfl (by simp[f195,XT]),z8 _⟩
noncomputable abbrev Ck (n:Nat):Ctx:=zV prog [(160,hP (FV (fun v=>int v.fault) n)),(195,GV fun v=>wb (XT v.kind v.n v.s v.items.length v.fields.length)),(196,hP (FS (wc 32 126)))]
@[simp]theorem qk(n:Nat):ki (Ck n) 196:=yL (by rfl) (zu _ _)
theorem iX{l:List qu}{k:Nat}(h:k<l.length):xD (l.drop k)=if l[k].fault=0 then xD (l.drop (k+1))else l[k].fault:=by rw[zc h,xD]
theorem iY{l:List (za×qu)}{k:Nat}(h:k<l.length)(p:Option za):YF p (l.drop k)=if oz l[k].1 then 5 else if xU p l[k].1 then 8 else if l[k].2.fault=0 then YF (some l[k].1) (l.drop (k+1))else l[k].2.fault:=by rw[zc h,YF]
def QS(l:List (za×qu))(k:Nat):Option za:=if k=0 then none else(l[k-1]?).map (·.1)
theorem oB(n:Nat)(v:qu)(h:v.vb<=zA/\v.vb<=n+1):zv (Ck n) f160 [.agg v.V]=some (int v.fault):=by
 have hvb:=Wg v;have hl1:=jw v.items;have hl2:=kP v.fields;obtain⟨ha,hb⟩:=h;unfold zA at ha;have b:=oA v;have d:=fun Y Z=>JW (fun v=>wb (XT v.kind v.n v.s v.items.length v.fields.length)) v Y Z ha
 have A:v.s.length<=zA:=by unfold zA;omega
 refine zn rfl ?_;have x:(decide (v.kind<0)||decide (5<v.kind))=iW v.kind:=rfl;have F:(v.kind==1&&v.n != 0&&v.n != 1)=ed v.kind v.n:=rfl;have H:(v.kind==2&&(decide (v.n<=-1000000000000000)||decide (1000000000000000<=v.n)))=JX v.kind v.n:=rfl;have e4:(decide ((100:Int)<v.items.length)||decide ((100:Int)<v.fields.length))=LP v.items.length v.fields.length:=rfl;have L:decide ((500:Int)<v.s.length)=LQ v.s:=rfl;cases q:iW v.kind
 case true=>simp[x,q,b,QR,f160]
 cases y:XT v.kind v.n v.s v.items.length v.fields.length
 case true=>simp[x,q,d,y,b,QR,f160]
 cases B:ed v.kind v.n
 case true=>simp[x,q,d,y,F,B,b,QR,f160]
 cases G:JX v.kind v.n
 case true=>simp[x,q,d,y,F,B,H,G,b,QR,f160]
 cases I:LQ v.s
 case true=>simp[x,q,d,y,F,B,H,G,L,I,b,QR,f160]
 cases M:wc 32 126 v.s
 case false=>simp[x,q,d,y,F,B,H,G,L,I,M,A,b,QR,f160]
 cases P:LP v.items.length v.fields.length
 case true=>simp[x,q,d,y,F,B,H,G,L,I,M,A,e4,P,b,QR,f160]
 have hh:QR v.kind v.n v.s v.items.length v.fields.length=0:=by simp[QR,q,y,B,G,I,M,P]
 rw[hh,zd rfl]at b;simp[x,q,d,y,F,B,H,G,L,I,M,A,e4,P];refine zL (fun k σ Y Z=>σ 1=.ref 0 0 0/\σ 70=.sl 5 (v.items.map qu.V)/\σ 71=int v.items.length/\σ 72=int k/\1<=Z/\Y 0=some ⟨145,5,false,[v.V]⟩/\xD v.items=xD (v.items.drop k)) v.items.length
  ⟨by simp,by simp,by simp,by simp,by simp,by simp,by simp⟩ ?_
 rintro k σ Y Z hk ⟨l,r,t,u,C,p,w⟩;have z:¬0=Z:=by omega
 by_cases c:k<v.items.length
 ·have hm:=kY (zi c);have hw:=qe k;have a:=fun Y Z=>aR (fun v=>int v.fault) n v.items[k] Y Z ⟨by unfold zA;omega,by omega⟩
  rw[iX c]at w;by_cases e:v.items[k].fault=0
  ·rw[zd e]at w;simp[l,r,t,u,c,a,e,hw]
   and_intros<;>first|omega|exact w|simp[z,p]
  ·rw[ze e]at w;have o:=vX e;rw[w,ze e]at b;simp[l,r,t,u,c,a,o,b,f160]
 ·obtain rfl:k=v.items.length:=by omega
  rw[zp]at w;have w:xD v.items=0:=by rw[w];rfl
  rw[w,zd rfl]at b;simp[l,r,t,u,p];refine zL (fun k σ Y Z=>σ 1=.ref 0 0 0/\σ 83=.sl 6 (v.fields.map kI)/\σ 84=int v.fields.length/\σ 85=int k/\1<=Z/\Y 0=some ⟨145,5,false,[v.V]⟩/\v.fault=YF (QS v.fields k) (v.fields.drop k)) v.fields.length
   ⟨by simp[l],by simp,by simp,by simp,C,p,by simp[b,QS]⟩ ?_
  clear l r t u C p c hk z Z Y σ b;rintro k σ Y Z hk ⟨l,f,g,i,C,p,b⟩;have z:¬0=Z:=by omega
  by_cases c:k<v.fields.length
  ·have hm:=ZL (zi c);have hw:=qe k;have m:v.fields[k].1.length<=zA:=by unfold zA;omega
   have a:=fun Y Z=>aR (fun v=>int v.fault) n v.fields[k].2 Y Z ⟨by unfold zA;omega,by omega⟩
   have en:(v.fields[k].1.isEmpty||decide ((60:Int)<v.fields[k].1.length)||!wc 32 126 v.fields[k].1)=oz v.fields[k].1:=rfl;rw[iY c]at b;cases D:oz v.fields[k].1
   case true=>simp[l,f,g,i,c,m,en,D,b,f160]
   have J:QS v.fields (k+1)=some v.fields[k].1:=by simp[QS,c]
   simp only[D,zP,wF]at b;by_cases k0:k=0
   ·subst k0;simp only[QS,xU,qV,zP,wF]at b;by_cases e:v.fields[0].2.fault=0
    ·rw[zd e]at b;have w1:=wq 1;simp[l,f,g,i,c,m,en,D,a,e,w1]
     and_intros<;>first|omega|(rw[b];rw[J];simp;done)|simp[z,p]
    ·rw[ze e]at b;have o:=vX e;simp[l,f,g,i,c,m,en,D,a,o,b,f160]
   ·obtain⟨j,rfl⟩:∃j,k=j+1:=⟨k-1,by omega⟩;have N:j<v.fields.length:=by omega
    have Q:IntKind.i64.wrap ((j:Int)+1-1)=(j:Int):=by rw[wS (by omega) (by omega)];omega
    have E:=wq (j:Int);have R:((j:Int)+1).toNat=j+1:=by omega
    have S:0<(j:Int)+1:=by omega
    have T:0<=(j:Int)+1:=by omega
    have U:(j:Int)+1<v.fields.length:=by omega
    have wk:=wq ((j:Int)+1+1);have W:(Op.bytesLess v.fields[j+1].1 v.fields[j].1||v.fields[j+1].1==v.fields[j].1)=Xh v.fields[j+1].1 v.fields[j].1:=rfl;have X:QS v.fields (j+1)=some v.fields[j].1:=by simp[QS,N]
    simp only[X,xU]at b;cases K:Xh v.fields[j+1].1 v.fields[j].1
    case true=>simp only[K,qV]at b;simp[l,f,g,i,c,N,m,en,D,a,p,z,Q,E,R,S,T,U,W,K,b,f160]
    simp only[K,zP,wF]at b;by_cases e:v.fields[j+1].2.fault=0
    ·rw[zd e]at b;simp[l,f,g,i,c,N,m,en,D,a,p,z,Q,E,R,S,T,U,W,K,e,wk]
     and_intros<;>first|omega|(rw[b];rw[J])|simp[z,p]
    ·rw[ze e]at b;have o:=vX e;simp[l,f,g,i,c,N,m,en,D,a,p,z,Q,E,R,S,T,U,W,K,o,b,f160]
  ·obtain rfl:k=v.fields.length:=by omega
   rw[zp]at b;have b:v.fault=0:=by rw[b];rfl
   simp[l,f,g,i,b,f160]
theorem l9:∀n,zg prog 160 (hP (FV (fun v=>int v.fault) n)):=by
 intro n
 induction n with
 |zero=>exact A7 ⟨_,func160,by kernel_rfl,by kernel_rfl⟩
 |succ n a=>
  have b:AM.Good (Ck n) (fun g=>[196].contains g):=qC mixed ⟨a,by simp,DX,by simp,oh,fun _=>zu _ _,trivial⟩;exact yy (fn:=f160) b (qX func160) false [] _ fun args r h=>by obtain⟨v,rfl,c,rfl⟩:=VC h;exact⟨zI (zl 1) (by decide),_,oB n v c,z8 _⟩
def qu.check(v:qu):Int:=if decide ((1000:Int)<v.parts)||decide ((8:Int)<v.levels)then 2 else v.fault
noncomputable abbrev Cch:Ctx:=zV prog [(160,GV fun v=>int v.fault),(159,GV fun v=>.w5 [int v.parts,int v.levels])]
theorem DY:zg prog 139 (GV fun v=>int v.check):=
 yy (fn:=f139) (zW mixed ⟨l9 zA,DW zA,trivial⟩:AM.Good Cch _) (qX func139) false [] _ fun args r h=>by
  obtain⟨v,rfl,a,rfl⟩:=VC h;have b:=fun Y Z=>JW (fun v=>int v.fault) v Y Z a.1
  have c:=fun Y Z=>JW (fun v=>.w5 [int v.parts,int v.levels]) v Y Z a.1
  refine⟨by simp[f139],_,zn rfl ?_,z8 _⟩;cases d:(decide ((1000:Int)<v.parts)||decide ((8:Int)<v.levels))
  ·simp[b,c,d,f139,qu.check]
  ·simp[b,c,d,f139,qu.check]
end Go.Q
namespace Go.Q
open Go.RowKit Go.AM Go.PrLaw
mutual
def qu.show:qu->za
 | .mk k n s a b=>if k=0 then[110,117,108,108]else if k=1 then(if n=1 then[116,114,117,101]else[102,97,108,115,101])else if k=2 then Jp n else if k=3 then Z2 s else
  if k=4 then 91::(Lib.join (CX a) [44]++[93])else 123::(Lib.join (CY b) [44]++[125])
def CX:List qu->List za
 |[]=>[]
 |v::l=>v.show::CX l
def CY:List (za×qu)->List za
 |[]=>[]
 |(a,v)::l=>(Z2 a++(58::v.show))::CY l
end
theorem oC:∀l:List qu,CX l=l.map qu.show
 |[]=>rfl
 |v::l=>by simp[CX,oC l]
def ZP(f:za×qu):za:=Z2 f.1++(58::f.2.show)
theorem oD:∀l:List (za×qu),CY l=l.map ZP
 |[]=>rfl
 |(a,v)::l=>by simp[CY,oD l,ZP]
theorem xK(v:qu):v.show=if v.kind=0 then[110,117,108,108]else if v.kind=1 then(if v.n=1 then[116,114,117,101]else[102,97,108,115,101])else if v.kind=2 then Jp v.n else if v.kind=3 then Z2 v.s else
  if v.kind=4 then 91::(Lib.join (v.items.map qu.show) [44]++[93])else 123::(Lib.join (v.fields.map ZP) [44]++[125]):=by
 cases v;rw[qu.show,oC,oD];rfl
theorem zaW(k n:Int)(s:za)(a:List qu)(b:List (za×qu)):(qu.mk k n s a b).show=if k=0 then[110,117,108,108]else if k=1 then(if n=1 then[116,114,117,101]else[102,97,108,115,101])else if k=2 then Jp n else if k=3 then Z2 s else
  if k=4 then 91::(Lib.join (a.map qu.show) [44]++[93])else 123::(Lib.join (b.map ZP) [44]++[125]):=xK _
theorem RY(k n:Int)(s:za)(a:List qu)(b:List (za×qu)):(qu.mk k n s a b).fault=if QR k n s a.length b.length=0 then(if xD a=0 then YF none b else xD a)else QR k n s a.length b.length:=oA _
inductive Xn:qu->Prop
 |mk {k n:Int} {s:List UInt8} {is:List qu} {fs:List (List UInt8×qu)}:0<=k->k<=5->(k=2->-1000000000000000<n/\n<1000000000000000)->(∀x∈is,Xn x)->(∀f∈fs,Xn f.2)->Xn (.mk k n s is fs)
theorem Xn.kind{v:qu}(h:Xn v):0<=v.kind/\v.kind<=5:=by cases h;exact⟨by assumption,by assumption⟩
theorem Xn.num{v:qu}(h:Xn v)(a:v.kind=2):-1000000000000000<v.n/\v.n<1000000000000000:=by cases h with|mk _ _ b _ _=>exact b a
theorem Xn.items{v:qu}(h:Xn v):∀x∈v.items,Xn x:=by cases h;assumption
theorem Xn.fields{v:qu}(h:Xn v):∀f∈v.fields,Xn f.2:=by cases h;assumption
theorem KJ(v:qu)(h:Xn v):v.show.length+4<=30*v.vb:=by
 induction v using qu.ind with
 |h k n s i m p r=>
  have t:=Wg (.mk k n s i m);simp only[qu.s,qu.items,qu.fields]at t;rw[zaW];split
  ·simp;omega
  split
  ·split<;>simp<;>omega
  split
  ·rename_i u;obtain⟨a,b⟩:=h.num u;have:=Nw (n:=n) a b;omega
  split
  ·have:=W9 s;omega
  split
  ·have e:∀l:List qu,(∀x∈l,x.show.length+4<=30*x.vb)->((l.map qu.show).map fun x=>([44]:za).length+x.length).sum<=30*Vg l:=by
    intro l
    induction l with
    |nil=>intro _;simp
    |cons v l o=>
     intro g;have a:=g v (by simp);have b:=o fun x d=>g x (by simp[d])
     simp only[z6,yo,Vg,zfJ]at b⊢;omega
   have j:=Jq [44] (i.map qu.show);have:=e i fun x d=>p x d (h.items x d)
   simp only[zx,zm,qj];omega
  ·have e:∀l:List (za×qu),(∀f∈l,f.2.show.length+4<=30*f.2.vb)->((l.map ZP).map fun x=>([44]:za).length+x.length).sum<=30*lT l:=by
    intro l
    induction l with
    |nil=>intro _;simp
    |cons f l o=>
     intro g;have a:=g f (by simp);have b:=o fun x d=>g x (by simp[d])
     have q:=W9 f.1;obtain⟨c,v⟩:=f;simp only[z6,yo,lT,zfJ,ZP,zm,zx,qj]at a b q⊢;omega
   have j:=Jq [44] (m.map ZP);have:=e m fun x d=>r x d (h.fields x d)
   simp only[zx,zm,qj];omega
theorem A8(v:qu)(h:v.fault=0):Xn v:=by
 induction v using qu.ind with
 |h k n s t u w A=>
  rw[RY]at h;split at h
  case isFalse d=>exact(d h).elim
  rename_i d;split at h
  case isFalse m=>exact(m h).elim
  rename_i m;have j:iW k=false:=by
   cases o:iW k
   ·rfl
   ·rw[QR,o]at d;simp at d
  have B:JX k n=false:=by
   cases o:JX k n
   ·rfl
   ·rw[QR,j,o]at d;simp only[Bool.or_true,qV,wF,zP]at d;split at d<;>simp at d
  simp[iW]at j;refine .mk j.1 j.2 (fun e=>?_) ?_ ?_
  ·subst e;simp[JX]at B;omega
  ·have g:∀l:List qu,(∀x∈l,x.fault=0->Xn x)->xD l=0->∀x∈l,Xn x:=by
    intro l
    induction l with
    |nil=>intro _ _ x hx;cases hx
    |cons y l q=>
     intro a b x hx;rw[xD]at b;split at b
     ·rename_i i;rcases zw.1 hx with rfl|hx
      ·exact a _ (by simp) i
      ·exact q (fun z r=>a z (by simp[r])) b x hx
     ·rename_i i;exact(i b).elim
   exact g t w m
  ·have g:∀(l:List (za×qu)) (p:Option za),(∀f∈l,f.2.fault=0->Xn f.2)->YF p l=0->∀f∈l,Xn f.2:=by
    intro l
    induction l with
    |nil=>intro _ _ _ x hx;cases hx
    |cons y l q=>
     intro p a b x hx;obtain⟨c,y⟩:=y;rw[YF]at b;split at b
     ·simp at b
     split at b
     ·simp at b
     split at b
     ·rename_i i;rcases zw.1 hx with rfl|hx
      ·exact a _ (by simp) i
      ·exact q _ (fun z r=>a z (by simp[r])) b x hx
     ·rename_i i;exact(i b).elim
   exact g u none A h
end Go.Q
namespace Go.Proofs
open Go.Shelf
def Tryz.lU:Go.Shelf.Ren:=⟨fun|156=>11|165=>24|166=>10|169=>15|240=>23|241=>47|276=>46|277=>89|n=>n,fun|31=>38|9=>9|3=>3|4=>4|0=>0|20=>20|72=>37|76=>41|70=>34|37=>35|75=>40|127=>80|164=>99|5=>5|80=>67|n=>n,fun|n=>n⟩
theorem Tryz.ML:Go.Proofs.Lays.n156 prog Tryz.lU:={
 mixed:=by kernel_rfl
 f156:=Xb func11
 f165:=Xb func24
 f166:=Xb func10
 f169:=Xb func15
 f240:=Xb func23
 f241:=Xb func47
 f276:=Xb func46
 f277:=Xb func89
 t0:=underlying0
 a0:=isAgg0
 z0:=sizeOf0
 v0:=zeroValue0
 t3:=underlying3
 a3:=isAgg3
 z3:=sizeOf3
 v3:=zeroValue3
 t4:=underlying4
 a4:=isAgg4
 z4:=sizeOf4
 v4:=zeroValue4
 t9:=underlying9
 a9:=isAgg9
 z9:=sizeOf9
 v9:=zeroValue9
 t20:=underlying20
 a20:=isAgg20
 z20:=sizeOf20
 v20:=zeroValue20
 t31:=underlying38
 a31:=isAgg38
 z31:=sizeOf38
 v31:=zeroValue38
 t37:=underlying35
 a37:=isAgg35
 z37:=sizeOf35
 v37:=zeroValue35
 t70:=underlying34
 a70:=isAgg34
 z70:=sizeOf34
 v70:=zeroValue34
 t72:=underlying37
 a72:=isAgg37
 z72:=sizeOf37
 v72:=zeroValue37
 t75:=underlying40
 a75:=isAgg40
 z75:=sizeOf40
 v75:=zeroValue40
 t76:=underlying41
 a76:=isAgg41
 z76:=sizeOf41
 v76:=zeroValue41
 t127:=underlying80
 a127:=isAgg80
 z127:=sizeOf80
 v127:=zeroValue80
 t164:=underlying99
 a164:=isAgg99
 z164:=sizeOf99
 v164:=zeroValue99}
theorem Tryz.Kd:Builder.Extra prog Tryz.lU:={
 sizeBuilder:=by kernel_rfl
 liesBuilder:=by kernel_rfl
 t5:=underlying5
 a5:=isAgg5
 z5:=sizeOf5
 v5:=zeroValue5
 infoByte:=by kernel_rfl
 cellsByte:=by kernel_rfl
 sizeByte:=by kernel_rfl
 neB5:=by decide}
def Tryz.GG:Go.Shelf.Ren:=⟨fun|162=>216|232=>242|227=>243|234=>244|236=>245|228=>284|271=>285|151=>286|120=>317|197=>224|152=>318|260=>263|137=>291|119=>335|224=>303|225=>302|217=>301|266=>327|n=>n,fun|9=>9|4=>4|3=>3|5=>5|117=>270|116=>269|0=>0|124=>273|21=>21|105=>247|46=>165|119=>311|139=>314|138=>313|n=>n,fun|3=>4|4=>5|n=>n⟩
theorem Tryz.zc0:Go.Proofs.Lays.n162 prog Tryz.GG:={
 mixed:=by kernel_rfl
 f119:=Xb func335
 f120:=Xb func317
 f137:=Xb func291
 f151:=Xb func286
 f152:=Xb func318
 f162:=Xb func216
 f197:=Xb func224
 f217:=Xb func301
 f224:=Xb func303
 f225:=Xb func302
 f227:=Xb func243
 f228:=Xb func284
 f232:=Xb func242
 f234:=Xb func244
 f236:=Xb func245
 f260:=Xb func263
 f266:=Xb func327
 f271:=Xb func285
 t0:=underlying0
 a0:=isAgg0
 z0:=sizeOf0
 v0:=zeroValue0
 t3:=underlying3
 a3:=isAgg3
 z3:=sizeOf3
 v3:=zeroValue3
 t4:=underlying4
 a4:=isAgg4
 z4:=sizeOf4
 v4:=zeroValue4
 t5:=underlying5
 a5:=isAgg5
 z5:=sizeOf5
 v5:=zeroValue5
 t9:=underlying9
 a9:=isAgg9
 z9:=sizeOf9
 v9:=zeroValue9
 t21:=underlying21
 a21:=isAgg21
 z21:=sizeOf21
 v21:=zeroValue21
 t46:=underlying165
 a46:=isAgg165
 z46:=sizeOf165
 v46:=zeroValue165
 t105:=underlying247
 a105:=isAgg247
 z105:=sizeOf247
 v105:=zeroValue247
 t116:=underlying269
 a116:=isAgg269
 z116:=sizeOf269
 t117:=underlying270
 a117:=isAgg270
 z117:=sizeOf270
 v117:=zeroValue270
 t119:=underlying311
 a119:=isAgg311
 z119:=sizeOf311
 t124:=underlying273
 a124:=isAgg273
 z124:=sizeOf273
 v124:=zeroValue273
 t138:=underlying313
 a138:=isAgg313
 z138:=sizeOf313
 v138:=zeroValue313
 t139:=underlying314
 a139:=isAgg314
 z139:=sizeOf314
 v139:=zeroValue314
 g3:=by kernel_rfl
 g4:=by kernel_rfl}
def Tryz.GH:Go.Shelf.Ren:=⟨fun|121=>173|214=>215|n=>n,fun|4=>4|9=>9|n=>n,fun|n=>n⟩
theorem Tryz.zc1:Go.Proofs.Lays.n121 prog Tryz.GH:={
 mixed:=by kernel_rfl
 f121:=Xb func173
 f214:=Xb func215
 t4:=underlying4
 a4:=isAgg4
 z4:=sizeOf4
 v4:=zeroValue4
 t9:=underlying9
 a9:=isAgg9
 z9:=sizeOf9
 v9:=zeroValue9}
def Tryz.CZ:Go.Shelf.Ren:=⟨fun|171=>12|243=>25|246=>48|283=>90|284=>91|285=>92|286=>93|129=>133|317=>132|318=>134|319=>135|320=>136|337=>157|338=>158|n=>n,fun|3=>3|9=>9|2=>2|4=>4|171=>132|0=>0|53=>133|37=>35|5=>5|173=>136|212=>162|51=>163|20=>20|213=>164|46=>165|232=>221|233=>222|n=>n,fun|17=>1|18=>2|19=>3|n=>n⟩
theorem Tryz.zad:Go.Proofs.LaysM.n171 prog Tryz.CZ:={
 mixed:=by kernel_rfl
 f129:=Xb func133
 f171:=Xb func12
 f243:=Xb func25
 f246:=Xb func48
 f283:=Xb func90
 f284:=Xb func91
 f285:=Xb func92
 f286:=Xb func93
 f317:=Xb func132
 f318:=Xb func134
 f319:=Xb func135
 f320:=Xb func136
 f337:=Xb func157
 f338:=Xb func158
 t0:=underlying0
 a0:=isAgg0
 z0:=sizeOf0
 v0:=zeroValue0
 t2:=underlying2
 a2:=isAgg2
 z2:=sizeOf2
 v2:=zeroValue2
 t3:=underlying3
 a3:=isAgg3
 z3:=sizeOf3
 v3:=zeroValue3
 t4:=underlying4
 a4:=isAgg4
 z4:=sizeOf4
 v4:=zeroValue4
 t5:=underlying5
 a5:=isAgg5
 z5:=sizeOf5
 v5:=zeroValue5
 t9:=underlying9
 a9:=isAgg9
 z9:=sizeOf9
 v9:=zeroValue9
 t20:=underlying20
 a20:=isAgg20
 z20:=sizeOf20
 v20:=zeroValue20
 t37:=underlying35
 a37:=isAgg35
 z37:=sizeOf35
 v37:=zeroValue35
 t46:=underlying165
 a46:=isAgg165
 z46:=sizeOf165
 v46:=zeroValue165
 t51:=underlying163
 a51:=isAgg163
 z51:=sizeOf163
 v51:=zeroValue163
 t53:=underlying133
 a53:=isAgg133
 z53:=sizeOf133
 v53:=zeroValue133
 t171:=underlying132
 a171:=isAgg132
 z171:=sizeOf132
 v171:=zeroValue132
 t173:=underlying136
 a173:=isAgg136
 z173:=sizeOf136
 v173:=zeroValue136
 t212:=underlying162
 a212:=isAgg162
 z212:=sizeOf162
 v212:=zeroValue162
 t213:=underlying164
 a213:=isAgg164
 z213:=sizeOf164
 t232:=underlying221
 a232:=isAgg221
 z232:=sizeOf221
 v232:=zeroValue221
 t233:=underlying222
 a233:=isAgg222
 z233:=sizeOf222
 v233:=zeroValue222
 g17:=by kernel_rfl
 g18:=by kernel_rfl
 g19:=by kernel_rfl
 i0:=by kernel_rfl
 i2:=by kernel_rfl
 i3:=by kernel_rfl
 i4:=by kernel_rfl
 i5:=by kernel_rfl
 i9:=by kernel_rfl
 i20:=by kernel_rfl
 i37:=by kernel_rfl
 i46:=by kernel_rfl
 i51:=by kernel_rfl
 i53:=by kernel_rfl
 i171:=by kernel_rfl
 i173:=by kernel_rfl
 i212:=by kernel_rfl
 i232:=by kernel_rfl
 i233:=by kernel_rfl
 m17:=by kernel_rfl
 m18:=by kernel_rfl
 m19:=by kernel_rfl}
def Tryz.lV:Go.Shelf.Ren:=⟨fun|155=>147|154=>181|138=>222|165=>24|143=>223|166=>10|197=>224|169=>15|195=>260|218=>261|240=>23|241=>47|219=>262|260=>263|276=>46|277=>89|217=>301|225=>302|224=>303|267=>304|266=>327|314=>328|n=>n,fun|9=>9|3=>3|4=>4|72=>37|0=>0|76=>41|105=>247|21=>21|5=>5|70=>34|20=>20|37=>35|75=>40|127=>80|164=>99|46=>165|119=>311|139=>314|138=>313|146=>315|51=>163|80=>67|n=>n,fun|1=>0|3=>4|4=>5|n=>n⟩
theorem Tryz.zc2:Go.Proofs.Lays.n155 prog Tryz.lV:={
 mixed:=by kernel_rfl
 f138:=Xb func222
 f143:=Xb func223
 f154:=Xb func181
 f155:=Xb func147
 f165:=Xb func24
 f166:=Xb func10
 f169:=Xb func15
 f195:=Xb func260
 f197:=Xb func224
 f217:=Xb func301
 f218:=Xb func261
 f219:=Xb func262
 f224:=Xb func303
 f225:=Xb func302
 f240:=Xb func23
 f241:=Xb func47
 f260:=Xb func263
 f266:=Xb func327
 f267:=Xb func304
 f276:=Xb func46
 f277:=Xb func89
 f314:=Xb func328
 t0:=underlying0
 a0:=isAgg0
 z0:=sizeOf0
 v0:=zeroValue0
 t3:=underlying3
 a3:=isAgg3
 z3:=sizeOf3
 v3:=zeroValue3
 t4:=underlying4
 a4:=isAgg4
 z4:=sizeOf4
 v4:=zeroValue4
 t5:=underlying5
 a5:=isAgg5
 z5:=sizeOf5
 v5:=zeroValue5
 t9:=underlying9
 a9:=isAgg9
 z9:=sizeOf9
 v9:=zeroValue9
 t20:=underlying20
 a20:=isAgg20
 z20:=sizeOf20
 v20:=zeroValue20
 t21:=underlying21
 a21:=isAgg21
 z21:=sizeOf21
 v21:=zeroValue21
 t37:=underlying35
 a37:=isAgg35
 z37:=sizeOf35
 v37:=zeroValue35
 t46:=underlying165
 a46:=isAgg165
 z46:=sizeOf165
 v46:=zeroValue165
 t51:=underlying163
 a51:=isAgg163
 z51:=sizeOf163
 v51:=zeroValue163
 t70:=underlying34
 a70:=isAgg34
 z70:=sizeOf34
 v70:=zeroValue34
 t72:=underlying37
 a72:=isAgg37
 z72:=sizeOf37
 v72:=zeroValue37
 t75:=underlying40
 a75:=isAgg40
 z75:=sizeOf40
 v75:=zeroValue40
 t76:=underlying41
 a76:=isAgg41
 z76:=sizeOf41
 v76:=zeroValue41
 t105:=underlying247
 a105:=isAgg247
 z105:=sizeOf247
 v105:=zeroValue247
 t119:=underlying311
 a119:=isAgg311
 z119:=sizeOf311
 t127:=underlying80
 a127:=isAgg80
 z127:=sizeOf80
 v127:=zeroValue80
 t138:=underlying313
 a138:=isAgg313
 z138:=sizeOf313
 v138:=zeroValue313
 t139:=underlying314
 a139:=isAgg314
 z139:=sizeOf314
 v139:=zeroValue314
 t146:=underlying315
 a146:=isAgg315
 z146:=sizeOf315
 v146:=zeroValue315
 t164:=underlying99
 a164:=isAgg99
 z164:=sizeOf99
 v164:=zeroValue99
 g1:=by kernel_rfl
 g3:=by kernel_rfl
 g4:=by kernel_rfl}
theorem Tryz.fM:Builder.Extra prog Tryz.lV:={
 sizeBuilder:=by kernel_rfl
 liesBuilder:=by kernel_rfl
 t5:=underlying5
 a5:=isAgg5
 z5:=sizeOf5
 v5:=zeroValue5
 infoByte:=by kernel_rfl
 cellsByte:=by kernel_rfl
 sizeByte:=by kernel_rfl
 neB5:=by decide}
def Tryz.lW:Go.Shelf.Ren:=⟨fun|105=>225|212=>264|99=>265|165=>24|166=>10|170=>14|169=>15|263=>305|264=>306|206=>307|240=>23|241=>47|276=>46|277=>89|n=>n,fun|9=>9|3=>3|4=>4|20=>20|0=>0|46=>165|109=>289|5=>5|72=>37|76=>41|51=>163|146=>315|53=>133|148=>317|70=>34|37=>35|75=>40|127=>80|164=>99|80=>67|n=>n,fun|n=>n⟩
theorem Tryz.zc3:Go.Proofs.Lays.n105 prog Tryz.lW:={
 mixed:=by kernel_rfl
 f99:=Xb func265
 f105:=Xb func225
 f165:=Xb func24
 f166:=Xb func10
 f169:=Xb func15
 f170:=Xb func14
 f206:=Xb func307
 f212:=Xb func264
 f240:=Xb func23
 f241:=Xb func47
 f263:=Xb func305
 f264:=Xb func306
 f276:=Xb func46
 f277:=Xb func89
 t0:=underlying0
 a0:=isAgg0
 z0:=sizeOf0
 v0:=zeroValue0
 t3:=underlying3
 a3:=isAgg3
 z3:=sizeOf3
 v3:=zeroValue3
 t4:=underlying4
 a4:=isAgg4
 z4:=sizeOf4
 v4:=zeroValue4
 t5:=underlying5
 a5:=isAgg5
 z5:=sizeOf5
 v5:=zeroValue5
 t9:=underlying9
 a9:=isAgg9
 z9:=sizeOf9
 v9:=zeroValue9
 t20:=underlying20
 a20:=isAgg20
 z20:=sizeOf20
 v20:=zeroValue20
 t37:=underlying35
 a37:=isAgg35
 z37:=sizeOf35
 v37:=zeroValue35
 t46:=underlying165
 a46:=isAgg165
 z46:=sizeOf165
 v46:=zeroValue165
 t51:=underlying163
 a51:=isAgg163
 z51:=sizeOf163
 v51:=zeroValue163
 t53:=underlying133
 a53:=isAgg133
 z53:=sizeOf133
 v53:=zeroValue133
 t70:=underlying34
 a70:=isAgg34
 z70:=sizeOf34
 v70:=zeroValue34
 t72:=underlying37
 a72:=isAgg37
 z72:=sizeOf37
 v72:=zeroValue37
 t75:=underlying40
 a75:=isAgg40
 z75:=sizeOf40
 v75:=zeroValue40
 t76:=underlying41
 a76:=isAgg41
 z76:=sizeOf41
 v76:=zeroValue41
 t109:=underlying289
 a109:=isAgg289
 z109:=sizeOf289
 v109:=zeroValue289
 t127:=underlying80
 a127:=isAgg80
 z127:=sizeOf80
 v127:=zeroValue80
 t146:=underlying315
 a146:=isAgg315
 z146:=sizeOf315
 v146:=zeroValue315
 t148:=underlying317
 a148:=isAgg317
 z148:=sizeOf317
 v148:=zeroValue317
 t164:=underlying99
 a164:=isAgg99
 z164:=sizeOf99
 v164:=zeroValue99}
theorem Tryz.fN:Builder.Extra prog Tryz.lW:={
 sizeBuilder:=by kernel_rfl
 liesBuilder:=by kernel_rfl
 t5:=underlying5
 a5:=isAgg5
 z5:=sizeOf5
 v5:=zeroValue5
 infoByte:=by kernel_rfl
 cellsByte:=by kernel_rfl
 sizeByte:=by kernel_rfl
 neB5:=by decide}
end Go.Proofs
namespace Go.Q
open Go.RowKit Go.AM Go.PrLaw
theorem zaX{P:Program}{w:World}{name:String}{g:Nat}{k:IntKind}{zs:List Int}(h:P.globalNamed name=some g)(a:∃ty b,w.heap[g]?=some (.cells (zs.map fun z=>Value.int k z).toArray ty b)):Lib.TabIs P w name k zs:=by obtain⟨ty,b,a⟩:=a;simp[Lib.TabIs,World.var?,h,a]
theorem zaY{dr:Prop}(w:World)(k:Nat)(a:Array Obj):Fr dr w (fun _=>False) (Sort.grow (w.drewN k) a):=
 ⟨rfl,rfl,rfl,by simp[Sort.grow,World.drewN],fun _=>U3 _ _,fun j b _=>by simp[Sort.grow,World.drewN,Array.getElem?_append,b]⟩
noncomputable def FIt:zb->Option O:=qd (α:=Int) (fun n=>[int n]) (fun n=>0<=n/\n<=9223372036854775807) (fun n=>str (Lib.decDigits n.toNat))
theorem kl(n:Int)(Y:Hp)(Z:Nat)(h:0<=n)(c:n<=9223372036854775807):hP FIt [int n] Y Z=some (str (Lib.decDigits n.toNat),Y,Z):=
 QL n _ _ rfl (fun a b e=>by simpa using e) ⟨h,c⟩ (.inl rfl)
theorem JI:zg prog 12 (hP FIt):=
 jy ⟨_,func12,by kernel_rfl,by kernel_rfl⟩ fun xs r h=>by
  obtain⟨n,rfl,⟨f,b⟩,rfl⟩:=zO h;refine⟨[.int .i64 n],rfl,by simp[lit],rfl,.string ⟨(Lib.decDigits n.toNat).toArray⟩,fun w S=>.v rfl,fun w S c=>?_⟩;obtain⟨_,a⟩:=c.2 (1,.u64,Lib.pow10Tab) (by simp[Jh]);refine(Any.strconv_Itoa Tryz.zad n (by omega) b w (zaX (g:=1) (by kernel_rfl) a)).mono fun e w' d=>?_
  obtain⟨rfl,k,i,rfl⟩:=d;refine⟨?_,zaY _ _ _⟩;unfold Lib.itoa;rw[ze (by omega)]
def FBo:zb->Option O
 |[.v (.bool b)]=>some (str (Lib.formatBool b))
 |_=>none
theorem RZ(b:Bool)(Y:Hp)(Z:Nat):hP FBo [.v (.bool b)] Y Z=some (str (Lib.formatBool b),Y,Z):=yI rfl rfl (.inl rfl)
theorem sr:zg prog 173 (hP FBo):=
 jy ⟨_,func173,by kernel_rfl,by kernel_rfl⟩ fun xs r h=>by
  unfold FBo at h;split at h
  ·rename_i b;injection h with h
   subst h;refine⟨[.bool b],rfl,by simp[lit],rfl,.string ⟨(Lib.formatBool b).toArray⟩,fun w S=>.v rfl,fun w S c=>?_⟩;refine(Any.strconv_FormatBool Tryz.zc1 b w).mono fun e w' a=>?_
   obtain⟨rfl,rfl⟩:=a;exact⟨rfl,Fr.refl _ _⟩
  ·cases h
def trP(a b:za):O:=str (Lib.trimRightB a (b.headD 0))
theorem Xo:zg prog 216 (hP (Yx trP fun _ b=>dY b)):=
 jy ⟨_,func216,by kernel_rfl,by kernel_rfl⟩ fun args r h=>by
  obtain⟨a,b,rfl,d,i,⟨c,rfl,f⟩,rfl⟩:=xl h;unfold zA at d;refine⟨[.string ⟨a.toArray⟩,.string ⟨#[c]⟩],rfl,by simp[lit],rfl,.string ⟨(Lib.trimRightB a c).toArray⟩,fun w S=>.v rfl,fun w S _=>?_⟩;refine(Any.strings_TrimRight_one Tryz.zc0 ⟨a.toArray⟩ c f w (by simp;omega)).mono fun e w' g=>?_
  obtain⟨rfl,rfl⟩:=g;exact⟨by simp,Fr.refl _ _⟩
abbrev TB:Nat:=37
abbrev UB:Nat:=5
theorem R0(z:Int)(c:UInt8)(h:z=c.toNat):M9 [.v (.int .u8 z)]=some ([c],.v .nilIface):=by
 subst h;exact qD (V:=fun c:UInt8=>[O.v (.int .u8 c.toNat)]) (a:=c) (fun a b e=>by simp only[zj,O.v.injEq,Value.int.injEq,zG,Gr]at e;exact ve.1 (by omega)) trivial
theorem cH(s:za)(h:s≠[]):RV [str s]=some (s,.w5 [int s.length,.v .nilIface]):=qD (V:=fun s:List UInt8=>[str s]) (a:=s) (fun a b e=>by simpa using e) h
section
variable{Y h:Hp}{Z Z' m:Nat}{cur l:za}{b0:Blk}{K:Hp->Hp}
theorem Nz(B:lS TB UB Y Z m cur)(z:Int)(c:UInt8)(a:z=c.toNat)(b:cur.length+1<=140737488355328) :
  ∃Y',xh TB UB M9 [.ref 0 0 0,.v (.int .u8 z)] Y Z=some (.v .nilIface,Y',Z+1)/\lS TB UB Y' (Z+1) Z (cur++[c])/\∀j,j≠0->j≠m->j≠Z->Y' j=Y j:=B.put rfl rfl (R0 z c a) b
theorem nH(B:lS TB UB Y Z m cur)(s:za)(hs:s≠[])(a:cur.length+s.length<=140737488355328) :
  ∃Y',xh TB UB RV [.ref 0 0 0,str s] Y Z=some (.w5 [int s.length,.v .nilIface],Y',Z+1)/\lS TB UB Y' (Z+1) Z (cur++s)/\∀j,j≠0->j≠m->j≠Z->Y' j=Y j:=B.put rfl rfl (cH s hs) a
theorem wbF(a:ZY TB UB Y Z l b0 K)(b:Z<=Z')(d:∀j,j<Z->h j=Y j)(z:Int)(c:UInt8)(e:z=c.toNat)(f:l.length+1<=140737488355328) :
  ∃Y',xh TB UB M9 [.ref 0 0 0,.v (.int .u8 z)] h Z'=some (.v .nilIface,Y',Z'+1)/\lS TB UB Y' (Z'+1) Z' (l++[c])/\∀j,Z<=j->j≠Z'->Y' j=h j:=a.put b d rfl rfl (R0 z c e) f
theorem wsF(a:ZY TB UB Y Z l b0 K)(b:Z<=Z')(c:∀j,j<Z->h j=Y j)(s:za)(hs:s≠[])(d:l.length+s.length<=140737488355328) :
  ∃Y',xh TB UB RV [.ref 0 0 0,str s] h Z'=some (.w5 [int s.length,.v .nilIface],Y',Z'+1)/\lS TB UB Y' (Z'+1) Z' (l++s)/\∀j,Z<=j->j≠Z'->Y' j=h j:=a.put b c rfl rfl (cH s hs) d
end
noncomputable abbrev Cqu:Ctx:=zV prog [(52,xh TB UB M9)]
theorem zez:Gd Cqu:=zW mixed ⟨dZ,trivial⟩
noncomputable def FQu:zb->Option (za×O):=qd (α:=za) (fun s=>[str s]) (fun s=>s.length<=zA) (fun s=>(Z2 s,.w5 []))
theorem A9(s:za)(h:s.length<=zA):FQu [str s]=some (Z2 s,.w5 []):=qD (V:=fun s:List UInt8=>[str s]) (a:=s) (fun a b e=>by simpa using e) h
theorem DZ:zg prog 175 (xh TB UB FQu):=
 Ql (code:=_) zez ⟨func175,by kernel_rfl,rfl,by kernel_rfl⟩ _ _ FQu fun xs t r h=>by
  obtain⟨s,rfl,hs,e⟩:=zO h;injection e with d i;subst d;subst i;refine⟨rfl,by simp[f175],fun Y Z l b0 K z y=>W8 rfl ?_⟩;have D:(Z2 s).length=(bw s).length+2:=by simp[Z2]
  unfold zA at hs;obtain⟨Y1,d,f,_⟩:=wbF z (zl _) (fun _ _=>rfl) 34 34 rfl (by omega);simp[d];refine zL (fun k σ Y Z=>σ 0=.ref 0 0 0/\σ 1=str s/\σ 8=int s.length/\σ 9=int k/\∃(m:Nat) (cur:za),lS TB UB Y Z m cur/\l++Z2 s=cur++(bw (s.drop k)++[34])) s.length ?_ ?_
  ·exact⟨by simp,by simp,by simp,by simp,Z,l++[34],f,by simp[Z2]⟩
  ·rintro k σ Y Z E ⟨j,n,o,p,m,cur,B,b⟩;by_cases g:k<s.length
   ·have u:=qe k;rw[zc g,bw]at b;obtain⟨c,q⟩:=wZ (s[k]);rw[q]at b;have a:=zo List.length b;by_cases v:c=34
    ·subst v;simp at b a;obtain⟨Y1,d,f,_⟩:=Nz B 92 92 rfl (by omega);obtain⟨Y2,i,w,_⟩:=Nz f 34 34 rfl (by simp;omega);simp[j,n,o,p,g,q,d,i,u];exact⟨by omega,_,_,w,by simpa using b⟩
    ·by_cases x:c=92
     ·subst x;simp at b a;obtain⟨Y1,d,f,_⟩:=Nz B 92 92 rfl (by omega);obtain⟨Y2,i,w,_⟩:=Nz f 92 92 rfl (by simp;omega);simp[j,n,o,p,g,q,d,i,u];exact⟨by omega,_,_,w,by simpa using b⟩
     ·have A:((c.toNat:Int)==34)=false:=qQ.2 fun e=>v (ve.1 (by simpa using(by omega:c.toNat=34)))
      have C:((c.toNat:Int)==92)=false:=qQ.2 fun e=>x (ve.1 (by simpa using(by omega:c.toNat=92)))
      simp[v,x]at b a;obtain⟨Y1,d,f,_⟩:=Nz B (c.toNat) c rfl (by omega);simp[j,n,o,p,g,q,A,C,d,u];exact⟨by omega,_,_,f,by simpa using b⟩
   ·obtain rfl:k=s.length:=by omega
    rw[zp]at b;have a:=zo List.length b;simp[bw]at b a;obtain⟨Y1,d,f,_⟩:=Nz B 34 34 rfl (by omega);simp[j,n,o,p,d,f175];exact f.ends b (by simp)
noncomputable abbrev Cth:Ctx:=zV prog [(52,xh TB UB M9),(10,xh TB UB RV),(12,hP FIt),(216,hP (Yx trP fun _ b=>dY b))]
theorem zeA:Gd Cth:=zW mixed ⟨dZ,Vd,JI,Xo,trivial⟩
noncomputable def FTh:zb->Option (za×O):=qd (α:=Int) (fun n=>[int n]) (fun n=>-1000000000000000<n/\n<1000000000000000) (fun n=>(Jp n,.w5 []))
theorem zeB(n:Int)(h:-1000000000000000<n/\n<1000000000000000):FTh [int n]=some (Jp n,.w5 []):=qD (V:=fun n:Int=>[int n]) (a:=n) (fun a b e=>by simpa using e) h
theorem zeC:dY [48]:=⟨48,rfl,by decide⟩
theorem D0(s:za)(Y:Hp)(Z:Nat)(h:s.length<=1000):hP (Yx trP fun _ b=>dY b) [str s,str [48]] Y Z=some (str (Lib.trimRightB s 48),Y,Z):=xT _ _ s [48] Y Z (by unfold zA;omega) (by unfold zA;simp) zeC rfl
theorem ee:zg prog 174 (xh TB UB FTh):=
 Ql (code:=_) zeA ⟨func174,by kernel_rfl,rfl,by kernel_rfl⟩ _ _ FTh fun xs t r h=>by
  obtain⟨n,rfl,hs,e⟩:=zO h;injection e with g c;subst g;subst c;refine⟨rfl,by simp[f174],fun Y Z l b0 K q a=>W8 rfl ?_⟩;obtain⟨u,J⟩:=wZ n.natAbs;have L:u<1000000000000000:=by omega
  have i:Jp n=(if n<0 then[45]else[])++(Lib.decDigits (u/1000)++if u % 1000=0 then[]else 46::Zg (u % 1000)):=by rw[<-J];rfl
  have A:Lib.trimRightB ((Lib.decDigits (1000+u % 1000)).drop 1) 48=Zg (u % 1000):=rfl;have B:((Lib.decDigits (1000+u % 1000)).drop 1).length<=1000:=by rw[ZK (by omega)];simp
  have j:1<=(Lib.decDigits (1000+u % 1000)).length:=jV.2 (gn _);have s:((u:Int)).tdiv 1000=(u:Int)/1000:=Int.tdiv_eq_ediv_of_nonneg (by omega);have v:((u:Int)).tmod 1000=(u:Int) % 1000:=Int.tmod_eq_emod_of_nonneg (by omega);have k:=fun Y Z=>kl ((u:Int)/1000) Y Z (by omega) (by omega)
  have C:=fun Y Z=>kl (1000+(u:Int) % 1000) Y Z (by omega) (by omega)
  rw[show((u:Int)/1000).toNat=u/1000 by omega]at k;rw[show(1000+(u:Int) % 1000).toNat=1000+u % 1000 by omega]at C;have w:=fun Y Z=>D0 ((Lib.decDigits (1000+u % 1000)).drop 1) Y Z B
  rw[A]at w;have D:List.take ((Lib.decDigits (1000+u % 1000)).length-1) (List.drop 1 (Lib.decDigits (1000+u % 1000)))=List.drop 1 (Lib.decDigits (1000+u % 1000)):=zZ (by simp);have M:=List.drop_one (l:=Lib.decDigits (1000+u % 1000));rw[M]at w D;have m:1+(Zg (u % 1000)).length<=maxLen:=by have:=cG (r:=u % 1000) (by omega);unfold maxLen;omega
  have x:=wq (u:Int);have y:=wq ((u:Int)/1000);have z:=wq ((u:Int) % 1000);have H:=wq (1000+(u:Int) % 1000);rw[i]at a⊢;clear i;rcases Int.lt_or_le n 0 with I|I
  ·obtain rfl:n=-(u:Int):=by omega
   have o:0<u:=by omega
   rw[zd I]at a⊢;by_cases p:u % 1000=0
   ·rw[zd p]at a⊢;have b:¬(0:Int)<(u:Int) % 1000:=by omega
    simp at a;obtain⟨Y1,g,E,_⟩:=wbF q (zl _) (fun _ _=>rfl) 45 45 rfl (by omega);obtain⟨Y2,c,d,_⟩:=nH E (Lib.decDigits (u/1000)) (gn _) (by simp;omega);simp[o,g,c,s,v,k,x,y,z,b];refine d.ends ?_ ?_<;>simp<;>omega
   ·rw[ze p]at a⊢;have b:(0:Int)<(u:Int) % 1000:=by omega
    simp at a;obtain⟨Y1,g,E,_⟩:=wbF q (zl _) (fun _ _=>rfl) 45 45 rfl (by omega);obtain⟨Y2,c,d,_⟩:=nH E (Lib.decDigits (u/1000)) (gn _) (by simp;omega);obtain⟨hp3,F,G,_⟩:=nH d (46::Zg (u % 1000)) (by simp) (by simp;omega);simp[o,g,c,F,s,v,k,C,w,x,y,z,H,b,j,D,m];refine G.ends ?_ ?_<;>simp<;>omega
  ·obtain rfl:n=(u:Int):=by omega
   have f:¬(u:Int)<0:=by omega
   rw[ze f]at a⊢;by_cases p:u % 1000=0
   ·rw[zd p]at a⊢;have b:¬(0:Int)<(u:Int) % 1000:=by omega
    try simp at a
    obtain⟨Y2,c,d,_⟩:=wsF q (zl _) (fun _ _=>rfl) (Lib.decDigits (u/1000)) (gn _) (by omega);simp[f,c,s,v,k,x,y,z,b];refine d.ends ?_ ?_<;>simp<;>omega
   ·rw[ze p]at a⊢;have b:(0:Int)<(u:Int) % 1000:=by omega
    try simp at a
    obtain⟨Y2,c,d,_⟩:=wsF q (zl _) (fun _ _=>rfl) (Lib.decDigits (u/1000)) (gn _) (by omega);obtain⟨hp3,F,G,_⟩:=nH d (46::Zg (u % 1000)) (by simp) (by simp;omega);simp[f,c,F,s,v,k,C,w,x,y,z,H,b,j,D,m];refine G.ends ?_ ?_<;>simp<;>omega
end Go.Q
