/- Lemmas. -/
import Derived.Shelf.Strings.Search2
import Derived.Shelf.Strings.Split
import Derived.Shelf.Strings.Trim
import Derived.Shelf.Strconv.Atoi
import Derived.Ground.Names2Prog
import Derived.Test.YtjnfibncnabkmaaGreatDoorProg
import Derived.Lib.Split
import Derived.Test.YtjnfibncnabkmaaGreatDoorG5
set_option maxRecDepth 100000
open Go Proofs Proofs.YtjnfibncnabkmaaGreatDoor Proofs.Tryz RowKit AM SpanLaw Q Zz
open Go.IntKind renaming i64→i6
namespace Go.Q
abbrev int(n:Int):O:=.v (.int .i64 n)
abbrev yh(b:Bool):O:=.v (.bool b)
abbrev T4(c:UInt8):O:=.v (.int .u8 c.toNat)
abbrev qg:Nat:=268435456
theorem mixed:prog.follows .mixedOrders=true:=by kernel_rfl
noncomputable abbrev C0:Ctx:=qj prog []
theorem jj:Gd C0:=qx mixed trivial
def F3(f:Int->Int->Int->Bool):zb->Option O
 |[.v (.int .i64 a),.v (.int .i64 b),.v (.int .i64 c)]=>some (.v (.bool (f a b c)))
 |_=>none
def BE(f:Int->Bool):zb->Option O
 |[.v (.int .u8 a)]=>some (.v (.bool (f a)))
 |_=>none
def v7(n a b:Int):Bool:=decide (a<=n)&&decide (n<=b)
def Zn(n:Int):Bool:=decide (97<=n)&&decide (n<=122)||decide (48<=n)&&decide (n<=57)||n==45||n==95
@[simp]theorem zh4(f:Int->Int->Int->Bool)(a b c:Int)(Y:Hp)(Z:Nat):zn false [] (F3 f) [.v (.int .i64 a),.v (.int .i64 b),.v (.int .i64 c)] Y Z=some (.v (.bool (f a b c)),Y,Z):=jm rfl rfl (.inl rfl)
@[simp]theorem zgx(f:Int->Bool)(a:Int)(Y:Hp)(Z:Nat):zn false [] (BE f) [.v (.int .u8 a)] Y Z=some (.v (.bool (f a)),Y,Z):=jm rfl rfl (.inl rfl)
theorem E0{f:Int->Int->Int->Bool}{args:zb}{r:O}(h:F3 f args=some r):∃a b c,args=[int a,int b,int c]/\r=yh (f a b c):=by
 unfold F3 at h;split at h
 ·injection h with h;exact⟨_,_,_,rfl,h.symm⟩
 ·cases h
theorem tN{f:Int->Bool}{args:zb}{r:O}(h:BE f args=some r):∃a,args=[.v (.int .u8 a)]/\r=yh (f a):=by
 unfold BE at h;split at h
 ·injection h with h;exact⟨_,rfl,h.symm⟩
 ·cases h
theorem Qm:zi prog 42 (zn false [] (F3 v7)):=
 y3 (fn:=f42) jj (wc func42) false [] _ fun args r h=>by obtain⟨a,b,c,rfl,rfl⟩:=E0 h;exact⟨by simp[f42],_,zu rfl (by simp[f42,v7]),q9 _⟩
theorem Zx:zi prog 161 (zn false [] (F3 v7)):=
 y3 (fn:=f161) jj (wc func161) false [] _ fun args r h=>by obtain⟨a,b,c,rfl,rfl⟩:=E0 h;exact⟨by simp[f161],_,zu rfl (by simp[f161,v7]),q9 _⟩
theorem KX:zi prog 35 (zn false [] (BE Zn)):=
 y3 (fn:=f35) jj (wc func35) false [] _ fun args r h=>by obtain⟨a,rfl,rfl⟩:=tN h;exact⟨by simp[f35],_,zu rfl (by simp[f35,Zn]),q9 _⟩
theorem YE:zi prog 47 (zn false [] (BE Zn)):=
 y3 (fn:=f47) jj (wc func47) false [] _ fun args r h=>by obtain⟨a,rfl,rfl⟩:=tN h;exact⟨by simp[f47],_,zu rfl (by simp[f47,Zn]),q9 _⟩
noncomputable def FS (f:za->Bool):zb->Option O:=qW (α:=za) (fun l=>[str l]) (fun l=>l.length<=qg) (fun l=>yh (f l))
@[simp]theorem kK(f:za->Bool)(l:za)(Y:Hp)(Z:Nat)(h:l.length<=qg):zn false [] (FS f) [str l] Y Z=some (yh (f l),Y,Z):=
 iX l _ _ rfl (fun a b e=>by simp only[zq,qh]at e;exact yp e) h (.inl rfl)
def pr(a b:Nat)(c:UInt8):Bool:=decide (a<=c.toNat)&&decide (c.toNat<=b)
theorem eP(a b:Nat)(c:UInt8):(decide ((c.toNat:Int)<a)||decide ((b:Int)<c.toNat))=!pr a b c:=by rw[q6];simp[pr]
def wX(a b:Nat)(l:za):Bool:=l.all (pr a b)
def zcN(l:za):Bool:=wX 33 126 l&&v7 l.length 1 100
def Qn(l:za):Bool:=l.all fun c=>Zn c.toNat
def Jq(l:za):Bool:=Qn l&&!(l==[])
def rH:za->Bool
 |[]=>false
 |c::_=>decide ((97:Int)<=c.toNat)&&decide ((c.toNat:Int)<=(122:Int))
def y4(l:za):Bool:=v7 l.length 1 40&&rH l&&Qn l
noncomputable abbrev C1:Ctx:=qj prog [(42,zn false [] (F3 v7)),(35,zn false [] (BE Zn)),(161,zn false [] (F3 v7)),(47,zn false [] (BE Zn))]
abbrev qRl1:List Nat:=[42,35,161,47]
theorem Hg:AM.Good C1 (fun g=>qRl1.contains g):=qx mixed ⟨Qm,fun _=>zt _ _,KX,fun _=>zt _ _,Zx,fun _=>zt _ _,YE,fun _=>zt _ _,trivial⟩
theorem cS{l:za}{p:UInt8->Bool}{k:Nat}(h:k<l.length):(l.drop k).all p=(p l[k]&&(l.drop (k+1)).all p):=by rw[zl h,wZ]
theorem Yd{a b:Nat}{l:za}{k:Nat}(h:k<l.length):wX a b (l.drop k)=(pr a b l[k]&&wX a b (l.drop (k+1))):=cS h
theorem gB{l:za}{k:Nat}(h:k<l.length):Qn (l.drop k)=(Zn l[k].toNat&&Qn (l.drop (k+1))):=cS h
@[simp]theorem zbO(a b:Nat):wX a b []=true:=rfl
@[simp]theorem zcO:Qn []=true:=rfl
theorem I3(l:za)(h:l.length<=qg):zG C1 f132 [str l]=some (yh (wX 32 126 l)):=by
 refine zu rfl ?_;unfold qg at h;simp;refine ql (fun k M Y Z=>M 0=str l/\M 5=int l.length/\M 6=int k/\wX 32 126 l=wX 32 126 (l.drop k)) l.length ⟨by simp,by simp,by simp,by simp⟩ ?_;rintro k M Y Z j ⟨d,e,f,b⟩;by_cases a:k<l.length
 ·have i:=wv k;rw[Yd a]at b;have g:=eP 32 126 l[k];simp only[qu]at g;cases c:pr 32 126 l[k]
  ·have b:wX 32 126 l=false:=by rw[b,c];rfl
   simp[d,e,f,a,b,g,c,f132]
  ·simp[d,e,f,a,g,c,i];exact⟨a,by rw[b,c];rfl⟩
 ·obtain rfl:k=l.length:=by omega
  have b:wX 32 126 l=true:=by rw[b,zA];rfl
  simp[d,e,f,b,f132]
theorem ml(l:za)(h:l.length<=qg):zG C1 f162 [str l]=some (yh (wX 32 126 l)):=by
 refine zu rfl ?_;unfold qg at h;simp;refine ql (fun k M Y Z=>M 0=str l/\M 5=int l.length/\M 6=int k/\wX 32 126 l=wX 32 126 (l.drop k)) l.length ⟨by simp,by simp,by simp,by simp⟩ ?_;rintro k M Y Z j ⟨d,e,f,b⟩;by_cases a:k<l.length
 ·have i:=wv k;rw[Yd a]at b;have g:=eP 32 126 l[k];simp only[qu]at g;cases c:pr 32 126 l[k]
  ·have b:wX 32 126 l=false:=by rw[b,c];rfl
   simp[d,e,f,a,b,g,c,f162]
  ·simp[d,e,f,a,g,c,i];exact⟨a,by rw[b,c];rfl⟩
 ·obtain rfl:k=l.length:=by omega
  have b:wX 32 126 l=true:=by rw[b,zA];rfl
  simp[d,e,f,b,f162]
theorem tO(l:za)(g:l.length<=qg):zG C1 f75 [str l]=some (yh (Jq l)):=by
 refine zu rfl ?_;unfold qg at g;simp;refine ql (fun k M Y Z=>M 0=str l/\M 5=int l.length/\M 6=int k/\Qn l=Qn (l.drop k)) l.length ⟨by simp,by simp,by simp,by simp⟩ ?_;rintro k M Y Z i ⟨d,e,f,b⟩;by_cases a:k<l.length
 ·have h:=wv k;rw[gB a]at b;cases c:Zn l[k].toNat
  ·have b:Qn l=false:=by rw[b,c];rfl
   simp[d,e,f,a,b,c,Jq,f75]
  ·simp[d,e,f,a,c,h];exact⟨a,by rw[b,c];rfl⟩
 ·obtain rfl:k=l.length:=by omega
  have b:Qn l=true:=by rw[b,zA];rfl
  simp[d,e,f,b,Jq,f75]
theorem BF(l:za)(n:l.length<=qg):zG C1 f44 [str l]=some (yh (y4 l)):=by
 refine zu rfl ?_;unfold qg at n;cases e:v7 l.length 1 40
 ·simp[e,y4,f44]
 have a:0<l.length:=by simp[v7]at e;omega
 have o:rH l=(decide ((97:Int)<=l[0].toNat)&&decide ((l[0].toNat:Int)<=(122:Int))):=by
  cases l with
  |nil=>simp at a
  |cons c l=>rfl
 have m:(decide ((l[0].toNat:Int)<(97:Int))||decide ((122:Int)<l[0].toNat))=!rH l:=by rw[o,q6];simp
 cases g:rH l
 ·simp[e,a,m,g,y4,f44]
 simp[e,a,m,g];refine ql (fun k M Y Z=>M 0=str l/\M 19=int l.length/\M 20=int k/\Qn l=Qn (l.drop k)) l.length ⟨by simp,by simp,by simp,by simp⟩ ?_;rintro k M Y Z q ⟨h,i,j,d⟩;by_cases b:k<l.length
 ·have p:=wv k;rw[gB b]at d;cases f:Zn l[k].toNat
  ·have d:Qn l=false:=by rw[d,f];rfl
   simp[h,i,j,b,d,f,y4,f44]
  ·simp[h,i,j,b,f,p];exact⟨b,by rw[d,f];rfl⟩
 ·obtain rfl:k=l.length:=by omega
  have d:Qn l=true:=by rw[d,zA];rfl
  simp[h,i,j,d,e,g,y4,f44]
theorem mm:zi prog 132 (zn false [] (FS (wX 32 126))):=
 VG Hg func132 false [] fun l Y=>⟨by simp[f132],_,I3 l Y,q9 _⟩
theorem WN:zi prog 162 (zn false [] (FS (wX 32 126))):=
 VG Hg func162 false [] fun l Y=>⟨by simp[f162],_,ml l Y,q9 _⟩
theorem pa:zi prog 75 (zn false [] (FS Jq)):=
 VG Hg func75 false [] fun l Y=>⟨by simp[f75],_,tO l Y,q9 _⟩
theorem cT:zi prog 44 (zn false [] (FS y4)):=
 VG Hg func44 false [] fun l Y=>⟨by simp[f44],_,BF l Y,q9 _⟩
noncomputable abbrev CRw:Ctx:=qj prog [(132,zn false [] (FS (wX 32 126))),(162,zn false [] (FS (wX 32 126))),(75,zn false [] (FS Jq)),(44,zn false [] (FS y4)),(42,zn false [] (F3 v7)),(161,zn false [] (F3 v7))]
abbrev qRw:List Nat:=[132,162,75,44,42,161]
theorem zcP:AM.Good CRw (fun g=>qRw.contains g):=qx mixed ⟨mm,fun _=>zt _ _,WN,fun _=>zt _ _,pa,fun _=>zt _ _,cT,fun _=>zt _ _,Qm,fun _=>zt _ _,Zx,fun _=>zt _ _,trivial⟩
theorem tP(l:za)(h:0<l.length):(Jq l&&decide ((l.length:Int)<=40)&&decide ((97:Int)<=l[0].toNat)&&decide ((l[0].toNat:Int)<=(122:Int)))=y4 l:=by
 cases l with
 |nil=>simp at h
 |cons c l=>unfold Jq y4;generalize Qn (c::l)=w;rw[q6];cases w<;>simp[v7,rH]<;>omega
theorem tQ(l:za)(b:l.length<=qg):zG CRw f56 [str l]=some (yh (y4 l)):=by
 refine zu rfl ?_;cases l with
 |nil=>simp[f56,Jq,y4,rH]
 |cons c l=>
  have a:0<(c::l).length:=by simp
  have:=tP (c::l) a;generalize d:c::l=m at *;simp[b,a,f56,this]
theorem pb:zi prog 56 (zn false [] (FS y4)):=
 VG zcP func56 false [] fun l Y=>⟨by simp[f56],_,tQ l Y,q9 _⟩
inductive Val where
 |mk (kind n:Int) (s:List UInt8) (items:List Val) (fields:List (List UInt8×Val))
namespace Val
def kind:Val->Int|.mk k _ _ _ _=>k
def n:Val->Int|.mk _ n _ _ _=>n
def s:Val->za|.mk _ _ s _ _=>s
def items:Val->List Val|.mk _ _ _ l _=>l
def fields:Val->List (za×Val)|.mk _ _ _ _ l=>l
end Val
theorem Val.ind{P:Val->Prop}(h:∀k n s e g,(∀x∈e,P x)->(∀f∈g,P f.2)->P (.mk k n s e g))(v:Val):P v:=
 Val.rec (motive_1:=P) (motive_2:=fun l=>∀x∈l,P x) (motive_3:=fun l=>∀f∈l,P f.2) (motive_4:=fun f=>P f.2) (fun k n s e g i j=>h k n s e g i j)
  (by simp) (fun x l c d y b=>by rcases zv.1 b with rfl|b;(first|exact c|exact d y b);(first|exact c|exact d y b)) (by simp) (fun x l c d y b=>by rcases zv.1 b with rfl|b;(first|exact c|exact d y b);(first|exact c|exact d y b)) (fun a v m=>m) v
mutual
def Val.V:Val->zb
 | .mk k n s a b=>[int k,int n,str s,.sl 5 (Im a),.sl 6 (Io b)]
def Im:List Val->List zb
 |[]=>[]
 |v::l=>v.V::Im l
def Io:List (za×Val)->List zb
 |[]=>[]
 |(a,v)::l=>(str a::v.V)::Io l
end
abbrev wN(f:za×Val):zb:=str f.1::f.2.V
theorem rI:∀l:List Val,Im l=l.map Val.V
 |[]=>rfl
 |v::l=>by simp[Im,rI l]
theorem rJ:∀l:List (za×Val),Io l=l.map wN
 |[]=>rfl
 |(a,v)::l=>by simp[Io,rJ l]
theorem wD(v:Val):v.V=[int v.kind,int v.n,str v.s,.sl 5 (v.items.map Val.V),.sl 6 (v.fields.map wN)]:=by
 cases v with
 |mk k n s a b=>simp[Val.V,rI,rJ,Val.kind,Val.n,Val.s,Val.items,Val.fields]
@[simp]theorem zcQ(v:Val):v.V.length=5:=by rw[wD];rfl
@[simp]theorem I4(v:Val):v.V.all O.ye=true:=by rw[wD];rfl
@[simp]theorem zcR(v:Val):(∀x,x∈v.V->O.ye x=true)=True:=by have:=I4 v;rw[qB]at this;exact eq_true this
@[simp]theorem zgy(v:Val):v.V.take 5=v.V:=qi (by simp)
@[simp]theorem ziZ(v:Val)(h:0<v.V.length):v.V[0]=int v.kind:=by simp[wD v]
@[simp]theorem zi0(v:Val)(h:1<v.V.length):v.V[1]=int v.n:=by simp[wD v]
@[simp]theorem zi1(v:Val)(h:2<v.V.length):v.V[2]=str v.s:=by simp[wD v]
@[simp]theorem zi2(v:Val)(h:3<v.V.length):v.V[3]=.sl 5 (v.items.map Val.V):=by simp[wD v]
@[simp]theorem zi3(v:Val)(h:4<v.V.length):v.V[4]=.sl 6 (v.fields.map wN):=by simp[wD v]
theorem YF{α a:Type}{f:α->a}:∀{xs ys:List α},(∀x∈xs,∀y,f x=f y->x=y)->xs.map f=ys.map f->xs=ys
 |[],[],_,_=>rfl
 |[],y::ys,_,e=>by simp at e
 |x::xs,[],_,e=>by simp at e
 |x::xs,y::ys,h,e=>by simp only[wK,zq]at e;rw[h x (by simp) y e.1,YF (fun z b=>h z (by simp[b])) e.2]
theorem xq:∀{a b:Val},a.V=b.V->a=b:=by
 intro a
 induction a using Val.ind with
 |h k n s q r g i=>
  intro b e;cases b with
  |mk k' t u j l=>
   simp only[wD,Val.kind,Val.n,Val.s,Val.items,Val.fields,zq,qh]at e;obtain⟨m,o,p,c,d⟩:=e;obtain rfl:=qA m;obtain rfl:=qA o;obtain rfl:=yp p;injection c with _ c
   injection d with _ d;obtain rfl:=YF (fun x f y=>g x f) c;obtain rfl:=YF (fun x f y e=>by simp only[wN,zq]at e;exact Sw (yp e.1) (i x f e.2)) d
   rfl
mutual
def Val.vb:Val->Nat
 | .mk _ _ s a b=>1+s.length+kh a+QJ b
def kh:List Val->Nat
 |[]=>0
 |v::l=>v.vb+kh l
def QJ:List (za×Val)->Nat
 |[]=>0
 |(a,v)::l=>a.length+v.vb+QJ l
end
theorem kv(v:Val):v.vb=1+v.s.length+kh v.items+QJ v.fields:=by cases v;rfl
theorem WO(v:Val):0<v.vb:=by rw[kv];omega
theorem jZ:∀{l:List Val} {x:Val},x∈l->x.vb<=kh l
 |y::l,x,h=>by
  simp only[kh];rcases zv.1 h with rfl|h
  ·omega
  ·have:=jZ h;omega
theorem Zb:∀{l:List (za×Val)} {x:za×Val},x∈l->x.1.length+x.2.vb<=QJ l
 |(a,y)::l,x,h=>by
  simp only[QJ];rcases zv.1 h with rfl|h
  ·simp only;omega
  ·have:=Zb h;omega
theorem yT:∀l:List Val,l.length<=kh l
 |[]=>by simp[kh]
 |v::l=>by have:=yT l;have:=WO v;simp only[kh,zd];omega
theorem kC:∀l:List (za×Val),l.length<=QJ l
 |[]=>by simp[QJ]
 |(a,v)::l=>by have:=kC l;have:=WO v;simp only[QJ,zd];omega
noncomputable def FV (out:Val->O) (n:Nat):zb->Option O:=qW (α:=Val) (fun v=>[.agg v.V]) (fun v=>v.vb<=qg/\v.vb<=n) out
theorem zgz(out:Val->O)(n:Nat)(v:Val)(h:v.vb<=qg/\v.vb<=n):FV out n [.agg v.V]=some (out v):=
 qX (V:=fun v:Val=>[.agg v.V]) (a:=v) (fun a b e=>by simp only[zq,qh,O.agg.injEq]at e;exact xq e) h
@[simp]theorem MX(Y:Hp)(v:Val):qm Y v.V=some (v.V,Y):=by rw[wD];simp
theorem YG(Y:Hp)(v:Val):zO Y (.agg v.V)=some (.agg v.V,Y):=by rw[wD];simp
theorem Ym(v:Val):O.noOwn (.agg v.V)=true:=by rw[wD];simp
theorem X6(out:Val->O)(n:Nat)(v:Val)(Y:Hp)(Z:Nat)(h:v.vb<=qg/\v.vb<=n):zn false [] (FV out n) [.agg v.V] Y Z=some (out v,Y,Z):=
 jm (Y1:=Y) (show zH Y [.agg v.V]=some ([.agg v.V],Y) by simp only[zH,YG]) (zgz out n v h) (.inr (by simp only[wZ,Ym,er,zi9]))
mutual
def Val.parts:Val->Nat
 | .mk _ _ _ a b=>1+kJ a+kT b
def kJ:List Val->Nat
 |[]=>0
 |v::l=>v.parts+kJ l
def kT:List (za×Val)->Nat
 |[]=>0
 |(_,v)::l=>v.parts+kT l
end
mutual
def Val.levels:Val->Nat
 | .mk _ _ _ a b=>max (kf a) (ku b)+1
def kf:List Val->Nat
 |[]=>0
 |v::l=>max v.levels (kf l)
def ku:List (za×Val)->Nat
 |[]=>0
 |(_,v)::l=>max v.levels (ku l)
end
theorem BG(v:Val):v.parts=1+kJ v.items+kT v.fields:=by cases v;rfl
theorem rK(v:Val):v.levels=max (kf v.items) (ku v.fields)+1:=by cases v;rfl
theorem mn(v:Val):v.parts<=v.vb:=by
 induction v using Val.ind with
 |h k n s e f g i=>
  have a:∀l:List Val,(∀x∈l,x.parts<=x.vb)->kJ l<=kh l:=by
   intro l
   induction l with
   |nil=>simp[kJ]
   |cons v l c=>intro h;have:=h v (by simp);have:=c fun x d=>h x (by simp[d]);simp only[kJ,kh];omega
  have b:∀l:List (za×Val),(∀x∈l,x.2.parts<=x.2.vb)->kT l<=QJ l:=by
   intro l
   induction l with
   |nil=>simp[kT]
   |cons v l c=>intro h;have:=h v (by simp);have:=c fun x d=>h x (by simp[d]);obtain⟨a,v⟩:=v;simp only[kT,QJ];simp only at *;omega
  have:=a e g;have:=b f i;simp only[Val.parts,Val.vb];omega
theorem rL(v:Val):v.levels<=v.parts:=by
 induction v using Val.ind with
 |h k n s e f g i=>
  have a:∀l:List Val,(∀x∈l,x.levels<=x.parts)->kf l<=kJ l:=by
   intro l
   induction l with
   |nil=>simp[kf]
   |cons v l c=>intro h;have:=h v (by simp);have:=c fun x d=>h x (by simp[d]);simp only[kf,kJ];omega
  have b:∀l:List (za×Val),(∀x∈l,x.2.levels<=x.2.parts)->ku l<=kT l:=by
   intro l
   induction l with
   |nil=>simp[ku]
   |cons v l c=>intro h;have:=h v (by simp);have:=c fun x d=>h x (by simp[d]);obtain⟨a,v⟩:=v;simp only[ku,kT];simp only at *;omega
  have:=a e g;have:=b f i;simp only[Val.parts,Val.levels];omega
noncomputable abbrev Cc (n:Nat):Ctx:=vS prog [(86,zn false [] (FV (fun v=>.wL [int v.parts,int v.levels]) n))] (rD 2 [(2,1)])
theorem xK{C:Ctx}{fn:Func}{code:Code}{args:zb}{Y:Hp}{Z:Nat}{x:O}{a:Hp}{b:Nat}(c:fn.body=some code)
  (h:Zl C code ⟨km args,Y,Z⟩ (KO C.P fn (fun y h m=>y=x/\h=a/\m=b))):jr C fn args Y Z=some (x,a,b):=by
 obtain⟨y,e,n1,d,rfl,rfl,rfl⟩:=w9 c h;exact d
theorem mo(n:Nat)(v:Val)(h:v.vb<=qg/\v.vb<=n)(Y:Hp)(Z i j:Nat)(s:i<Z)(t:j<Z)(b:i≠j)(p q:Nat)(c:Y i=some ⟨3,1,false,[[int p]]⟩)(d:Y j=some ⟨3,1,false,[[int q]]⟩)(f:p<=qg) :
  kX (Cc n) f130 [.agg v.V,.ref i 0 0,.ref j 0 0] Y Z =
   some (.wL [],qf (qf (qf Y Z (some ⟨43,5,false,[v.V]⟩)) i (some ⟨3,1,false,[[int ((p+v.parts:Nat):Int)]]⟩)) j (some ⟨3,1,false,[[int ((max q v.levels:Nat):Int)]]⟩),Z+1):=by
 have g:=mn v;have k:=rL v;unfold qg at *;have l:=wj ((p:Int)+v.parts);unfold kX;rw[zg (by simp[f130])];refine xK rfl ?_;have a:=fun Y Z=>X6 (fun v=>.wL [int v.parts,int v.levels]) n v Y Z h
 have e:¬i=Z:=by omega
 have m:¬j=Z:=by omega
 have o:¬j=i:=by omega
 have r:(if q<v.levels then(v.levels:Int)else q)=((max q v.levels:Nat):Int):=by split<;>omega
 simp[a];rw[kW _ _ _ _ _ _ (mh (blk:=⟨3,1,false,[[int p]]⟩) (id:=j) (i:=0) (j:=0) (id':=i) (i':=0) (j':=0) (by simp) (by simp) (Ne.symm b) (by simp[e,c]) rfl) (fun _ h=>by cases h)];simp[c,d,e,m,o,b,l,r,f130]
theorem bd(a b:List Val):kJ (a++b)=kJ a+kJ b:=by
 induction a with
 |nil=>simp[kJ]
 |cons v a c=>simp only[qU,kJ,c];omega
theorem mq(a b:List Val):kf (a++b)=max (kf a) (kf b):=by
 induction a with
 |nil=>simp[kf]
 |cons v a c=>simp only[qU,kf,c];omega
theorem bf(a b:List (za×Val)):kT (a++b)=kT a+kT b:=by
 induction a with
 |nil=>simp[kT]
 |cons v a c=>obtain⟨x,v⟩:=v;simp only[qU,kT,c];omega
theorem mr(a b:List (za×Val)):ku (a++b)=max (ku a) (ku b):=by
 induction a with
 |nil=>simp[ku]
 |cons v a c=>obtain⟨x,v⟩:=v;simp only[qU,ku,c];omega
theorem zgA{l:List Val}{k:Nat}(h:k<l.length):kJ (l.take (k+1))=kJ (l.take k)+l[k].parts/\kf (l.take (k+1))=max (kf (l.take k)) l[k].levels:=by rw[qE h,bd,mq];simp[kJ,kf]
theorem zgB{l:List (za×Val)}{k:Nat}(h:k<l.length):kT (l.take (k+1))=kT (l.take k)+l[k].2.parts/\ku (l.take (k+1))=max (ku (l.take k)) l[k].2.levels:=by rw[qE h,bf,mr];simp[kT,ku]
theorem I5(l:List Val)(k:Nat):kJ (l.take k)<=kJ l:=by have:=bd (l.take k) (l.drop k);rw[zel]at this;omega
theorem I6(l:List (za×Val))(k:Nat):kT (l.take k)<=kT l:=by have:=bf (l.take k) (l.drop k);rw[zel]at this;omega
noncomputable abbrev Cd (n:Nat):Ctx:=vS prog [(130,kX (Cc n) f130)] (rD 13 [(3,2)])
theorem E1(n:Nat)(v:Val)(h:v.vb<=qg/\v.vb<=n+1):zG (Cd n) f86 [.agg v.V]=some (.wL [int v.parts,int v.levels]):=by
 have z:=mn v;have A:=BG v;have B:=kv v;have t:=rK v;have C:=yT v.items;have D:=kC v.fields;obtain⟨E,H⟩:=h;unfold qg at E;refine zu rfl ?_;simp;refine ql (fun k M Y Z=>M 1=.ref 0 0 0/\M 2=.ref 1 0 0/\M 3=.ref 2 0 0/\M 4=.fn (.func 130) [] [.ref 1 0 0,.ref 2 0 0]/\M 11=.sl 5 (v.items.map Val.V)/\M 12=int v.items.length/\M 13=int k/\3<=Z/\Y 0=some ⟨43,5,false,[v.V]⟩ /\
   Y 1=some ⟨3,1,false,[[int ((1+kJ (v.items.take k):Nat):Int)]]⟩/\Y 2=some ⟨3,1,false,[[int (kf (v.items.take k))]]⟩) v.items.length
  ⟨by simp,by simp,by simp,by simp,by simp,by simp,by simp,by simp,by simp,by simp[kJ],by simp[kf]⟩ ?_
 rintro k M Y Z y ⟨m,f,g,p,c,d,e,q,u,l,o⟩;by_cases a:k<v.items.length
 ·obtain⟨w,x⟩:=zgA a;have F:=jZ (zw a);have r:=wv k;have s:=I5 v.items k;have b:=mo n v.items[k] ⟨by unfold qg;omega,by omega⟩ (qf Y Z (some ⟨43,5,false,[v.items[k].V]⟩)) (Z+1) 1 2 (by omega) (by omega) (by omega) _ _ (by rw[w5 _ _ _ _ (by omega)];exact l) (by rw[w5 _ _ _ _ (by omega)];exact o) (by unfold qg;omega);simp[m,f,g,p,c,d,e,a,b,r];refine⟨a,by omega,?_,?_,?_⟩
  ·simp[u,show¬0=Z by omega,show¬0=Z+1 by omega]
  ·rw[w];omega
  ·rw[x]
 ·obtain rfl:k=v.items.length:=by omega
  rw[we]at l o;simp[m,f,g,p,c,d,e,u];refine ql (fun k M Y Z=>M 1=.ref 0 0 0/\M 2=.ref 1 0 0/\M 3=.ref 2 0 0/\M 4=.fn (.func 130) [] [.ref 1 0 0,.ref 2 0 0]/\M 22=.sl 6 (v.fields.map wN)/\M 23=int v.fields.length/\M 24=int k/\3<=Z /\
    Y 1=some ⟨3,1,false,[[int ((1+kJ v.items+kT (v.fields.take k):Nat):Int)]]⟩/\Y 2=some ⟨3,1,false,[[int ((max (kf v.items) (ku (v.fields.take k)):Nat):Int)]]⟩) v.fields.length
   ⟨by simp[m],by simp[f],by simp[g],by simp[p],by simp,by simp,by simp,q,by simp[l,kT],by simp[o,ku]⟩ ?_
  clear m f g p c d e q u l o a y Z Y M;rintro k M Y Z y ⟨m,f,g,p,c,d,e,q,l,o⟩;by_cases a:k<v.fields.length
  ·obtain⟨w,x⟩:=zgB a;have F:=Zb (zw a);have r:=wv k;have s:=I6 v.fields k;have b:=mo n v.fields[k].2 ⟨by unfold qg;omega,by omega⟩ (qf Y Z (some ⟨53,6,false,[wN v.fields[k]]⟩)) (Z+1) 1 2 (by omega) (by omega) (by omega) _ _ (by rw[w5 _ _ _ _ (by omega)];exact l) (by rw[w5 _ _ _ _ (by omega)];exact o) (by unfold qg;omega);simp[wN]at b;simp[m,f,g,p,c,d,e,a,r,b];refine⟨a,by omega,?_,?_⟩
   ·rw[w];omega
   ·rw[x]
  ·obtain rfl:k=v.fields.length:=by omega
   rw[we]at l o;have G:=rL v;have r:i6.wrap (((max (kf v.items) (ku v.fields):Nat):Int)+1)=(v.levels:Int):=by rw[wU (by omega) (by omega),t];omega
   simp[m,f,g,p,c,d,e];rw[kW _ _ _ _ _ _ (mh (id:=2) (i:=0) (j:=0) (id':=1) (i':=0) (j':=0) (by simp[g]) (by simp[f]) (by omega) (by exact l) rfl) (fun _ h=>by cases h)];simp[m,f,g,l,o,r,f86,yx];omega
theorem KY{out:Val->O}{n:Nat}{args:zb}{r:O}(h:FV out n args=some r):∃v:Val,args=[.agg v.V]/\(v.vb<=qg/\v.vb<=n)/\r=out v:=zL h
theorem T5{out:Val->O}:∀args r,FV out 0 args=some r->False:=fun args r h=>by obtain⟨v,rfl,a,rfl⟩:=KY h;have:=WO v;omega
theorem tR{out:Val->O}{f:FuncId}(a:∃fn,prog.funcs[f]?=some fn/\(fn.name== "runtime.NumGoroutine")=false/\fn.body.isNone=false):zi prog f (zn false [] (FV out 0)):=by
 refine⟨a,fun args Y Z r c d h=>?_⟩;unfold zn at h;split at h
 ·split at h
  ·rename_i r0 b;exact(T5 _ _ b).elim
  ·cases h
 ·cases h
theorem BH:∀n,zi prog 86 (zn false [] (FV (fun v=>.wL [int v.parts,int v.levels]) n)):=by
 intro n
 induction n with
 |zero=>exact tR ⟨_,func86,by kernel_rfl,by kernel_rfl⟩
 |succ n a=>
  have b:Gd (Cc n):=V2 _ mixed ⟨a,by simp,trivial⟩;have c:zi prog 130 (kX (Cc n) f130):=J3 b func130;have hd:Gd (Cd n):=V2 _ mixed ⟨c,by simp,trivial⟩;exact y3 (fn:=f86) hd (wc func86) false [] _ fun args r h=>by obtain⟨v,rfl,d,rfl⟩:=KY h;exact⟨z8 (zk 1) (by decide),_,E1 n v d,q9 _⟩
noncomputable abbrev GV (out:Val->O):AM.Spec:=zn false [] (FV out qg)
theorem Jr(out:Val->O)(v:Val)(Y:Hp)(Z:Nat)(h:v.vb<=qg):GV out [.agg v.V] Y Z=some (out v,Y,Z):=X6 out qg v Y Z ⟨h,h⟩
def BI(k:Int):Bool:=decide (k<0)||decide (5<k)
def Xb(k n:Int)(s:za)(i f:Nat):Bool:=n != 0&&k != 1&&k != 2||!(s==[])&&k != 3||decide (0<i)&&k != 4||decide (0<f)&&k != 5
def cU(k n:Int):Bool:=k==1&&n != 0&&n != 1
def cV(k n:Int):Bool:=k==2&&(decide (n<=-1000000000000000)||decide (1000000000000000<=n))
def Hh(i f:Nat):Bool:=decide ((100:Int)<i)||decide ((100:Int)<f)
def Hi(s:za):Bool:=decide ((500:Int)<s.length)
def YH(k n:Int)(s:za)(i f:Nat):Int:=
 if BI k then 4 else if Xb k n s i f then 3 else if cU k n||cV k n then 1 else if Hi s then 2 else if wX 32 126 s then(if Hh i f then 2 else 0)else 1
def MY(a b:za):Bool:=Op.bytesLess a b||a==b
def mw(a:za):Bool:=a.isEmpty||decide ((60:Int)<a.length)||!wX 32 126 a
def mx(b:Option za)(a:za):Bool:=match b with
 |none=>false
 |some p=>MY a p
mutual
def Val.fault:Val->Int
 | .mk k n s a b=>if YH k n s a.length b.length=0 then(if Zt a=0 then Vr none b else Zt a)else YH k n s a.length b.length
def Zt:List Val->Int
 |[]=>0
 |v::l=>if v.fault=0 then Zt l else v.fault
def Vr:Option za->List (za×Val)->Int
 |_,[]=>0
 |prev,(a,v)::l=>if mw a then 5 else if mx prev a then 8 else if v.fault=0 then Vr (some a) l else v.fault
end
theorem BJ(v:Val):v.fault=if YH v.kind v.n v.s v.items.length v.fields.length=0 then(if Zt v.items=0 then Vr none v.fields else Zt v.items)else YH v.kind v.n v.s v.items.length v.fields.length:=by cases v;rfl
theorem BK:zi prog 131 (GV fun v=>yh (Xb v.kind v.n v.s v.items.length v.fields.length)):=
 y3 (fn:=f131) jj (wc func131) false [] _ fun args r h=>by obtain⟨v,rfl,a,rfl⟩:=KY h;exact⟨by simp[f131],_,zu rfl (by simp[f131,Xb]),q9 _⟩
noncomputable abbrev Ck (n:Nat):Ctx:=qj prog [(87,zn false [] (FV (fun v=>int v.fault) n)),(131,GV fun v=>yh (Xb v.kind v.n v.s v.items.length v.fields.length)),(132,zn false [] (FS (wX 32 126)))]
@[simp]theorem qk(n:Nat):kY (Ck n) 132:=jo (by rfl) (zt _ _)
theorem gC{l:List Val}{k:Nat}(h:k<l.length):Zt (l.drop k)=if l[k].fault=0 then Zt (l.drop (k+1))else l[k].fault:=by rw[zl h,Zt]
theorem gD{l:List (za×Val)}{k:Nat}(h:k<l.length)(p:Option za):Vr p (l.drop k)=if mw l[k].1 then 5 else if mx p l[k].1 then 8 else if l[k].2.fault=0 then Vr (some l[k].1) (l.drop (k+1))else l[k].2.fault:=by rw[zl h,Vr]
def Qo(l:List (za×Val))(k:Nat):Option za:=if k=0 then none else(l[k-1]?).map (·.1)
theorem my(n:Nat)(v:Val)(h:v.vb<=qg/\v.vb<=n+1):zG (Ck n) f87 [.agg v.V]=some (int v.fault):=by
 have hvb:=kv v;have hl1:=yT v.items;have hl2:=kC v.fields;obtain⟨ha,hb⟩:=h;unfold qg at ha;have b:=BJ v;have d:=fun Y Z=>Jr (fun v=>yh (Xb v.kind v.n v.s v.items.length v.fields.length)) v Y Z ha
 have A:v.s.length<=qg:=by unfold qg;omega
 refine zu rfl ?_;have x:(decide (v.kind<0)||decide (5<v.kind))=BI v.kind:=rfl;have F:(v.kind==1&&v.n != 0&&v.n != 1)=cU v.kind v.n:=rfl;have H:(v.kind==2&&(decide (v.n<=-1000000000000000)||decide (1000000000000000<=v.n)))=cV v.kind v.n:=rfl;have e4:(decide ((100:Int)<v.items.length)||decide ((100:Int)<v.fields.length))=Hh v.items.length v.fields.length:=rfl;have L:decide ((500:Int)<v.s.length)=Hi v.s:=rfl;cases q:BI v.kind
 case true=>simp[x,q,b,YH,f87]
 cases y:Xb v.kind v.n v.s v.items.length v.fields.length
 case true=>simp[x,q,d,y,b,YH,f87]
 cases B:cU v.kind v.n
 case true=>simp[x,q,d,y,F,B,b,YH,f87]
 cases G:cV v.kind v.n
 case true=>simp[x,q,d,y,F,B,H,G,b,YH,f87]
 cases I:Hi v.s
 case true=>simp[x,q,d,y,F,B,H,G,L,I,b,YH,f87]
 cases N:wX 32 126 v.s
 case false=>simp[x,q,d,y,F,B,H,G,L,I,N,A,b,YH,f87]
 cases Q:Hh v.items.length v.fields.length
 case true=>simp[x,q,d,y,F,B,H,G,L,I,N,A,e4,Q,b,YH,f87]
 have hh:YH v.kind v.n v.s v.items.length v.fields.length=0:=by simp[YH,q,y,B,G,I,N,Q]
 rw[hh,zg rfl]at b;simp[x,q,d,y,F,B,H,G,L,I,N,A,e4,Q];refine ql (fun k M Y Z=>M 1=.ref 0 0 0/\M 70=.sl 5 (v.items.map Val.V)/\M 71=int v.items.length/\M 72=int k/\1<=Z/\Y 0=some ⟨43,5,false,[v.V]⟩/\Zt v.items=Zt (v.items.drop k)) v.items.length
  ⟨by simp,by simp,by simp,by simp,by simp,by simp,by simp⟩ ?_
 rintro k M Y Z hk ⟨l,r,t,u,C,p,w⟩;have z:¬0=Z:=by omega
 by_cases c:k<v.items.length
 ·have hm:=jZ (zw c);have hw:=wv k;have a:=fun Y Z=>X6 (fun v=>int v.fault) n v.items[k] Y Z ⟨by unfold qg;omega,by omega⟩
  rw[gC c]at w;by_cases e:v.items[k].fault=0
  ·rw[zg e]at w;simp[l,r,t,u,c,a,e,hw]
   and_intros<;>first|omega|exact w|simp[z,p]
  ·rw[zf e]at w;have o:=VF e;rw[w,zf e]at b;simp[l,r,t,u,c,a,o,b,f87]
 ·obtain rfl:k=v.items.length:=by omega
  rw[zA]at w;have w:Zt v.items=0:=by rw[w];rfl
  rw[w,zg rfl]at b;simp[l,r,t,u,p];refine ql (fun k M Y Z=>M 1=.ref 0 0 0/\M 83=.sl 6 (v.fields.map wN)/\M 84=int v.fields.length/\M 85=int k/\1<=Z/\Y 0=some ⟨43,5,false,[v.V]⟩/\v.fault=Vr (Qo v.fields k) (v.fields.drop k)) v.fields.length
   ⟨by simp[l],by simp,by simp,by simp,C,p,by simp[b,Qo]⟩ ?_
  clear l r t u C p c hk z Z Y M b;rintro k M Y Z hk ⟨l,f,g,i,C,p,b⟩;have z:¬0=Z:=by omega
  by_cases c:k<v.fields.length
  ·have hm:=Zb (zw c);have hw:=wv k;have m:v.fields[k].1.length<=qg:=by unfold qg;omega
   have a:=fun Y Z=>X6 (fun v=>int v.fault) n v.fields[k].2 Y Z ⟨by unfold qg;omega,by omega⟩
   have en:(v.fields[k].1.isEmpty||decide ((60:Int)<v.fields[k].1.length)||!wX 32 126 v.fields[k].1)=mw v.fields[k].1:=rfl;rw[gD c]at b;cases D:mw v.fields[k].1
   case true=>simp[l,f,g,i,c,m,en,D,b,f87]
   have J:Qo v.fields (k+1)=some v.fields[k].1:=by simp[Qo,c]
   simp only[D,zm,zQ]at b;by_cases k0:k=0
   ·subst k0;simp only[Qo,mx,zK,zm,zQ]at b;by_cases e:v.fields[0].2.fault=0
    ·rw[zg e]at b;have w1:=wj 1;simp[l,f,g,i,c,m,en,D,a,e,w1]
     and_intros<;>first|omega|(rw[b];rw[J];simp;done)|simp[z,p]
    ·rw[zf e]at b;have o:=VF e;simp[l,f,g,i,c,m,en,D,a,o,b,f87]
   ·obtain⟨j,rfl⟩:∃j,k=j+1:=⟨k-1,by omega⟩;have P:j<v.fields.length:=by omega
    have R:i6.wrap ((j:Int)+1-1)=(j:Int):=by rw[wU (by omega) (by omega)];omega
    have E:=wj (j:Int);have S:((j:Int)+1).toNat=j+1:=by omega
    have T:0<(j:Int)+1:=by omega
    have U:0<=(j:Int)+1:=by omega
    have W:(j:Int)+1<v.fields.length:=by omega
    have wk:=wj ((j:Int)+1+1);have X:(Op.bytesLess v.fields[j+1].1 v.fields[j].1||v.fields[j+1].1==v.fields[j].1)=MY v.fields[j+1].1 v.fields[j].1:=rfl;have hpj:Qo v.fields (j+1)=some v.fields[j].1:=by simp[Qo,P]
    simp only[hpj,mx]at b;cases K:MY v.fields[j+1].1 v.fields[j].1
    case true=>simp only[K,zK]at b;simp[l,f,g,i,c,P,m,en,D,a,p,z,R,E,S,T,U,W,X,K,b,f87]
    simp only[K,zm,zQ]at b;by_cases e:v.fields[j+1].2.fault=0
    ·rw[zg e]at b;simp[l,f,g,i,c,P,m,en,D,a,p,z,R,E,S,T,U,W,X,K,e,wk]
     and_intros<;>first|omega|(rw[b];rw[J])|simp[z,p]
    ·rw[zf e]at b;have o:=VF e;simp[l,f,g,i,c,P,m,en,D,a,p,z,R,E,S,T,U,W,X,K,o,b,f87]
  ·obtain rfl:k=v.fields.length:=by omega
   rw[zA]at b;have b:v.fault=0:=by rw[b];rfl
   simp[l,f,g,i,b,f87]
theorem ij:∀n,zi prog 87 (zn false [] (FV (fun v=>int v.fault) n)):=by
 intro n
 induction n with
 |zero=>exact tR ⟨_,func87,by kernel_rfl,by kernel_rfl⟩
 |succ n a=>
  have b:AM.Good (Ck n) (fun g=>[132].contains g):=qx mixed ⟨a,by simp,BK,by simp,mm,fun _=>zt _ _,trivial⟩;exact y3 (fn:=f87) b (wc func87) false [] _ fun args r h=>by obtain⟨v,rfl,c,rfl⟩:=KY h;exact⟨z8 (zk 1) (by decide),_,my n v c,q9 _⟩
def Val.check(v:Val):Int:=if decide ((1000:Int)<v.parts)||decide ((8:Int)<v.levels)then 2 else v.fault
noncomputable abbrev Cch:Ctx:=qj prog [(87,GV fun v=>int v.fault),(86,GV fun v=>.wL [int v.parts,int v.levels])]
theorem BL:zi prog 68 (GV fun v=>int v.check):=
 y3 (fn:=f68) (qQ mixed ⟨ij qg,BH qg,trivial⟩:AM.Good Cch _) (wc func68) false [] _ fun args r h=>by
  obtain⟨v,rfl,a,rfl⟩:=KY h;have b:=fun Y Z=>Jr (fun v=>int v.fault) v Y Z a.1
  have c:=fun Y Z=>Jr (fun v=>.wL [int v.parts,int v.levels]) v Y Z a.1
  refine⟨by simp[f68],_,zu rfl ?_,q9 _⟩;cases d:(decide ((1000:Int)<v.parts)||decide ((8:Int)<v.levels))
  ·simp[b,c,d,f68,Val.check]
  ·simp[b,c,d,f68,Val.check]
end Go.Q
namespace Go.AM
variable{dr:Prop}
section
variable{C:Ctx}{pf:FuncId->Bool}{f:FuncId}{fn:Func}{code:Code}
theorem tS(hg:jH dr C pf)(s:bt C pf f fn code)(k:Bool)(ns:List Nat)(F:zb->Option O)
  (hF:∀args r,F args=some r->∀(w:World) (S:Nat->Prop) (vs:List Value),Zip (wT w S) args vs->∃a r0,Zip (wT w S) a vs/\a.length<=fn.ntmps/\zG C fn a=some r0/\∀(w:World) (S:Nat->Prop) (u:Value),wT w S r0 u->wT w S r u):wO dr C.P f (zn k ns F):=by
 refine⟨⟨fn,s.func,s.name,by rw[s.body];rfl⟩,?_⟩;intro args Y Z r Y' Z' h w S G vs X hz;unfold zn at h;split at h
 ·rename_i aZ Y1 y;split at h
  ·rename_i r0 z;obtain⟨S1,t,A,B⟩:=js (dr:=dr) X y hz;obtain⟨a,rr,D,hn,d,E⟩:=hF _ r0 z w S1 vs (Ql A);unfold zG at d;split at d
   ·rename_i x hpe nxe H;obtain⟨⟨r1,hpf1⟩,I,l⟩:=zU d;simp only at l;subst l;refine(Z1 hg s H hn t.inv.st t.inv.eC D).mono fun e w' hh=>?_
    obtain⟨v,S',G',he,fr,m,hx,hs0,J,_⟩:=hh;obtain⟨S2,k2,K⟩:=Za (dr:=dr) m I hx;have L:=E _ _ _ K;have n:∀b,S2 b->S1 b\/(w.heap.size<=b/\b<w'.heap.size):=by
     intro b j;have o:=k2.inv.st b j;rcases k2.from_ b j with h1|⟨id,blk,h1,rfl⟩|h1
     ·rcases J b h1 with N|N
      ·exact .inl N
      ·exact .inr ⟨N,o⟩
     ·rcases zbl (G' id).g w.heap.size with h3|h3
      ·rename_i p;have:=p id blk h1;omega
      ·exact .inr ⟨h3,o⟩
     ·exact absurd h1 (by omega)
    split at h
    ·rename_i i;injection h with h
     injection h with Q h;injection h with R T;subst Q;subst R;subst T;refine⟨v,_,G,he,kN.outer X fr,.c ?_⟩;rcases i with U|W
     ·exact cK L U
     ·have q:=B W;exact L.mono fun b j=>⟨by rw[<-q];exact n b j,rfl⟩
    ·split at h
     ·injection h with h;injection h with Q h;injection h with R T;subst Q;subst R;subst T;exact⟨v,_,G,he,t.trans (kN.outer t.inv fr),.c (L.mono fun b j=>⟨n b j,rfl⟩)⟩
     ·cases h
   ·cases d
  ·cases h
 ·cases h
inductive iS (s:Nat):List (List O)->O->Prop
 |nil:iS s [] .nil
 |em:iS s [] .em
 |sl {c:List O} {es:List (List O)}:iS s (c::es) (.sl s (c::es))
theorem N2{w:World}{S:Nat->Prop}{s:Nat}{es:List zb}{u:Value}(h:wT w S (.sl s es) u):∃y,iS s es y/\wT w S y u:=by
 cases es with
 |cons c es=>exact⟨_,.sl,h⟩
 |nil=>
  cases h with
  |sl us a d b e f g=>
   rename_i A cap;cases A with
   |none=>have:=a rfl;subst this;exact⟨.nil,.nil,.nil⟩
   |some i=>exact⟨.em,.em,.em b⟩
theorem cW{w:World}{S:Nat->Prop}{s:Nat}{es:List zb}{y:O}{u:Value}(h:iS s es y)(a:wT w S y u):wT w S (.sl s es) u:=by
 cases h with
 |nil=>cases a;exact .sl (es:=[]) (fun _ _=>undef) (by simp) (by simp) (by simp[maxLen]) (by simp) (by simp) (by simp)
 |em=>
  cases a with
  |em b=>exact .sl (es:=[]) (fun _ _=>undef) (by simp) (by simp) b (by simp) (by simp) (by simp)
 |sl=>exact a
theorem gE{w:World}{S:Nat->Prop}{cs:zb}{u:Value}(h:wT w S (.agg cs) u){j s:Nat}{es:List zb}(c:cs[j]?=some (.sl s es)):∃y,iS s es y/\wT w S (.agg (cs.set j y)) u:=by
 cases h with
 |agg f d=>
  rename_i us;have g:j<cs.length:=(zj.1 c).1;obtain⟨y,i,l⟩:=N2 (d j _ us[j] c (by simp));refine⟨y,i,.agg (by simpa using f) fun k m u a b=>?_⟩;rw[List.getElem?_set]at a;split at a
  ·rename_i e;subst e;injection a with a
   subst a;rw[vF (by omega)]at b;injection b with b
   subst b;exact l
  ·exact d k m u a b
section
variable{P:Program}{Y:Hp}{Z:Nat}{t:TypeId}{s e:Nat}{es:List zb}{y:O}
theorem iS.cell(h:iS s es y):y.ye=true:=by cases h<;>rfl
end
theorem qN.more{Y:Hp}{Z e s:Nat}{v:O}{xs:List zb}(h:qN Y Z e s v xs)(b:Option Blk):qN (qf Y Z b) (Z+1) e s v xs:=by
 rcases h with⟨rfl,rfl⟩|⟨id,c,rfl,a⟩
 ·exact .inl ⟨rfl,rfl⟩
 ·exact .inr ⟨id,by omega,rfl,by rw[w5 _ _ _ _ (by omega)];exact a⟩
theorem Js(e:jH dr C pf)(c:bE C pf f fn)(b:Bool)(d:List Nat)(F:zb->Option O)
  (g:∀args r,F args=some r->∀(w:World) (S:Nat->Prop) (vs:List Value),Zip (wT w S) args vs->∃a r0,Zip (wT w S) a vs/\a.length<=fn.ntmps/\zG C fn a=some r0/\∀(w:World) (S:Nat->Prop) (u:Value),wT w S r0 u->wT w S r u):wO dr C.P f (zn b d F):=
 let⟨_,c⟩:=c
 tS e c b d F g
end
variable{dr:Prop}
def YI(P:Program)(l:Je)(k:Nat)(L:List Tmp)(b:List Nat):Ctx:=⟨P,lookup l,fun _=>[],fun i=>if i=k then L else[],fun g=>b.contains g,fun _=>[],fun _=>none⟩
@[simp]theorem zgC(P:Program)(l:Je)(k:Nat)(L:List Tmp)(b:List Nat):(YI P l k L b).P=P:=rfl
@[simp]theorem zgD(P:Program)(l:Je)(k:Nat)(L:List Tmp)(b:List Nat)(Y:Hp)(Z g:Nat)(x y xs:zb):jO (YI P l k L b) Y Z (some (.fn (.func g) x y)) xs=(lookup l g).bind fun s=>s (x++xs++y) Y Z:=by unfold jO YI;simp only;cases lookup l g<;>rfl
@[simp]theorem N3(P:Program)(l:Je)(k:Nat)(L:List Tmp)(b:List Nat)(i:Nat)(a:Array Oper)(d:Bool)(st:St)(K:Exit->St->Prop)(h:¬i=k):Zl (YI P l k L b) (.region i a d) st K=iV (YI P l k L b) a a.toList st (Wr K):=
 ZZ _ i a d st K rfl (by simp[YI,h])
theorem ik{P:Program}{l:Je}{k:Nat}{L:List Tmp}{b:List Nat}{a:Array Oper}{d:Bool}{st:St}{K:Exit->St->Prop}(h:Qh L st):Zl (YI P l k L b) (.region k a d) st K=iV (YI P l k L b) a a.toList st (Wr K):=
 kW _ k a d st K (fun _ h=>by cases h) (by simpa[YI]using h)
def E2(P:Program)(l:Je)(k:Nat)(t:Tmp):Ctx:=⟨P,lookup l,fun _=>[],fun _=>[],fun _=>false,fun i=>if i=k then[t]else[],fun _=>none⟩
@[simp]theorem zgE(P:Program)(l:Je)(k:Nat)(t:Tmp):(E2 P l k t).P=P:=rfl
@[simp]theorem zgF(P:Program)(l:Je)(k:Nat)(t:Tmp)(Y:Hp)(Z g:Nat)(x y xs:zb):jO (E2 P l k t) Y Z (some (.fn (.func g) x y)) xs=(lookup l g).bind fun s=>s (x++xs++y) Y Z:=by unfold jO E2;simp only;cases lookup l g<;>rfl
def tT(b:List Nat):Je->Prop
 |[]=>True
 |(g,s)::l=>(b.contains g=true->Wb s)/\tT b l
theorem BM{P:Program}{l:Je}{q:List Nat}{k:Nat}{L:List Tmp}{b:List Nat}(d:P.follows .mixedOrders=true)(h:Bx dr P q l)(f:tT b l):jH dr (YI P l k L b) (fun g=>q.contains g):=by
 let g:=qx d h;refine⟨g.spec,g.quiet,g.mixed,?_,fun _ _ h=>by cases h⟩;have c:∀l:Je,tT b l->∀g s,b.contains g=true->lookup l g=some s->Wb s:=by
  intro l
  induction l with
  |nil=>intro _ g s _ h;cases h
  |cons x l i=>
   obtain⟨k,n⟩:=x;rintro⟨j,m⟩ g s a hs;simp only[gw]at hs;split at hs
   ·rename_i e;injection hs with hs
    subst hs;subst e;exact j a
   ·exact i m g s a hs
 exact fun g s a hs=>c l f g s a hs
theorem Xc:∀{xs ys:zb} {Y Y1:Hp},zH Y xs=some (ys,Y1)->∀{id:Nat} {b:Blk},Y id=some b->b.arr=false->Y1 id=some b
 |[],ys,Y,Y1,h,id,b,a,c=>by simp only[zH]at h;injection h with h;injection h with _ h;subst h;exact a
 |x::l,ys,Y,Y1,h,id,b,a,c=>by
  simp only[zH]at h;split at h
  ·rename_i y Y2 d;split at h
   ·rename_i r e f;injection h with h;injection h with _ h;subst h
    exact Xc f (JI d a c) c
   ·cases h
  ·cases h
def wW(r0 r:O):Prop:=∀(w:World) (S:Nat->Prop) (u:Value),wT w S r0 u->wT w S r u
def zbP(r:O)(x:O)(Y:Hp)(_:Nat):Prop:=∃r0,(AM.freeze Y x).map (·.1)=some r0/\wW r0 r
theorem wW.refl(x:O):wW x x:=fun _ _ _ h=>h
inductive xB:List O->List O->Prop
 |nil:xB [] []
 |cons {x y:O} {xs ys:List O}:wW x y->xB xs ys->xB (x::xs) (y::ys)
theorem xB.length{xs ys:zb}(h:xB xs ys):xs.length=ys.length:=by
 induction h with
 |nil=>rfl
 |cons _ _ a=>simp[a]
theorem xB.get{xs ys:zb}(h:xB xs ys):∀{j:Nat} {x y:O},xs[j]?=some x->ys[j]?=some y->wW x y:=by
 induction h with
 |nil=>intro j x y h;cases h
 |cons c _ d=>
  intro j x y a b;cases j with
  |zero=>simp at a b;subst a;subst b;exact c
  |succ j=>exact d (by simpa using a) (by simpa using b)
theorem xB.agg{xs ys:zb}(h:xB xs ys):wW (.agg xs) (.agg ys):=by
 intro w S u c;cases c with
 |agg d e=>
  refine .agg (by rw[<-h.length];exact d) fun j g u b f=>?_
  have a:j<xs.length:=by rw[h.length];exact(zj.1 b).1
  exact h.get (zo a) b _ _ _ (e j _ u (zo a) f)
theorem xB.wL{xs ys:zb}(h:xB xs ys):wW (.wL xs) (.wL ys):=by
 intro w S u c;cases c with
 |wL d e=>
  refine .wL (by rw[<-h.length];exact d) fun j g u b f=>?_
  have a:j<xs.length:=by rw[h.length];exact(zj.1 b).1
  exact h.get (zo a) b _ _ _ (e j _ u (zo a) f)
theorem qN.at_{Y:Hp}{Z e s:Nat}{v:O}{xs:List zb}(h:qN Y Z e s v xs)(a:0<xs.length):∃id,id<Z/\v=.own id 0 xs.length/\Y id=some ⟨e,s,true,xs⟩:=by
 rcases h with⟨rfl,rfl⟩|h
 ·simp at a
 ·exact h
theorem qN.same{Y a:Hp}{Z b e s:Nat}{v:O}{xs:List zb}(h:qN Y Z e s v xs)(f:Z<=b)(c:∀id n,v=.own id 0 n->a id=Y id):qN a b e s v xs:=by
 rcases h with⟨rfl,rfl⟩|⟨id,g,rfl,d⟩
 ·exact .inl ⟨rfl,rfl⟩
 ·exact .inr ⟨id,by omega,rfl,by rw[c id _ rfl];exact d⟩
end Go.AM
namespace Go.Q
def QX(e s:Nat):zb->Option (Option Blk)
 |[.nil]=>some none
 |[.em]=>some (some ⟨e,s,true,[]⟩)
 |[.sl a es]=>if a=s/\es≠[]/\es.length<=qg then some (some ⟨e,s,true,es⟩)else none
 |_=>none
def J5(e s:Nat)(es:List zb)(y:O)(Z:Nat):O×(Hp->Hp)×Nat:=match y with
 | .nil=>(.nil,fun h=>h,Z)
 |_=>(.own Z 0 es.length,fun h=>qf h Z (some ⟨e,s,true,es⟩),Z+1)
theorem E3{e s:Nat}{es:List zb}{y:O}(h:iS s es y)(a:es.length<=qg)(Y:Hp)(Z:Nat):jL [] (QX e s) [y] Y Z=some ((J5 e s es y Z).1,(J5 e s es y Z).2.1 Y,(J5 e s es y Z).2.2):=by
 cases h with
 |nil=>rfl
 |em=>rfl
 |sl=>simp at a;simp[jL,yR,QX,J5,a]
theorem BN{e s:Nat}{es:List zb}{y:O}{Z:Nat}(Y:Hp){id:Nat}(h:id<Z):(J5 e s es y Z).2.1 Y id=Y id:=by
 unfold J5;split
 ·rfl
 ·exact w5 _ _ _ _ (by omega)
theorem E4{e s:Nat}{es:List zb}{y:O}(h:iS s es y)(Y:Hp)(Z:Nat):qN ((J5 e s es y Z).2.1 Y) (J5 e s es y Z).2.2 e s (J5 e s es y Z).1 es:=by
 cases h with
 |nil=>exact .inl ⟨rfl,rfl⟩
 |em=>exact .inr ⟨Z,by simp[J5],rfl,by simp[J5]⟩
 |sl=>exact .inr ⟨Z,by simp[J5],rfl,by simp[J5]⟩
theorem BO(args:zb)(r:Option Blk)(h:QX 43 5 args=some r):args.length<=f211.ntmps/\∃x Y Z,jr C0 f211 args (fun _=>none) 0=some (x,Y,Z)/\bD r x Y Z:=by
 unfold QX at h;split at h
 ·injection h with h;subst h;exact⟨by simp[f211],w9 rfl (by simp[Qi,KG,f211,bD])⟩
 ·injection h with h;subst h;exact⟨by simp[f211],w9 rfl (by simp[Qi,KG,f211,bD,zs,jF,AM.view,maxLen,zF,zr])⟩
 ·rename_i es;split at h
  ·rename_i d;obtain⟨rfl,a,b⟩:=d;injection h with h;subst h
   cases es with
   |nil=>exact absurd rfl a
   |cons c es=>
    unfold qg at b;simp at b;have e:es.length+1<=maxLen:=by unfold maxLen;omega
    have f:(es.length+1)*80<=140737488355328:=by omega
    refine⟨by simp[f211],w9 rfl ?_⟩;simp[Qi,KG,f211,bD,zs,jF,AM.view,zF,zr,e,f]
  ·cases h
 ·cases h
theorem tU:zi prog 211 (jL [] (QX 43 5)):=
 Yb (fn:=f211) (code:=_) jj ⟨func211,by kernel_rfl,rfl,by kernel_rfl⟩ [] _ BO
def Val.inner(v:Val):List Val:=v.items++v.fields.map (·.2)
def Wd(v:Val)(k:Nat):List zb:=(v.items++(v.fields.take k).map (·.2)).map Val.V
theorem tV(v:Val):Wd v 0=v.items.map Val.V:=by simp[Wd]
theorem tW{v:Val}{k:Nat}(h:k<v.fields.length):Wd v (k+1)=Wd v k++[v.fields[k].2.V]:=by unfold Wd;rw[qE h,kq (f:=fun x:List UInt8×Val=>x.2),<-qP,kq (f:=Val.V)];rfl
theorem tX(v:Val):Wd v v.fields.length=v.inner.map Val.V:=by simp[Wd,Val.inner]
theorem mz(v:Val)(k:Nat):(Wd v k).length<=v.items.length+v.fields.length:=by simp[Wd];omega
noncomputable abbrev Cin:Ctx:=qj prog [(211,jL [] (QX 43 5))]
theorem E5(v:Val)(x:v.vb<=qg)(y:O)(l:iS 5 (v.items.map Val.V) y) :
  ∃r0,zG Cin f159 [.agg (v.V.set 3 y)]=some r0/\∀(w:World) (S:Nat->Prop) (u:Value),wT w S r0 u->wT w S (.sl 5 (v.inner.map Val.V)) u:=by
 have z:=kv v;have A:=yT v.items;have B:=kC v.fields;have m:=fun Y Z=>E3 (e:=43) l (by simp;omega) Y Z
 have b:=fun Y Z=>E4 (e:=43) l Y Z
 unfold qg at x;have d:v.V.set 3 y=[int v.kind,int v.n,str v.s,y,.sl 6 (v.fields.map wN)]:=by rw[wD];rfl
 have f:∀{code},f159.body=some code->Zl Cin code ⟨km [.agg (v.V.set 3 y)],fun _=>none,0⟩ (KO Cin.P f159 (gx (.sl 5 (v.inner.map Val.V))))->∃r0,zG Cin f159 [.agg (v.V.set 3 y)]=some r0/\∀(w:World) (S:Nat->Prop) (u:Value),wT w S r0 u->wT w S (.sl 5 (v.inner.map Val.V)) u:=by intro code C h;obtain⟨r0,D,E⟩:=cL C h;exact⟨r0,D,fun w S u F=>tE F E⟩
 refine f rfl ?_;rw[d];have G:=fun Y=>BN (e:=43) (s:=5) (es:=v.items.map Val.V) (y:=y) (Z:=1) Y (id:=0) (by omega)
 simp[l.cell,m,G];refine ql (fun k M Y Z=>M 10=.sl 6 (v.fields.map wN)/\M 11=int v.fields.length/\M 12=int k/\qN Y Z 43 5 (M 3) (Wd v k)) v.fields.length
  ⟨by simp,by simp,by simp,by rw[tV];simpa using b _ _⟩ ?_
 rintro k M Y Z J ⟨g,i,j,o⟩;have H:=mz v k;by_cases a:k<v.fields.length
 ·have I:=wv k;have p:=o.more (some ⟨53,6,false,[str v.fields[k].1::v.fields[k].2.V]⟩);have q:=p.ji (P:=prog) (t:=22) (c:=v.fields[k].2.V) N0 BB T2 N1 rfl (by omega) (by unfold maxLen;omega) (by omega);have r:∀Y Z,zs prog Y Z 22 1 [(0,.agg v.fields[k].2.V)]=some (.own Z 0 1,qf Y Z (some ⟨43,5,true,[v.fields[k].2.V]⟩),Z+1):=fun Y Z=>by simp only[zs,N0,BB,N1,zr,YG];simp[zF]
  simp[g,i,j,a,r,I,q];refine⟨a,?_⟩;rw[tW a];exact qN.after
 ·obtain rfl:k=v.fields.length:=by omega
  rw[tX]at o;have:=o.freeze Z;simp[g,i,j,f159];exact this
theorem BP:zi prog 159 (GV fun v=>.sl 5 (v.inner.map Val.V)):=
 Js (fn:=f159) (qQ mixed ⟨tU,trivial⟩:AM.Good Cin _) (wc func159) false [] _ fun args r h w S vs b=>by obtain⟨v,rfl,c,rfl⟩:=KY h;obtain⟨u,d,e⟩:=Jp b;subst d;obtain⟨y,f,a⟩:=gE e (j:=3) (s:=5) (es:=v.items.map Val.V) (by simp);obtain⟨r0,g,i⟩:=E5 v c.1 y f;exact⟨_,r0,.cons a .nil,by simp[f159],g,i⟩
def J6(s:Int×Bool):Bool:=s.2||decide (1000<s.1)
def mA(s r:Int×Bool):Int×Bool:=if J6 s then s else(s.1+r.1,s.2||r.2)
mutual
def Val.rp:Val->Int->Int×Bool
 | .mk _ _ _ a b,l=>rpF b l (rpV a l (1,decide (8<l)))
def rpV:List Val->Int->Int×Bool->Int×Bool
 |[],_,s=>s
 |v::vs,l,s=>rpV vs l (mA s (v.rp (l+1)))
def rpF:List (za×Val)->Int->Int×Bool->Int×Bool
 |[],_,s=>s
 |(_,v)::vs,l,s=>rpF vs l (mA s (v.rp (l+1)))
end
def rM(xs:List Val)(l:Int)(s:Int×Bool):Int×Bool:=xs.foldl (fun s x=>mA s (x.rp (l+1))) s
theorem N4:∀(xs:List Val) (l:Int) (s:Int×Bool),rpV xs l s=rM xs l s
 |[],_,_=>rfl
 |v::vs,l,s=>by simp only[rpV,rM,ju];exact N4 vs l _
theorem N5:∀(xs:List (za×Val)) (l:Int) (s:Int×Bool),rpF xs l s=rM (xs.map (·.2)) l s
 |[],_,_=>rfl
 |(a,v)::vs,l,s=>by simp only[rpF,rM,wK,ju];exact N5 vs l _
theorem zbQ(v:Val)(l:Int):v.rp l=rM v.inner l (1,decide (8<l)):=by
 cases v with
 |mk k n s a b=>simp only[Val.rp,N4,N5,Val.inner,Val.items,Val.fields,rM,Ii]
theorem mB{xs:List Val}{l:Int}{s:Int×Bool}(h:J6 s=true):rM xs l s=s:=by
 induction xs with
 |nil=>rfl
 |cons x xs a=>simp only[rM,ju,mA,h,zK];exact a
theorem N6{xs:List Val}{l:Int}{s:Int×Bool}{k:Nat}(h:k<xs.length):rM (xs.drop k) l s=rM (xs.drop (k+1)) l (mA s (xs[k].rp (l+1))):=by rw[zl h];rfl
def QY(xs:List Val):Nat:=(xs.map Val.parts).sum
def kZ:List Val->Nat
 |[]=>0
 |v::l=>max v.levels (kZ l)
theorem I7(v:Val):v.parts=1+QY v.inner:=by
 rw[BG];have c:∀l:List Val,kJ l=QY l:=by
  intro l;induction l with
  |nil=>rfl
  |cons v l b=>simp[kJ,QY,b]
 have d:∀l:List (za×Val),kT l=QY (l.map (·.2)):=by
  intro l;induction l with
  |nil=>rfl
  |cons v l b=>obtain⟨a,v⟩:=v;simp[kT,QY]at b⊢;rw[b]
 rw[c,d];simp[QY,Val.inner,lF]
theorem E6(v:Val):v.levels=kZ v.inner+1:=by
 rw[rK];have d:∀l:List Val,kf l=kZ l:=by
  intro l;induction l with
  |nil=>rfl
  |cons v l c=>simp[kf,kZ,c]
 have e:∀l:List (za×Val),ku l=kZ (l.map (·.2)):=by
  intro l;induction l with
  |nil=>rfl
  |cons v l c=>obtain⟨a,v⟩:=v;simp[ku,kZ,c]
 have f:∀a b:List Val,kZ (a++b)=max (kZ a) (kZ b):=by
  intro a b;induction a with
  |nil=>simp[kZ]
  |cons v a c=>simp only[qU,kZ,c];omega
 rw[d,e,Val.inner,f]
theorem rN{v x:Val}(h:x∈v.inner):x.vb<v.vb:=by
 have a:=kv v;rcases qO.1 h with h|h
 ·have:=jZ h;omega
 ·obtain⟨f,b,rfl⟩:=qq.1 h;have:=Zb b;omega
structure RP (xs:List Val) (l:Int) (s r:Int×Bool):Prop where
 lo:s.1<=r.1
 hi:r.1<=s.1+QY xs
 deep:r.2=true->s.2=true\/8<l+(kZ xs:Int)
 all:J6 r=false->r.1=s.1+QY xs/\(xs≠[]->l+(kZ xs:Int)<=8)
theorem Hj:∀(b:Nat) (v:Val),v.vb<=b->∀l,0<=(v.rp l).1/\(v.rp l).1<=v.parts/\((v.rp l).2=true->8<l+(v.levels:Int)-1)/\(J6 (v.rp l)=false->(v.rp l).1=v.parts/\l+(v.levels:Int)-1<=8):=by
 intro b
 induction b with
 |zero=>intro v t;have:=WO v;omega
 |succ b u=>
  intro v t l;have i:∀(xs:List Val) (s:Int×Bool),0<=s.1->(∀x∈xs,x.vb<=b)->RP xs l s (rM xs l s):=by
   intro xs
   induction xs with
   |nil=>intro s _ _;exact⟨by simp[rM],by simp[rM,QY],fun h=>.inl (by simpa[rM]using h),fun _=>⟨by simp[rM,QY],fun h=>absurd rfl h⟩⟩
   |cons x xs j=>
    intro s D r;by_cases d:J6 s=true
    ·rw[mB d];exact⟨by omega,by omega,fun h=>.inl h,fun h=>by rw[d]at h;cases h⟩
    ·have e:rM (x::xs) l s=rM xs l (s.1+(x.rp (l+1)).1,s.2||(x.rp (l+1)).2):=by simp only[rM,ju,mA,d];rfl
     rw[e];obtain⟨E,F,w,z⟩:=u x (r x (by simp)) (l+1);have f:=j (s.1+(x.rp (l+1)).1,s.2||(x.rp (l+1)).2) (by simp only;omega) (fun y A=>r y (by simp[A]));have a:QY (x::xs)=x.parts+QY xs:=by simp[QY]
     have k:=f.lo;have m:=f.hi;simp only at k m;refine⟨by omega,by rw[a];omega,fun h=>?_,fun h=>?_⟩
     ·simp only[kZ];rcases f.deep h with h|h
      ·simp only[qT]at h;rcases h with h|h
       ·exact .inl h
       ·right;have:=w h;omega
      ·right;omega
     ·obtain⟨n,o⟩:=f.all h;have p:J6 (x.rp (l+1))=false:=by
       simp only[J6,wE,kH]at h d⊢;refine⟨?_,by omega⟩;cases hd:(x.rp (l+1)).2 with
       |false=>rfl
       |true=>
        exfalso;have q:J6 (s.1+(x.rp (l+1)).1,s.2||(x.rp (l+1)).2)=true:=by simp[J6,hd]
        rw[mB q]at h;simp[hd]at h
      obtain⟨G,H⟩:=z p;simp only at n;refine⟨by rw[a];omega,fun _=>?_⟩;simp only[kZ];by_cases c:xs=[]
      ·subst c;simp only[kZ];omega
      ·have:=o c;omega
  have g:=i v.inner (1,decide (8<l)) (by simp) fun x p=>by have:=rN p;omega
  rw[zbQ,I7,E6];have B:=g.lo;have C:=g.hi;simp only at B C;refine⟨by omega,by omega,fun h=>?_,fun h=>?_⟩
  ·rcases g.deep h with h|h
   ·simp at h;omega
   ·omega
  ·obtain⟨n,o⟩:=g.all h;simp only at n;refine⟨by omega,?_⟩;by_cases c:v.inner=[]
   ·rw[c]at h⊢;simp[rM,J6]at h;simp only[kZ];omega
   ·have:=o c;omega
theorem N7(v:Val):J6 (v.rp 1)=(decide ((1000:Int)<v.parts)||decide ((8:Int)<v.levels)):=by
 obtain⟨f,g,d,e⟩:=Hj v.vb v (zk _) 1;cases c:J6 (v.rp 1)with
 |false=>
  obtain⟨a,b⟩:=e c;simp only[J6,wE,kH]at c
  symm
  simp only[wE,kH];omega
 |true=>
  symm
  simp only[J6,qT,q5]at c⊢;rcases c with c|c
  ·right;have:=d c;omega
  ·left;omega
noncomputable def FV2 (out:Val->Int->O) (b c:Int) (n:Nat):zb->Option O:=qW (α:=Val×Int) (fun a=>[.agg a.1.V,int a.2]) (fun a=>a.1.vb<=qg/\a.1.vb<=n/\b<=a.2/\a.2<=c) (fun a=>out a.1 a.2)
theorem BQ(out:Val->Int->O)(c d:Int)(n:Nat)(v:Val)(i:Int)(Y:Hp)(Z:Nat)(h:v.vb<=qg/\v.vb<=n/\c<=i/\i<=d):zn false [] (FV2 out c d n) [.agg v.V,int i] Y Z=some (out v i,Y,Z):=
 jm (Y1:=Y) (show zH Y [.agg v.V,int i]=some ([.agg v.V,int i],Y) by simp only[zH,YG];simp)
  (qX (V:=fun a:Val×Int=>[.agg a.1.V,int a.2]) (a:=(v,i)) (fun a b e=>by obtain⟨f,g⟩:=a;obtain⟨j,k⟩:=b;simp only[zq,qh,O.agg.injEq]at e;rw[xq e.1,qA e.2]) h) (.inr (by simp only[wZ,Ym,er];rfl))
noncomputable abbrev Crp (n:Nat):Ctx:=qj prog [(105,zn false [] (FV2 (fun v l=>.wL [int (v.rp l).1,yh (v.rp l).2]) 1 9 n)),(159,GV fun v=>.sl 5 (v.inner.map Val.V))]
theorem tY(v:Val):v.inner.length<v.vb:=by have:=kv v;have:=yT v.items;have:=kC v.fields;simp[Val.inner];omega
theorem BR(n:Nat)(v:Val)(l:Int)(h:v.vb<=qg/\v.vb<=n+1/\1<=l/\l<=9):zG (Crp n) f105 [.agg v.V,int l]=some (.wL [int (v.rp l).1,yh (v.rp l).2]):=by
 obtain⟨r,E,t,u⟩:=h;have w:=tY v;have m:=fun Y Z=>Jr (fun v=>.sl 5 (v.inner.map Val.V)) v Y Z r
 unfold qg at r;refine zu rfl ?_;simp[m];refine ql (fun k M Y Z=>M 1=int l/\M 15=.sl 5 (v.inner.map Val.V)/\M 16=int v.inner.length/\M 17=int k/\∃s:Int×Bool,M 6=int s.1/\M 7=yh s.2/\0<=s.1/\s.1<=400000000/\(s.2=false->l<=8)/\v.rp l=rM (v.inner.drop k) l s) v.inner.length
  ⟨by simp,by simp,by simp,by simp,(1,decide (8<l)),by simp,by simp,by simp,by simp,by simp,by rw[zbQ];simp⟩ ?_
 rintro k M Y Z F ⟨o,c,d,e,s,p,q,G,H,x,b⟩;by_cases a:k<v.inner.length
 ·have y:=wv k;have I:=rN (zw a);have g:(s.2||decide (1000<s.1))=J6 s:=rfl;cases i:J6 s
  ·have j:s.2=false:=by cases h:s.2<;>simp_all[J6]
   have z:=x j;have A:=wj (l+1);have f:=fun Y Z=>BQ (fun v l=>.wL [int (v.rp l).1,yh (v.rp l).2]) 1 9 n v.inner[k] (l+1) Y Z ⟨by unfold qg;omega,by omega,by omega,by omega⟩
   obtain⟨J,K,L,N⟩:=Hj _ v.inner[k] (zk _) (l+1);have B:=mn v.inner[k];have C:s.1<=1000:=by simp[J6]at i;omega
   have D:=wj (s.1+(v.inner[k].rp (l+1)).1);rw[N6 a]at b;simp only[mA,i,zm,zQ]at b;simp[o,c,d,e,p,q,a,g,i,f,A,D,y];refine⟨a,?_⟩;rw[b,j];cases hd:(v.inner[k].rp (l+1)).2<;>simp[hd]<;>omega
  ·rw[mB i]at b;simp[o,c,d,e,p,q,a,g,i,b,f105,yx]
 ·obtain rfl:k=v.inner.length:=by omega
  rw[zA]at b;have b:v.rp l=s:=b;simp[o,c,d,e,p,q,b,f105,yx]
theorem Hk{out:Val->Int->O}{a b:Int}{n:Nat}{args:zb}{r:O}(h:FV2 out a b n args=some r):∃(v:Val) (i:Int),args=[.agg v.V,int i]/\(v.vb<=qg/\v.vb<=n/\a<=i/\i<=b)/\r=out v i:=by obtain⟨⟨v,i⟩,c,d,e⟩:=zL h;exact⟨v,i,c,d,e⟩
theorem N8{out:Val->Int->O}{b c:Int}{f:FuncId}(a:∃fn,prog.funcs[f]?=some fn/\(fn.name== "runtime.NumGoroutine")=false/\fn.body.isNone=false):zi prog f (zn false [] (FV2 out b c 0)):=by
 refine⟨a,fun args Y Z r e g h=>?_⟩;unfold zn at h;split at h
 ·split at h
  ·rename_i r0 d;obtain⟨v,i,_,j,_⟩:=Hk d;have:=WO v;omega
  ·cases h
 ·cases h
theorem tZ:∀n,zi prog 105 (zn false [] (FV2 (fun v l=>.wL [int (v.rp l).1,yh (v.rp l).2]) 1 9 n)):=by
 intro n
 induction n with
 |zero=>exact N8 ⟨_,func105,by kernel_rfl,by kernel_rfl⟩
 |succ n a=>
  have b:Gd (Crp n):=qQ mixed ⟨a,BP,trivial⟩;exact y3 (fn:=f105) b (wc func105) false [] _ fun args r h=>by obtain⟨v,l,rfl,c,rfl⟩:=Hk h;exact⟨z8 (zk 2) (by decide),_,BR n v l c,q9 _⟩
noncomputable abbrev Crc:Ctx:=qj prog [(161,zn false [] (F3 v7)),(162,zn false [] (FS (wX 32 126)))]
@[simp]theorem qrc1:kY Crc 161:=jo (by rfl) (zt _ _)
def gF(v:Val):Int:=YH v.kind v.n v.s v.items.length v.fields.length
theorem N9(v:Val):gF v=if(!v7 v.kind 0 5)then 4 else if(v.kind != 1&&v.kind != 2&&v.n != 0)then 3 else if(v.kind != 3&&!v.s.isEmpty)then 3 else if(v.kind != 4&&decide (0<v.items.length))then 3 else if(v.kind != 5&&decide (0<v.fields.length))then 3 else if(v.kind==1&&!v7 v.n 0 1)then 1 else if(v.kind==2&&!v7 v.n (-999999999999999) 999999999999999)then 1 else if(decide ((500:Int)<v.s.length))then 2 else if(!wX 32 126 v.s)then 1 else if(decide ((100:Int)<v.items.length)||decide ((100:Int)<v.fields.length))then 2 else 0:=by
 unfold gF YH;have a:BI v.kind=!v7 v.kind 0 5:=by rw[q6];simp[BI,v7]
 have b:Xb v.kind v.n v.s v.items.length v.fields.length=((v.kind != 1&&v.kind != 2&&v.n != 0)||(v.kind != 3&&!v.s.isEmpty)||(v.kind != 4&&decide (0<v.items.length))||(v.kind != 5&&decide (0<v.fields.length))):=by
  unfold Xb;have:(v.s==[])=v.s.isEmpty:=by cases v.s<;>rfl
  rw[this];generalize (v.kind != 1)=c;generalize (v.kind != 2)=d;generalize (v.kind != 3)=e;generalize (v.kind != 4)=f;generalize (v.kind != 5)=g;generalize (v.n != 0)=h;generalize v.s.isEmpty=i;generalize decide (0<v.items.length)=j;generalize decide (0<v.fields.length)=k;cases c<;>cases d<;>cases e<;>cases f<;>cases g<;>cases h<;>cases i<;>cases j<;>cases k<;>rfl
 have l:cU v.kind v.n=(v.kind==1&&!v7 v.n 0 1):=by rw[q6];simp[cU,v7];omega
 have m:cV v.kind v.n=(v.kind==2&&!v7 v.n (-999999999999999) 999999999999999):=by rw[q6];simp[cV,v7];omega
 rw[a,b,l,m,Hi,Hh];generalize (!v7 v.kind 0 5)=o;generalize (v.kind != 1&&v.kind != 2&&v.n != 0)=p;generalize (v.kind != 3&&!v.s.isEmpty)=q;generalize (v.kind != 4&&decide (0<v.items.length))=r;generalize (v.kind != 5&&decide (0<v.fields.length))=t;generalize (v.kind==1&&!v7 v.n 0 1)=u;generalize (v.kind==2&&!v7 v.n (-999999999999999) 999999999999999)=w;cases o<;>cases p<;>cases q<;>cases r<;>cases t<;>cases u<;>cases w<;>cases wX 32 126 v.s<;>rfl
theorem il(v:Val)(h:v.vb<=qg):zG Crc f160 [.agg v.V]=some (int (gF v)):=by
 have q:=kv v;have m:v.s.length<=qg:=by omega
 refine zu rfl ?_;have o:=N9 v;obtain⟨r,c⟩:∃b,(!v7 v.kind 0 5)=b:=⟨_,rfl⟩;obtain⟨t,d⟩:∃b,(v.kind != 1&&v.kind != 2&&v.n != 0)=b:=⟨_,rfl⟩;obtain⟨u,e⟩:∃b,(v.kind != 3&&!v.s.isEmpty)=b:=⟨_,rfl⟩;obtain⟨w,f⟩:∃b,(v.kind != 4&&decide (0<v.items.length))=b:=⟨_,rfl⟩;obtain⟨x,g⟩:∃b,(v.kind != 5&&decide (0<v.fields.length))=b:=⟨_,rfl⟩;obtain⟨y,i⟩:∃b,(v.kind==1&&!v7 v.n 0 1)=b:=⟨_,rfl⟩;obtain⟨z,j⟩:∃b,(v.kind==2&&!v7 v.n (-999999999999999) 999999999999999)=b:=⟨_,rfl⟩;obtain⟨A,k⟩:∃b,(decide ((500:Int)<v.s.length))=b:=⟨_,rfl⟩;obtain⟨B,l⟩:∃b,(!wX 32 126 v.s)=b:=⟨_,rfl⟩;obtain⟨p,a⟩:∃b,(decide ((100:Int)<v.items.length)||decide ((100:Int)<v.fields.length))=b:=⟨_,rfl⟩;rw[c,d,e,f,g,i,j,k,l,a]at o;cases r
 case true=>simp[m,c,d,e,f,g,i,j,k,l,a,o,f160]
 cases t
 case true=>simp[m,c,d,e,f,g,i,j,k,l,a,o,f160]
 cases u
 case true=>simp[m,c,d,e,f,g,i,j,k,l,a,o,f160]
 cases w
 case true=>simp[m,c,d,e,f,g,i,j,k,l,a,o,f160]
 cases x
 case true=>simp[m,c,d,e,f,g,i,j,k,l,a,o,f160]
 cases y
 case true=>simp[m,c,d,e,f,g,i,j,k,l,a,o,f160]
 cases z
 case true=>simp[m,c,d,e,f,g,i,j,k,l,a,o,f160]
 cases A
 case true=>simp[m,c,d,e,f,g,i,j,k,l,a,o,f160]
 cases B
 case true=>simp[m,c,d,e,f,g,i,j,k,l,a,o,f160]
 cases p
 case true=>simp[m,c,d,e,f,g,i,j,k,l,a,o,f160]
 simp[m,c,d,e,f,g,i,j,k,l,a,o,f160]
theorem eQ:zi prog 160 (GV fun v=>int (gF v)):=
 y3 (fn:=f160) (qx (q:=[161,162]) mixed ⟨Zx,fun _=>zt _ _,WN,fun _=>zt _ _,trivial⟩:AM.Good Crc _) (wc func160) false [] _ fun args r h=>by obtain⟨v,rfl,a,rfl⟩:=KY h;exact⟨by simp[f160],_,il v a.1,q9 _⟩
noncomputable abbrev Cra (n:Nat):Ctx:=qj prog [(106,zn false [] (FV (fun v=>int v.fault) n)),(160,GV fun v=>int (gF v)),(161,zn false [] (F3 v7)),(162,zn false [] (FS (wX 32 126)))]
@[simp]theorem qra2(n:Nat):kY (Cra n) 162:=jo (by rfl) (zt _ _)
theorem I8(a:za):(!v7 a.length 1 60||!wX 32 126 a)=mw a:=by
 unfold mw v7;cases a with
 |nil=>rfl
 |cons c a=>generalize wX 32 126 (c::a)=x;rw[q6];cases x<;>simp<;>omega
theorem pc(n:Nat)(v:Val)(h:v.vb<=qg/\v.vb<=n+1):zG (Cra n) f106 [.agg v.V]=some (int v.fault):=by
 have R:=kv v;have S:=yT v.items;have T:=kC v.fields;obtain⟨N,hb⟩:=h;have y:=fun Y Z=>Jr (fun v=>int (gF v)) v Y Z N
 unfold qg at N;have c:=BJ v;refine zu rfl ?_;by_cases B:gF v=0
 case neg=>
  have D:=VF B;have E:v.fault=gF v:=by rw[c];exact zf B
  simp[y,D,E,f106]
 have c:v.fault=if Zt v.items=0 then Vr none v.fields else Zt v.items:=by rw[c];exact zg B
 simp[y,B];refine ql (fun k M Y Z=>M 1=.ref 0 0 0/\M 16=.sl 5 (v.items.map Val.V)/\M 17=int v.items.length/\M 18=int k/\1<=Z/\Y 0=some ⟨43,5,false,[v.V]⟩/\Zt v.items=Zt (v.items.drop k)) v.items.length
  ⟨by simp,by simp,by simp,by simp,by simp,by simp,by simp⟩ ?_
 rintro k M Y Z P ⟨i,p,q,r,u,o,s⟩;have t:¬0=Z:=by omega
 by_cases b:k<v.items.length
 ·have U:=jZ (zw b);have Q:=wv k;have a:=fun Y Z=>X6 (fun v=>int v.fault) n v.items[k] Y Z ⟨by unfold qg;omega,by omega⟩
  rw[gC b]at s;by_cases d:v.items[k].fault=0
  ·rw[zg d]at s;simp[i,p,q,r,b,a,d,Q]
   and_intros<;>first|omega|exact s|simp[t,o]
  ·rw[zf d]at s;have m:=VF d;rw[s,zf d]at c;simp[i,p,q,r,b,a,m,c,f106]
 ·obtain rfl:k=v.items.length:=by omega
  rw[zA]at s;have s:Zt v.items=0:=by rw[s];rfl
  rw[s,zg rfl]at c;simp[i,p,q,r,o];refine ql (fun k M Y Z=>M 1=.ref 0 0 0/\M 29=.sl 6 (v.fields.map wN)/\M 30=int v.fields.length/\M 31=int k/\1<=Z/\Y 0=some ⟨43,5,false,[v.V]⟩/\v.fault=Vr (Qo v.fields k) (v.fields.drop k)) v.fields.length
   ⟨by simp[i],by simp,by simp,by simp,u,o,by simp[c,Qo]⟩ ?_
  clear i p q r u o b P t Z Y M c;rintro k M Y Z P ⟨i,e,f,g,u,o,c⟩;have t:¬0=Z:=by omega
  by_cases b:k<v.fields.length
  ·have U:=Zb (zw b);have Q:=wv k;have l:v.fields[k].1.length<=qg:=by unfold qg;omega
   have a:=fun Y Z=>X6 (fun v=>int v.fault) n v.fields[k].2 Y Z ⟨by unfold qg;omega,by omega⟩
   have en:=I8 v.fields[k].1;rw[gD b]at c;cases w:mw v.fields[k].1
   case true=>simp[i,e,f,g,b,l,en,w,c,f106]
   have z:Qo v.fields (k+1)=some v.fields[k].1:=by simp[Qo,b]
   simp only[w,zm,zQ]at c;by_cases W:k=0
   ·subst W;simp only[Qo,mx,zK,zm,zQ]at c;by_cases d:v.fields[0].2.fault=0
    ·rw[zg d]at c;have X:=wj 1;simp[i,e,f,g,b,l,en,w,a,d,X]
     and_intros<;>first|omega|(rw[c];rw[z];simp;done)|simp[t,o]
    ·rw[zf d]at c;have m:=VF d;simp[i,e,f,g,b,l,en,w,a,m,c,f106]
   ·obtain⟨j,rfl⟩:∃j,k=j+1:=⟨k-1,by omega⟩;have C:j<v.fields.length:=by omega
    have F:i6.wrap ((j:Int)+1-1)=(j:Int):=by rw[wU (by omega) (by omega)];omega
    have x:=wj (j:Int);have G:((j:Int)+1).toNat=j+1:=by omega
    have H:0<(j:Int)+1:=by omega
    have I:0<=(j:Int)+1:=by omega
    have J:(j:Int)+1<v.fields.length:=by omega
    have wk:=wj ((j:Int)+1+1);have K:(Op.bytesLess v.fields[j+1].1 v.fields[j].1||v.fields[j+1].1==v.fields[j].1)=MY v.fields[j+1].1 v.fields[j].1:=rfl;have L:Qo v.fields (j+1)=some v.fields[j].1:=by simp[Qo,C]
    simp only[L,mx]at c;cases A:MY v.fields[j+1].1 v.fields[j].1
    case true=>simp only[A,zK]at c;simp[i,e,f,g,b,C,l,en,w,a,o,t,F,x,G,H,I,J,K,A,c,f106]
    simp only[A,zm,zQ]at c;by_cases d:v.fields[j+1].2.fault=0
    ·rw[zg d]at c;simp[i,e,f,g,b,C,l,en,w,a,o,t,F,x,G,H,I,J,K,A,d,wk]
     and_intros<;>first|omega|(rw[c];rw[z])|simp[t,o]
    ·rw[zf d]at c;have m:=VF d;simp[i,e,f,g,b,C,l,en,w,a,o,t,F,x,G,H,I,J,K,A,m,c,f106]
  ·obtain rfl:k=v.fields.length:=by omega
   rw[zA]at c;have c:v.fault=0:=by rw[c];rfl
   simp[i,e,f,g,c,f106]
theorem mC:∀n,zi prog 106 (zn false [] (FV (fun v=>int v.fault) n)):=by
 intro n
 induction n with
 |zero=>exact tR ⟨_,func106,by kernel_rfl,by kernel_rfl⟩
 |succ n a=>
  have b:AM.Good (Cra n) (fun g=>[161,162].contains g):=qx mixed ⟨a,by simp,eQ,by simp,Zx,fun _=>zt _ _,WN,fun _=>zt _ _,trivial⟩;exact y3 (fn:=f106) b (wc func106) false [] _ fun args r h=>by obtain⟨v,rfl,c,rfl⟩:=KY h;exact⟨z8 (zk 1) (by decide),_,pc n v c,q9 _⟩
noncomputable abbrev Crch:Ctx:=qj prog [(106,GV fun v=>int v.fault),(105,zn false [] (FV2 (fun v l=>.wL [int (v.rp l).1,yh (v.rp l).2]) 1 9 qg))]
theorem ua:zi prog 76 (GV fun v=>int v.check):=
 y3 (fn:=f76) (qQ mixed ⟨mC qg,tZ qg,trivial⟩:AM.Good Crch _) (wc func76) false [] _ fun args r h=>by
  obtain⟨v,rfl,b,rfl⟩:=KY h;have c:=fun Y Z=>Jr (fun v=>int v.fault) v Y Z b.1
  have d:=fun Y Z=>BQ (fun v l=>.wL [int (v.rp l).1,yh (v.rp l).2]) 1 9 qg v 1 Y Z ⟨b.1,b.1,by omega,by omega⟩
  refine⟨by simp[f76],_,zu rfl ?_,q9 _⟩;have f:=N7 v;have a:((v.rp 1).2||decide (1000<(v.rp 1).1))=J6 (v.rp 1):=rfl;unfold Val.check;rw[<-f];cases e:J6 (v.rp 1)
  ·simp[c,d,a,e,f76]
  ·simp[c,d,a,e,f76]
structure Jst where
 p:Nat
 e:Int
 i:Nat
namespace Jst
def fail(N:Nat)(st:Jst)(k:Nat)(x:Int):Jst:=if st.e=0 then⟨st.p,x,min k N⟩else st
def qH(st:Jst):Jst:=⟨st.p+1,st.e,st.i⟩
def go(st:Jst)(k:Nat):Jst:=⟨st.p+k,st.e,st.i⟩
end Jst
def jg(c:UInt8):Bool:=decide (48<=c)&&decide (c<=57)
def J7(c:UInt8):Bool:=c==9||c==10||c==13||c==32
section
variable(s:za)
def jq(st:Jst):UInt8:=(s[st.p]?).getD 0
def Qe(st:Jst):Jst:=st.go ((s.drop st.p).takeWhile J7).length
def QK(st:Jst)(c:UInt8):Bool×Jst:=if st.e=0/\s[st.p]?=some c then(true,st.qH)else(false,st.fail s.length st.p 10)
def Ep:za->Jst->Jst
 |[],st=>st
 |c::l,st=>if(QK s st c).1=true then Ep l (QK s st c).2 else(QK s st c).2
def mD(most:Nat):za->Nat->Nat->Jst->Nat×Nat×Jst
 |[],n,m,st=>(n,m,if m=0 then st.fail s.length st.p 10 else st)
 |c::l,n,m,st=>if jg c=true then(if m=most then(n,m,st.fail s.length st.p 10)else mD most l (n*10+(c.toNat-48)) (m+1) st.qH)else(n,m,if m=0 then st.fail s.length st.p 10 else st)
def cx(most:Nat)(st:Jst):Nat×Nat×Jst:=mD s most (s.drop st.p) 0 0 st
def zV:Val:=.mk 0 0 [] [] []
def pd(n:Int):Val:=.mk 2 n [] [] []
def Xd(st:Jst):Nat×Jst:=if jq s st=48 then(0,if jg (jq s st.qH)=true then st.qH.fail s.length st.qH.p 10 else st.qH)else((cx s 12 st).1,(cx s 12 st).2.2)
def Wt(n:Nat)(st:Jst):Nat×Jst:=if st.e=0/\jq s st=46 then(n+(cx s 3 st.qH).1*10 ^ (3-(cx s 3 st.qH).2.1),(cx s 3 st.qH).2.2)else(n,st)
def aE(st:Jst):Val×Jst:=
 let c:=if jq s st=45 then st.qH else st
 let a:=Xd s c;let b:=Wt s (a.1*1000) a.2
 (pd (if jq s st=45 then -(b.1:Int)else b.1),b.2)
def KZ(c:UInt8):Option Nat:=if jg c=true then some (c.toNat-48)else if 97<=(c||| 32)/\(c||| 32)<=102 then some ((c||| 32).toNat-87)else none
def eB:Nat->Nat->Jst->Option Nat×Jst
 | 0,n,st=>(some n,st.qH)
 |k+1,n,st=>match(s[st.qH.p]?).bind KZ with
  |some d=>eB k (n*16+d) st.qH
  |none=>(none,st.qH.fail s.length st.qH.p 10)
def WQ(st:Jst):UInt8×Jst:=
 if st.p<s.length/\(jq s st=34\/jq s st=92\/jq s st=47)then(jq s st,st.qH)
 else if s.length<=st.p\/jq s st≠117 then(0,st.fail s.length st.p 10)
 else match(eB s 4 0 st).1 with
  |none=>(0,(eB s 4 0 st).2)
  |some n=>(UInt8.ofNat n,if n<32\/126<n then(eB s 4 0 st).2.fail s.length st.p 10 else(eB s 4 0 st).2)
def AZ:Nat->za->Jst->za×Jst
 | 0,_,st=>([],st)
 |k+1,b,st=>if st.e≠0 then([],st)else
  if s.length<=st.p\/jq s st<32\/126<jq s st then([],st.fail s.length st.p 10)
  else if jq s st=34 then(b,st.qH)
  else if jq s st=92 then AZ k (b++[(WQ s st.qH).1]) (WQ s st.qH).2
  else AZ k (b++[jq s st]) st.qH
def jt(st:Jst):za×Jst:=if(QK s st 34).1=true then AZ s (s.length+1) [] (QK s st 34).2 else([],(QK s st 34).2)
variable(f:Jst->Val×Jst)
def Er:Nat->List Val->Jst->List Val×Jst
 | 0,l,st=>(l,st)
 |k+1,l,st=>if st.e≠0 then(l,st)else
  let a:=Qe s (f st).2
  if a.e=0/\jq s a=44 then Er k (l++[(f st).1]) (Qe s a.qH)else(l++[(f st).1],(QK s a 93).2)
def Zy(st:Jst):List Val×Jst:=
 let a:=Qe s st.qH
 if jq s a=93 then([],a.qH)else Er s f (s.length+1) [] a
def Wu(seen:List za)(st:Jst):Jst:=if seen.contains (jt s st).1=true then(jt s st).2.fail s.length st.p 7 else(jt s st).2
def bF(seen:List za)(st:Jst):Jst:=Qe s (QK s (Qe s (Wu s seen st)) 58).2
def Es:Nat->List za->List (za×Val)->Jst->List (za×Val)×Jst
 | 0,_,l,st=>(l,st)
 |k+1,seen,l,st=>if st.e≠0 then(l,st)else
  let a:=bF s seen st
  if a.e≠0 then(l,a)else
  let b:=Qe s (f a).2
  if b.e=0/\jq s b=44 then Es k (seen++[(jt s st).1]) (l++[((jt s st).1,(f a).1)]) (Qe s b.qH)else(l++[((jt s st).1,(f a).1)],(QK s b 125).2)
def YJ(st:Jst):List (za×Val)×Jst:=
 let a:=Qe s st.qH
 if jq s a=125 then([],a.qH)else Es s f (s.length+1) [] [] a
end
def J8(a:List (za×Val)->List (za×Val))(s:za):Nat->Jst->Val×Jst
 | 0,st=>(zV,st)
 |k+1,st=>
  if s.length<=st.p then(zV,st.fail s.length st.p 10)
  else if jq s st=110 then(zV,Ep s [110,117,108,108] st)
  else if jq s st=116 then(.mk 1 1 [] [] [],Ep s [116,114,117,101] st)
  else if jq s st=102 then(.mk 1 0 [] [] [],Ep s [102,97,108,115,101] st)
  else if jq s st=34 then(.mk 3 0 (jt s st).1 [] [],(jt s st).2)
  else if jq s st=91 then(.mk 4 0 [] (Zy s (J8 a s k) st).1 [],(Zy s (J8 a s k) st).2)
  else if jq s st=123 then(.mk 5 0 [] [] (a (YJ s (J8 a s k) st).1),(YJ s (J8 a s k) st).2)
  else if jq s st=45\/jg (jq s st)=true then aE s st
  else(zV,st.fail s.length st.p 10)
def Zo(a:List (za×Val)->List (za×Val))(s:za)(p:Nat):Val×Nat×Int:=
 let r:=J8 a s (s.length+1) ⟨p,0,0⟩
 if r.2.e=0 then(r.1,r.2.p,0)else(zV,r.2.i,r.2.e)
end Go.Q
namespace Go.AM
variable{dr:Prop}
def n1(s:Nat):O->O
 | .nil=>.sl s []
 | .em=>.sl s []
 |x=>x
@[simp]theorem zix(s:Nat):n1 s .nil=.sl s []:=rfl
@[simp]theorem zi4(s:Nat):n1 s .em=.sl s []:=rfl
@[simp]theorem zi5(s t:Nat)(es:List zb):n1 s (.sl t es)=.sl t es:=rfl
@[simp]theorem n1_v(s:Nat)(x:Value):n1 s (.v x)=.v x:=rfl
def QL:List (Option Nat)->zb->zb
 |some s::l,x::xs=>n1 s x::QL l xs
 |none::l,x::xs=>x::QL l xs
 |_,xs=>xs
inductive Sh where
 |a
 |g (p:List (Option Nat))
 |s (n:Nat) (p:List (Option Nat))
def Sh.fix:Sh->O->O
 | .g p,.agg cs=>.agg (QL p cs)
 | .s _ p,.sl m es=>.sl m (es.map (QL p))
 | .s n _,x=>n1 n x
 |_,x=>x
@[simp]theorem Sh.zja(x:O):Sh.fix .a x=x:=by cases x<;>rfl
@[simp]theorem Sh.zjb(p:List (Option Nat))(cs:zb):Sh.fix (.g p) (.agg cs)=.agg (QL p cs):=rfl
@[simp]theorem Sh.oR(n m:Nat)(p:List (Option Nat))(es:List zb):Sh.fix (.s n p) (.sl m es)=.sl m (es.map (QL p)):=rfl
@[simp]theorem Sh.zig(n:Nat)(p:List (Option Nat)):Sh.fix (.s n p) .nil=.sl n []:=rfl
@[simp]theorem Sh.ziP(n:Nat)(p:List (Option Nat)):Sh.fix (.s n p) .em=.sl n []:=rfl
attribute [simp] QL
def cX:List Sh->zb->zb
 |h::l,x::xs=>h.fix x::cX l xs
 |_,xs=>xs
attribute [simp] cX
theorem I9(s:Nat)(x:O):wW x (n1 s x):=by
 intro w S u h;cases x with
 |nil=>exact cW .nil h
 |em=>exact cW .em h
 |_=>exact h
theorem vP:∀(p:List (Option Nat)) (cs:zb),(QL p cs).length=cs.length
 |[],cs=>by cases cs<;>rfl
 |none::p,[]=>rfl
 |some s::p,[]=>rfl
 |none::p,x::cs=>by simp[vP p cs]
 |some s::p,x::cs=>by simp[vP p cs]
theorem Zc:∀(p:List (Option Nat)) (cs:zb),xB cs (QL p cs)
 |[],[]=>.nil
 |[],x::cs=>by have:=Zc [] cs;rw[show QL [] cs=cs by cases cs<;>rfl]at this;exact .cons (wW.refl x) this
 |none::p,[]=>.nil
 |some s::p,[]=>.nil
 |none::p,x::cs=>.cons (wW.refl x) (Zc p cs)
 |some s::p,x::cs=>.cons (I9 s x) (Zc p cs)
theorem K0(h:Sh)(x:O):wW x (h.fix x):=by
 intro w S u k;cases h with
 |a=>simpa using k
 |g p=>
  cases x with
  |agg cs=>exact(Zc p cs).agg w S u k
  |_=>exact k
 |s n p=>
  cases x with
  |sl m es=>
   cases k with
   |sl us q r t v y z=>
    rename_i A cap;have:=wT.sl (w:=w) (S:=S) (es:=es.map (QL p)) (A:=A) (cap:=cap) (s:=m) us q (by simpa using r) t (fun c B=>by
     obtain⟨b,e,rfl⟩:=qq.1 B;rw[vP];exact v b e) (fun i j c C d o=>by
     rw[qD]at d;obtain⟨b,e,rfl⟩:∃b,es[i]?=some b/\QL p b=c:=by
      cases l:es[i]? with
      |none=>rw[l]at d;cases d
      |some b=>rw[l]at d;injection d with d;exact⟨b,rfl,d⟩
     have f:j<b.length:=by have:=(zj.1 o).1;rwa [vP]at this
     exact y i j b _ e (zo f)) (fun i j c C d o=>by
     rw[qD]at d;obtain⟨b,e,rfl⟩:∃b,es[i]?=some b/\QL p b=c:=by
      cases l:es[i]? with
      |none=>rw[l]at d;cases d
      |some b=>rw[l]at d;injection d with d;exact⟨b,rfl,d⟩
     have f:j<b.length:=by have:=(zj.1 o).1;rwa [vP]at this
     exact(Zc p b).get (zo f) o _ _ _ (z i j b _ e (zo f)))
    rw[yj]at this;exact this
  |nil=>exact cW .nil k
  |em=>exact cW .em k
  |_=>exact k
theorem J9{w:World}{S:Nat->Prop}:∀{hs:List Sh} {xs:zb} {us:List Value},Zip (wT w S) xs us->Zip (wT w S) (cX hs xs) us
 |[],xs,us,h=>by cases xs<;>exact h
 |s::hs,[],us,h=>h
 |s::hs,x::xs,us,h=>by obtain⟨u,a,rfl,b,c⟩:=h.jX;exact .cons (K0 s x w S u b) (J9 c)
def qK(a:List Sh)(F:zb->Option O):AM.Spec:=zn false [] fun args=>F (cX a args)
theorem jn(a:List Sh)(F:zb->Option O):QQ (qK a F):=zt _ _
theorem yf{C:Ctx}{pf:FuncId->Bool}{f:FuncId}{fn:Func}(b:jH dr C pf)(c:bE C pf f fn)(a:List Sh)(F:zb->Option O)
  (d:∀args r,F args=some r->args.length<=fn.ntmps/\∃r0,zG C fn args=some r0/\wW r0 r):wO dr C.P f (qK a F):=
 Js b c false [] _ fun args r h w S vs e=>by obtain⟨g,r0,i,j⟩:=d _ _ h;exact⟨cX a args,r0,J9 e,g,i,j⟩
theorem vL{a:List Sh}{F:zb->Option O}{args:zb}{Y:Hp}{Z:Nat}{b:zb}{r:O}(c:zH Y args=some (b,Y))(d:F (cX a b)=some r)(e:r.flat=true\/args.all O.noOwn=true) :
  qK a F args Y Z=some (r,Y,Z):=by
 have f:yR [] b=b:=by cases b<;>rfl
 exact jm c (by rw[f];exact d) e
def cY(sh:Sh)(r:O)(x:O)(Y:Hp)(_:Nat):Prop:=∃r0,(AM.freeze Y x).map (·.1)=some r0/\sh.fix r0=r
theorem Ye{C:Ctx}{fn:Func}{code:Code}{args:zb}{sh:Sh}{r:O}(a:fn.body=some code)
  (h:Zl C code ⟨km args,fun _=>none,0⟩ (KO C.P fn (cY sh r))):∃r0,zG C fn args=some r0/\wW r0 r:=by
 obtain⟨x,e,f,b,r0,c,d⟩:=w9 a h;exact⟨r0,by unfold zG;simp only[b];exact c,d ▸ K0 sh r0⟩
def qy(sh:Sh)(r:O)(x:O)(Y:Hp)(_:Nat):Prop:=∃r0 y,(AM.freeze Y x).map (·.1)=some (.wL [r0,y])/\.wL [sh.fix r0,y]=r
theorem y6{C:Ctx}{fn:Func}{code:Code}{args:zb}{sh:Sh}{r:O}(a:fn.body=some code)
  (h:Zl C code ⟨km args,fun _=>none,0⟩ (KO C.P fn (qy sh r))):∃r0,zG C fn args=some r0/\wW r0 r:=by
 obtain⟨x,e,f,b,r0,y,c,d⟩:=w9 a h;exact⟨.wL [r0,y],by unfold zG;simp only[b];exact c,d ▸ (xB.cons (K0 sh r0) (.cons (wW.refl y) .nil)).wL⟩
theorem j5{P:Program}{g:FuncId}{F:zb->Option O}(j:∃fn,P.funcs[g]?=some fn/\(fn.name== "runtime.NumGoroutine")=false/\fn.body.isNone=false)
  (h:∀args r,F args=some r->∃us:List Value,args=us.map O.v/\(∀u∈us,lit u=true)/\r.flat=true/\∃v,(∀w S,wT w S r v)/\∀w S,Ij P w S->Calls P g us.toArray w fun e s=>e=.returned v/\Fr dr w (fun _=>False) s):wO dr P g (zn false [] F):=by
 refine⟨j,?_⟩;intro args Y Z r L N hs w S G vs t z;unfold zn at hs;split at hs
 ·rename_i k Y1 m;split at hs
  ·rename_i r0 A;obtain⟨us,e,B,n,v,C,D⟩:=h _ _ A;have E:yR [] k=k:=by cases k<;>rfl
   rw[E]at e;subst e;have d:args=us.map O.v:=by
    have o:∀(args:zb) (us:List Value) (Y1:Hp),zH Y args=some (us.map O.v,Y1)->args=us.map O.v:=by
     intro args
     induction args with
     |nil=>intro us Y1 b;simp only[zH]at b;injection b with b;injection b with b _
     |cons x l H=>
      intro us Y1 b;simp only[zH]at b;split at b
      ·rename_i y Y2 a;split at b
       ·rename_i Q p q;injection b with b
        injection b with b _;cases us with
        |nil=>simp at b
        |cons u us=>
         simp only[wK,zq]at b;obtain⟨rfl,rfl⟩:=b;have I:x=.v u/\Y2=Y:=by
          unfold zO at a;split at a
          ·split at a
           ·injection a with a;injection a with a _;cases a
           ·cases a
          ·unfold qp at a;split at a<;>first
            |(split at a<;>first|(split at a<;>first|(injection a with a;injection a with a _;cases a;done)|cases a)|cases a)
            |(injection a with a;injection a with i f;first|(exact⟨by rw[<-i],f.symm⟩)|cases i)
            |cases a
         obtain⟨rfl,rfl⟩:=I;rw[H us p q];rfl
       ·cases b
      ·cases b
    exact o args us Y1 m
   subst d;simp only[n,true_or,zK]at hs;injection hs with hs
   injection hs with i f;injection f with f J;subst i;subst f;subst J;rw[mi B z];refine(D w S t.eC).mono fun e s b=>?_
   obtain⟨rfl,K⟩:=b;exact⟨v,_,G,rfl,kN.outer t K,.c (C _ _)⟩
  ·cases hs
 ·cases hs
end Go.AM
namespace Go.Proofs
open Go.Shelf
def Tryz.Ea:Go.Shelf.Ren:=⟨fun|161=>215|231=>260|227=>262|233=>263|235=>265|228=>299|197=>187|151=>300|260=>229|152=>317|137=>61|119=>325|224=>281|225=>280|217=>78|266=>110|n=>n,fun|9=>9|4=>4|3=>3|5=>5|117=>253|116=>252|0=>0|124=>256|105=>189|21=>21|119=>264|46=>88|139=>267|138=>266|n=>n,fun|3=>1|4=>2|n=>n⟩
theorem Tryz.zbp:Go.Proofs.Lays.n161 prog Tryz.Ea:={
 mixed:=by kernel_rfl
 f119:=func325.trans (zp some (by kernel_rfl))
 f137:=func61.trans (zp some (by kernel_rfl))
 f151:=func300.trans (zp some (by kernel_rfl))
 f152:=func317.trans (zp some (by kernel_rfl))
 f161:=func215.trans (zp some (by kernel_rfl))
 f197:=func187.trans (zp some (by kernel_rfl))
 f217:=func78.trans (zp some (by kernel_rfl))
 f224:=func281.trans (zp some (by kernel_rfl))
 f225:=func280.trans (zp some (by kernel_rfl))
 f227:=func262.trans (zp some (by kernel_rfl))
 f228:=func299.trans (zp some (by kernel_rfl))
 f231:=func260.trans (zp some (by kernel_rfl))
 f233:=func263.trans (zp some (by kernel_rfl))
 f235:=func265.trans (zp some (by kernel_rfl))
 f260:=func229.trans (zp some (by kernel_rfl))
 f266:=func110.trans (zp some (by kernel_rfl))
 t0:=underlying0
 a0:=isAgg0
 z0:=sizeOf0
 v0:=zeroValue0
 t3:=underlying3
 a3:=isAgg3
 z3:=sizeOf3
 v3:=zeroValue3
 t4:=underlying4
 a4:=isAgg4
 z4:=sizeOf4
 v4:=zeroValue4
 t5:=underlying5
 a5:=isAgg5
 z5:=sizeOf5
 v5:=zeroValue5
 t9:=underlying9
 a9:=isAgg9
 z9:=sizeOf9
 v9:=zeroValue9
 t21:=underlying21
 a21:=isAgg21
 z21:=sizeOf21
 v21:=zeroValue21
 t46:=underlying88
 a46:=isAgg88
 z46:=sizeOf88
 v46:=zeroValue88
 t105:=underlying189
 a105:=isAgg189
 z105:=sizeOf189
 v105:=zeroValue189
 t116:=underlying252
 a116:=isAgg252
 z116:=sizeOf252
 t117:=underlying253
 a117:=isAgg253
 z117:=sizeOf253
 v117:=zeroValue253
 t119:=underlying264
 a119:=isAgg264
 z119:=sizeOf264
 t124:=underlying256
 a124:=isAgg256
 z124:=sizeOf256
 v124:=zeroValue256
 t138:=underlying266
 a138:=isAgg266
 z138:=sizeOf266
 v138:=zeroValue266
 t139:=underlying267
 a139:=isAgg267
 z139:=sizeOf267
 v139:=zeroValue267
 g3:=by kernel_rfl
 g4:=by kernel_rfl}
def Tryz.Eb:Go.Shelf.Ren:=⟨fun|160=>214|232=>261|231=>260|227=>262|234=>264|233=>263|236=>266|235=>265|228=>299|271=>301|151=>300|197=>187|120=>318|152=>317|260=>229|137=>61|119=>325|224=>281|225=>280|217=>78|266=>110|n=>n,fun|9=>9|4=>4|3=>3|5=>5|117=>253|116=>252|0=>0|124=>256|21=>21|105=>189|46=>88|119=>264|139=>267|138=>266|n=>n,fun|3=>1|4=>2|n=>n⟩
theorem Tryz.zbq:Go.Proofs.Lays.n160 prog Tryz.Eb:={
 mixed:=by kernel_rfl
 f119:=func325.trans (zp some (by kernel_rfl))
 f120:=func318.trans (zp some (by kernel_rfl))
 f137:=func61.trans (zp some (by kernel_rfl))
 f151:=func300.trans (zp some (by kernel_rfl))
 f152:=func317.trans (zp some (by kernel_rfl))
 f160:=func214.trans (zp some (by kernel_rfl))
 f197:=func187.trans (zp some (by kernel_rfl))
 f217:=func78.trans (zp some (by kernel_rfl))
 f224:=func281.trans (zp some (by kernel_rfl))
 f225:=func280.trans (zp some (by kernel_rfl))
 f227:=func262.trans (zp some (by kernel_rfl))
 f228:=func299.trans (zp some (by kernel_rfl))
 f231:=func260.trans (zp some (by kernel_rfl))
 f232:=func261.trans (zp some (by kernel_rfl))
 f233:=func263.trans (zp some (by kernel_rfl))
 f234:=func264.trans (zp some (by kernel_rfl))
 f235:=func265.trans (zp some (by kernel_rfl))
 f236:=func266.trans (zp some (by kernel_rfl))
 f260:=func229.trans (zp some (by kernel_rfl))
 f266:=func110.trans (zp some (by kernel_rfl))
 f271:=func301.trans (zp some (by kernel_rfl))
 t0:=underlying0
 a0:=isAgg0
 z0:=sizeOf0
 v0:=zeroValue0
 t3:=underlying3
 a3:=isAgg3
 z3:=sizeOf3
 v3:=zeroValue3
 t4:=underlying4
 a4:=isAgg4
 z4:=sizeOf4
 v4:=zeroValue4
 t5:=underlying5
 a5:=isAgg5
 z5:=sizeOf5
 v5:=zeroValue5
 t9:=underlying9
 a9:=isAgg9
 z9:=sizeOf9
 v9:=zeroValue9
 t21:=underlying21
 a21:=isAgg21
 z21:=sizeOf21
 v21:=zeroValue21
 t46:=underlying88
 a46:=isAgg88
 z46:=sizeOf88
 v46:=zeroValue88
 t105:=underlying189
 a105:=isAgg189
 z105:=sizeOf189
 v105:=zeroValue189
 t116:=underlying252
 a116:=isAgg252
 z116:=sizeOf252
 t117:=underlying253
 a117:=isAgg253
 z117:=sizeOf253
 v117:=zeroValue253
 t119:=underlying264
 a119:=isAgg264
 z119:=sizeOf264
 t124:=underlying256
 a124:=isAgg256
 z124:=sizeOf256
 v124:=zeroValue256
 t138:=underlying266
 a138:=isAgg266
 z138:=sizeOf266
 v138:=zeroValue266
 t139:=underlying267
 a139:=isAgg267
 z139:=sizeOf267
 v139:=zeroValue267
 g3:=by kernel_rfl
 g4:=by kernel_rfl}
def Tryz.Ec:Go.Shelf.Ren:=⟨fun|137=>61|217=>78|266=>110|n=>n,fun|9=>9|5=>5|3=>3|n=>n,fun|n=>n⟩
theorem Tryz.zbr:Go.Proofs.Lays.n137 prog Tryz.Ec:={
 mixed:=by kernel_rfl
 f137:=func61.trans (zp some (by kernel_rfl))
 f217:=func78.trans (zp some (by kernel_rfl))
 f266:=func110.trans (zp some (by kernel_rfl))
 t3:=underlying3
 a3:=isAgg3
 z3:=sizeOf3
 v3:=zeroValue3
 t5:=underlying5
 a5:=isAgg5
 z5:=sizeOf5
 v5:=zeroValue5
 t9:=underlying9
 a9:=isAgg9
 z9:=sizeOf9
 v9:=zeroValue9}
def Tryz.Ed:Go.Shelf.Ren:=⟨fun|172=>157|244=>204|245=>205|247=>249|279=>250|280=>251|281=>252|282=>253|287=>293|316=>294|171=>296|205=>295|321=>314|322=>315|243=>316|246=>324|283=>329|284=>330|285=>331|286=>332|129=>127|317=>333|318=>334|319=>335|320=>336|337=>337|338=>338|n=>n,fun|9=>9|3=>3|75=>162|76=>163|4=>4|5=>5|167=>238|37=>157|0=>0|85=>239|2=>2|168=>241|53=>133|175=>274|46=>88|210=>277|127=>248|145=>294|143=>292|21=>21|171=>307|173=>309|212=>316|51=>131|20=>20|213=>317|232=>318|233=>319|80=>45|n=>n,fun|15=>3|16=>4|17=>6|18=>7|19=>8|n=>n⟩
theorem Tryz.Ip:Go.Proofs.Lays.n172 prog Tryz.Ed:={
 mixed:=by kernel_rfl
 f129:=func127.trans (zp some (by kernel_rfl))
 f171:=func296.trans (zp some (by kernel_rfl))
 f172:=func157.trans (zp some (by kernel_rfl))
 f205:=func295.trans (zp some (by kernel_rfl))
 f243:=func316.trans (zp some (by kernel_rfl))
 f244:=func204.trans (zp some (by kernel_rfl))
 f245:=func205.trans (zp some (by kernel_rfl))
 f246:=func324.trans (zp some (by kernel_rfl))
 f247:=func249.trans (zp some (by kernel_rfl))
 f279:=func250.trans (zp some (by kernel_rfl))
 f280:=func251.trans (zp some (by kernel_rfl))
 f281:=func252.trans (zp some (by kernel_rfl))
 f282:=func253.trans (zp some (by kernel_rfl))
 f283:=func329.trans (zp some (by kernel_rfl))
 f284:=func330.trans (zp some (by kernel_rfl))
 f285:=func331.trans (zp some (by kernel_rfl))
 f286:=func332.trans (zp some (by kernel_rfl))
 f287:=func293.trans (zp some (by kernel_rfl))
 f316:=func294.trans (zp some (by kernel_rfl))
 f317:=func333.trans (zp some (by kernel_rfl))
 f318:=func334.trans (zp some (by kernel_rfl))
 f319:=func335.trans (zp some (by kernel_rfl))
 f320:=func336.trans (zp some (by kernel_rfl))
 f321:=func314.trans (zp some (by kernel_rfl))
 f322:=func315.trans (zp some (by kernel_rfl))
 f337:=func337.trans (zp some (by kernel_rfl))
 f338:=func338.trans (zp some (by kernel_rfl))
 t0:=underlying0
 a0:=isAgg0
 z0:=sizeOf0
 v0:=zeroValue0
 t2:=underlying2
 a2:=isAgg2
 z2:=sizeOf2
 v2:=zeroValue2
 t3:=underlying3
 a3:=isAgg3
 z3:=sizeOf3
 v3:=zeroValue3
 t4:=underlying4
 a4:=isAgg4
 z4:=sizeOf4
 v4:=zeroValue4
 t5:=underlying5
 a5:=isAgg5
 z5:=sizeOf5
 v5:=zeroValue5
 t9:=underlying9
 a9:=isAgg9
 z9:=sizeOf9
 v9:=zeroValue9
 t20:=underlying20
 a20:=isAgg20
 z20:=sizeOf20
 v20:=zeroValue20
 t21:=underlying21
 a21:=isAgg21
 z21:=sizeOf21
 v21:=zeroValue21
 t37:=underlying157
 a37:=isAgg157
 z37:=sizeOf157
 v37:=zeroValue157
 t46:=underlying88
 a46:=isAgg88
 z46:=sizeOf88
 v46:=zeroValue88
 t51:=underlying131
 a51:=isAgg131
 z51:=sizeOf131
 v51:=zeroValue131
 t53:=underlying133
 a53:=isAgg133
 z53:=sizeOf133
 v53:=zeroValue133
 t75:=underlying162
 a75:=isAgg162
 z75:=sizeOf162
 v75:=zeroValue162
 t76:=underlying163
 a76:=isAgg163
 z76:=sizeOf163
 v76:=zeroValue163
 t85:=underlying239
 a85:=isAgg239
 z85:=sizeOf239
 v85:=zeroValue239
 t127:=underlying248
 a127:=isAgg248
 z127:=sizeOf248
 v127:=zeroValue248
 t143:=underlying292
 a143:=isAgg292
 z143:=sizeOf292
 v143:=zeroValue292
 t145:=underlying294
 a145:=isAgg294
 z145:=sizeOf294
 v145:=zeroValue294
 t167:=underlying238
 a167:=isAgg238
 z167:=sizeOf238
 v167:=zeroValue238
 t168:=underlying241
 a168:=isAgg241
 z168:=sizeOf241
 v168:=zeroValue241
 t171:=underlying307
 a171:=isAgg307
 z171:=sizeOf307
 v171:=zeroValue307
 t173:=underlying309
 a173:=isAgg309
 z173:=sizeOf309
 v173:=zeroValue309
 t175:=underlying274
 a175:=isAgg274
 z175:=sizeOf274
 v175:=zeroValue274
 t210:=underlying277
 a210:=isAgg277
 z210:=sizeOf277
 v210:=zeroValue277
 t212:=underlying316
 a212:=isAgg316
 z212:=sizeOf316
 v212:=zeroValue316
 t213:=underlying317
 a213:=isAgg317
 z213:=sizeOf317
 t232:=underlying318
 a232:=isAgg318
 z232:=sizeOf318
 v232:=zeroValue318
 t233:=underlying319
 a233:=isAgg319
 z233:=sizeOf319
 v233:=zeroValue319
 g15:=by kernel_rfl
 g16:=by kernel_rfl
 g17:=by kernel_rfl
 g18:=by kernel_rfl
 g19:=by kernel_rfl}
def Tryz.Ee:Go.Shelf.Ren:=⟨fun|219=>230|217=>78|225=>280|224=>281|267=>282|266=>110|314=>307|n=>n,fun|9=>9|3=>3|4=>4|5=>5|46=>88|146=>244|51=>131|n=>n,fun|1=>0|n=>n⟩
theorem Tryz.zbs:Go.Proofs.Lays.n219 prog Tryz.Ee:={
 mixed:=by kernel_rfl
 f217:=func78.trans (zp some (by kernel_rfl))
 f219:=func230.trans (zp some (by kernel_rfl))
 f224:=func281.trans (zp some (by kernel_rfl))
 f225:=func280.trans (zp some (by kernel_rfl))
 f266:=func110.trans (zp some (by kernel_rfl))
 f267:=func282.trans (zp some (by kernel_rfl))
 f314:=func307.trans (zp some (by kernel_rfl))
 t3:=underlying3
 a3:=isAgg3
 z3:=sizeOf3
 v3:=zeroValue3
 t4:=underlying4
 a4:=isAgg4
 z4:=sizeOf4
 v4:=zeroValue4
 t5:=underlying5
 a5:=isAgg5
 z5:=sizeOf5
 v5:=zeroValue5
 t9:=underlying9
 a9:=isAgg9
 z9:=sizeOf9
 v9:=zeroValue9
 t46:=underlying88
 a46:=isAgg88
 z46:=sizeOf88
 v46:=zeroValue88
 t51:=underlying131
 a51:=isAgg131
 z51:=sizeOf131
 v51:=zeroValue131
 t146:=underlying244
 a146:=isAgg244
 z146:=sizeOf244
 v146:=zeroValue244
 g1:=by kernel_rfl}
def Tryz.Ef:Go.Shelf.Ren:=⟨fun|138=>213|195=>258|218=>259|143=>188|219=>230|217=>78|225=>280|224=>281|267=>282|266=>110|314=>307|n=>n,fun|9=>9|3=>3|4=>4|5=>5|0=>0|46=>88|146=>244|51=>131|n=>n,fun|1=>0|n=>n⟩
theorem Tryz.zbt:Go.Proofs.Lays.n138 prog Tryz.Ef:={
 mixed:=by kernel_rfl
 f138:=func213.trans (zp some (by kernel_rfl))
 f143:=func188.trans (zp some (by kernel_rfl))
 f195:=func258.trans (zp some (by kernel_rfl))
 f217:=func78.trans (zp some (by kernel_rfl))
 f218:=func259.trans (zp some (by kernel_rfl))
 f219:=func230.trans (zp some (by kernel_rfl))
 f224:=func281.trans (zp some (by kernel_rfl))
 f225:=func280.trans (zp some (by kernel_rfl))
 f266:=func110.trans (zp some (by kernel_rfl))
 f267:=func282.trans (zp some (by kernel_rfl))
 f314:=func307.trans (zp some (by kernel_rfl))
 t0:=underlying0
 a0:=isAgg0
 z0:=sizeOf0
 v0:=zeroValue0
 t3:=underlying3
 a3:=isAgg3
 z3:=sizeOf3
 v3:=zeroValue3
 t4:=underlying4
 a4:=isAgg4
 z4:=sizeOf4
 v4:=zeroValue4
 t5:=underlying5
 a5:=isAgg5
 z5:=sizeOf5
 v5:=zeroValue5
 t9:=underlying9
 a9:=isAgg9
 z9:=sizeOf9
 v9:=zeroValue9
 t46:=underlying88
 a46:=isAgg88
 z46:=sizeOf88
 v46:=zeroValue88
 t51:=underlying131
 a51:=isAgg131
 z51:=sizeOf131
 v51:=zeroValue131
 t146:=underlying244
 a146:=isAgg244
 z146:=sizeOf244
 v146:=zeroValue244
 g1:=by kernel_rfl}
end Go.Proofs
namespace Go.Q
noncomputable def WV (f:za->za->O) (pre:za->za->Prop):zb->Option O:=qW (α:=za×za) (fun a=>[str a.1,str a.2]) (fun a=>a.1.length<=qg/\a.2.length<=qg/\pre a.1 a.2) (fun a=>f a.1 a.2)
theorem E7:∀a b:za×za,[str a.1,str a.2]=[str b.1,str b.2]->a=b:=by rintro⟨c,d⟩ ⟨f,g⟩ e;simp only[zq,qh]at e;rw[yp e.1,yp e.2]
theorem Zz(f:za->za->O)(pre:za->za->Prop)(a b:za)(Y:Hp)(Z:Nat)(h:a.length<=qg)(c:b.length<=qg)(d:pre a b)(e:(f a b).flat=true):zn false [] (WV f pre) [str a,str b] Y Z=some (f a b,Y,Z):=
 iX (a,b) _ _ rfl E7 ⟨h,c,d⟩ (.inl e)
theorem xr{f:za->za->O}{pre:za->za->Prop}{args:zb}{r:O}(h:WV f pre args=some r):∃a b,args=[str a,str b]/\a.length<=qg/\b.length<=qg/\pre a b/\r=f a b:=by obtain⟨⟨a,b⟩,rfl,⟨c,d,e⟩,rfl⟩:=zL h;exact⟨a,b,rfl,c,d,e,rfl⟩
theorem Hl:Nc prog 0:=by refine⟨Ig (by kernel_rfl),#[.int .i64 0],3,by kernel_rfl,rfl,by kernel_rfl,by kernel_rfl,by kernel_rfl⟩
def E8(a b:za):O:=int (Lib.index a b)
def cntP(a b:za):O:=int (Lib.count a b)
theorem BS:zi prog 230 (zn false [] (WV E8 fun _ _=>True)):=
 j5 ⟨_,func230,by kernel_rfl,by kernel_rfl⟩ fun args r h=>by
  obtain⟨a,b,rfl,c,d,_,rfl⟩:=xr h;unfold qg at c d;refine⟨[.string ⟨a.toArray⟩,.string ⟨b.toArray⟩],rfl,by simp[lit],rfl,.int .i64 (Lib.index a b),fun w S=>.v rfl,fun w S f=>?_⟩;obtain⟨_,m,g⟩:=f.1 0 Hl;refine(Any.stringslite_Index Tryz.zbs ⟨a.toArray⟩ ⟨b.toArray⟩ m w (by simp;omega) g).mono fun e j i=>?_
  obtain⟨rfl,rfl⟩:=i;exact⟨by simp,Fr.refl _ _⟩
theorem ub:zi prog 213 (zn false [] (WV cntP fun _ b=>1<=b.length)):=
 j5 ⟨_,func213,by kernel_rfl,by kernel_rfl⟩ fun args r h=>by
  obtain⟨a,b,rfl,c,d,f,rfl⟩:=xr h;unfold qg at c d;refine⟨[.string ⟨a.toArray⟩,.string ⟨b.toArray⟩],rfl,by simp[lit],rfl,.int .i64 (Lib.count a b),fun w S=>.v rfl,fun w S g=>?_⟩;obtain⟨_,m,i⟩:=g.1 0 Hl;refine(Any.strings_Count_any Tryz.zbt ⟨a.toArray⟩ ⟨b.toArray⟩ m w (by simp;omega) i (by simpa using f)).mono fun e k j=>?_
  obtain⟨rfl,rfl⟩:=j;exact⟨by simp[Lib.countB],Fr.refl _ _⟩
noncomputable abbrev Ci:Ctx:=qj prog [(230,zn false [] (WV E8 fun _ _=>True))]
theorem zbR:AM.Good Ci (fun g=>[230].contains g):=qx mixed ⟨BS,fun _=>zt _ _,trivial⟩
theorem Ka(a b:za)(Y:Hp)(Z:Nat)(h:a.length<=qg)(c:b.length<=qg):zn false [] (WV E8 fun _ _=>True) [str a,str b] Y Z=some (int (Lib.index a b),Y,Z):=Zz _ _ a b Y Z h c trivial rfl
theorem cZ:zi prog 188 (zn false [] (WV E8 fun _ _=>True)):=
 y3 (fn:=f188) zbR (wc func188) false [] _ fun args r h=>by obtain⟨a,b,rfl,c,d,_,rfl⟩:=xr h;exact⟨by simp[f188],_,zu rfl (by simp[Ka,c,d,E8,f188]),q9 _⟩
noncomputable abbrev Ci2:Ctx:=qj prog [(188,zn false [] (WV E8 fun _ _=>True)),(213,zn false [] (WV cntP fun _ b=>1<=b.length))]
theorem Oa:AM.Good Ci2 (fun g=>[188].contains g):=qx mixed ⟨cZ,fun _=>zt _ _,ub,fun _=>zt _ _,trivial⟩
def T6(a b:za):O:=yh (Lib.contains a b)
theorem mE:zi prog 190 (zn false [] (WV T6 fun _ _=>True)):=
 y3 (fn:=f190) Oa (wc func190) false [] _ fun args r h=>by obtain⟨a,b,rfl,c,d,_,rfl⟩:=xr h;exact⟨by simp[f190],_,zu rfl (by simp[Ka,c,d,T6,Lib.contains,f190]),q9 _⟩
def pg(a b:za):O:=.wL [str (Lib.cut a b).1,str (Lib.cut a b).2.1,yh (Lib.cut a b).2.2]
theorem Ob(a b:za)(c:a.length<=qg)(d:b.length<=qg):zG Ci f267 [str a,str b]=some (pg a b):=by
 refine zu rfl ?_;unfold qg at c d;by_cases h:0<=Lib.index a b
 ·have l:=Lib.index_room a b h;have e:Lib.cut a b=(a.take (Lib.index a b).toNat,a.drop ((Lib.index a b).toNat+b.length),true):=by unfold Lib.cut;rw[zg h]
  have f:=wj (Lib.index a b+b.length);have g:(Lib.index a b+b.length).toNat=(Lib.index a b).toNat+b.length:=by omega
  have i:0<=Lib.index a b+b.length:=by omega
  have j:(Lib.index a b).toNat<=a.length:=by omega
  have k:(Lib.index a b).toNat+b.length<=a.length:=by omega
  simp[Ka,qg,c,d,h,f,g,i,j,k,pg,e,yx,f267];rw[qi (by simp)]
 ·have e:Lib.cut a b=(a,[],false):=by unfold Lib.cut;rw[zf h]
  simp[Ka,qg,c,d,h,pg,e,yx,f267]
theorem La:zi prog 267 (zn false [] (WV pg fun _ _=>True)):=
 y3 (fn:=f267) zbR (wc func267) false [] _ fun args r h=>by obtain⟨a,b,rfl,c,d,_,rfl⟩:=xr h;exact⟨by simp[f267],_,Ob a b c d,q9 _⟩
def E9(a b:za):O:=yh (b.isPrefixOf a)
theorem BT(a b:za):(decide (b.length<=a.length)&&(a.take b.length==b))=b.isPrefixOf a:=by
 rw[q6];simp only[zD,q5,yI,vi];constructor
 ·rintro⟨_,h⟩;exact bq.2 h.symm
 ·intro h;exact⟨h.length_le,(bq.1 h).symm⟩
noncomputable abbrev Cw0:Ctx:=qj prog []
theorem zcS:Gd Cw0:=qx mixed trivial
theorem im(a b:za):zG Cw0 f70 [str a,str b]=some (E9 a b):=by
 refine zu rfl ?_;have Y:=BT a b;by_cases h:b.length<=a.length
 ·rw[ep h,XW]at Y;simp[h,E9,<-Y,f70]
 ·rw[decide_eq_false h,Bool.false_and]at Y;have c:¬((b.length:Int)<=a.length):=by omega
  simp[h,c,E9,<-Y,f70]
theorem eR:zi prog 70 (zn false [] (WV E9 fun _ _=>True)):=
 y3 (fn:=f70) zcS (wc func70) false [] _ fun args r h=>by obtain⟨a,b,rfl,c,d,_,rfl⟩:=xr h;exact⟨by simp[f70],_,im a b,q9 _⟩
noncomputable abbrev Cw1:Ctx:=qj prog [(70,zn false [] (WV E9 fun _ _=>True)),(267,zn false [] (WV pg fun _ _=>True))]
theorem Fa:AM.Good Cw1 (fun g=>[70].contains g):=qx mixed ⟨eR,fun _=>zt _ _,La,fun _=>zt _ _,trivial⟩
theorem Yf(a b:za)(Y:Hp)(Z:Nat)(h:a.length<=qg)(c:b.length<=qg):zn false [] (WV E9 fun _ _=>True) [str a,str b] Y Z=some (yh (b.isPrefixOf a),Y,Z):=Zz _ _ a b Y Z h c trivial rfl
theorem mF(a b:za)(Y:Hp)(Z:Nat)(h:a.length<=qg)(c:b.length<=qg):zn false [] (WV pg fun _ _=>True) [str a,str b] Y Z=some (.wL [str (Lib.cut a b).1,str (Lib.cut a b).2.1,yh (Lib.cut a b).2.2],Y,Z):=Zz _ _ a b Y Z h c trivial rfl
theorem xe:zi prog 49 (zn false [] (WV E9 fun _ _=>True)):=
 y3 (fn:=f49) Fa (wc func49) false [] _ fun args r h=>by obtain⟨a,b,rfl,c,d,_,rfl⟩:=xr h;exact⟨by simp[f49],_,zu rfl (by simp[Yf,c,d,E9,f49]),q9 _⟩
theorem mG:zi prog 219 (zn false [] (WV pg fun _ _=>True)):=
 y3 (fn:=f219) Fa (wc func219) false [] _ fun args r h=>by obtain⟨a,b,rfl,c,d,_,rfl⟩:=xr h;exact⟨by simp[f219],_,zu rfl (by simp[mF,c,d,pg,yx,f219]),q9 _⟩
def T7(a b:za):O:=.wL [str (if b.isPrefixOf a then a.drop b.length else a),yh (b.isPrefixOf a)]
theorem iq(a b:za)(c:a.length<=qg)(d:b.length<=qg):zG Cw1 f233 [str a,str b]=some (T7 a b):=by
 refine zu rfl ?_;cases h:b.isPrefixOf a
 ·simp[Yf,c,d,h,T7,yx,f233]
 ·have e:=(vi.1 h).length_le;simp[Yf,c,d,h,e,T7,yx,f233];rw[qi (by simp)]
theorem eS:zi prog 233 (zn false [] (WV T7 fun _ _=>True)):=
 y3 (fn:=f233) Fa (wc func233) false [] _ fun args r h=>by obtain⟨a,b,rfl,c,d,_,rfl⟩:=xr h;exact⟨by simp[f233],_,iq a b c d,q9 _⟩
noncomputable abbrev Cw2:Ctx:=qj prog [(233,zn false [] (WV T7 fun _ _=>True))]
theorem zcT:Gd Cw2:=qx mixed ⟨eS,fun _=>zt _ _,trivial⟩
theorem Hm(a b:za)(Y:Hp)(Z:Nat)(h:a.length<=qg)(c:b.length<=qg):zn false [] (WV T7 fun _ _=>True) [str a,str b] Y Z=some (.wL [str (if b.isPrefixOf a then a.drop b.length else a),yh (b.isPrefixOf a)],Y,Z):=Zz _ _ a b Y Z h c trivial rfl
theorem ir:zi prog 193 (zn false [] (WV T7 fun _ _=>True)):=
 y3 (fn:=f193) zcT (wc func193) false [] _ fun args r h=>by obtain⟨a,b,rfl,c,d,_,rfl⟩:=xr h;exact⟨by simp[f193],_,zu rfl (by simp[Hm,c,d,T7,yx,f193]),q9 _⟩
def tlP(a b:za):O:=str (Lib.trimLeftB a (b.headD 0))
def tbP(a b:za):O:=str (Lib.trimB a (b.headD 0))
def uc(b:za):Prop:=∃c:UInt8,b=[c]/\c.toNat<128
theorem YK:zi prog 215 (zn false [] (WV tlP fun _ b=>uc b)):=
 j5 ⟨_,func215,by kernel_rfl,by kernel_rfl⟩ fun args r h=>by
  obtain⟨a,b,rfl,g,i,⟨c,rfl,d⟩,rfl⟩:=xr h;refine⟨[.string ⟨a.toArray⟩,.string ⟨#[c]⟩],rfl,by simp[lit],rfl,.string ⟨(Lib.trimLeftB a c).toArray⟩,fun w S=>.v rfl,fun w S _=>?_⟩;refine(Any.strings_TrimLeft_one Tryz.zbp ⟨a.toArray⟩ c d w).mono fun e j f=>?_
  obtain⟨rfl,rfl⟩:=f;exact⟨by simp,Fr.refl _ _⟩
theorem BU:zi prog 214 (zn false [] (WV tbP fun _ b=>uc b)):=
 j5 ⟨_,func214,by kernel_rfl,by kernel_rfl⟩ fun args r h=>by
  obtain⟨a,b,rfl,d,i,⟨c,rfl,f⟩,rfl⟩:=xr h;unfold qg at d;refine⟨[.string ⟨a.toArray⟩,.string ⟨#[c]⟩],rfl,by simp[lit],rfl,.string ⟨(Lib.trimB a c).toArray⟩,fun w S=>.v rfl,fun w S _=>?_⟩;refine(Any.strings_Trim_one Tryz.zbq ⟨a.toArray⟩ c f w (by simp;omega)).mono fun e j g=>?_
  obtain⟨rfl,rfl|rfl⟩:=g
  ·exact⟨by simp,Fr.refl _ _⟩
  ·exact⟨by simp,Fr.drew _ _⟩
noncomputable def MZ (f:za->UInt8->O):zb->Option O:=qW (α:=za×UInt8) (fun a=>[str a.1,T4 a.2]) (fun a=>a.1.length<=qg) (fun a=>f a.1 a.2)
theorem zcU:∀a b:za×UInt8,[str a.1,T4 a.2]=[str b.1,T4 b.2]->a=b:=by
 rintro⟨g,c⟩ ⟨h,d⟩ e;simp only[zq,qh]at e;have i:=qA e.2;have f:c.toNat=d.toNat:=by omega
 rw[yp e.1,yU.1 f]
theorem Xe(f:za->UInt8->O)(a:za)(c:UInt8)(Y:Hp)(Z:Nat)(h:a.length<=qg)(b:(f a c).flat=true):zn false [] (MZ f) [str a,T4 c] Y Z=some (f a c,Y,Z):=
 iX (a,c) _ _ rfl zcU h (.inl b)
def Et(a:za)(c:UInt8):O:=int (Lib.indexByte a c)
theorem xf:zi prog 61 (zn false [] (MZ Et)):=
 j5 ⟨_,func61,by kernel_rfl,by kernel_rfl⟩ fun args r h=>by
  obtain⟨⟨a,c⟩,rfl,d,rfl⟩:=zL h;refine⟨[.string ⟨a.toArray⟩,.int .u8 c.toNat],rfl,by simp[lit],rfl,.int .i64 (Lib.indexByte a c),fun w S=>.v rfl,fun w S _=>?_⟩;refine(Any.strings_IndexByte Tryz.zbr ⟨a.toArray⟩ c.toNat w).mono fun e f b=>?_
  obtain⟨rfl,rfl⟩:=b;exact⟨by simp,Fr.refl _ _⟩
abbrev TJ:TypeId:=85
def zN(s:za)(st:Jst):zb:=[str s,int st.p,int st.e,int st.i]
abbrev wH(s:za)(st:Jst):Blk:=zz TJ (zN s st)
theorem mH{s b:za}{st a:Jst}(h:zN s st=zN b a):s=b/\st=a:=by cases st;cases a;simp only[zN,zq,qh]at h;obtain⟨f,c,d,e⟩:=h;have c:=qA c;have d:=qA d;have e:=qA e;refine⟨yp f,?_⟩;simp only[Jst.mk.injEq];omega
noncomputable def FJ {b:Type} (encA:b->zb) (pre:za->Jst->b->Prop) (c:za->Jst->b->Jst) (out:za->Jst->b->O):zb->zb->Option (zb×O):=
 gz (α:=za×Jst×b) (fun a=>zN a.1 a.2.1) (fun a=>encA a.2.2) (fun a=>a.1.length<=1048576/\a.2.1.p<=a.1.length/\pre a.1 a.2.1 a.2.2) (fun a=>(zN a.1 (c a.1 a.2.1 a.2.2),out a.1 a.2.1 a.2.2))
noncomputable abbrev mJ {a:Type} (encA:a->zb) (pre:za->Jst->a->Prop) (b:za->Jst->a->Jst) (out:za->Jst->a->O):AM.Spec:=ie TJ (FJ encA pre b out)
theorem ZN{c:Type}{encA:c->zb}{pre:za->Jst->c->Prop}{d:za->Jst->c->Jst}{out:za->Jst->c->O}(f:∀a b,encA a=encA b->a=b)(j:∀b,(encA b).all O.isV=true){s:za}{st:Jst}(b:c){Y:Hp}{id Z:Nat}(k:Y id=some (wH s st))(hs:s.length<=1048576)(l:st.p<=s.length)(h:pre s st b) :
  mJ encA pre d out (.ref id 0 0::encA b) Y Z=some (out s st b,qf Y id (some (wH s (d s st b))),Z):=
 cQ (j b) k rfl (V9 (encC:=fun a:List UInt8×Jst×c=>zN a.1 a.2.1) (encA:=fun a=>encA a.2.2) (a:=(s,st,b)) (fun x y m e=>by obtain⟨n,o,q⟩:=x;obtain⟨r,t,u⟩:=y;obtain⟨g,i⟩:=mH m;simp only at g i;have e:=f _ _ e;simp only at e;rw[g,i,e]) ⟨hs,l,h⟩) rfl rfl
theorem Qp{c:Type}{encA:c->zb}{pre:za->Jst->c->Prop}{a:za->Jst->c->Jst}{out:za->Jst->c->O}{cs e cs':zb}{r:O}(h:FJ encA pre a out cs e=some (cs',r)) :
  ∃s st b,cs=zN s st/\e=encA b/\s.length<=1048576/\st.p<=s.length/\pre s st b/\cs'=zN s (a s st b)/\r=out s st b:=by
 obtain⟨⟨s,st,b⟩,f,g,⟨i,j,k⟩,d⟩:=X5 h;injection d with d l;exact⟨s,st,b,f,g,i,j,k,d,l⟩
def ud(a:Nat×Int):zb:=[int a.1,int a.2]
theorem iY(a b:Nat×Int)(h:ud a=ud b):a=b:=by simp only[ud,zq,qh]at h;have d:=qA h.1;have c:=qA h.2;exact Sw (by omega) c
def aU(_:Unit):zb:=[]
theorem y5(a b:Unit)(_:aU a=aU b):a=b:=rfl
def Zu(c:UInt8):O:=.v (.int .u8 c.toNat)
def aC(c:UInt8):zb:=[Zu c]
theorem T8{a b:UInt8}(h:Zu a=Zu b):a=b:=by have:=qA h;exact yU.1 (by omega)
theorem ue(a b:UInt8)(h:aC a=aC b):a=b:=by simp only[aC,zq,qh]at h;exact T8 h
def aS(s:za):zb:=[str s]
theorem mI(a b:za)(h:aS a=aS b):a=b:=by simp only[aS,zq,qh]at h;exact yp h
noncomputable abbrev Xf:AM.Spec:=mJ ud (fun _ _ b=>b.1<=1048576) (fun s st b=>st.fail s.length b.1 b.2) (fun _ _ _=>.wL [])
theorem vT{s:za}{st:Jst}(k:Nat)(x:Int){Y:Hp}{id Z:Nat}(a:Y id=some (wH s st))(hs:s.length<=1048576)(b:st.p<=s.length)(c:k<=1048576) :
  Xf [.ref id 0 0,int k,int x] Y Z=some (.wL [],qf Y id (some (wH s (st.fail s.length k x))),Z):=ZN iY (fun _=>rfl) (k,x) a hs b c
theorem xL:zi prog 112 Xf:=
 wi (code:=_) jj ⟨func112,by kernel_rfl,rfl,by kernel_rfl⟩ TJ _ fun cs c cs' r h=>by
  obtain⟨s,st,⟨k,x⟩,rfl,rfl,hs,Y,d,rfl,rfl⟩:=Qp h;refine⟨by simp[ud,f112],?_⟩;by_cases a:st.e=0
  ·simp[ud,zZ,zz,zN,a,Jst.fail,f112];refine qR rfl ?_;have b:((min k s.length:Nat):Int)=if s.length<k then(s.length:Int)else k:=by split<;>omega
   simp[zz,b]
  ·simp[ud,zZ,zz,zN,a,Zw a,Jst.fail,f112];exact qR rfl rfl
noncomputable def T9:zb->zb->Option O:=fun cs a=>(FJ aU (fun _ _ _=>True) (fun _ st _=>st) (fun s st _=>Zu (jq s st)) cs a).map (·.2)
noncomputable abbrev Xg:AM.Spec:=a6 TJ T9
theorem Ua(s:za)(st:Jst)(hs:s.length<=1048576)(d:st.p<=s.length):T9 (zN s st) []=some (Zu (jq s st)):=by
 unfold T9 FJ;rw[show([]:zb)=aU ()from rfl,V9 (encC:=fun a:List UInt8×Jst×Unit=>zN a.1 a.2.1) (encA:=fun a=>aU a.2.2) (a:=(s,st,())) (fun x y e _=>by obtain⟨f,g,h⟩:=x;obtain⟨i,j,k⟩:=y;obtain⟨b,c⟩:=mH e;simp only at b c;rw[b,c]) ⟨hs,d,trivial⟩]
 rfl
theorem mK{s:za}{st:Jst}{Y:Hp}{id Z:Nat}(a:Y id=some (wH s st))(hs:s.length<=1048576)(b:st.p<=s.length):Xg [.ref id 0 0] Y Z=some (Zu (jq s st),Y,Z):=mj rfl a rfl (Ua s st hs b)
theorem xM:zi prog 111 Xg:=
 Xa (wi (code:=_) jj ⟨func111,by kernel_rfl,rfl,by kernel_rfl⟩ TJ _ fun cs e cs' r h=>by
  unfold T9 at h;rw[jv]at h;obtain⟨⟨c,f⟩,d,b⟩:=eo.1 h;obtain⟨s,st,⟨⟩,rfl,rfl,hs,Y,_,rfl,rfl⟩:=Qp d;simp only[Function.comp_apply,Jb]at b;obtain⟨rfl,rfl⟩:=b;refine⟨by simp[aU,f111],?_⟩;by_cases a:st.p<s.length
  ·simp[aU,zZ,zz,zN,a,f111];refine qc rfl ?_ .id ?_
   ·rfl
   ·simp[Zu,jq,a]
  ·simp[aU,zZ,zz,zN,a,f111];refine qc rfl ?_ .id ?_
   ·rfl
   ·simp[Zu,jq,a])
noncomputable abbrev Cbj:Ctx:=qj prog [(61,zn false [] (MZ Et))]
theorem zcV:AM.Good Cbj (fun g=>[61].contains g):=qx mixed ⟨xf,fun _=>zt _ _,trivial⟩
theorem Fb:∀(l:za) (c:UInt8),decide (0<=Lib.indexByte l c)=l.contains c
 |[],c=>by simp[Lib.indexByte]
 |b::l,c=>by
  have g:=Fb l c;have h:=Lib.indexByte_ge l c;rw[Lib.indexByte,List.contains_cons];by_cases a:b=c
  ·subst a;simp
  ·have d:¬c=b:=fun e=>a e.symm
   rw[zf (by simpa using a),w8.2 d,Zp,<-g];by_cases f:Lib.indexByte l c=-1
   ·simp[f]
   ·rw[zf (by simpa using f)];have:0<=Lib.indexByte l c:=by omega
    rw[ep this,ep (by omega)]
theorem zcW(c:UInt8):decide (0<=Lib.indexByte [9,10,13,32] c)=J7 c:=by rw[Fb];simp only[List.contains_cons,List.contains_nil,J7,Bool.or_false,Bool.or_assoc]
theorem Oc{s:za}{st:Jst}{c:UInt8}(h:s[st.p]?=some c)(a:J7 c=true):Qe s st=Qe s st.qH:=by
 have b:=(zj.1 h).1;have hd:s.drop st.p=c::s.drop (st.p+1):=by rw[zl b,(zj.1 h).2]
 simp[Qe,hd,yQ,a,Jst.go,Jst.qH];omega
theorem BV{s:za}{st:Jst}(h:∀c,s[st.p]?=some c->J7 c=false):Qe s st=st:=by
 have:(s.drop st.p).takeWhile J7=[]:=by
  cases hd:s.drop st.p with
  |nil=>rfl
  |cons c l=>
   have:s[st.p]?=some c:=by
    have a:(s.drop st.p)[0]?=some c:=by rw[hd];rfl
    simpa using a
   simp[yQ,h c this]
 simp[Qe,this,Jst.go]
theorem xN{s:za}{st:Jst}(h:st.p<=s.length):st.p<=(Qe s st).p/\(Qe s st).p<=s.length/\(Qe s st).e=st.e/\(Qe s st).i=st.i:=by have:=(Yj J7 (l:=s.drop st.p)).length_le;simp only[Qe,Jst.go];simp at this;refine⟨by omega,by omega,trivial,trivial⟩
noncomputable abbrev blS:AM.Spec:=mJ aU (fun _ _ _=>True) (fun s st _=>Qe s st) (fun _ _ _=>.wL [])
theorem Wv{s:za}{st:Jst}{Y:Hp}{id Z:Nat}(a:Y id=some (wH s st))(hs:s.length<=1048576)(b:st.p<=s.length):blS [.ref id 0 0] Y Z=some (.wL [],qf Y id (some (wH s (Qe s st))),Z):=ZN y5 (fun _=>rfl) () a hs b trivial
theorem rO:zi prog 176 blS:=
 wi (code:=_) zcV ⟨func176,by kernel_rfl,rfl,by kernel_rfl⟩ TJ _ fun cs z cs' r h=>by
  obtain⟨s,st,⟨⟩,rfl,rfl,hs,Y,t,rfl,rfl⟩:=Qp h;refine⟨by simp[aU,f176],?_⟩;clear h;simp;refine ql (fun k M Y Z=>M 0=.ref 0 0 0/\Z=1/\∃q,q=st.p+k/\Y=zZ TJ (zN s ⟨q,st.e,st.i⟩)/\q<=s.length/\Qe s ⟨q,st.e,st.i⟩=Qe s st) (s.length-st.p) ⟨by simp[aU],rfl,st.p,rfl,rfl,Y,rfl⟩ ?_;rintro k M Y _ t ⟨l,rfl,q,A,rfl,u,m⟩;by_cases b:q<s.length
  ·obtain⟨c,n⟩:=wM (s[q]);have f:s[q]?=some c:=by rw[<-n];exact zo b
   have w:=wv q;have o:∀(Y:Hp) (Z:Nat),zn false [] (MZ Et) [.v (.string ⟨#[9,10,13,32]⟩),.v (.int .u8 c.toNat)] Y Z=some (int (Lib.indexByte [9,10,13,32] c),Y,Z):=fun Y Z=>Xe Et [9,10,13,32] c Y Z (by decide) rfl
   have d:=zcW c;cases j:J7 c
   ·have a:=BV (s:=s) (st:=⟨q,st.e,st.i⟩) (fun x g=>by simp only[f,zY]at g;rw[<-g];exact j);rw[j]at d;simp[l,zZ,zz,zN,b,n,o,d,f176];rw[<-m,a];exact qR rfl rfl
   ·have a:=Oc (s:=s) (st:=⟨q,st.e,st.i⟩) f j;rw[j]at d;simp[l,zZ,zz,zN,b,n,o,d,w,f176];have y:(q:Int)+1=st.p+(k+1):=by omega
    refine⟨by omega,by rw[y],by omega,?_⟩;rw[show st.p+(k+1)=q+1 by omega,<-m,a];rfl
  ·have a:=BV (s:=s) (st:=⟨q,st.e,st.i⟩) (fun x g=>by rw[wq (by simp;omega)]at g;cases g);simp[l,zZ,zz,zN,b,f176];rw[<-m,a];exact qR rfl rfl
noncomputable abbrev Csj:Ctx:=qj prog [(112,Xf)]
theorem zcX:Gd Csj:=qQ mixed ⟨xL,trivial⟩
noncomputable abbrev Od:AM.Spec:=mJ aC (fun _ _ _=>True) (fun s st c=>(QK s st c).2) (fun s st c=>yh (QK s st c).1)
theorem Xh{s:za}{st:Jst}(c:UInt8){Y:Hp}{id Z:Nat}(a:Y id=some (wH s st))(hs:s.length<=1048576)(b:st.p<=s.length):Od [.ref id 0 0,Zu c] Y Z=some (yh (QK s st c).1,qf Y id (some (wH s (QK s st c).2)),Z):=ZN ue (fun _=>rfl) c a hs b trivial
theorem X7:zi prog 174 Od:=
 wi (code:=_) zcX ⟨func174,by kernel_rfl,rfl,by kernel_rfl⟩ TJ _ fun cs j cs' r h=>by
  obtain⟨s,st,c,rfl,rfl,hs,Y,k,rfl,rfl⟩:=Qp h;refine⟨by simp[aC,f174],?_⟩;clear h;have i:=wj ((st.p:Int)+1);have d:Xf [.ref 0 0 0,int st.p,int 10] (zZ TJ (zN s st)) 1=some (.wL [],qf (zZ TJ (zN s st)) 0 (some (wH s (st.fail s.length st.p 10))),1):=vT st.p 10 rfl hs Y (by omega);simp only[zZ,zz,zN,zd,ze,zh,Nat.reduceAdd]at d;by_cases a:st.e=0
  ·by_cases b:st.p<s.length
   ·by_cases f:s[st.p]=c
    ·simp[aC,Zu,zZ,zz,zN,a,b,f,i,QK,Jst.qH,f174];exact qR rfl rfl
    ·have g:((s[st.p].toNat:Int)==(c.toNat:Int))=false:=by rw[zbK];simpa using f
     rw[a]at d;simp[aC,Zu,zZ,zz,zN,a,b,g,f,d,QK,f174];exact qR rfl (by simp;rfl)
   ·rw[a]at d;simp[aC,Zu,zZ,zz,zN,a,b,d,QK,f174];exact qR rfl (by simp;rfl)
  ·simp[aC,Zu,zZ,zz,zN,a,Zw a,d,QK,f174];exact qR rfl (by simp;rfl)
theorem K1{s:za}{st:Jst}(c:UInt8)(h:st.p<=s.length):st.p<=(QK s st c).2.p/\(QK s st c).2.p<=s.length:=by
 unfold QK;split
 ·rename_i a;have:=(zj.1 a.2).1;simp only[Jst.qH];omega
 ·simp only[Jst.fail];split<;>exact⟨zk _,h⟩
noncomputable abbrev Cwj:Ctx:=qj prog [(174,Od)]
theorem zcY:Gd Cwj:=qQ mixed ⟨X7,trivial⟩
noncomputable abbrev wdS:AM.Spec:=mJ aS (fun _ _ w=>w.length<=1048576) (fun s st w=>Ep s w st) (fun _ _ _=>.wL [])
theorem mL{s:za}{st:Jst}(w:za){Y:Hp}{id Z:Nat}(a:Y id=some (wH s st))(hs:s.length<=1048576)(b:st.p<=s.length)(c:w.length<=1048576):wdS [.ref id 0 0,str w] Y Z=some (.wL [],qf Y id (some (wH s (Ep s w st))),Z):=ZN mI (fun _=>rfl) w a hs b c
theorem Lb:zi prog 113 wdS:=
 wi (code:=_) zcY ⟨func113,by kernel_rfl,rfl,by kernel_rfl⟩ TJ _ fun cs u cs' r h=>by
  obtain⟨s,st,w,rfl,rfl,hs,Y,q,rfl,rfl⟩:=Qp h;refine⟨by simp[aS,f113],?_⟩;clear h;simp[aS];refine ql (fun k M Y Z=>M 0=.ref 0 0 0/\M 1=str w/\M 6=int w.length/\M 7=int k/\Z=1/\∃a,Y=zZ TJ (zN s a)/\a.p<=s.length/\Ep s (w.drop k) a=Ep s w st) w.length ⟨by simp,by simp,by simp,by simp,rfl,st,rfl,Y,rfl⟩ ?_;rintro k M Y _ x ⟨f,g,i,j,rfl,a,rfl,n,b⟩;by_cases d:k<w.length
  ·have t:=wv k;obtain⟨c,l⟩:=wM (w[k]);have e:Od [.ref 0 0 0,.v (.int .u8 c.toNat)] (zZ TJ (zN s a)) 1=some (yh (QK s a c).1,qf (zZ TJ (zN s a)) 0 (some (wH s (QK s a c).2)),1):=Xh c rfl hs n;have m:=K1 (s:=s) c n;rw[zl d,l,Ep]at b;cases o:(QK s a c).1
   ·rw[o]at e b;simp at b;simp[f,g,i,j,d,l,e,f113];rw[b];exact qR rfl (by simp)
   ·rw[o]at e b;simp at b;simp[f,g,i,j,d,l,e,t,f113];exact⟨by omega,_,by simp[zZ,qV],m.2,b⟩
  ·obtain rfl:k=w.length:=by omega
   rw[zA]at b;simp[f,g,i,j,d,f113];rw[<-b];exact qR rfl rfl
end Go.Q
namespace Go.AM
def Lc(Q:St->Prop)(K:Exit->St->Prop)(e:Exit)(st:St):Prop:=match e with
 | .normal=>Q st
 |e=>K e st
@[simp]theorem ziy(Q:St->Prop)(K:Exit->St->Prop)(st:St):Lc Q K .normal st=Q st:=rfl
@[simp]theorem ziz(Q:St->Prop)(K:Exit->St->Prop)(st:St):Lc Q K .ret st=K .ret st:=rfl
@[simp]theorem ziA(Q:St->Prop)(K:Exit->St->Prop)(i:Nat)(st:St):Lc Q K (.exit i) st=K (.exit i) st:=rfl
theorem Qq{C:Ctx}{a b:Code}{st:St}{K:Exit->St->Prop}(Q:St->Prop)(d:Zl C a st (Lc Q K))(f:∀st,Q st->Zl C b st K):Zl C (.seq a b) st K:=by
 rw[iW];refine d.mono fun e st c=>?_
 cases e
 case normal=>exact f _ c
 all_goals exact c
theorem zM{C:Ctx}{a b:Code}{st:St}{K:Exit->St->Prop}(Q:(Nat->O)->Hp->Nat->Prop)(c:Zl C a st (Lc (fun st=>Q st.M st.Y st.Z) K))(d:∀M Y Z,Q M Y Z->Zl C b ⟨M,Y,Z⟩ K):Zl C (.seq a b) st K:=
 Qq _ c fun st h=>d st.M st.Y st.Z h
end Go.AM
namespace Go.Q
theorem wu8(n:Nat)(h:n<256):IntKind.u8.wrap (n:Int)=n:=by have a:(n:Int) % 256=n:=Int.emod_eq_of_lt (by omega) (by omega);simp[IntKind.wrap,IntKind.bits,IntKind.signed];omega
theorem Qr(c:UInt8):jg c=(decide (48<=c.toNat)&&decide (c.toNat<=57)):=by simp[jg,yv]
theorem BW(c:UInt8):c.toNat<256:=c.toNat_lt
theorem Zs(N:Nat)(st:Jst)(k:Nat)(x:Int):(st.fail N k x).p=st.p:=by unfold Jst.fail;split<;>rfl
theorem zbS(s:za)(most:Nat):∀(l:za) (n m:Nat) (st:Jst),st.p<=(mD s most l n m st).2.2.p/\(mD s most l n m st).2.2.p<=st.p+l.length/\(mD s most l n m st).1<(n+1)*10 ^ (most-m)\/most<m
 |[],n,m,st=>by
  by_cases e:most<m
  ·exact .inr e
  ·refine .inl ?_;simp only[mD,ze,Zi];have i:n+1<=(n+1)*10 ^ (most-m):=Nat.le_mul_of_pos_right _ (Nat.pow_pos (by omega));split<;>(try rw[Zs])<;>exact⟨zk _,zk _,by omega⟩
 |c::l,n,m,st=>by
  by_cases e:most<m
  ·exact .inr e
  ·refine .inl ?_;have i:n+1<=(n+1)*10 ^ (most-m):=Nat.le_mul_of_pos_right _ (Nat.pow_pos (by omega));rw[mD];split
   ·rename_i g;split
    ·rename_i f;refine⟨?_,?_,?_⟩
     ·simp only[Zs];omega
     ·simp only[Zs];omega
     ·simp only;omega
    ·rename_i f;rcases zbS s most l (n*10+(c.toNat-48)) (m+1) st.qH with⟨a,b,d⟩|h
     ·simp only[Jst.qH]at a b d⊢;refine⟨by omega,by simp;omega,yi d ?_⟩;rw[Qr]at g;simp at g;have j:most-m=(most-(m+1))+1:=by omega
      rw[j,eu,Yi (10 ^ _) 10,<-MP];exact z7 _ (by omega)
     ·omega
   ·split<;>(try simp only[Zs])<;>refine⟨zk _,by omega,by omega⟩
theorem zbT(s:za)(most:Nat):∀(l:za) (n m:Nat) (st:Jst),m<=most->m<=(mD s most l n m st).2.1/\(mD s most l n m st).2.1<=most
 |[],n,m,st,h=>by simp only[mD];exact⟨zk _,h⟩
 |c::l,n,m,st,h=>by
  rw[mD];split
  ·split
   ·exact⟨zk _,h⟩
   ·have:=zbT s most l (n*10+(c.toNat-48)) (m+1) st.qH (by omega);omega
  ·exact⟨zk _,h⟩
noncomputable abbrev Cdj:Ctx:=qj prog [(112,Xf),(111,Xg)]
theorem zcZ:AM.Good Cdj (fun g=>[111].contains g):=qx mixed ⟨xL,by simp,xM,fun _=>ym _ _,trivial⟩
def aN(n:Nat):zb:=[int n]
theorem Oe(a b:Nat)(h:aN a=aN b):a=b:=by simp only[aN,zq,qh]at h;have:=qA h;omega
noncomputable abbrev dgS:AM.Spec:=mJ aN (fun _ _ n=>n<=12) (fun s st n=>(cx s n st).2.2) (fun s st n=>.wL [int (cx s n st).1,int (cx s n st).2.1])
theorem BX{s:za}{st:Jst}(n:Nat){Y:Hp}{id Z:Nat}(a:Y id=some (wH s st))(hs:s.length<=1048576)(b:st.p<=s.length)(c:n<=12):dgS [.ref id 0 0,int n] Y Z=some (.wL [int (cx s n st).1,int (cx s n st).2.1],qf Y id (some (wH s (cx s n st).2.2)),Z):=ZN Oe (fun _=>rfl) n a hs b c
theorem Ld:zi prog 179 dgS:=
 wi (code:=_) zcZ ⟨func179,by kernel_rfl,rfl,by kernel_rfl⟩ TJ _ fun cs T cs' r h=>by
  obtain⟨s,st,most,rfl,rfl,hs,Y,D,rfl,rfl⟩:=Qp h;refine⟨by simp[aN,f179],?_⟩;clear h;simp[aN];refine ql (fun k M Y Z=>M 0=.ref 0 0 0/\M 1=int most/\Z=1/\∃n q,M 4=int (n:Nat)/\M 5=int k/\q=st.p+k/\Y=zZ TJ (zN s ⟨q,st.e,st.i⟩)/\q<=s.length/\k<=most/\n<10 ^ k/\mD s most (s.drop q) n k ⟨q,st.e,st.i⟩=cx s most st) most ⟨by simp,by simp,rfl,0,st.p,by simp,by simp,rfl,rfl,Y,by omega,by simp,rfl⟩ ?_;rintro k M Y _ U ⟨u,v,rfl,n,q,w,x,W,rfl,y,K,E,F⟩;have G:n<1000000000000:=yi E (z8 (KB (by omega) (show k<=12 by omega)) (by decide));have b:Xg [.ref 0 0 0] (zZ TJ (zN s ⟨q,st.e,st.i⟩)) 1=some (Zu (jq s ⟨q,st.e,st.i⟩),zZ TJ (zN s ⟨q,st.e,st.i⟩),1):=mK rfl hs y;have l:Xf [.ref 0 0 0,int q,int 10] (zZ TJ (zN s ⟨q,st.e,st.i⟩)) 1=some (.wL [],qf (zZ TJ (zN s ⟨q,st.e,st.i⟩)) 0 (some (wH s (Jst.fail s.length ⟨q,st.e,st.i⟩ q 10))),1):=vT q 10 rfl hs y (by omega);obtain⟨c,C⟩:=wM (jq s ⟨q,st.e,st.i⟩);rw[C]at b;simp only[zZ,zz,zN,Zu,zd,ze,zh,Nat.reduceAdd]at b l;have H:=BW c;have f:jg c=false->cx s most st=(n,k,if k=0 then Jst.fail s.length ⟨q,st.e,st.i⟩ q 10 else⟨q,st.e,st.i⟩):=fun hd=>by
   rw[<-F];by_cases d:q<s.length
   ·have m:s[q]=c:=by simpa[jq,d]using C
    rw[zl d,m,mD,hd];simp
   ·rw[List.drop_eq_nil_iff.2 (by omega),mD]
  have g:jg c=true->q<s.length/\cx s most st=if k=most then(n,k,Jst.fail s.length ⟨q,st.e,st.i⟩ q 10)else mD s most (s.drop (q+1)) (n*10+(c.toNat-48)) (k+1) ⟨q+1,st.e,st.i⟩:=fun hd=>by
   have d:q<s.length:=by
    refine vG fun E=>?_
    have:c=0:=by rw[<-C,jq,wq (by simp;omega)];rfl
    rw[this]at hd;exact absurd hd (by decide)
   have m:s[q]=c:=by simpa[jq,d]using C
   refine⟨d,?_⟩;rw[<-F,zl d,m,mD,hd];simp[Jst.qH]
  rw[Qr]at f g;by_cases I:48<=c.toNat
  ·have o:(48:Int)<=c.toNat:=by omega
   by_cases J:c.toNat<=57
   ·have z:(c.toNat:Int)<=57:=by omega
    obtain⟨d,a⟩:=g (by simp[I,J]);by_cases A:k=most
    ·subst A;rw[zg rfl]at a;simp[u,v,w,x,zZ,zz,zN,b,l,o,z,a,f179];exact qR rfl rfl
    ·rw[zf A]at a;have B:((k:Int)==(most:Int))=false:=by simp;omega
     have L:=wj ((n:Int)*10);have N:IntKind.u8.wrap ((c.toNat:Int)-48)=((c.toNat-48:Nat):Int):=by rw[show(c.toNat:Int)-48=((c.toNat-48:Nat):Int) by omega];exact wu8 _ (by omega)
     have P:=wj ((c.toNat-48:Nat):Int);have Q:i6.wrap ((n:Int)*10+((c.toNat-48:Nat):Int))=((n*10+(c.toNat-48):Nat):Int):=by rw[wU (by omega) (by omega)];omega
     have R:=wv k;have S:=wv q;simp[u,v,w,x,zZ,zz,zN,b,l,o,z,B,L,N,P,Q,R,S,f179];refine⟨by omega,n*10+(c.toNat-48),by omega,by rw[show(q:Int)+1=st.p+(k+1) by omega],by omega,by omega,by rw[eu];omega,?_⟩;rw[show st.p+(k+1)=q+1 by omega];exact a.symm
   ·have z:¬(c.toNat:Int)<=57:=by omega
    have a:=f (by simp[J]);by_cases j:k=0
    ·subst j;simp[u,v,w,x,zZ,zz,zN,b,l,o,z,a,f179];exact qR rfl rfl
    ·have t:((k:Int)==0)=false:=by simp;omega
     simp[u,v,w,x,zZ,zz,zN,b,l,o,z,a,j,t,f179];exact qR rfl rfl
  ·have o:¬(48:Int)<=c.toNat:=by omega
   have a:=f (by simp[I]);by_cases j:k=0
   ·subst j;simp[u,v,w,x,zZ,zz,zN,b,l,o,a,f179];exact qR rfl rfl
   ·have t:((k:Int)==0)=false:=by simp;omega
    simp[u,v,w,x,zZ,zz,zN,b,l,o,a,j,t,f179];exact qR rfl rfl
theorem Fc{s:za}{st:Jst}(most:Nat)(h:st.p<=s.length):st.p<=(cx s most st).2.2.p/\(cx s most st).2.2.p<=s.length/\(cx s most st).1<10 ^ most/\(cx s most st).2.1<=most:=by
 have c:=zbT s most (s.drop st.p) 0 0 st (by omega);rcases zbS s most (s.drop st.p) 0 0 st with⟨a,b,d⟩|h1
 ·simp at b d;exact⟨a,by unfold cx;omega,by unfold cx;omega,c.2⟩
 ·omega
noncomputable abbrev Cnj:Ctx:=qj prog [(112,Xf),(111,Xg),(179,dgS)]
theorem zc0:AM.Good Cnj (fun g=>[111].contains g):=qx mixed ⟨xL,by simp,xM,fun _=>ym _ _,Ld,by simp,trivial⟩
noncomputable abbrev nmSj:AM.Spec:=mJ aU (fun _ st _=>st.p+1<=1048576) (fun s st _=>(aE s st).2) (fun s st _=>.agg (aE s st).1.V)
theorem Ww{s:za}{st:Jst}{c:UInt8}(h:jq s st=c)(a:c≠0):st.p<s.length:=by
 refine vG fun b=>a ?_
 rw[<-h,jq,wq (by omega)];rfl
theorem ZO{s:za}{st:Jst}{Y:Hp}{Z:Nat}(a:Y 0=some (wH s st))(hs:s.length<=1048576)(b:st.p<=s.length):Xg [.ref 0 0 0] Y Z=some (.v (.int .u8 (jq s st).toNat),Y,Z):=mK a hs b
def jC:Blk:=⟨43,5,false,[[int 0,int 0,str [],.nil,.nil]]⟩
theorem WW{c:UInt8}(k:UInt8)(h:¬c=k):((c.toNat:Int)==(k.toNat:Int))=false:=by rw[zbK];simpa using h
abbrev uV:O->O:=o7 [fun x=>x,fun x=>x,fun x=>x,I0 5,I0 6]
theorem kD:sX uV:=.agg fun u a=>by
 simp only[zv,wu,or_false]at a;rcases a with rfl|rfl|rfl|rfl|rfl
 ·exact .id
 ·exact .id
 ·exact .id
 ·exact .nz 5
 ·exact .nz 6
theorem Hn{s:za}{st:Jst}(h:st.p<=s.length):st.p<=(Xd s st).2.p/\(Xd s st).2.p<=s.length/\(Xd s st).1<1000000000000:=by
 unfold Xd;split
 ·rename_i a;have b:=Ww a (by decide);refine⟨?_,?_,by simp⟩<;>simp only<;>split<;>simp only[Zs,Jst.qH]<;>omega
 ·have:=Fc (s:=s) 12 h;exact⟨this.1,this.2.1,this.2.2.1⟩
theorem pow3{n m:Nat}(h:n<1000)(a:m<=3):n*10 ^ (3-m)<1000000:=by
 have:m=0\/m=1\/m=2\/m=3:=by omega
 rcases this with rfl|rfl|rfl|rfl<;>simp<;>omega
theorem BZ{s:za}{st:Jst}(n:Nat)(h:st.p<=s.length):st.p<=(Wt s n st).2.p/\(Wt s n st).2.p<=s.length/\(Wt s n st).1<n+1000000:=by
 unfold Wt;split
 ·rename_i a;have c:=Ww a.2 (by decide);have:=Fc (s:=s) (st:=st.qH) 3 (by simp only[Jst.qH];omega);have b:=pow3 this.2.2.1 this.2.2.2;simp only[Jst.qH]at this b⊢;exact⟨by omega,this.2.1,by omega⟩
 ·exact⟨zk _,h,by simp only;omega⟩
theorem Fe:zi prog 117 nmSj:=
 wi (code:=_) zc0 ⟨func117,by kernel_rfl,rfl,by kernel_rfl⟩ TJ _ fun cs az cs' r h=>by
  obtain⟨s,st,⟨⟩,rfl,rfl,hs,Y,zjc,rfl,rfl⟩:=Qp h;refine⟨by simp[aU,f117],?_⟩;clear h;refine zM (fun M Y Z=>M 0=.ref 0 0 0/\M 2=.ref 1 0 0/\Y 0=some (wH s st)/\Y 1=some jC/\Z=2) (by simp[aU,zZ,zz,zN,jC,zc]) ?_;rintro M Y1 _ ⟨q,t,f,o,rfl⟩;refine zM (fun d Y Z=>d 0=.ref 0 0 0/\d 2=.ref 1 0 0/\d 3=yh (decide (jq s st=45))/\Y 0=some (wH s st)/\Y 1=some jC/\Z=2) ?_ ?_
  ·have g:=ZO (Z:=2) f hs Y;by_cases v:jq s st=45
   ·rw[v]at g;simp[q,t,g,f,o,v]
   ·have this:(((jq s st).toNat:Int)==45)=false:=WW 45 v;simp[q,t,g,f,o,v,this]
  clear q t f o M Y1;rintro M Y1 _ ⟨q,t,u,f,o,rfl⟩;obtain⟨l,z⟩:=wM (if jq s st=45 then st.qH else st);have B:l.p<=s.length:=by
   rw[<-z];split
   ·rename_i v;have:=Ww v (by decide);simp only[Jst.qH];omega
   ·exact Y
  refine zM (fun d Y Z=>d 0=.ref 0 0 0/\d 2=.ref 1 0 0/\d 3=yh (decide (jq s st=45))/\Y 0=some (wH s l)/\Y 1=some jC/\Z=2) ?_ ?_
  ·simp only[zz,zN,zd,ze,zh,Nat.reduceAdd]at f⊢;by_cases v:jq s st=45
   ·have F:=wj ((st.p:Int)+1);rw[zg v]at z;simp[q,t,u,f,o,v,<-z,F,Jst.qH,zc]
   ·rw[zf v]at z;simp[q,t,u,f,o,v,<-z]
  clear q t u f o M Y1;rintro M Y1 _ ⟨q,t,u,f,o,rfl⟩;refine zM (fun d Y Z=>d 0=.ref 0 0 0/\d 2=.ref 1 0 0/\d 3=yh (decide (jq s st=45))/\d 4=int 0/\Y 0=some (wH s l)/\Y 1=some jC/\Z=2) (by simp[q,t,u,f,o]) ?_;clear q t u f o M Y1;rintro M Y1 _ ⟨q,t,u,w,f,o,rfl⟩;obtain⟨a,T⟩:=wM (Xd s l);have K:=Hn (s:=s) B;rw[T]at K;refine zM (fun d Y Z=>d 0=.ref 0 0 0/\d 2=.ref 1 0 0/\d 3=yh (decide (jq s st=45))/\d 4=int a.1/\Y 0=some (wH s a.2)/\Y 1=some jC/\Z=2) ?_ ?_
  ·have g:=ZO (Z:=2) f hs B;by_cases v:jq s l=48
   ·have hl:=Ww v (by decide);have F:=wj ((l.p:Int)+1);rw[v]at g;obtain⟨c,Q⟩:=wM (jq s l.qH);have C:qf Y1 0 (some (wH s l.qH)) 0=some (wH s l.qH):=by simp
    have A:=ZO (Z:=2) C hs (by simp only[Jst.qH];omega);have g3:=vT (Z:=2) l.qH.p 10 C hs (by simp only[Jst.qH];omega) (by simp only[Jst.qH];omega);rw[Q]at A;have x:Xd s l=(0,if jg c=true then l.qH.fail s.length l.qH.p 10 else l.qH):=by rw[Xd,zg v,Q]
    rw[T,Qr]at x;simp only[zz,zN,Jst.qH,zd,ze,zh,Nat.reduceAdd,yk,qu]at f A g3⊢;by_cases c1:48<=c.toNat
    ·have U:(48:Int)<=c.toNat:=by omega
     by_cases c2:c.toNat<=57
     ·have d2:(c.toNat:Int)<=57:=by omega
      simp only[c1,c2,decide_true,zi9,zK]at x;simp[q,t,u,w,f,o,g,A,g3,F,U,d2,x,zc,Jst.qH]
     ·have d2:¬(c.toNat:Int)<=57:=by omega
      simp only[c1,c2,decide_true,decide_false,Bool.and_false,zm,zQ]at x;simp[q,t,u,w,f,o,g,A,F,U,d2,x,zc,Jst.qH]
    ·have U:¬(48:Int)<=c.toNat:=by omega
     simp only[c1,decide_false,Bool.false_and,zm,zQ]at x;simp[q,t,u,w,f,o,g,A,F,U,x,zc,Jst.qH]
   ·have L:(((jq s l).toNat:Int)==48)=false:=WW 48 v;have x:Xd s l=((cx s 12 l).1,(cx s 12 l).2.2):=by rw[Xd,zf v]
    have A:=BX (Z:=2) 12 f hs B (by omega);simp only[qu]at A;rw[T]at x;simp[q,t,u,w,o,g,A,L,x,zc]
  clear q t u w f o M Y1;rintro M Y1 _ ⟨q,t,u,w,f,o,rfl⟩;obtain⟨n,i⟩:=a;simp only at K w f;have hw0:i6.wrap ((n:Int)*1000)=((n*1000:Nat):Int):=by rw[wU (by omega) (by omega)];omega
  refine zM (fun d Y Z=>d 0=.ref 0 0 0/\d 2=.ref 1 0 0/\d 3=yh (decide (jq s st=45))/\d 4=int (n*1000:Nat)/\Y 0=some (wH s i)/\Y 1=some jC/\Z=2) (by simp[q,t,u,w,f,o,hw0]) ?_;clear q t u w f o M Y1;rintro M Y1 _ ⟨q,t,u,w,f,o,rfl⟩;have H:=K.2.1;obtain⟨b,D⟩:=wM (Wt s (n*1000) i);have oQ:=BZ (s:=s) (n*1000) H;rw[D]at oQ;refine zM (fun d Y Z=>d 0=.ref 0 0 0/\d 2=.ref 1 0 0/\d 3=yh (decide (jq s st=45))/\d 4=int b.1/\Y 0=some (wH s b.2)/\Y 1=some jC/\Z=2) ?_ ?_
  ·have g:=ZO (Z:=2) f hs H;by_cases N:i.e=0
   ·by_cases v:jq s i=46
    ·have hl:=Ww v (by decide);have F:=wj ((i.p:Int)+1);rw[v]at g;have y:Wt s (n*1000) i=(n*1000+(cx s 3 i.qH).1*10 ^ (3-(cx s 3 i.qH).2.1),(cx s 3 i.qH).2.2):=by rw[Wt,zg ⟨N,v⟩]
     rw[D]at y;have I:i.qH.p<=s.length:=by simp only[Jst.qH];omega
     have G:=Fc (s:=s) (st:=i.qH) 3 I;obtain⟨m,k,P,hd⟩:∃m k P,cx s 3 i.qH=(m,k,P):=⟨_,_,_,rfl⟩;rw[hd]at y G;simp only at y G;have hm3:=pow3 G.2.2.1 G.2.2.2;have C:qf Y1 0 (some (wH s i.qH)) 0=some (wH s i.qH):=by simp
     have A:=BX (Z:=2) 3 C hs I (by omega);rw[hd]at A;simp only[zz,zN,Jst.qH,zd,ze,zh,Nat.reduceAdd,yk,qu]at f A⊢;rw[N]at A;simp[q,t,u,w,f,o,g,A,F,N];refine ql (fun j d Y Z=>d 0=.ref 0 0 0/\d 2=.ref 1 0 0/\d 3=yh (decide (jq s st=45))/\d 4=int (n*1000:Nat)/\d 6=int (m*10 ^ j:Nat)/\d 7=int (k+j:Nat)/\Y 0=some (wH s P)/\Y 1=some jC/\Z=2) (3-k) ⟨by simp[q],by simp[t],by simp[u],by simp[w],by simp,by simp,by simp[zz,zN],by simp[zc,o],by simp⟩ ?_;clear g A f C o q t u w;rintro j M Y1 _ hj ⟨q,t,u,w,W,X,f,o,rfl⟩;have hmj:m*10 ^ j<1000000:=Nat.lt_of_le_of_lt (Nat.mul_le_mul_left _ (KB (by omega) hj)) hm3;by_cases hlt:k+j<3
     ·have E:((k+j:Nat):Int)<3:=by omega
      have J:i6.wrap (((m*10 ^ j:Nat):Int)*10)=((m*10 ^ (j+1):Nat):Int):=by rw[wU (by omega) (by omega),eu,<-MP];omega
      have w2:i6.wrap (((k+j:Nat):Int)+1)=((k+(j+1):Nat):Int):=by rw[wU (by omega) (by omega)];omega
      obtain⟨x1,R⟩:=wM ((m*10 ^ (j+1):Nat):Int);obtain⟨y1,hy1⟩:=wM ((k+(j+1):Nat):Int);rw[R]at J;rw[hy1]at w2;generalize ((m*10 ^ j:Nat):Int)=x0 at J W;generalize ((k+j:Nat):Int)=y0 at w2 X E;simp[q,t,u,w,W,X,E,J,w2,f,o];exact⟨by omega,by rw[<-R];simp,by omega⟩
     ·obtain rfl:j=3-k:=by omega
      have E:¬((k+(3-k):Nat):Int)<3:=by omega
      have J:i6.wrap (((n*1000:Nat):Int)+((m*10 ^ (3-k):Nat):Int))=((n*1000+m*10 ^ (3-k):Nat):Int):=by rw[wU (by omega) (by omega)];omega
      simp only[y];generalize ((n*1000+m*10 ^ (3-k):Nat):Int)=x2 at J⊢;generalize ((m*10 ^ (3-k):Nat):Int)=x0 at J W;generalize ((n*1000:Nat):Int)=x1 at J w;generalize ((k+(3-k):Nat):Int)=y0 at X E;simp[q,t,u,w,W,X,E,J,f,o];rfl
    ·have L:(((jq s i).toNat:Int)==46)=false:=WW 46 v;have y:Wt s (n*1000) i=(n*1000,i):=by rw[Wt,zf (fun h=>v h.2)]
     rw[D]at y;simp only[zz,zN,zd,ze,zh,Nat.reduceAdd]at f⊢;simp[q,t,u,w,f,o,g,L,N,y]
   ·have y:Wt s (n*1000) i=(n*1000,i):=by rw[Wt,zf (fun h=>N h.1)]
    rw[D]at y;simp only[zz,zN,zd,ze,zh,Nat.reduceAdd]at f⊢;simp[q,t,u,w,f,o,g,N,Zw N,y]
  clear q t u w f o M Y1;rintro M Y1 _ ⟨q,t,u,w,f,o,rfl⟩;have S:aE s st=(pd (if jq s st=45 then -(b.1:Int)else b.1),b.2):=by simp only[aE,z,T,D]
  rw[S];simp only[jC]at o;by_cases v:jq s st=45
  ·have F:=wj (-(b.1:Int));simp[q,t,u,w,o,v,F,pd,zI,qe,f117];exact qc rfl (by rw[zc _ _ _ _ (by decide)];exact f) kD rfl
  ·simp[q,t,u,w,o,v,pd,zI,qe,f117];exact qc rfl (by rw[zc _ _ _ _ (by decide)];exact f) kD rfl
end Go.Q
