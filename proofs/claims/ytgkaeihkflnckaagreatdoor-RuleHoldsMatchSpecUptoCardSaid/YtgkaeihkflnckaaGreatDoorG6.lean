/- Lemmas. -/
import Derived.Shelf.Strings.Search2
import Derived.Shelf.Strings.Split
import Derived.Shelf.Strings.Trim
import Derived.Shelf.Strconv.Atoi
import Derived.Ground.Names2Prog
import Derived.Test.YtgkaeihkflnckaaGreatDoorProg
import Derived.Lib.Split
import Derived.Test.YtgkaeihkflnckaaGreatDoorG5
set_option maxRecDepth 100000
open Go Proofs Proofs.YtgkaeihkflnckaaGreatDoor Proofs.Tryz RowKit AM SpanLaw Q Zz
open Go.IntKind renaming i64→i6
namespace Go.Q
abbrev int(n:Int):O:=.v (.int .i64 n)
abbrev qS(b:Bool):O:=.v (.bool b)
abbrev TH(c:UInt8):O:=.v (.int .u8 c.toNat)
abbrev zu:Nat:=2097152
theorem mixed:prog.follows .mixedOrders=true:=by kernel_rfl
noncomputable abbrev C0:Ctx:=zR prog []
theorem jG:Gd C0:=qw mixed trivial
def F3(f:Int->Int->Int->Bool):zb->Option O
 |[.v (.int .i64 a),.v (.int .i64 b),.v (.int .i64 c)]=>some (.v (.bool (f a b c)))
 |_=>none
def SU(f:Int->Bool):zb->Option O
 |[.v (.int .u8 a)]=>some (.v (.bool (f a)))
 |_=>none
def kI(n a b:Int):Bool:=decide (a<=n)&&decide (n<=b)
def aQ(n:Int):Bool:=decide (97<=n)&&decide (n<=122)||decide (48<=n)&&decide (n<=57)||n==45||n==95
@[simp]theorem zgX(f:Int->Int->Int->Bool)(a b c:Int)(Y:Hp)(Z:Nat):zh false [] (F3 f) [.v (.int .i64 a),.v (.int .i64 b),.v (.int .i64 c)] Y Z=some (.v (.bool (f a b c)),Y,Z):=yA rfl rfl (.inl rfl)
@[simp]theorem zfo(f:Int->Bool)(a:Int)(Y:Hp)(Z:Nat):zh false [] (SU f) [.v (.int .u8 a)] Y Z=some (.v (.bool (f a)),Y,Z):=yA rfl rfl (.inl rfl)
theorem Fk{f:Int->Int->Int->Bool}{args:zb}{r:O}(h:F3 f args=some r):∃a b c,args=[int a,int b,int c]/\r=qS (f a b c):=by
 unfold F3 at h;split at h
 ·injection h with h;exact⟨_,_,_,rfl,h.symm⟩
 ·cases h
theorem tQ{f:Int->Bool}{args:zb}{r:O}(h:SU f args=some r):∃a,args=[.v (.int .u8 a)]/\r=qS (f a):=by
 unfold SU at h;split at h
 ·injection h with h;exact⟨_,rfl,h.symm⟩
 ·cases h
theorem Qo:zg prog 59 (zh false [] (F3 kI)):=
 wW (fn:=f59) jG (qD func59) false [] _ fun args r h=>by obtain⟨a,b,c,rfl,rfl⟩:=Fk h;exact⟨by simp[f59],_,zm rfl (by simp[f59,kI]),qb _⟩
theorem xr:zg prog 136 (zh false [] (F3 kI)):=
 wW (fn:=f136) jG (qD func136) false [] _ fun args r h=>by obtain⟨a,b,c,rfl,rfl⟩:=Fk h;exact⟨by simp[f136],_,zm rfl (by simp[f136,kI]),qb _⟩
theorem tR:zg prog 60 (zh false [] (SU aQ)):=
 wW (fn:=f60) jG (qD func60) false [] _ fun args r h=>by obtain⟨a,rfl,rfl⟩:=tQ h;exact⟨by simp[f60],_,zm rfl (by simp[f60,aQ]),qb _⟩
theorem l9:zg prog 133 (zh false [] (SU aQ)):=
 wW (fn:=f133) jG (qD func133) false [] _ fun args r h=>by obtain⟨a,rfl,rfl⟩:=tQ h;exact⟨by simp[f133],_,zm rfl (by simp[f133,aQ]),qb _⟩
noncomputable def FS (f:za->Bool):zb->Option O:=ql (α:=za) (fun l=>[str l]) (fun l=>l.length<=zu) (fun l=>qS (f l))
@[simp]theorem ki(f:za->Bool)(l:za)(Y:Hp)(Z:Nat)(h:l.length<=zu):zh false [] (FS f) [str l] Y Z=some (qS (f l),Y,Z):=
 Ja l _ _ rfl (fun a b e=>by simp only[zk,zI]at e;exact wR e) h (.inl rfl)
def pr(a b:Nat)(c:UInt8):Bool:=decide (a<=c.toNat)&&decide (c.toNat<=b)
theorem VQ(a b:Nat)(c:UInt8):(decide ((c.toNat:Int)<a)||decide ((b:Int)<c.toNat))=!pr a b c:=by rw[qh];simp[pr]
def wg(a b:Nat)(l:za):Bool:=l.all (pr a b)
def vq(l:za):Bool:=wg 33 126 l&&kI l.length 1 100
def mb(l:za):Bool:=wg 33 126 l&&!(l==[])
def Qp(l:za):Bool:=l.all fun c=>aQ c.toNat
def Jb(l:za):Bool:=Qp l&&!(l==[])
def rQ:za->Bool
 |[]=>false
 |c::_=>decide ((97:Int)<=c.toNat)&&decide ((c.toNat:Int)<=(122:Int))
def wS(l:za):Bool:=kI l.length 1 40&&rQ l&&Qp l
noncomputable abbrev C1:Ctx:=zR prog [(59,zh false [] (F3 kI)),(60,zh false [] (SU aQ)),(136,zh false [] (F3 kI)),(133,zh false [] (SU aQ))]
abbrev qRl1:List Nat:=[59,60,136,133]
theorem rR:AM.Good C1 (fun g=>qRl1.contains g):=qw mixed ⟨Qo,fun _=>zt _ _,tR,fun _=>zt _ _,xr,fun _=>zt _ _,l9,fun _=>zt _ _,trivial⟩
theorem cz{l:za}{p:UInt8->Bool}{k:Nat}(h:k<l.length):(l.drop k).all p=(p l[k]&&(l.drop (k+1)).all p):=by rw[ze h,wI]
theorem Zc{a b:Nat}{l:za}{k:Nat}(h:k<l.length):wg a b (l.drop k)=(pr a b l[k]&&wg a b (l.drop (k+1))):=cz h
theorem gq{l:za}{k:Nat}(h:k<l.length):Qp (l.drop k)=(aQ l[k].toNat&&Qp (l.drop (k+1))):=cz h
@[simp]theorem za6(a b:Nat):wg a b []=true:=rfl
@[simp]theorem zcd:Qp []=true:=rfl
theorem Ln(l:za)(h:l.length<=zu):zq C1 f115 [str l]=some (qS (wg 32 126 l)):=by
 refine zm rfl ?_;unfold zu at h;simp;refine zP (fun k U Y Z=>U 0=str l/\U 5=int l.length/\U 6=int k/\wg 32 126 l=wg 32 126 (l.drop k)) l.length ⟨by simp,by simp,by simp,by simp⟩ ?_;rintro k U Y Z j ⟨d,e,f,b⟩;by_cases a:k<l.length
 ·have i:=qG k;rw[Zc a]at b;have g:=VQ 32 126 l[k];simp only[ZK]at g;cases c:pr 32 126 l[k]
  ·have b:wg 32 126 l=false:=by rw[b,c];rfl
   simp[d,e,f,a,b,g,c,f115]
  ·simp[d,e,f,a,g,c,i];exact⟨a,by rw[b,c];rfl⟩
 ·obtain rfl:k=l.length:=by omega
  have b:wg 32 126 l=true:=by rw[b,zn];rfl
  simp[d,e,f,b,f115]
theorem mc(l:za)(h:l.length<=zu):zq C1 f137 [str l]=some (qS (wg 32 126 l)):=by
 refine zm rfl ?_;unfold zu at h;simp;refine zP (fun k U Y Z=>U 0=str l/\U 5=int l.length/\U 6=int k/\wg 32 126 l=wg 32 126 (l.drop k)) l.length ⟨by simp,by simp,by simp,by simp⟩ ?_;rintro k U Y Z j ⟨d,e,f,b⟩;by_cases a:k<l.length
 ·have i:=qG k;rw[Zc a]at b;have g:=VQ 32 126 l[k];simp only[ZK]at g;cases c:pr 32 126 l[k]
  ·have b:wg 32 126 l=false:=by rw[b,c];rfl
   simp[d,e,f,a,b,g,c,f137]
  ·simp[d,e,f,a,g,c,i];exact⟨a,by rw[b,c];rfl⟩
 ·obtain rfl:k=l.length:=by omega
  have b:wg 32 126 l=true:=by rw[b,zn];rfl
  simp[d,e,f,b,f137]
theorem Fl(l:za)(h:l.length<=zu):zq C1 f26 [str l]=some (qS (vq l)):=by
 refine zm rfl ?_;unfold zu at h;simp;refine zP (fun k U Y Z=>U 0=str l/\U 5=int l.length/\U 6=int k/\wg 33 126 l=wg 33 126 (l.drop k)) l.length ⟨by simp,by simp,by simp,by simp⟩ ?_;rintro k U Y Z j ⟨d,e,f,b⟩;by_cases a:k<l.length
 ·have i:=qG k;rw[Zc a]at b;have g:=VQ 33 126 l[k];simp only[ZK]at g;cases c:pr 33 126 l[k]
  ·have b:wg 33 126 l=false:=by rw[b,c];rfl
   simp[d,e,f,a,b,g,c,vq,f26]
  ·simp[d,e,f,a,g,c,i];exact⟨a,by rw[b,c];rfl⟩
 ·obtain rfl:k=l.length:=by omega
  have b:wg 33 126 l=true:=by rw[b,zn];rfl
  simp[d,e,f,b,vq,f26]
theorem Fm(l:za)(h:l.length<=zu):zq C1 f79 [str l]=some (qS (mb l)):=by
 refine zm rfl ?_;unfold zu at h;simp;refine zP (fun k U Y Z=>U 0=str l/\U 5=int l.length/\U 6=int k/\wg 33 126 l=wg 33 126 (l.drop k)) l.length ⟨by simp,by simp,by simp,by simp⟩ ?_;rintro k U Y Z j ⟨d,e,f,b⟩;by_cases a:k<l.length
 ·have i:=qG k;rw[Zc a]at b;have g:=VQ 33 126 l[k];simp only[ZK]at g;cases c:pr 33 126 l[k]
  ·have b:wg 33 126 l=false:=by rw[b,c];rfl
   simp[d,e,f,a,b,g,c,mb,f79]
  ·simp[d,e,f,a,g,c,i];exact⟨a,by rw[b,c];rfl⟩
 ·obtain rfl:k=l.length:=by omega
  have b:wg 33 126 l=true:=by rw[b,zn];rfl
  simp[d,e,f,b,mb,f79]
theorem tS(l:za)(g:l.length<=zu):zq C1 f80 [str l]=some (qS (Jb l)):=by
 refine zm rfl ?_;unfold zu at g;simp;refine zP (fun k U Y Z=>U 0=str l/\U 5=int l.length/\U 6=int k/\Qp l=Qp (l.drop k)) l.length ⟨by simp,by simp,by simp,by simp⟩ ?_;rintro k U Y Z i ⟨d,e,f,b⟩;by_cases a:k<l.length
 ·have h:=qG k;rw[gq a]at b;cases c:aQ l[k].toNat
  ·have b:Qp l=false:=by rw[b,c];rfl
   simp[d,e,f,a,b,c,Jb,f80]
  ·simp[d,e,f,a,c,h];exact⟨a,by rw[b,c];rfl⟩
 ·obtain rfl:k=l.length:=by omega
  have b:Qp l=true:=by rw[b,zn];rfl
  simp[d,e,f,b,Jb,f80]
theorem BE(l:za)(n:l.length<=zu):zq C1 f27 [str l]=some (qS (wS l)):=by
 refine zm rfl ?_;unfold zu at n;cases e:kI l.length 1 40
 ·simp[e,wS,f27]
 have a:0<l.length:=by simp[kI]at e;omega
 have o:rQ l=(decide ((97:Int)<=l[0].toNat)&&decide ((l[0].toNat:Int)<=(122:Int))):=by
  cases l with
  |nil=>simp at a
  |cons c l=>rfl
 have m:(decide ((l[0].toNat:Int)<(97:Int))||decide ((122:Int)<l[0].toNat))=!rQ l:=by rw[o,qh];simp
 cases g:rQ l
 ·simp[e,a,m,g,wS,f27]
 simp[e,a,m,g];refine zP (fun k U Y Z=>U 0=str l/\U 19=int l.length/\U 20=int k/\Qp l=Qp (l.drop k)) l.length ⟨by simp,by simp,by simp,by simp⟩ ?_;rintro k U Y Z q ⟨h,i,j,d⟩;by_cases b:k<l.length
 ·have p:=qG k;rw[gq b]at d;cases f:aQ l[k].toNat
  ·have d:Qp l=false:=by rw[d,f];rfl
   simp[h,i,j,b,d,f,wS,f27]
  ·simp[h,i,j,b,f,p];exact⟨b,by rw[d,f];rfl⟩
 ·obtain rfl:k=l.length:=by omega
  have d:Qp l=true:=by rw[d,zn];rfl
  simp[h,i,j,d,e,g,wS,f27]
theorem me:zg prog 115 (zh false [] (FS (wg 32 126))):=
 xy rR func115 false [] fun l Y=>⟨by simp[f115],_,Ln l Y,qb _⟩
theorem WT:zg prog 137 (zh false [] (FS (wg 32 126))):=
 xy rR func137 false [] fun l Y=>⟨by simp[f137],_,mc l Y,qb _⟩
theorem VR:zg prog 26 (zh false [] (FS vq)):=
 xy rR func26 false [] fun l Y=>⟨by simp[f26],_,Fl l Y,qb _⟩
theorem BF:zg prog 79 (zh false [] (FS mb)):=
 xy rR func79 false [] fun l Y=>⟨by simp[f79],_,Fm l Y,qb _⟩
theorem pg:zg prog 80 (zh false [] (FS Jb)):=
 xy rR func80 false [] fun l Y=>⟨by simp[f80],_,tS l Y,qb _⟩
theorem Yl:zg prog 27 (zh false [] (FS wS)):=
 xy rR func27 false [] fun l Y=>⟨by simp[f27],_,BE l Y,qb _⟩
noncomputable abbrev CRw:Ctx:=zR prog [(115,zh false [] (FS (wg 32 126))),(137,zh false [] (FS (wg 32 126))),(26,zh false [] (FS vq)),(79,zh false [] (FS mb)),(80,zh false [] (FS Jb)),(27,zh false [] (FS wS)),(59,zh false [] (F3 kI)),(136,zh false [] (F3 kI))]
abbrev qRw:List Nat:=[115,137,26,79,80,27,59,136]
theorem Oa:AM.Good CRw (fun g=>qRw.contains g):=qw mixed ⟨me,fun _=>zt _ _,WT,fun _=>zt _ _,VR,fun _=>zt _ _,BF,fun _=>zt _ _,pg,fun _=>zt _ _,Yl,fun _=>zt _ _,Qo,fun _=>zt _ _,xr,fun _=>zt _ _,trivial⟩
theorem Lo(l:za):(mb l&&decide ((l.length:Int)<=100))=vq l:=by
 cases l with
 |nil=>rfl
 |cons c l=>rw[qh];simp[mb,vq,kI];omega
theorem BG(l:za)(a:l.length<=zu):zq CRw f38 [str l]=some (qS (vq l)):=by refine zm rfl ?_;simp[a,f38,Lo]
theorem tT(l:za)(h:0<l.length):(Jb l&&decide ((l.length:Int)<=40)&&decide ((97:Int)<=l[0].toNat)&&decide ((l[0].toNat:Int)<=(122:Int)))=wS l:=by
 cases l with
 |nil=>simp at h
 |cons c l=>unfold Jb wS;generalize Qp (c::l)=w;rw[qh];cases w<;>simp[kI,rQ]<;>omega
theorem tU(l:za)(b:l.length<=zu):zq CRw f39 [str l]=some (qS (wS l)):=by
 refine zm rfl ?_;cases l with
 |nil=>simp[f39,Jb,wS,rQ]
 |cons c l=>
  have a:0<(c::l).length:=by simp
  have:=tT (c::l) a;generalize d:c::l=m at *;simp[b,a,f39,this]
theorem cA:zg prog 38 (zh false [] (FS vq)):=
 xy Oa func38 false [] fun l Y=>⟨by simp[f38],_,BG l Y,qb _⟩
theorem Jv:zg prog 39 (zh false [] (FS wS)):=
 xy Oa func39 false [] fun l Y=>⟨by simp[f39],_,tU l Y,qb _⟩
inductive qa where
 |mk (kind n:Int) (s:List UInt8) (items:List qa) (fields:List (List UInt8×qa))
namespace qa
def kind:qa->Int|.mk k _ _ _ _=>k
def n:qa->Int|.mk _ n _ _ _=>n
def s:qa->za|.mk _ _ s _ _=>s
def items:qa->List qa|.mk _ _ _ l _=>l
def fields:qa->List (za×qa)|.mk _ _ _ _ l=>l
end qa
theorem qa.ind{P:qa->Prop}(h:∀k n s e g,(∀x∈e,P x)->(∀f∈g,P f.2)->P (.mk k n s e g))(v:qa):P v:=
 qa.rec (motive_1:=P) (motive_2:=fun l=>∀x∈l,P x) (motive_3:=fun l=>∀f∈l,P f.2) (motive_4:=fun f=>P f.2) (fun k n s e g i j=>h k n s e g i j)
  (by simp) (fun x l c d y b=>by rcases zv.1 b with rfl|b;(first|exact c|exact d y b);(first|exact c|exact d y b)) (by simp) (fun x l c d y b=>by rcases zv.1 b with rfl|b;(first|exact c|exact d y b);(first|exact c|exact d y b)) (fun a v m=>m) v
mutual
def qa.V:qa->zb
 | .mk k n s a b=>[int k,int n,str s,.sl 5 (IG a),.sl 6 (IH b)]
def IG:List qa->List zb
 |[]=>[]
 |v::l=>v.V::IG l
def IH:List (za×qa)->List zb
 |[]=>[]
 |(a,v)::l=>(str a::v.V)::IH l
end
abbrev yk(f:za×qa):zb:=str f.1::f.2.V
theorem rS:∀l:List qa,IG l=l.map qa.V
 |[]=>rfl
 |v::l=>by simp[IG,rS l]
theorem rT:∀l:List (za×qa),IH l=l.map yk
 |[]=>rfl
 |(a,v)::l=>by simp[IH,rT l]
theorem xu(v:qa):v.V=[int v.kind,int v.n,str v.s,.sl 5 (v.items.map qa.V),.sl 6 (v.fields.map yk)]:=by
 cases v with
 |mk k n s a b=>simp[qa.V,rS,rT,qa.kind,qa.n,qa.s,qa.items,qa.fields]
@[simp]theorem zce(v:qa):v.V.length=5:=by rw[xu];rfl
@[simp]theorem Lp(v:qa):v.V.all O.wZ=true:=by rw[xu];rfl
@[simp]theorem zcf(v:qa):(∀x,x∈v.V->O.wZ x=true)=True:=by have:=Lp v;rw[zV]at this;exact eq_true this
@[simp]theorem zfp(v:qa):v.V.take 5=v.V:=qx (by simp)
@[simp]theorem zhM(v:qa)(h:0<v.V.length):v.V[0]=int v.kind:=by simp[xu v]
@[simp]theorem zhN(v:qa)(h:1<v.V.length):v.V[1]=int v.n:=by simp[xu v]
@[simp]theorem zhO(v:qa)(h:2<v.V.length):v.V[2]=str v.s:=by simp[xu v]
@[simp]theorem zhP(v:qa)(h:3<v.V.length):v.V[3]=.sl 5 (v.items.map qa.V):=by simp[xu v]
@[simp]theorem zhQ(v:qa)(h:4<v.V.length):v.V[4]=.sl 6 (v.fields.map yk):=by simp[xu v]
theorem Kt{α a:Type}{f:α->a}:∀{xs ys:List α},(∀x∈xs,∀y,f x=f y->x=y)->xs.map f=ys.map f->xs=ys
 |[],[],_,_=>rfl
 |[],y::ys,_,e=>by simp at e
 |x::xs,[],_,e=>by simp at e
 |x::xs,y::ys,h,e=>by simp only[we,zk]at e;rw[h x (by simp) y e.1,Kt (fun z b=>h z (by simp[b])) e.2]
theorem ZQ:∀{a b:qa},a.V=b.V->a=b:=by
 intro a
 induction a using qa.ind with
 |h k n s q r g i=>
  intro b e;cases b with
  |mk t u v j l=>
   simp only[xu,qa.kind,qa.n,qa.s,qa.items,qa.fields,zk,zI]at e;obtain⟨m,o,p,c,d⟩:=e;obtain rfl:=qV m;obtain rfl:=qV o;obtain rfl:=wR p;injection c with _ c
   injection d with _ d;obtain rfl:=Kt (fun x f y=>g x f) c;obtain rfl:=Kt (fun x f y e=>by simp only[yk,zk]at e;exact Prod.ext (wR e.1) (i x f e.2)) d
   rfl
mutual
def qa.vb:qa->Nat
 | .mk _ _ s a b=>1+s.length+Kd a+ak b
def Kd:List qa->Nat
 |[]=>0
 |v::l=>v.vb+Kd l
def ak:List (za×qa)->Nat
 |[]=>0
 |(a,v)::l=>a.length+v.vb+ak l
end
theorem xz(v:qa):v.vb=1+v.s.length+Kd v.items+ak v.fields:=by cases v;rfl
theorem YG(v:qa):0<v.vb:=by rw[xz];omega
theorem jR:∀{l:List qa} {x:qa},x∈l->x.vb<=Kd l
 |y::l,x,h=>by
  simp only[Kd];rcases zv.1 h with rfl|h
  ·omega
  ·have:=jR h;omega
theorem vC:∀{l:List (za×qa)} {x:za×qa},x∈l->x.1.length+x.2.vb<=ak l
 |(a,y)::l,x,h=>by
  simp only[ak];rcases zv.1 h with rfl|h
  ·simp only;omega
  ·have:=vC h;omega
theorem yY:∀l:List qa,l.length<=Kd l
 |[]=>by simp[Kd]
 |v::l=>by have:=yY l;have:=YG v;simp only[Kd,zO];omega
theorem jt:∀l:List (za×qa),l.length<=ak l
 |[]=>by simp[ak]
 |(a,v)::l=>by have:=jt l;have:=YG v;simp only[ak,zO];omega
noncomputable def FV (out:qa->O) (n:Nat):zb->Option O:=ql (α:=qa) (fun v=>[.agg v.V]) (fun v=>v.vb<=zu/\v.vb<=n) out
theorem zfq(out:qa->O)(n:Nat)(v:qa)(h:v.vb<=zu/\v.vb<=n):FV out n [.agg v.V]=some (out v):=
 qF (V:=fun v:qa=>[.agg v.V]) (a:=v) (fun a b e=>by simp only[zk,zI,O.agg.injEq]at e;exact ZQ e) h
@[simp]theorem Nl(Y:Hp)(v:qa):wA Y v.V=some (v.V,Y):=by rw[xu];simp
theorem Ku(Y:Hp)(v:qa):qA Y (.agg v.V)=some (.agg v.V,Y):=by rw[xu];simp
theorem eE(v:qa):O.noOwn (.agg v.V)=true:=by rw[xu];simp
theorem XK(out:qa->O)(n:Nat)(v:qa)(Y:Hp)(Z:Nat)(h:v.vb<=zu/\v.vb<=n):zh false [] (FV out n) [.agg v.V] Y Z=some (out v,Y,Z):=
 yA (Y1:=Y) (show zD Y [.agg v.V]=some ([.agg v.V],Y) by simp only[zD,Ku]) (zfq out n v h) (.inr (by simp only[wI,eE,K8,Bool.and_self]))
mutual
def qa.parts:qa->Nat
 | .mk _ _ _ a b=>1+kE a+kL b
def kE:List qa->Nat
 |[]=>0
 |v::l=>v.parts+kE l
def kL:List (za×qa)->Nat
 |[]=>0
 |(_,v)::l=>v.parts+kL l
end
mutual
def qa.levels:qa->Nat
 | .mk _ _ _ a b=>max (j8 a) (kn b)+1
def j8:List qa->Nat
 |[]=>0
 |v::l=>max v.levels (j8 l)
def kn:List (za×qa)->Nat
 |[]=>0
 |(_,v)::l=>max v.levels (kn l)
end
theorem BH(v:qa):v.parts=1+kE v.items+kL v.fields:=by cases v;rfl
theorem rU(v:qa):v.levels=max (j8 v.items) (kn v.fields)+1:=by cases v;rfl
theorem mf(v:qa):v.parts<=v.vb:=by
 induction v using qa.ind with
 |h k n s e f g i=>
  have a:∀l:List qa,(∀x∈l,x.parts<=x.vb)->kE l<=Kd l:=by
   intro l
   induction l with
   |nil=>simp[kE]
   |cons v l c=>intro h;have:=h v (by simp);have:=c fun x d=>h x (by simp[d]);simp only[kE,Kd];omega
  have b:∀l:List (za×qa),(∀x∈l,x.2.parts<=x.2.vb)->kL l<=ak l:=by
   intro l
   induction l with
   |nil=>simp[kL]
   |cons v l c=>intro h;have:=h v (by simp);have:=c fun x d=>h x (by simp[d]);obtain⟨a,v⟩:=v;simp only[kL,ak];simp only at *;omega
  have:=a e g;have:=b f i;simp only[qa.parts,qa.vb];omega
theorem rV(v:qa):v.levels<=v.parts:=by
 induction v using qa.ind with
 |h k n s e f g i=>
  have a:∀l:List qa,(∀x∈l,x.levels<=x.parts)->j8 l<=kE l:=by
   intro l
   induction l with
   |nil=>simp[j8]
   |cons v l c=>intro h;have:=h v (by simp);have:=c fun x d=>h x (by simp[d]);simp only[j8,kE];omega
  have b:∀l:List (za×qa),(∀x∈l,x.2.levels<=x.2.parts)->kn l<=kL l:=by
   intro l
   induction l with
   |nil=>simp[kn]
   |cons v l c=>intro h;have:=h v (by simp);have:=c fun x d=>h x (by simp[d]);obtain⟨a,v⟩:=v;simp only[kn,kL];simp only at *;omega
  have:=a e g;have:=b f i;simp only[qa.parts,qa.levels];omega
noncomputable abbrev Cc (n:Nat):Ctx:=Kr prog [(61,zh false [] (FV (fun v=>.wG [int v.parts,int v.levels]) n))] (BB 2 [(2,1)])
theorem y0{C:Ctx}{fn:Func}{code:Code}{args:zb}{Y:Hp}{Z:Nat}{x:O}{a:Hp}{b:Nat}(c:fn.body=some code)
  (h:Zy C code ⟨j9 args,Y,Z⟩ (Jt C.P fn (fun y h m=>y=x/\h=a/\m=b))):jF C fn args Y Z=some (x,a,b):=by
 obtain⟨y,e,n1,d,rfl,rfl,rfl⟩:=qE c h;exact d
theorem mg(n:Nat)(v:qa)(h:v.vb<=zu/\v.vb<=n)(Y:Hp)(Z i j:Nat)(hi:i<Z)(s:j<Z)(b:i≠j)(p q:Nat)(c:Y i=some ⟨3,1,false,[[int p]]⟩)(d:Y j=some ⟨3,1,false,[[int q]]⟩)(f:p<=zu) :
  yr (Cc n) f113 [.agg v.V,.ref i 0 0,.ref j 0 0] Y Z =
   some (.wG [],qv (qv (qv Y Z (some ⟨57,5,false,[v.V]⟩)) i (some ⟨3,1,false,[[int ((p+v.parts:Nat):Int)]]⟩)) j (some ⟨3,1,false,[[int ((max q v.levels:Nat):Int)]]⟩),Z+1):=by
 have g:=mf v;have k:=rV v;unfold zu at *;have l:=wz ((p:Int)+v.parts);unfold yr;rw[zd (by simp[f113])];refine y0 rfl ?_;have a:=fun Y Z=>XK (fun v=>.wG [int v.parts,int v.levels]) n v Y Z h
 have e:¬i=Z:=by omega
 have m:¬j=Z:=by omega
 have o:¬j=i:=by omega
 have r:(if q<v.levels then(v.levels:Int)else q)=((max q v.levels:Nat):Int):=by split<;>omega
 simp[a];rw[Wt _ _ _ _ _ _ (l7 (blk:=⟨3,1,false,[[int p]]⟩) (id:=j) (i:=0) (j:=0) (id':=i) (i':=0) (j':=0) (by simp) (by simp) (Ne.symm b) (by simp[e,c]) rfl) (fun _ h=>by cases h)];simp[c,d,e,m,o,b,l,r,f113]
theorem aR(a b:List qa):kE (a++b)=kE a+kE b:=by
 induction a with
 |nil=>simp[kE]
 |cons v a c=>simp only[q6,kE,c];omega
theorem mh(a b:List qa):j8 (a++b)=max (j8 a) (j8 b):=by
 induction a with
 |nil=>simp[j8]
 |cons v a c=>simp only[q6,j8,c];omega
theorem aS(a b:List (za×qa)):kL (a++b)=kL a+kL b:=by
 induction a with
 |nil=>simp[kL]
 |cons v a c=>obtain⟨x,v⟩:=v;simp only[q6,kL,c];omega
theorem mi(a b:List (za×qa)):kn (a++b)=max (kn a) (kn b):=by
 induction a with
 |nil=>simp[kn]
 |cons v a c=>obtain⟨x,v⟩:=v;simp only[q6,kn,c];omega
theorem zfr{l:List qa}{k:Nat}(h:k<l.length):kE (l.take (k+1))=kE (l.take k)+l[k].parts/\j8 (l.take (k+1))=max (j8 (l.take k)) l[k].levels:=by rw[qq h,aR,mh];simp[kE,j8]
theorem zfs{l:List (za×qa)}{k:Nat}(h:k<l.length):kL (l.take (k+1))=kL (l.take k)+l[k].2.parts/\kn (l.take (k+1))=max (kn (l.take k)) l[k].2.levels:=by rw[qq h,aS,mi];simp[kL,kn]
theorem Lq(l:List qa)(k:Nat):kE (l.take k)<=kE l:=by have:=aR (l.take k) (l.drop k);rw[kb]at this;omega
theorem Lr(l:List (za×qa))(k:Nat):kL (l.take k)<=kL l:=by have:=aS (l.take k) (l.drop k);rw[kb]at this;omega
noncomputable abbrev Cd (n:Nat):Ctx:=Kr prog [(113,yr (Cc n) f113)] (BB 13 [(3,2)])
theorem Fo(n:Nat)(v:qa)(h:v.vb<=zu/\v.vb<=n+1):zq (Cd n) f61 [.agg v.V]=some (.wG [int v.parts,int v.levels]):=by
 have z:=mf v;have A:=BH v;have B:=xz v;have t:=rU v;have C:=yY v.items;have D:=jt v.fields;obtain⟨E,H⟩:=h;unfold zu at E;refine zm rfl ?_;simp;refine zP (fun k U Y Z=>U 1=.ref 0 0 0/\U 2=.ref 1 0 0/\U 3=.ref 2 0 0/\U 4=.fn (.func 113) [] [.ref 1 0 0,.ref 2 0 0]/\U 11=.sl 5 (v.items.map qa.V)/\U 12=int v.items.length/\U 13=int k/\3<=Z/\Y 0=some ⟨57,5,false,[v.V]⟩ /\
   Y 1=some ⟨3,1,false,[[int ((1+kE (v.items.take k):Nat):Int)]]⟩/\Y 2=some ⟨3,1,false,[[int (j8 (v.items.take k))]]⟩) v.items.length
  ⟨by simp,by simp,by simp,by simp,by simp,by simp,by simp,by simp,by simp,by simp[kE],by simp[j8]⟩ ?_
 rintro k U Y Z y ⟨m,f,g,p,c,d,e,q,u,l,o⟩;by_cases a:k<v.items.length
 ·obtain⟨w,x⟩:=zfr a;have F:=jR (zj a);have r:=qG k;have s:=Lq v.items k;have b:=mg n v.items[k] ⟨by unfold zu;omega,by omega⟩ (qv Y Z (some ⟨57,5,false,[v.items[k].V]⟩)) (Z+1) 1 2 (by omega) (by omega) (by omega) _ _ (by rw[zx _ _ _ _ (by omega)];exact l) (by rw[zx _ _ _ _ (by omega)];exact o) (by unfold zu;omega);simp[m,f,g,p,c,d,e,a,b,r];refine⟨a,by omega,?_,?_,?_⟩
  ·simp[u,show¬0=Z by omega,show¬0=Z+1 by omega]
  ·rw[w];omega
  ·rw[x]
 ·obtain rfl:k=v.items.length:=by omega
  rw[wF]at l o;simp[m,f,g,p,c,d,e,u];refine zP (fun k U Y Z=>U 1=.ref 0 0 0/\U 2=.ref 1 0 0/\U 3=.ref 2 0 0/\U 4=.fn (.func 113) [] [.ref 1 0 0,.ref 2 0 0]/\U 22=.sl 6 (v.fields.map yk)/\U 23=int v.fields.length/\U 24=int k/\3<=Z /\
    Y 1=some ⟨3,1,false,[[int ((1+kE v.items+kL (v.fields.take k):Nat):Int)]]⟩/\Y 2=some ⟨3,1,false,[[int ((max (j8 v.items) (kn (v.fields.take k)):Nat):Int)]]⟩) v.fields.length
   ⟨by simp[m],by simp[f],by simp[g],by simp[p],by simp,by simp,by simp,q,by simp[l,kL],by simp[o,kn]⟩ ?_
  clear m f g p c d e q u l o a y Z Y U;rintro k U Y Z y ⟨m,f,g,p,c,d,e,q,l,o⟩;by_cases a:k<v.fields.length
  ·obtain⟨w,x⟩:=zfs a;have F:=vC (zj a);have r:=qG k;have s:=Lr v.fields k;have b:=mg n v.fields[k].2 ⟨by unfold zu;omega,by omega⟩ (qv Y Z (some ⟨129,6,false,[yk v.fields[k]]⟩)) (Z+1) 1 2 (by omega) (by omega) (by omega) _ _ (by rw[zx _ _ _ _ (by omega)];exact l) (by rw[zx _ _ _ _ (by omega)];exact o) (by unfold zu;omega);simp[yk]at b;simp[m,f,g,p,c,d,e,a,r,b];refine⟨a,by omega,?_,?_⟩
   ·rw[w];omega
   ·rw[x]
  ·obtain rfl:k=v.fields.length:=by omega
   rw[wF]at l o;have G:=rV v;have r:i6.wrap (((max (j8 v.items) (kn v.fields):Nat):Int)+1)=(v.levels:Int):=by rw[wu (by omega) (by omega),t];omega
   simp[m,f,g,p,c,d,e];rw[Wt _ _ _ _ _ _ (l7 (id:=2) (i:=0) (j:=0) (id':=1) (i':=0) (j':=0) (by simp[g]) (by simp[f]) (by omega) (by exact l) rfl) (fun _ h=>by cases h)];simp[m,f,g,l,o,r,f61,wa];omega
theorem Kv{out:qa->O}{n:Nat}{args:zb}{r:O}(h:FV out n args=some r):∃v:qa,args=[.agg v.V]/\(v.vb<=zu/\v.vb<=n)/\r=out v:=zN h
theorem TI{out:qa->O}:∀args r,FV out 0 args=some r->False:=fun args r h=>by obtain⟨v,rfl,a,rfl⟩:=Kv h;have:=YG v;omega
theorem tV{out:qa->O}{f:FuncId}(a:∃fn,prog.funcs[f]?=some fn/\(fn.name== "runtime.NumGoroutine")=false/\fn.body.isNone=false):zg prog f (zh false [] (FV out 0)):=by
 refine⟨a,fun args Y Z r b c h=>?_⟩;unfold zh at h;split at h
 ·split at h
  ·rename_i d hF;exact(TI _ _ hF).elim
  ·cases h
 ·cases h
theorem BI:∀n,zg prog 61 (zh false [] (FV (fun v=>.wG [int v.parts,int v.levels]) n)):=by
 intro n
 induction n with
 |zero=>exact tV ⟨_,func61,by kernel_rfl,by kernel_rfl⟩
 |succ n a=>
  have b:Gd (Cc n):=BA _ mixed ⟨a,by simp,trivial⟩;have c:zg prog 113 (yr (Cc n) f113):=ky b func113;have hd:Gd (Cd n):=BA _ mixed ⟨c,by simp,trivial⟩;exact wW (fn:=f61) hd (qD func61) false [] _ fun args r h=>by obtain⟨v,rfl,d,rfl⟩:=Kv h;exact⟨zw (zf 1) (by decide),_,Fo n v d,qb _⟩
noncomputable abbrev GV (out:qa->O):AM.Spec:=zh false [] (FV out zu)
theorem Wg(out:qa->O)(v:qa)(Y:Hp)(Z:Nat)(h:v.vb<=zu):GV out [.agg v.V] Y Z=some (out v,Y,Z):=XK out zu v Y Z ⟨h,h⟩
def BJ(k:Int):Bool:=decide (k<0)||decide (5<k)
def Kw(k n:Int)(s:za)(i f:Nat):Bool:=n != 0&&k != 1&&k != 2||!(s==[])&&k != 3||decide (0<i)&&k != 4||decide (0<f)&&k != 5
def cB(k n:Int):Bool:=k==1&&n != 0&&n != 1
def cC(k n:Int):Bool:=k==2&&(decide (n<=-1000000000000000)||decide (1000000000000000<=n))
def HJ(i f:Nat):Bool:=decide ((100:Int)<i)||decide ((100:Int)<f)
def HK(s:za):Bool:=decide ((500:Int)<s.length)
def W4(k n:Int)(s:za)(i f:Nat):Int:=
 if BJ k then 4 else if Kw k n s i f then 3 else if cB k n||cC k n then 1 else if HK s then 2 else if wg 32 126 s then(if HJ i f then 2 else 0)else 1
def cD(a b:za):Bool:=Op.bytesLess a b||a==b
def mj(a:za):Bool:=a.isEmpty||decide ((60:Int)<a.length)||!wg 32 126 a
def kr(b:Option za)(a:za):Bool:=match b with
 |none=>false
 |some p=>cD a p
mutual
def qa.fault:qa->Int
 | .mk k n s a b=>if W4 k n s a.length b.length=0 then(if Zx a=0 then Vc none b else Zx a)else W4 k n s a.length b.length
def Zx:List qa->Int
 |[]=>0
 |v::l=>if v.fault=0 then Zx l else v.fault
def Vc:Option za->List (za×qa)->Int
 |_,[]=>0
 |prev,(a,v)::l=>if mj a then 5 else if kr prev a then 8 else if v.fault=0 then Vc (some a) l else v.fault
end
theorem ml(v:qa):v.fault=if W4 v.kind v.n v.s v.items.length v.fields.length=0 then(if Zx v.items=0 then Vc none v.fields else Zx v.items)else W4 v.kind v.n v.s v.items.length v.fields.length:=by cases v;rfl
theorem BK:zg prog 114 (GV fun v=>qS (Kw v.kind v.n v.s v.items.length v.fields.length)):=
 wW (fn:=f114) jG (qD func114) false [] _ fun args r h=>by obtain⟨v,rfl,a,rfl⟩:=Kv h;exact⟨by simp[f114],_,zm rfl (by simp[f114,Kw]),qb _⟩
noncomputable abbrev Ck (n:Nat):Ctx:=zR prog [(62,zh false [] (FV (fun v=>int v.fault) n)),(114,GV fun v=>qS (Kw v.kind v.n v.s v.items.length v.fields.length)),(115,zh false [] (FS (wg 32 126)))]
@[simp]theorem qk(n:Nat):kT (Ck n) 115:=je (by rfl) (zt _ _)
theorem gr{l:List qa}{k:Nat}(h:k<l.length):Zx (l.drop k)=if l[k].fault=0 then Zx (l.drop (k+1))else l[k].fault:=by rw[ze h,Zx]
theorem gu{l:List (za×qa)}{k:Nat}(h:k<l.length)(p:Option za):Vc p (l.drop k)=if mj l[k].1 then 5 else if kr p l[k].1 then 8 else if l[k].2.fault=0 then Vc (some l[k].1) (l.drop (k+1))else l[k].2.fault:=by rw[ze h,Vc]
def jA(l:List (za×qa))(k:Nat):Option za:=if k=0 then none else(l[k-1]?).map (·.1)
theorem mm(n:Nat)(v:qa)(h:v.vb<=zu/\v.vb<=n+1):zq (Ck n) f62 [.agg v.V]=some (int v.fault):=by
 have hvb:=xz v;have hl1:=yY v.items;have hl2:=jt v.fields;obtain⟨ha,hb⟩:=h;unfold zu at ha;have b:=ml v;have d:=fun Y Z=>Wg (fun v=>qS (Kw v.kind v.n v.s v.items.length v.fields.length)) v Y Z ha
 have A:v.s.length<=zu:=by unfold zu;omega
 refine zm rfl ?_;have x:(decide (v.kind<0)||decide (5<v.kind))=BJ v.kind:=rfl;have F:(v.kind==1&&v.n != 0&&v.n != 1)=cB v.kind v.n:=rfl;have H:(v.kind==2&&(decide (v.n<=-1000000000000000)||decide (1000000000000000<=v.n)))=cC v.kind v.n:=rfl;have e4:(decide ((100:Int)<v.items.length)||decide ((100:Int)<v.fields.length))=HJ v.items.length v.fields.length:=rfl;have L:decide ((500:Int)<v.s.length)=HK v.s:=rfl;cases q:BJ v.kind
 case true=>simp[x,q,b,W4,f62]
 cases y:Kw v.kind v.n v.s v.items.length v.fields.length
 case true=>simp[x,q,d,y,b,W4,f62]
 cases B:cB v.kind v.n
 case true=>simp[x,q,d,y,F,B,b,W4,f62]
 cases G:cC v.kind v.n
 case true=>simp[x,q,d,y,F,B,H,G,b,W4,f62]
 cases I:HK v.s
 case true=>simp[x,q,d,y,F,B,H,G,L,I,b,W4,f62]
 cases M:wg 32 126 v.s
 case false=>simp[x,q,d,y,F,B,H,G,L,I,M,A,b,W4,f62]
 cases P:HJ v.items.length v.fields.length
 case true=>simp[x,q,d,y,F,B,H,G,L,I,M,A,e4,P,b,W4,f62]
 have hh:W4 v.kind v.n v.s v.items.length v.fields.length=0:=by simp[W4,q,y,B,G,I,M,P]
 rw[hh,zd rfl]at b;simp[x,q,d,y,F,B,H,G,L,I,M,A,e4,P];refine zP (fun k U Y Z=>U 1=.ref 0 0 0/\U 70=.sl 5 (v.items.map qa.V)/\U 71=int v.items.length/\U 72=int k/\1<=Z/\Y 0=some ⟨57,5,false,[v.V]⟩/\Zx v.items=Zx (v.items.drop k)) v.items.length
  ⟨by simp,by simp,by simp,by simp,by simp,by simp,by simp⟩ ?_
 rintro k U Y Z hk ⟨l,r,t,u,C,p,w⟩;have z:¬0=Z:=by omega
 by_cases c:k<v.items.length
 ·have hm:=jR (zj c);have hw:=qG k;have a:=fun Y Z=>XK (fun v=>int v.fault) n v.items[k] Y Z ⟨by unfold zu;omega,by omega⟩
  rw[gr c]at w;by_cases e:v.items[k].fault=0
  ·rw[zd e]at w;simp[l,r,t,u,c,a,e,hw]
   and_intros<;>first|omega|exact w|simp[z,p]
  ·rw[zc e]at w;have o:=Za e;rw[w,zc e]at b;simp[l,r,t,u,c,a,o,b,f62]
 ·obtain rfl:k=v.items.length:=by omega
  rw[zn]at w;have w:Zx v.items=0:=by rw[w];rfl
  rw[w,zd rfl]at b;simp[l,r,t,u,p];refine zP (fun k U Y Z=>U 1=.ref 0 0 0/\U 83=.sl 6 (v.fields.map yk)/\U 84=int v.fields.length/\U 85=int k/\1<=Z/\Y 0=some ⟨57,5,false,[v.V]⟩/\v.fault=Vc (jA v.fields k) (v.fields.drop k)) v.fields.length
   ⟨by simp[l],by simp,by simp,by simp,C,p,by simp[b,jA]⟩ ?_
  clear l r t u C p c hk z Z Y U b;rintro k U Y Z hk ⟨l,f,g,i,C,p,b⟩;have z:¬0=Z:=by omega
  by_cases c:k<v.fields.length
  ·have hm:=vC (zj c);have hw:=qG k;have m:v.fields[k].1.length<=zu:=by unfold zu;omega
   have a:=fun Y Z=>XK (fun v=>int v.fault) n v.fields[k].2 Y Z ⟨by unfold zu;omega,by omega⟩
   have en:(v.fields[k].1.isEmpty||decide ((60:Int)<v.fields[k].1.length)||!wg 32 126 v.fields[k].1)=mj v.fields[k].1:=rfl;rw[gu c]at b;cases D:mj v.fields[k].1
   case true=>simp[l,f,g,i,c,m,en,D,b,f62]
   have J:jA v.fields (k+1)=some v.fields[k].1:=by simp[jA,c]
   simp only[D,zF,qR]at b;by_cases k0:k=0
   ·subst k0;simp only[jA,kr,qH,zF,qR]at b;by_cases e:v.fields[0].2.fault=0
    ·rw[zd e]at b;have w1:=wz 1;simp[l,f,g,i,c,m,en,D,a,e,w1]
     and_intros<;>first|omega|(rw[b];rw[J];simp;done)|simp[z,p]
    ·rw[zc e]at b;have o:=Za e;simp[l,f,g,i,c,m,en,D,a,o,b,f62]
   ·obtain⟨j,rfl⟩:∃j,k=j+1:=⟨k-1,by omega⟩;have N:j<v.fields.length:=by omega
    have Q:i6.wrap ((j:Int)+1-1)=(j:Int):=by rw[wu (by omega) (by omega)];omega
    have E:=wz (j:Int);have R:((j:Int)+1).toNat=j+1:=by omega
    have S:0<(j:Int)+1:=by omega
    have T:0<=(j:Int)+1:=by omega
    have W:(j:Int)+1<v.fields.length:=by omega
    have wk:=wz ((j:Int)+1+1);have X:(Op.bytesLess v.fields[j+1].1 v.fields[j].1||v.fields[j+1].1==v.fields[j].1)=cD v.fields[j+1].1 v.fields[j].1:=rfl;have hpj:jA v.fields (j+1)=some v.fields[j].1:=by simp[jA,N]
    simp only[hpj,kr]at b;cases K:cD v.fields[j+1].1 v.fields[j].1
    case true=>simp only[K,qH]at b;simp[l,f,g,i,c,N,m,en,D,a,p,z,Q,E,R,S,T,W,X,K,b,f62]
    simp only[K,zF,qR]at b;by_cases e:v.fields[j+1].2.fault=0
    ·rw[zd e]at b;simp[l,f,g,i,c,N,m,en,D,a,p,z,Q,E,R,S,T,W,X,K,e,wk]
     and_intros<;>first|omega|(rw[b];rw[J])|simp[z,p]
    ·rw[zc e]at b;have o:=Za e;simp[l,f,g,i,c,N,m,en,D,a,p,z,Q,E,R,S,T,W,X,K,o,b,f62]
  ·obtain rfl:k=v.fields.length:=by omega
   rw[zn]at b;have b:v.fault=0:=by rw[b];rfl
   simp[l,f,g,i,b,f62]
theorem ij:∀n,zg prog 62 (zh false [] (FV (fun v=>int v.fault) n)):=by
 intro n
 induction n with
 |zero=>exact tV ⟨_,func62,by kernel_rfl,by kernel_rfl⟩
 |succ n a=>
  have b:AM.Good (Ck n) (fun g=>[115].contains g):=qw mixed ⟨a,by simp,BK,by simp,me,fun _=>zt _ _,trivial⟩;exact wW (fn:=f62) b (qD func62) false [] _ fun args r h=>by obtain⟨v,rfl,c,rfl⟩:=Kv h;exact⟨zw (zf 1) (by decide),_,mm n v c,qb _⟩
def qa.check(v:qa):Int:=if decide ((1000:Int)<v.parts)||decide ((8:Int)<v.levels)then 2 else v.fault
noncomputable abbrev Cch:Ctx:=zR prog [(62,GV fun v=>int v.fault),(61,GV fun v=>.wG [int v.parts,int v.levels])]
theorem gv:zg prog 28 (GV fun v=>int v.check):=
 wW (fn:=f28) (zU mixed ⟨ij zu,BI zu,trivial⟩:AM.Good Cch _) (qD func28) false [] _ fun args r h=>by
  obtain⟨v,rfl,a,rfl⟩:=Kv h;have b:=fun Y Z=>Wg (fun v=>int v.fault) v Y Z a.1
  have c:=fun Y Z=>Wg (fun v=>.wG [int v.parts,int v.levels]) v Y Z a.1
  refine⟨by simp[f28],_,zm rfl ?_,qb _⟩;cases d:(decide ((1000:Int)<v.parts)||decide ((8:Int)<v.levels))
  ·simp[b,c,d,f28,qa.check]
  ·simp[b,c,d,f28,qa.check]
inductive qe where
 |mk (kind:Int) (attr:List UInt8) (op:Int) (yp:List qa) (pat name:List UInt8) (args:List qe)
namespace qe
def kind:qe->Int|.mk k _ _ _ _ _ _=>k
def attr:qe->za|.mk _ a _ _ _ _ _=>a
def op:qe->Int|.mk _ _ o _ _ _ _=>o
def yp:qe->List qa|.mk _ _ _ v _ _ _=>v
def pat:qe->za|.mk _ _ _ _ p _ _=>p
def name:qe->za|.mk _ _ _ _ _ n _=>n
def args:qe->List qe|.mk _ _ _ _ _ _ l=>l
end qe
theorem qe.ind{P:qe->Prop}(h:∀k a o v p n l,(∀x∈l,P x)->P (.mk k a o v p n l))(c:qe):P c:=
 qe.rec (motive_1:=P) (motive_2:=fun l=>∀x∈l,P x) (fun k a o v p n l b=>h k a o v p n l b) (by simp)
  (fun x l e b y d=>by
   rcases zv.1 d with rfl|d
   ·exact e
   ·exact b y d) c
mutual
def qe.V:qe->zb
 | .mk k a o v p n l=>[int k,str a,int o,.sl 5 (v.map qa.V),str p,str n,.sl 7 (AV l)]
def AV:List qe->List zb
 |[]=>[]
 |c::l=>c.V::AV l
end
theorem mn:∀l:List qe,AV l=l.map qe.V
 |[]=>rfl
 |c::l=>by simp[AV,mn l]
theorem wi(c:qe):c.V=[int c.kind,str c.attr,int c.op,.sl 5 (c.yp.map qa.V),str c.pat,str c.name,.sl 7 (c.args.map qe.V)]:=by
 cases c with
 |mk k a o v p n l=>simp[qe.V,mn,qe.kind,qe.attr,qe.op,qe.yp,qe.pat,qe.name,qe.args]
@[simp]theorem za7(c:qe):c.V.length=7:=by rw[wi];rfl
@[simp]theorem Fp(c:qe):c.V.all O.wZ=true:=by rw[wi];rfl
@[simp]theorem za8(c:qe):(∀x,x∈c.V->O.wZ x=true)=True:=by have:=Fp c;rw[zV]at this;exact eq_true this
@[simp]theorem XL(c:qe):c.V.take 7=c.V:=qx (by simp)
@[simp]theorem zho(c:qe)(h:0<c.V.length):c.V[0]=int c.kind:=by simp[wi c]
@[simp]theorem zhp(c:qe)(h:1<c.V.length):c.V[1]=str c.attr:=by simp[wi c]
@[simp]theorem zhq(c:qe)(h:2<c.V.length):c.V[2]=int c.op:=by simp[wi c]
@[simp]theorem zhr(c:qe)(h:3<c.V.length):c.V[3]=.sl 5 (c.yp.map qa.V):=by simp[wi c]
@[simp]theorem zhs(c:qe)(h:4<c.V.length):c.V[4]=str c.pat:=by simp[wi c]
@[simp]theorem zht(c:qe)(h:5<c.V.length):c.V[5]=str c.name:=by simp[wi c]
@[simp]theorem zhu(c:qe)(h:6<c.V.length):c.V[6]=.sl 7 (c.args.map qe.V):=by simp[wi c]
theorem BL{a b:List qa}(h:a.map qa.V=b.map qa.V):a=b:=kS (fun _ _=>ZQ) h
theorem kU:∀{a b:qe},a.V=b.V->a=b:=by
 intro a
 induction a using qe.ind with
 |h k a o v p n l f=>
  intro b e;cases b with
  |mk s t o' u w z l'=>
   simp only[wi,qe.kind,qe.attr,qe.op,qe.yp,qe.pat,qe.name,qe.args,zk,zI]at e;obtain⟨g,i,j,c,m,q,d⟩:=e;obtain rfl:=qV g;obtain rfl:=wR i;obtain rfl:=qV j;injection c with _ c
   obtain rfl:=BL c;obtain rfl:=wR m;obtain rfl:=wR q;injection d with _ d;rw[Kt (fun x r y=>f x r) d]
mutual
def qe.cb:qe->Nat
 | .mk _ a _ v p n l=>1+a.length+Kd v+p.length+n.length+aD l
def aD:List qe->Nat
 |[]=>0
 |c::l=>c.cb+aD l
end
theorem Zm(c:qe):c.cb=1+c.attr.length+Kd c.yp+c.pat.length+c.name.length+aD c.args:=by cases c;rfl
theorem Kx(c:qe):0<c.cb:=by rw[Zm];omega
theorem kj:∀{l:List qe} {x:qe},x∈l->x.cb<=aD l
 |y::l,x,h=>by
  simp only[aD];rcases zv.1 h with rfl|h
  ·omega
  ·have:=kj h;omega
theorem jf:∀l:List qe,l.length<=aD l
 |[]=>by simp[aD]
 |c::l=>by have:=jf l;have:=Kx c;simp only[aD,zO];omega
mutual
def qe.parts:qe->Nat
 | .mk _ _ _ _ _ _ l=>1+yZ l
def yZ:List qe->Nat
 |[]=>0
 |c::l=>c.parts+yZ l
end
mutual
def qe.levels:qe->Nat
 | .mk _ _ _ _ _ _ l=>yT l+1
def yT:List qe->Nat
 |[]=>0
 |c::l=>max c.levels (yT l)
end
theorem XM(c:qe):c.parts=1+yZ c.args:=by cases c;rfl
theorem br(c:qe):c.levels=yT c.args+1:=by cases c;rfl
theorem bw(l:List qe)(h:∀x∈l,x.parts<=x.cb):yZ l<=aD l:=by
 induction l with
 |nil=>simp[yZ]
 |cons v l a=>have:=h v (by simp);have:=a fun x b=>h x (by simp[b]);simp only[yZ,aD];omega
theorem eF(c:qe):c.parts<=c.cb:=by
 induction c using qe.ind with
 |h k a o v p n l b=>have:=bw l b;rw[XM,Zm];simp only[qe.args];omega
theorem BM(l:List qe)(h:∀x∈l,x.levels<=x.parts):yT l<=yZ l:=by
 induction l with
 |nil=>simp[yT]
 |cons v l a=>have:=h v (by simp);have:=a fun x b=>h x (by simp[b]);simp only[yZ,yT];omega
theorem Fq(c:qe):c.levels<=c.parts:=by
 induction c using qe.ind with
 |h k a o v p n l b=>have:=BM l b;rw[XM,br];simp only[qe.args];omega
theorem aT(a b:List qe):yZ (a++b)=yZ a+yZ b:=by
 induction a with
 |nil=>simp[yZ]
 |cons v a c=>simp only[q6,yZ,c];omega
theorem mo(a b:List qe):yT (a++b)=max (yT a) (yT b):=by
 induction a with
 |nil=>simp[yT]
 |cons v a c=>simp only[q6,yT,c];omega
theorem zft{l:List qe}{k:Nat}(h:k<l.length):yZ (l.take (k+1))=yZ (l.take k)+l[k].parts/\yT (l.take (k+1))=max (yT (l.take k)) l[k].levels:=by rw[qq h,aT,mo];simp[yZ,yT]
theorem rW(l:List qe)(k:Nat):yZ (l.take k)<=yZ l:=by have:=aT (l.take k) (l.drop k);rw[kb]at this;omega
noncomputable def FC (out:qe->O) (n:Nat):zb->Option O:=ql (α:=qe) (fun c=>[.agg c.V]) (fun c=>c.cb<=zu/\c.cb<=n) out
theorem zfu(out:qe->O)(n:Nat)(c:qe)(h:c.cb<=zu/\c.cb<=n):FC out n [.agg c.V]=some (out c):=
 qF (V:=fun c:qe=>[.agg c.V]) (a:=c) (fun a b e=>by simp only[zk,zI,O.agg.injEq]at e;exact kU e) h
@[simp]theorem Ls(Y:Hp)(c:qe):wA Y c.V=some (c.V,Y):=by rw[wi];simp
theorem gw(Y:Hp)(c:qe):qA Y (.agg c.V)=some (.agg c.V,Y):=by rw[wi];simp
theorem Fs(c:qe):O.noOwn (.agg c.V)=true:=by rw[wi];simp
theorem Zd(out:qe->O)(n:Nat)(c:qe)(Y:Hp)(Z:Nat)(h:c.cb<=zu/\c.cb<=n):zh false [] (FC out n) [.agg c.V] Y Z=some (out c,Y,Z):=
 yA (Y1:=Y) (show zD Y [.agg c.V]=some ([.agg c.V],Y) by simp only[zD,gw]) (zfu out n c h) (.inr (by simp only[wI,Fs,K8,Bool.and_self]))
theorem Q0{out:qe->O}{n:Nat}{args:zb}{r:O}(h:FC out n args=some r):∃c:qe,args=[.agg c.V]/\(c.cb<=zu/\c.cb<=n)/\r=out c:=zN h
theorem cE{out:qe->O}{f:FuncId}(a:∃fn,prog.funcs[f]?=some fn/\(fn.name== "runtime.NumGoroutine")=false/\fn.body.isNone=false):zg prog f (zh false [] (FC out 0)):=by
 refine⟨a,fun args Y Z r b d h=>?_⟩;unfold zh at h;split at h
 ·split at h
  ·rename_i e hF;obtain⟨c,_,g,_⟩:=Q0 hF;have:=Kx c;omega
  ·cases h
 ·cases h
noncomputable abbrev GC (out:qe->O):AM.Spec:=zh false [] (FC out zu)
theorem ZR(out:qe->O)(c:qe)(Y:Hp)(Z:Nat)(h:c.cb<=zu):GC out [.agg c.V] Y Z=some (out c,Y,Z):=Zd out zu c Y Z ⟨h,h⟩
end Go.Q
namespace Go.AM
variable{dr:Prop}
section
variable{C:Ctx}{pf:FuncId->Bool}{f:FuncId}{fn:Func}{code:Code}
theorem tW(hg:xa dr C pf)(s:dY C pf f fn code)(k:Bool)(ns:List Nat)(F:zb->Option O)
  (hF:∀args r,F args=some r->∀(w:World) (S:Nat->Prop) (vs:List Value),Zip (wJ w S) args vs->∃a t,Zip (wJ w S) a vs/\a.length<=fn.ntmps/\zq C fn a=some t/\∀(w:World) (S:Nat->Prop) (u:Value),wJ w S t u->wJ w S r u):kq dr C.P f (zh k ns F):=by
 refine⟨⟨fn,s.func,s.name,by rw[s.body];rfl⟩,?_⟩;intro args Y Z r Y' Z' h w S G vs hi hz;unfold zh at h;split at h
 ·rename_i aZ Y1 z;split at h
  ·rename_i t A;obtain⟨S1,y,B,D⟩:=jh (dr:=dr) hi z hz;obtain⟨a,rr,E,hn,d,H⟩:=hF _ t A w S1 vs (Wv B);unfold zq at d;split at d
   ·rename_i x hpe nxe I;obtain⟨⟨r1,hpf1⟩,J,l⟩:=zZ d;simp only at l;subst l;refine(ZV hg s I hn y.inv.st y.inv.iQ E).mono fun e w' hh=>?_
    obtain⟨v,S',G',he,fr,m,hx,hs0,K,_⟩:=hh;obtain⟨S2,k2,L⟩:=Yi (dr:=dr) m J hx;have M:=H _ _ _ L;have n:∀b,S2 b->S1 b\/(w.heap.size<=b/\b<w'.heap.size):=by
     intro b j;have o:=k2.inv.st b j;rcases k2.from_ b j with h1|⟨id,blk,h1,rfl⟩|h1
     ·rcases K b h1 with N|N
      ·exact .inl N
      ·exact .inr ⟨N,o⟩
     ·rcases Nat.lt_or_ge (G' id).g w.heap.size with h3|h3
      ·rename_i p;have:=p id blk h1;omega
      ·exact .inr ⟨h3,o⟩
     ·exact absurd h1 (by omega)
    split at h
    ·rename_i i;injection h with h
     injection h with Q h;injection h with R T;subst Q;subst R;subst T;refine⟨v,_,G,he,kx.outer hi fr,.c ?_⟩;rcases i with W|X
     ·exact l4 M W
     ·have q:=D X;exact M.mono fun b j=>⟨by rw[<-q];exact n b j,rfl⟩
    ·split at h
     ·injection h with h;injection h with Q h;injection h with R T;subst Q;subst R;subst T;exact⟨v,_,G,he,y.trans (kx.outer y.inv fr),.c (M.mono fun b j=>⟨n b j,rfl⟩)⟩
     ·cases h
   ·cases d
  ·cases h
 ·cases h
inductive fX (s:Nat):List (List O)->O->Prop
 |nil:fX s [] .nil
 |em:fX s [] .em
 |sl {c:List O} {es:List (List O)}:fX s (c::es) (.sl s (c::es))
theorem BN{w:World}{S:Nat->Prop}{s:Nat}{es:List zb}{u:Value}(h:wJ w S (.sl s es) u):∃y,fX s es y/\wJ w S y u:=by
 cases es with
 |cons c es=>exact⟨_,.sl,h⟩
 |nil=>
  cases h with
  |sl us a d b e f g=>
   rename_i A cap;cases A with
   |none=>have:=a rfl;subst this;exact⟨.nil,.nil,.nil⟩
   |some ad=>exact⟨.em,.em,.em b⟩
theorem VS{w:World}{S:Nat->Prop}{s:Nat}{es:List zb}{y:O}{u:Value}(h:fX s es y)(a:wJ w S y u):wJ w S (.sl s es) u:=by
 cases h with
 |nil=>cases a;exact .sl (es:=[]) (fun _ _=>undef) (by simp) (by simp) (by simp[maxLen]) (by simp) (by simp) (by simp)
 |em=>
  cases a with
  |em b=>exact .sl (es:=[]) (fun _ _=>undef) (by simp) (by simp) b (by simp) (by simp) (by simp)
 |sl=>exact a
theorem gx{w:World}{S:Nat->Prop}{cs:zb}{u:Value}(h:wJ w S (.agg cs) u){j s:Nat}{es:List zb}(c:cs[j]?=some (.sl s es)):∃y,fX s es y/\wJ w S (.agg (cs.set j y)) u:=by
 cases h with
 |agg f d=>
  rename_i us;have g:j<cs.length:=(zi.1 c).1;obtain⟨y,i,l⟩:=BN (d j _ us[j] c (by simp));refine⟨y,i,.agg (by simpa using f) fun k m u a b=>?_⟩;rw[List.getElem?_set]at a;split at a
  ·rename_i e;subst e;injection a with a
   subst a;rw[Qf (by omega)]at b;injection b with b
   subst b;exact l
  ·exact d k m u a b
section
variable{P:Program}{Y:Hp}{Z:Nat}{t:TypeId}{s e:Nat}{es:List zb}{y:O}
theorem fX.cell(h:fX s es y):y.wZ=true:=by cases h<;>rfl
end
theorem qT.more{Y:Hp}{Z e s:Nat}{v:O}{xs:List zb}(h:qT Y Z e s v xs)(b:Option kv):qT (qv Y Z b) (Z+1) e s v xs:=by
 rcases h with⟨rfl,rfl⟩|⟨id,c,rfl,a⟩
 ·exact .inl ⟨rfl,rfl⟩
 ·exact .inr ⟨id,by omega,rfl,by rw[zx _ _ _ _ (by omega)];exact a⟩
theorem Qq(g:xa dr C pf)(c:QZ C pf f fn)(b:Bool)(d:List Nat)(F:zb->Option O)
  (hF:∀args r,F args=some r->∀(w:World) (S:Nat->Prop) (vs:List Value),Zip (wJ w S) args vs->∃a e,Zip (wJ w S) a vs/\a.length<=fn.ntmps/\zq C fn a=some e/\∀(w:World) (S:Nat->Prop) (u:Value),wJ w S e u->wJ w S r u):kq dr C.P f (zh b d F):=
 let⟨_,c⟩:=c
 tW g c b d F hF
end
variable{dr:Prop}
def WU(P:Program)(l:Qg)(k:Nat)(L:List Tmp)(b:List Nat):Ctx:=⟨P,lookup l,fun _=>[],fun i=>if i=k then L else[],fun g=>b.contains g,fun _=>[],fun _=>none⟩
@[simp]theorem zfv(P:Program)(l:Qg)(k:Nat)(L:List Tmp)(b:List Nat):(WU P l k L b).P=P:=rfl
@[simp]theorem zfw(P:Program)(l:Qg)(k:Nat)(L:List Tmp)(b:List Nat)(Y:Hp)(Z g:Nat)(x y xs:zb):jD (WU P l k L b) Y Z (some (.fn (.func g) x y)) xs=(lookup l g).bind fun s=>s (x++xs++y) Y Z:=by unfold jD WU;simp only;cases lookup l g<;>rfl
@[simp]theorem Ob(P:Program)(l:Qg)(k:Nat)(L:List Tmp)(b:List Nat)(i:Nat)(a:Array Oper)(d:Bool)(st:St)(K:Exit->St->Prop)(h:¬i=k):Zy (WU P l k L b) (.region i a d) st K=iU (WU P l k L b) a a.toList st (Y9 K):=
 YE _ i a d st K rfl (by simp[WU,h])
theorem Vn{P:Program}{l:Qg}{k:Nat}{L:List Tmp}{b:List Nat}{a:Array Oper}{d:Bool}{st:St}{K:Exit->St->Prop}(h:Z6 L st):Zy (WU P l k L b) (.region k a d) st K=iU (WU P l k L b) a a.toList st (Y9 K):=
 Wt _ k a d st K (fun _ h=>by cases h) (by simpa[WU]using h)
def Ft(P:Program)(l:Qg)(k:Nat)(t:Tmp):Ctx:=⟨P,lookup l,fun _=>[],fun _=>[],fun _=>false,fun i=>if i=k then[t]else[],fun _=>none⟩
@[simp]theorem zfx(P:Program)(l:Qg)(k:Nat)(t:Tmp):(Ft P l k t).P=P:=rfl
@[simp]theorem zfy(P:Program)(l:Qg)(k:Nat)(t:Tmp)(Y:Hp)(Z g:Nat)(x y xs:zb):jD (Ft P l k t) Y Z (some (.fn (.func g) x y)) xs=(lookup l g).bind fun s=>s (x++xs++y) Y Z:=by unfold jD Ft;simp only;cases lookup l g<;>rfl
def eG(b:List Nat):Qg->Prop
 |[]=>True
 |(g,s)::l=>(b.contains g=true->Wf s)/\eG b l
theorem mq{P:Program}{l:Qg}{q:List Nat}{k:Nat}{L:List Tmp}{b:List Nat}(d:P.follows .mixedOrders=true)(h:cx dr P q l)(f:eG b l):xa dr (WU P l k L b) (fun g=>q.contains g):=by
 let g:=qw d h;refine⟨g.spec,g.quiet,g.mixed,?_,fun _ _ h=>by cases h⟩;have c:∀l:Qg,eG b l->∀g s,b.contains g=true->lookup l g=some s->Wf s:=by
  intro l
  induction l with
  |nil=>intro _ g s _ h;cases h
  |cons x l i=>
   obtain⟨k,sp⟩:=x;rintro⟨j,m⟩ g s a hs;simp only[gm]at hs;split at hs
   ·rename_i e;injection hs with hs
    subst hs;subst e;exact j a
   ·exact i m g s a hs
 exact fun g s a hs=>c l f g s a hs
theorem VT:∀{xs ys:zb} {Y Y1:Hp},zD Y xs=some (ys,Y1)->∀{id:Nat} {b:kv},Y id=some b->b.arr=false->Y1 id=some b
 |[],ys,Y,Y1,h,id,b,a,c=>by simp only[zD]at h;injection h with h;injection h with _ h;subst h;exact a
 |x::l,ys,Y,Y1,h,id,b,a,c=>by
  simp only[zD]at h;split at h
  ·rename_i y Y2 d;split at h
   ·rename_i r e f;injection h with h;injection h with _ h;subst h
    exact VT f (Jr d a c) c
   ·cases h
  ·cases h
def qX(a r:O):Prop:=∀(w:World) (S:Nat->Prop) (u:Value),wJ w S a u->wJ w S r u
def zfz(r:O)(x:O)(Y:Hp)(_:Nat):Prop:=∃a,(AM.freeze Y x).map (·.1)=some a/\qX a r
theorem Ym{C:Ctx}{fn:Func}{code:Code}{args:zb}{r:O}(b:fn.body=some code)
  (h:Zy C code ⟨j9 args,fun _=>none,0⟩ (Jt C.P fn (zfz r))):∃a,zq C fn args=some a/\qX a r:=by
 obtain⟨x,f,g,c,a,d,e⟩:=qE b h;exact⟨a,by unfold zq;simp only[c];exact d,e⟩
theorem tX{w:World}{S:Nat->Prop}{s:Nat}{xs:List zb}{y:O}{u:Value}(h:y=.nil/\xs=[]\/y=.sl s xs)(a:wJ w S y u):wJ w S (.sl s xs) u:=by
 rcases h with⟨rfl,rfl⟩|rfl
 ·exact VS .nil a
 ·exact a
theorem qX.refl(x:O):qX x x:=fun _ _ _ h=>h
theorem qX.oT{s:Nat}{xs:List zb}{y:O}(h:y=.nil/\xs=[]\/y=.sl s xs):qX y (.sl s xs):=fun _ _ _ a=>tX h a
inductive jT:List O->List O->Prop
 |nil:jT [] []
 |cons {x y:O} {xs ys:List O}:qX x y->jT xs ys->jT (x::xs) (y::ys)
theorem jT.length{xs ys:zb}(h:jT xs ys):xs.length=ys.length:=by
 induction h with
 |nil=>rfl
 |cons _ _ a=>simp[a]
theorem jT.get{xs ys:zb}(h:jT xs ys):∀{j:Nat} {x y:O},xs[j]?=some x->ys[j]?=some y->qX x y:=by
 induction h with
 |nil=>intro j x y h;cases h
 |cons c _ d=>
  intro j x y a b;cases j with
  |zero=>simp at a b;subst a;subst b;exact c
  |succ j=>exact d (by simpa using a) (by simpa using b)
theorem jT.agg{xs ys:zb}(h:jT xs ys):qX (.agg xs) (.agg ys):=by
 intro w S u c;cases c with
 |agg d e=>
  refine .agg (by rw[<-h.length];exact d) fun j g u b f=>?_
  have a:j<xs.length:=by rw[h.length];exact(zi.1 b).1
  exact h.get (zl a) b _ _ _ (e j _ u (zl a) f)
theorem jT.wG{xs ys:zb}(h:jT xs ys):qX (.wG xs) (.wG ys):=by
 intro w S u c;cases c with
 |wG d e=>
  refine .wG (by rw[<-h.length];exact d) fun j g u b f=>?_
  have a:j<xs.length:=by rw[h.length];exact(zi.1 b).1
  exact h.get (zl a) b _ _ _ (e j _ u (zl a) f)
theorem qT.at_{Y:Hp}{Z e s:Nat}{v:O}{xs:List zb}(h:qT Y Z e s v xs)(a:0<xs.length):∃id,id<Z/\v=.own id 0 xs.length/\Y id=some ⟨e,s,true,xs⟩:=by
 rcases h with⟨rfl,rfl⟩|h
 ·simp at a
 ·exact h
variable{dr:Prop}
def n1(s:Nat):O->O
 | .nil=>.sl s []
 | .em=>.sl s []
 |x=>x
@[simp]theorem zhv(s:Nat):n1 s .nil=.sl s []:=rfl
@[simp]theorem zhR(s:Nat):n1 s .em=.sl s []:=rfl
@[simp]theorem zhS(s t:Nat)(es:List zb):n1 s (.sl t es)=.sl t es:=rfl
@[simp]theorem n1_v(s:Nat)(x:Value):n1 s (.v x)=.v x:=rfl
def QJ:List (Option Nat)->zb->zb
 |some s::l,x::xs=>n1 s x::QJ l xs
 |none::l,x::xs=>x::QJ l xs
 |_,xs=>xs
inductive Sh where
 |a
 |g (p:List (Option Nat))
 |s (n:Nat) (p:List (Option Nat))
def Sh.fix:Sh->O->O
 | .g p,.agg cs=>.agg (QJ p cs)
 | .s _ p,.sl m es=>.sl m (es.map (QJ p))
 | .s n _,x=>n1 n x
 |_,x=>x
@[simp]theorem Sh.zhZ(x:O):Sh.fix .a x=x:=by cases x<;>rfl
@[simp]theorem Sh.zh0(p:List (Option Nat))(cs:zb):Sh.fix (.g p) (.agg cs)=.agg (QJ p cs):=rfl
@[simp]theorem Sh.oU(n m:Nat)(p:List (Option Nat))(es:List zb):Sh.fix (.s n p) (.sl m es)=.sl m (es.map (QJ p)):=rfl
@[simp]theorem Sh.zg8(n:Nat)(p:List (Option Nat)):Sh.fix (.s n p) .nil=.sl n []:=rfl
@[simp]theorem Sh.zhD(n:Nat)(p:List (Option Nat)):Sh.fix (.s n p) .em=.sl n []:=rfl
attribute [simp] QJ
def cF:List Sh->zb->zb
 |h::l,x::xs=>h.fix x::cF l xs
 |_,xs=>xs
attribute [simp] cF
theorem Lt(s:Nat)(x:O):qX x (n1 s x):=by
 intro w S u h;cases x with
 |nil=>exact VS .nil h
 |em=>exact VS .em h
 |_=>exact h
theorem vW:∀(p:List (Option Nat)) (cs:zb),(QJ p cs).length=cs.length
 |[],cs=>by cases cs<;>rfl
 |none::p,[]=>rfl
 |some s::p,[]=>rfl
 |none::p,x::cs=>by simp[vW p cs]
 |some s::p,x::cs=>by simp[vW p cs]
theorem Ze:∀(p:List (Option Nat)) (cs:zb),jT cs (QJ p cs)
 |[],[]=>.nil
 |[],x::cs=>by have:=Ze [] cs;rw[show QJ [] cs=cs by cases cs<;>rfl]at this;exact .cons (qX.refl x) this
 |none::p,[]=>.nil
 |some s::p,[]=>.nil
 |none::p,x::cs=>.cons (qX.refl x) (Ze p cs)
 |some s::p,x::cs=>.cons (Lt s x) (Ze p cs)
theorem Ky(h:Sh)(x:O):qX x (h.fix x):=by
 intro w S u f;cases h with
 |a=>simpa using f
 |g p=>
  cases x with
  |agg cs=>exact(Ze p cs).agg w S u f
  |_=>exact f
 |s n p=>
  cases x with
  |sl m es=>
   cases f with
   |sl us o q r t v y=>
    rename_i A cap;have:=wJ.sl (w:=w) (S:=S) (es:=es.map (QJ p)) (A:=A) (cap:=cap) (s:=m) us o (by simpa using q) r (fun c z=>by
     obtain⟨b,d,rfl⟩:=qj.1 z;rw[vW];exact t b d) (fun i j c B hi l=>by
     rw[qo]at hi;obtain⟨b,d,rfl⟩:∃b,es[i]?=some b/\QJ p b=c:=by
      cases k:es[i]? with
      |none=>rw[k]at hi;cases hi
      |some b=>rw[k]at hi;injection hi with hi;exact⟨b,rfl,hi⟩
     have e:j<b.length:=by have:=(zi.1 l).1;rwa [vW]at this
     exact v i j b _ d (zl e)) (fun i j c B hi l=>by
     rw[qo]at hi;obtain⟨b,d,rfl⟩:∃b,es[i]?=some b/\QJ p b=c:=by
      cases k:es[i]? with
      |none=>rw[k]at hi;cases hi
      |some b=>rw[k]at hi;injection hi with hi;exact⟨b,rfl,hi⟩
     have e:j<b.length:=by have:=(zi.1 l).1;rwa [vW]at this
     exact(Ze p b).get (zl e) l _ _ _ (y i j b _ d (zl e)))
    rw[vB]at this;exact this
  |nil=>exact VS .nil f
  |em=>exact VS .em f
  |_=>exact f
theorem JO{w:World}{S:Nat->Prop}:∀{hs:List Sh} {xs:zb} {us:List Value},Zip (wJ w S) xs us->Zip (wJ w S) (cF hs xs) us
 |[],xs,us,h=>by cases xs<;>exact h
 |s::hs,[],us,h=>h
 |s::hs,x::xs,us,h=>by obtain⟨u,a,rfl,b,c⟩:=h.jC;exact .cons (Ky s x w S u b) (JO c)
def qn(a:List Sh)(F:zb->Option O):AM.Spec:=zh false [] fun args=>F (cF a args)
theorem yG(a:List Sh)(F:zb->Option O):Ws (qn a F):=zt _ _
theorem wO{C:Ctx}{pf:FuncId->Bool}{f:FuncId}{fn:Func}(c:xa dr C pf)(d:QZ C pf f fn)(a:List Sh)(F:zb->Option O)
  (hF:∀args r,F args=some r->args.length<=fn.ntmps/\∃b,zq C fn args=some b/\qX b r):kq dr C.P f (qn a F):=
 Qq c d false [] _ fun args r h w S vs e=>by obtain⟨g,b,i,j⟩:=hF _ _ h;exact⟨cF a args,b,JO e,g,i,j⟩
theorem vN{a:List Sh}{F:zb->Option O}{args:zb}{Y:Hp}{Z:Nat}{b:zb}{r:O}(c:zD Y args=some (b,Y))(d:F (cF a b)=some r)(e:r.flat=true\/args.all O.noOwn=true) :
  qn a F args Y Z=some (r,Y,Z):=by
 have f:yg [] b=b:=by cases b<;>rfl
 exact yA c (by rw[f];exact d) e
def cG(sh:Sh)(r:O)(x:O)(Y:Hp)(_:Nat):Prop:=∃a,(AM.freeze Y x).map (·.1)=some a/\sh.fix a=r
theorem Yn{C:Ctx}{fn:Func}{code:Code}{args:zb}{sh:Sh}{r:O}(b:fn.body=some code)
  (h:Zy C code ⟨j9 args,fun _=>none,0⟩ (Jt C.P fn (cG sh r))):∃a,zq C fn args=some a/\qX a r:=by
 obtain⟨x,f,g,c,a,d,e⟩:=qE b h;exact⟨a,by unfold zq;simp only[c];exact d,e ▸ Ky sh a⟩
def qi(sh:Sh)(r:O)(x:O)(Y:Hp)(_:Nat):Prop:=∃a y,(AM.freeze Y x).map (·.1)=some (.wG [a,y])/\.wG [sh.fix a,y]=r
theorem yB{C:Ctx}{fn:Func}{code:Code}{args:zb}{sh:Sh}{r:O}(b:fn.body=some code)
  (h:Zy C code ⟨j9 args,fun _=>none,0⟩ (Jt C.P fn (qi sh r))):∃a,zq C fn args=some a/\qX a r:=by
 obtain⟨x,f,g,c,a,y,d,e⟩:=qE b h;exact⟨.wG [a,y],by unfold zq;simp only[c];exact d,e ▸ (jT.cons (Ky sh a) (.cons (qX.refl y) .nil)).wG⟩
theorem xt{P:Program}{g:FuncId}{F:zb->Option O}(j:∃fn,P.funcs[g]?=some fn/\(fn.name== "runtime.NumGoroutine")=false/\fn.body.isNone=false)
  (h:∀args r,F args=some r->∃us:List Value,args=us.map O.v/\(∀u∈us,lit u=true)/\r.flat=true/\∃v,(∀w S,wJ w S r v)/\∀w S,IE P w S->Calls P g us.toArray w fun e w'=>e=.returned v/\Fr dr w (fun _=>False) w'):kq dr P g (zh false [] F):=by
 refine⟨j,?_⟩;intro args Y Z r I J hs w S G vs hi s;unfold zh at hs;split at hs
 ·rename_i k Y1 m;split at hs
  ·rename_i K hF;obtain⟨us,e,t,n,v,z,A⟩:=h _ _ hF;have B:yg [] k=k:=by cases k<;>rfl
   rw[B]at e;subst e;have d:args=us.map O.v:=by
    have o:∀(args:zb) (us:List Value) (Y1:Hp),zD Y args=some (us.map O.v,Y1)->args=us.map O.v:=by
     intro args
     induction args with
     |nil=>intro us Y1 b;simp only[zD]at b;injection b with b;injection b with b _
     |cons x l C=>
      intro us Y1 b;simp only[zD]at b;split at b
      ·rename_i y Y2 a;split at b
       ·rename_i L p q;injection b with b
        injection b with b _;cases us with
        |nil=>simp at b
        |cons u us=>
         simp only[we,zk]at b;obtain⟨rfl,rfl⟩:=b;have D:x=.v u/\Y2=Y:=by
          unfold qA at a;split at a
          ·split at a
           ·injection a with a;injection a with a _;cases a
           ·cases a
          ·unfold wY at a;split at a<;>first
            |(split at a<;>first|(split at a<;>first|(injection a with a;injection a with a _;cases a;done)|cases a)|cases a)
            |(injection a with a;injection a with i f;first|(exact⟨by rw[<-i],f.symm⟩)|cases i)
            |cases a
         obtain⟨rfl,rfl⟩:=D;rw[C us p q];rfl
       ·cases b
      ·cases b
    exact o args us Y1 m
   subst d;simp only[n,true_or,qH]at hs;injection hs with hs
   injection hs with i f;injection f with f E;subst i;subst f;subst E;rw[l8 t s];refine(A w S hi.iQ).mono fun e w' b=>?_
   obtain⟨rfl,H⟩:=b;exact⟨v,_,G,rfl,kx.outer hi H,.c (z _ _)⟩
  ·cases hs
 ·cases hs
end Go.AM
namespace Go.Proofs
open Go.Shelf
def Tryz.Ev:Go.Shelf.Ren:=⟨fun|161=>255|231=>190|227=>192|233=>193|235=>195|228=>238|197=>239|151=>240|260=>267|152=>268|137=>257|119=>289|224=>236|225=>235|217=>234|266=>265|n=>n,fun|9=>9|4=>4|3=>3|5=>5|117=>199|116=>198|0=>0|124=>202|105=>240|21=>21|119=>273|46=>83|139=>276|138=>275|n=>n,fun|3=>1|4=>2|n=>n⟩
theorem Tryz.zaJ:Go.Proofs.Lays.n161 prog Tryz.Ev:={
 mixed:=by kernel_rfl
 f119:=func289.trans (zr some (by kernel_rfl))
 f137:=func257.trans (zr some (by kernel_rfl))
 f151:=func240.trans (zr some (by kernel_rfl))
 f152:=func268.trans (zr some (by kernel_rfl))
 f161:=func255.trans (zr some (by kernel_rfl))
 f197:=func239.trans (zr some (by kernel_rfl))
 f217:=func234.trans (zr some (by kernel_rfl))
 f224:=func236.trans (zr some (by kernel_rfl))
 f225:=func235.trans (zr some (by kernel_rfl))
 f227:=func192.trans (zr some (by kernel_rfl))
 f228:=func238.trans (zr some (by kernel_rfl))
 f231:=func190.trans (zr some (by kernel_rfl))
 f233:=func193.trans (zr some (by kernel_rfl))
 f235:=func195.trans (zr some (by kernel_rfl))
 f260:=func267.trans (zr some (by kernel_rfl))
 f266:=func265.trans (zr some (by kernel_rfl))
 t0:=underlying0
 a0:=isAgg0
 z0:=sizeOf0
 v0:=zeroValue0
 t3:=underlying3
 a3:=isAgg3
 z3:=sizeOf3
 v3:=zeroValue3
 t4:=underlying4
 a4:=isAgg4
 z4:=sizeOf4
 v4:=zeroValue4
 t5:=underlying5
 a5:=isAgg5
 z5:=sizeOf5
 v5:=zeroValue5
 t9:=underlying9
 a9:=isAgg9
 z9:=sizeOf9
 v9:=zeroValue9
 t21:=underlying21
 a21:=isAgg21
 z21:=sizeOf21
 v21:=zeroValue21
 t46:=underlying83
 a46:=isAgg83
 z46:=sizeOf83
 v46:=zeroValue83
 t105:=underlying240
 a105:=isAgg240
 z105:=sizeOf240
 v105:=zeroValue240
 t116:=underlying198
 a116:=isAgg198
 z116:=sizeOf198
 t117:=underlying199
 a117:=isAgg199
 z117:=sizeOf199
 v117:=zeroValue199
 t119:=underlying273
 a119:=isAgg273
 z119:=sizeOf273
 t124:=underlying202
 a124:=isAgg202
 z124:=sizeOf202
 v124:=zeroValue202
 t138:=underlying275
 a138:=isAgg275
 z138:=sizeOf275
 v138:=zeroValue275
 t139:=underlying276
 a139:=isAgg276
 z139:=sizeOf276
 v139:=zeroValue276
 g3:=by kernel_rfl
 g4:=by kernel_rfl}
def Tryz.Ew:Go.Shelf.Ren:=⟨fun|160=>160|232=>191|231=>190|227=>192|234=>194|233=>193|236=>196|235=>195|228=>238|271=>241|151=>240|197=>239|120=>269|152=>268|260=>267|137=>257|119=>289|224=>236|225=>235|217=>234|266=>265|n=>n,fun|9=>9|4=>4|3=>3|5=>5|117=>199|116=>198|0=>0|124=>202|21=>21|105=>240|46=>83|119=>273|139=>276|138=>275|n=>n,fun|3=>1|4=>2|n=>n⟩
theorem Tryz.zaK:Go.Proofs.Lays.n160 prog Tryz.Ew:={
 mixed:=by kernel_rfl
 f119:=func289.trans (zr some (by kernel_rfl))
 f120:=func269.trans (zr some (by kernel_rfl))
 f137:=func257.trans (zr some (by kernel_rfl))
 f151:=func240.trans (zr some (by kernel_rfl))
 f152:=func268.trans (zr some (by kernel_rfl))
 f160:=func160.trans (zr some (by kernel_rfl))
 f197:=func239.trans (zr some (by kernel_rfl))
 f217:=func234.trans (zr some (by kernel_rfl))
 f224:=func236.trans (zr some (by kernel_rfl))
 f225:=func235.trans (zr some (by kernel_rfl))
 f227:=func192.trans (zr some (by kernel_rfl))
 f228:=func238.trans (zr some (by kernel_rfl))
 f231:=func190.trans (zr some (by kernel_rfl))
 f232:=func191.trans (zr some (by kernel_rfl))
 f233:=func193.trans (zr some (by kernel_rfl))
 f234:=func194.trans (zr some (by kernel_rfl))
 f235:=func195.trans (zr some (by kernel_rfl))
 f236:=func196.trans (zr some (by kernel_rfl))
 f260:=func267.trans (zr some (by kernel_rfl))
 f266:=func265.trans (zr some (by kernel_rfl))
 f271:=func241.trans (zr some (by kernel_rfl))
 t0:=underlying0
 a0:=isAgg0
 z0:=sizeOf0
 v0:=zeroValue0
 t3:=underlying3
 a3:=isAgg3
 z3:=sizeOf3
 v3:=zeroValue3
 t4:=underlying4
 a4:=isAgg4
 z4:=sizeOf4
 v4:=zeroValue4
 t5:=underlying5
 a5:=isAgg5
 z5:=sizeOf5
 v5:=zeroValue5
 t9:=underlying9
 a9:=isAgg9
 z9:=sizeOf9
 v9:=zeroValue9
 t21:=underlying21
 a21:=isAgg21
 z21:=sizeOf21
 v21:=zeroValue21
 t46:=underlying83
 a46:=isAgg83
 z46:=sizeOf83
 v46:=zeroValue83
 t105:=underlying240
 a105:=isAgg240
 z105:=sizeOf240
 v105:=zeroValue240
 t116:=underlying198
 a116:=isAgg198
 z116:=sizeOf198
 t117:=underlying199
 a117:=isAgg199
 z117:=sizeOf199
 v117:=zeroValue199
 t119:=underlying273
 a119:=isAgg273
 z119:=sizeOf273
 t124:=underlying202
 a124:=isAgg202
 z124:=sizeOf202
 v124:=zeroValue202
 t138:=underlying275
 a138:=isAgg275
 z138:=sizeOf275
 v138:=zeroValue275
 t139:=underlying276
 a139:=isAgg276
 z139:=sizeOf276
 v139:=zeroValue276
 g3:=by kernel_rfl
 g4:=by kernel_rfl}
def Tryz.Ex:Go.Shelf.Ren:=⟨fun|137=>257|217=>234|266=>265|n=>n,fun|9=>9|5=>5|3=>3|n=>n,fun|n=>n⟩
theorem Tryz.zaL:Go.Proofs.Lays.n137 prog Tryz.Ex:={
 mixed:=by kernel_rfl
 f137:=func257.trans (zr some (by kernel_rfl))
 f217:=func234.trans (zr some (by kernel_rfl))
 f266:=func265.trans (zr some (by kernel_rfl))
 t3:=underlying3
 a3:=isAgg3
 z3:=sizeOf3
 v3:=zeroValue3
 t5:=underlying5
 a5:=isAgg5
 z5:=sizeOf5
 v5:=zeroValue5
 t9:=underlying9
 a9:=isAgg9
 z9:=sizeOf9
 v9:=zeroValue9}
def Tryz.Ey:Go.Shelf.Ren:=⟨fun|172=>200|244=>244|245=>245|247=>272|279=>273|280=>274|281=>275|282=>276|287=>290|316=>291|171=>293|205=>292|321=>299|322=>300|243=>301|246=>304|283=>305|284=>306|285=>307|286=>308|129=>103|317=>309|318=>310|319=>311|320=>312|337=>313|338=>314|n=>n,fun|9=>9|3=>3|75=>205|76=>206|4=>4|5=>5|167=>259|37=>260|0=>0|85=>261|2=>2|168=>263|53=>121|175=>278|46=>83|210=>281|127=>287|145=>290|143=>288|21=>21|171=>294|173=>296|212=>299|51=>119|20=>20|213=>300|232=>301|233=>302|80=>303|n=>n,fun|15=>3|16=>4|17=>5|18=>6|19=>7|n=>n⟩
theorem Tryz.zaM:Go.Proofs.Lays.n172 prog Tryz.Ey:={
 mixed:=by kernel_rfl
 f129:=func103.trans (zr some (by kernel_rfl))
 f171:=func293.trans (zr some (by kernel_rfl))
 f172:=func200.trans (zr some (by kernel_rfl))
 f205:=func292.trans (zr some (by kernel_rfl))
 f243:=func301.trans (zr some (by kernel_rfl))
 f244:=func244.trans (zr some (by kernel_rfl))
 f245:=func245.trans (zr some (by kernel_rfl))
 f246:=func304.trans (zr some (by kernel_rfl))
 f247:=func272.trans (zr some (by kernel_rfl))
 f279:=func273.trans (zr some (by kernel_rfl))
 f280:=func274.trans (zr some (by kernel_rfl))
 f281:=func275.trans (zr some (by kernel_rfl))
 f282:=func276.trans (zr some (by kernel_rfl))
 f283:=func305.trans (zr some (by kernel_rfl))
 f284:=func306.trans (zr some (by kernel_rfl))
 f285:=func307.trans (zr some (by kernel_rfl))
 f286:=func308.trans (zr some (by kernel_rfl))
 f287:=func290.trans (zr some (by kernel_rfl))
 f316:=func291.trans (zr some (by kernel_rfl))
 f317:=func309.trans (zr some (by kernel_rfl))
 f318:=func310.trans (zr some (by kernel_rfl))
 f319:=func311.trans (zr some (by kernel_rfl))
 f320:=func312.trans (zr some (by kernel_rfl))
 f321:=func299.trans (zr some (by kernel_rfl))
 f322:=func300.trans (zr some (by kernel_rfl))
 f337:=func313.trans (zr some (by kernel_rfl))
 f338:=func314.trans (zr some (by kernel_rfl))
 t0:=underlying0
 a0:=isAgg0
 z0:=sizeOf0
 v0:=zeroValue0
 t2:=underlying2
 a2:=isAgg2
 z2:=sizeOf2
 v2:=zeroValue2
 t3:=underlying3
 a3:=isAgg3
 z3:=sizeOf3
 v3:=zeroValue3
 t4:=underlying4
 a4:=isAgg4
 z4:=sizeOf4
 v4:=zeroValue4
 t5:=underlying5
 a5:=isAgg5
 z5:=sizeOf5
 v5:=zeroValue5
 t9:=underlying9
 a9:=isAgg9
 z9:=sizeOf9
 v9:=zeroValue9
 t20:=underlying20
 a20:=isAgg20
 z20:=sizeOf20
 v20:=zeroValue20
 t21:=underlying21
 a21:=isAgg21
 z21:=sizeOf21
 v21:=zeroValue21
 t37:=underlying260
 a37:=isAgg260
 z37:=sizeOf260
 v37:=zeroValue260
 t46:=underlying83
 a46:=isAgg83
 z46:=sizeOf83
 v46:=zeroValue83
 t51:=underlying119
 a51:=isAgg119
 z51:=sizeOf119
 v51:=zeroValue119
 t53:=underlying121
 a53:=isAgg121
 z53:=sizeOf121
 v53:=zeroValue121
 t75:=underlying205
 a75:=isAgg205
 z75:=sizeOf205
 v75:=zeroValue205
 t76:=underlying206
 a76:=isAgg206
 z76:=sizeOf206
 v76:=zeroValue206
 t85:=underlying261
 a85:=isAgg261
 z85:=sizeOf261
 v85:=zeroValue261
 t127:=underlying287
 a127:=isAgg287
 z127:=sizeOf287
 v127:=zeroValue287
 t143:=underlying288
 a143:=isAgg288
 z143:=sizeOf288
 v143:=zeroValue288
 t145:=underlying290
 a145:=isAgg290
 z145:=sizeOf290
 v145:=zeroValue290
 t167:=underlying259
 a167:=isAgg259
 z167:=sizeOf259
 v167:=zeroValue259
 t168:=underlying263
 a168:=isAgg263
 z168:=sizeOf263
 v168:=zeroValue263
 t171:=underlying294
 a171:=isAgg294
 z171:=sizeOf294
 v171:=zeroValue294
 t173:=underlying296
 a173:=isAgg296
 z173:=sizeOf296
 v173:=zeroValue296
 t175:=underlying278
 a175:=isAgg278
 z175:=sizeOf278
 v175:=zeroValue278
 t210:=underlying281
 a210:=isAgg281
 z210:=sizeOf281
 v210:=zeroValue281
 t212:=underlying299
 a212:=isAgg299
 z212:=sizeOf299
 v212:=zeroValue299
 t213:=underlying300
 a213:=isAgg300
 z213:=sizeOf300
 t232:=underlying301
 a232:=isAgg301
 z232:=sizeOf301
 v232:=zeroValue301
 t233:=underlying302
 a233:=isAgg302
 z233:=sizeOf302
 v233:=zeroValue302
 g15:=by kernel_rfl
 g16:=by kernel_rfl
 g17:=by kernel_rfl
 g18:=by kernel_rfl
 g19:=by kernel_rfl}
def Tryz.Ez:Go.Shelf.Ren:=⟨fun|219=>189|217=>234|225=>235|224=>236|267=>237|266=>265|314=>266|n=>n,fun|9=>9|3=>3|4=>4|5=>5|46=>83|146=>255|51=>119|n=>n,fun|1=>0|n=>n⟩
theorem Tryz.zaN:Go.Proofs.Lays.n219 prog Tryz.Ez:={
 mixed:=by kernel_rfl
 f217:=func234.trans (zr some (by kernel_rfl))
 f219:=func189.trans (zr some (by kernel_rfl))
 f224:=func236.trans (zr some (by kernel_rfl))
 f225:=func235.trans (zr some (by kernel_rfl))
 f266:=func265.trans (zr some (by kernel_rfl))
 f267:=func237.trans (zr some (by kernel_rfl))
 f314:=func266.trans (zr some (by kernel_rfl))
 t3:=underlying3
 a3:=isAgg3
 z3:=sizeOf3
 v3:=zeroValue3
 t4:=underlying4
 a4:=isAgg4
 z4:=sizeOf4
 v4:=zeroValue4
 t5:=underlying5
 a5:=isAgg5
 z5:=sizeOf5
 v5:=zeroValue5
 t9:=underlying9
 a9:=isAgg9
 z9:=sizeOf9
 v9:=zeroValue9
 t46:=underlying83
 a46:=isAgg83
 z46:=sizeOf83
 v46:=zeroValue83
 t51:=underlying119
 a51:=isAgg119
 z51:=sizeOf119
 v51:=zeroValue119
 t146:=underlying255
 a146:=isAgg255
 z146:=sizeOf255
 v146:=zeroValue255
 g1:=by kernel_rfl}
def Tryz.EA:Go.Shelf.Ren:=⟨fun|138=>243|195=>270|218=>271|143=>159|219=>189|217=>234|225=>235|224=>236|267=>237|266=>265|314=>266|n=>n,fun|9=>9|3=>3|4=>4|5=>5|0=>0|46=>83|146=>255|51=>119|n=>n,fun|1=>0|n=>n⟩
theorem Tryz.zaO:Go.Proofs.Lays.n138 prog Tryz.EA:={
 mixed:=by kernel_rfl
 f138:=func243.trans (zr some (by kernel_rfl))
 f143:=func159.trans (zr some (by kernel_rfl))
 f195:=func270.trans (zr some (by kernel_rfl))
 f217:=func234.trans (zr some (by kernel_rfl))
 f218:=func271.trans (zr some (by kernel_rfl))
 f219:=func189.trans (zr some (by kernel_rfl))
 f224:=func236.trans (zr some (by kernel_rfl))
 f225:=func235.trans (zr some (by kernel_rfl))
 f266:=func265.trans (zr some (by kernel_rfl))
 f267:=func237.trans (zr some (by kernel_rfl))
 f314:=func266.trans (zr some (by kernel_rfl))
 t0:=underlying0
 a0:=isAgg0
 z0:=sizeOf0
 v0:=zeroValue0
 t3:=underlying3
 a3:=isAgg3
 z3:=sizeOf3
 v3:=zeroValue3
 t4:=underlying4
 a4:=isAgg4
 z4:=sizeOf4
 v4:=zeroValue4
 t5:=underlying5
 a5:=isAgg5
 z5:=sizeOf5
 v5:=zeroValue5
 t9:=underlying9
 a9:=isAgg9
 z9:=sizeOf9
 v9:=zeroValue9
 t46:=underlying83
 a46:=isAgg83
 z46:=sizeOf83
 v46:=zeroValue83
 t51:=underlying119
 a51:=isAgg119
 z51:=sizeOf119
 v51:=zeroValue119
 t146:=underlying255
 a146:=isAgg255
 z146:=sizeOf255
 v146:=zeroValue255
 g1:=by kernel_rfl}
end Go.Proofs
namespace Go.Q
noncomputable def Zr (f:za->za->O) (pre:za->za->Prop):zb->Option O:=ql (α:=za×za) (fun a=>[str a.1,str a.2]) (fun a=>a.1.length<=zu/\a.2.length<=zu/\pre a.1 a.2) (fun a=>f a.1 a.2)
theorem Fu:∀a b:za×za,[str a.1,str a.2]=[str b.1,str b.2]->a=b:=by rintro⟨c,d⟩ ⟨f,g⟩ e;simp only[zk,zI]at e;rw[wR e.1,wR e.2]
theorem jV(f:za->za->O)(pre:za->za->Prop)(a b:za)(Y:Hp)(Z:Nat)(h:a.length<=zu)(c:b.length<=zu)(d:pre a b)(e:(f a b).flat=true):zh false [] (Zr f pre) [str a,str b] Y Z=some (f a b,Y,Z):=
 Ja (a,b) _ _ rfl Fu ⟨h,c,d⟩ (.inl e)
theorem kl{f:za->za->O}{pre:za->za->Prop}{args:zb}{r:O}(h:Zr f pre args=some r):∃a b,args=[str a,str b]/\a.length<=zu/\b.length<=zu/\pre a b/\r=f a b:=by obtain⟨⟨a,b⟩,rfl,⟨c,d,e⟩,rfl⟩:=zN h;exact⟨a,b,rfl,c,d,e,rfl⟩
theorem HL:Nu prog 0:=by refine⟨xG (by kernel_rfl),#[.int .i64 0],3,by kernel_rfl,rfl,by kernel_rfl,by kernel_rfl,by kernel_rfl⟩
def Fv(a b:za):O:=int (Lib.index a b)
def cntP(a b:za):O:=int (Lib.count a b)
theorem BO:zg prog 189 (zh false [] (Zr Fv fun _ _=>True)):=
 xt ⟨_,func189,by kernel_rfl,by kernel_rfl⟩ fun args r h=>by
  obtain⟨a,b,rfl,c,d,_,rfl⟩:=kl h;unfold zu at c d;refine⟨[.string ⟨a.toArray⟩,.string ⟨b.toArray⟩],rfl,by simp[lit],rfl,.int .i64 (Lib.index a b),fun w S=>.v rfl,fun w S f=>?_⟩;obtain⟨_,m,g⟩:=f.1 0 HL;refine(Any.stringslite_Index Tryz.zaN ⟨a.toArray⟩ ⟨b.toArray⟩ m w (by simp;omega) g).mono fun e w' i=>?_
  obtain⟨rfl,rfl⟩:=i;exact⟨by simp,Fr.refl _ _⟩
theorem tY:zg prog 243 (zh false [] (Zr cntP fun _ b=>1<=b.length)):=
 xt ⟨_,func243,by kernel_rfl,by kernel_rfl⟩ fun args r h=>by
  obtain⟨a,b,rfl,c,d,f,rfl⟩:=kl h;unfold zu at c d;refine⟨[.string ⟨a.toArray⟩,.string ⟨b.toArray⟩],rfl,by simp[lit],rfl,.int .i64 (Lib.count a b),fun w S=>.v rfl,fun w S g=>?_⟩;obtain⟨_,m,i⟩:=g.1 0 HL;refine(Any.strings_Count_any Tryz.zaO ⟨a.toArray⟩ ⟨b.toArray⟩ m w (by simp;omega) i (by simpa using f)).mono fun e w' j=>?_
  obtain⟨rfl,rfl⟩:=j;exact⟨by simp[Lib.countB],Fr.refl _ _⟩
noncomputable abbrev Ci:Ctx:=zR prog [(189,zh false [] (Zr Fv fun _ _=>True))]
theorem za9:AM.Good Ci (fun g=>[189].contains g):=qw mixed ⟨BO,fun _=>zt _ _,trivial⟩
theorem JP(a b:za)(Y:Hp)(Z:Nat)(h:a.length<=zu)(c:b.length<=zu):zh false [] (Zr Fv fun _ _=>True) [str a,str b] Y Z=some (int (Lib.index a b),Y,Z):=jV _ _ a b Y Z h c trivial rfl
theorem cH:zg prog 159 (zh false [] (Zr Fv fun _ _=>True)):=
 wW (fn:=f159) za9 (qD func159) false [] _ fun args r h=>by obtain⟨a,b,rfl,c,d,_,rfl⟩:=kl h;exact⟨by simp[f159],_,zm rfl (by simp[JP,c,d,Fv,f159]),qb _⟩
noncomputable abbrev Ci2:Ctx:=zR prog [(159,zh false [] (Zr Fv fun _ _=>True)),(243,zh false [] (Zr cntP fun _ b=>1<=b.length))]
theorem Oc:AM.Good Ci2 (fun g=>[159].contains g):=qw mixed ⟨cH,fun _=>zt _ _,tY,fun _=>zt _ _,trivial⟩
def BP(a b:za):O:=qS (Lib.contains a b)
theorem YH:zg prog 123 (zh false [] (Zr BP fun _ _=>True)):=
 wW (fn:=f123) Oc (qD func123) false [] _ fun args r h=>by obtain⟨a,b,rfl,c,d,_,rfl⟩:=kl h;exact⟨by simp[f123],_,zm rfl (by simp[JP,c,d,BP,Lib.contains,f123]),qb _⟩
def ph(a b:za):O:=.wG [str (Lib.cut a b).1,str (Lib.cut a b).2.1,qS (Lib.cut a b).2.2]
theorem Od(a b:za)(c:a.length<=zu)(d:b.length<=zu):zq Ci f197 [str a,str b]=some (ph a b):=by
 refine zm rfl ?_;unfold zu at c d;by_cases h:0<=Lib.index a b
 ·have l:=Lib.index_room a b h;have e:Lib.cut a b=(a.take (Lib.index a b).toNat,a.drop ((Lib.index a b).toNat+b.length),true):=by unfold Lib.cut;rw[zd h]
  have f:=wz (Lib.index a b+b.length);have g:(Lib.index a b+b.length).toNat=(Lib.index a b).toNat+b.length:=by omega
  have i:0<=Lib.index a b+b.length:=by omega
  have j:(Lib.index a b).toNat<=a.length:=by omega
  have k:(Lib.index a b).toNat+b.length<=a.length:=by omega
  simp[JP,zu,c,d,h,f,g,i,j,k,ph,e,wa,f197];rw[qx (by simp)]
 ·have e:Lib.cut a b=(a,[],false):=by unfold Lib.cut;rw[zc h]
  simp[JP,zu,c,d,h,ph,e,wa,f197]
theorem Lu:zg prog 197 (zh false [] (Zr ph fun _ _=>True)):=
 wW (fn:=f197) za9 (qD func197) false [] _ fun args r h=>by obtain⟨a,b,rfl,c,d,_,rfl⟩:=kl h;exact⟨by simp[f197],_,Od a b c d,qb _⟩
def Oe(a b:za):O:=qS (b.isPrefixOf a)
theorem BQ(a b:za):(decide (b.length<=a.length)&&(a.take b.length==b))=b.isPrefixOf a:=by
 rw[qh];simp only[zz,zT,yJ,El];constructor
 ·rintro⟨_,h⟩;exact List.prefix_iff_eq_take.2 h.symm
 ·intro h;exact⟨h.length_le,(List.prefix_iff_eq_take.1 h).symm⟩
noncomputable abbrev Cw0:Ctx:=zR prog []
theorem Fw:Gd Cw0:=qw mixed trivial
theorem ik(a b:za):zq Cw0 f157 [str a,str b]=some (Oe a b):=by
 refine zm rfl ?_;have Y:=BQ a b;by_cases h:b.length<=a.length
 ·rw[Em h,jK]at Y;simp[h,Oe,<-Y,f157]
 ·rw[decide_eq_false h,ZL]at Y;have c:¬((b.length:Int)<=a.length):=by omega
  simp[h,c,Oe,<-Y,f157]
theorem eH:zg prog 157 (zh false [] (Zr Oe fun _ _=>True)):=
 wW (fn:=f157) Fw (qD func157) false [] _ fun args r h=>by obtain⟨a,b,rfl,c,d,_,rfl⟩:=kl h;exact⟨by simp[f157],_,ik a b,qb _⟩
noncomputable abbrev Cw1:Ctx:=zR prog [(157,zh false [] (Zr Oe fun _ _=>True)),(197,zh false [] (Zr ph fun _ _=>True))]
theorem Fx:AM.Good Cw1 (fun g=>[157].contains g):=qw mixed ⟨eH,fun _=>zt _ _,Lu,fun _=>zt _ _,trivial⟩
theorem XN(a b:za)(Y:Hp)(Z:Nat)(h:a.length<=zu)(c:b.length<=zu):zh false [] (Zr Oe fun _ _=>True) [str a,str b] Y Z=some (qS (b.isPrefixOf a),Y,Z):=jV _ _ a b Y Z h c trivial rfl
theorem mr(a b:za)(Y:Hp)(Z:Nat)(h:a.length<=zu)(c:b.length<=zu):zh false [] (Zr ph fun _ _=>True) [str a,str b] Y Z=some (.wG [str (Lib.cut a b).1,str (Lib.cut a b).2.1,qS (Lib.cut a b).2.2],Y,Z):=jV _ _ a b Y Z h c trivial rfl
theorem WV:zg prog 121 (zh false [] (Zr Oe fun _ _=>True)):=
 wW (fn:=f121) Fx (qD func121) false [] _ fun args r h=>by obtain⟨a,b,rfl,c,d,_,rfl⟩:=kl h;exact⟨by simp[f121],_,zm rfl (by simp[XN,c,d,Oe,f121]),qb _⟩
theorem mu:zg prog 161 (zh false [] (Zr ph fun _ _=>True)):=
 wW (fn:=f161) Fx (qD func161) false [] _ fun args r h=>by obtain⟨a,b,rfl,c,d,_,rfl⟩:=kl h;exact⟨by simp[f161],_,zm rfl (by simp[mr,c,d,ph,wa,f161]),qb _⟩
def TJ(a b:za):O:=.wG [str (if b.isPrefixOf a then a.drop b.length else a),qS (b.isPrefixOf a)]
theorem il(a b:za)(c:a.length<=zu)(d:b.length<=zu):zq Cw1 f277 [str a,str b]=some (TJ a b):=by
 refine zm rfl ?_;cases h:b.isPrefixOf a
 ·simp[XN,c,d,h,TJ,wa,f277]
 ·have e:=(El.1 h).length_le;simp[XN,c,d,h,e,TJ,wa,f277];rw[qx (by simp)]
theorem eI:zg prog 277 (zh false [] (Zr TJ fun _ _=>True)):=
 wW (fn:=f277) Fx (qD func277) false [] _ fun args r h=>by obtain⟨a,b,rfl,c,d,_,rfl⟩:=kl h;exact⟨by simp[f277],_,il a b c d,qb _⟩
noncomputable abbrev Cw2:Ctx:=zR prog [(277,zh false [] (Zr TJ fun _ _=>True))]
theorem zcg:Gd Cw2:=qw mixed ⟨eI,fun _=>zt _ _,trivial⟩
theorem HM(a b:za)(Y:Hp)(Z:Nat)(h:a.length<=zu)(c:b.length<=zu):zh false [] (Zr TJ fun _ _=>True) [str a,str b] Y Z=some (.wG [str (if b.isPrefixOf a then a.drop b.length else a),qS (b.isPrefixOf a)],Y,Z):=jV _ _ a b Y Z h c trivial rfl
theorem im:zg prog 247 (zh false [] (Zr TJ fun _ _=>True)):=
 wW (fn:=f247) zcg (qD func247) false [] _ fun args r h=>by obtain⟨a,b,rfl,c,d,_,rfl⟩:=kl h;exact⟨by simp[f247],_,zm rfl (by simp[HM,c,d,TJ,wa,f247]),qb _⟩
def tlP(a b:za):O:=str (Lib.trimLeftB a (b.headD 0))
def tbP(a b:za):O:=str (Lib.trimB a (b.headD 0))
def mv(b:za):Prop:=∃c:UInt8,b=[c]/\c.toNat<128
theorem YI:zg prog 255 (zh false [] (Zr tlP fun _ b=>mv b)):=
 xt ⟨_,func255,by kernel_rfl,by kernel_rfl⟩ fun args r h=>by
  obtain⟨a,b,rfl,g,i,⟨c,rfl,d⟩,rfl⟩:=kl h;refine⟨[.string ⟨a.toArray⟩,.string ⟨#[c]⟩],rfl,by simp[lit],rfl,.string ⟨(Lib.trimLeftB a c).toArray⟩,fun w S=>.v rfl,fun w S _=>?_⟩;refine(Any.strings_TrimLeft_one Tryz.zaJ ⟨a.toArray⟩ c d w).mono fun e w' f=>?_
  obtain⟨rfl,rfl⟩:=f;exact⟨by simp,Fr.refl _ _⟩
theorem gy:zg prog 160 (zh false [] (Zr tbP fun _ b=>mv b)):=
 xt ⟨_,func160,by kernel_rfl,by kernel_rfl⟩ fun args r h=>by
  obtain⟨a,b,rfl,d,i,⟨c,rfl,f⟩,rfl⟩:=kl h;unfold zu at d;refine⟨[.string ⟨a.toArray⟩,.string ⟨#[c]⟩],rfl,by simp[lit],rfl,.string ⟨(Lib.trimB a c).toArray⟩,fun w S=>.v rfl,fun w S _=>?_⟩;refine(Any.strings_Trim_one Tryz.zaK ⟨a.toArray⟩ c f w (by simp;omega)).mono fun e w' g=>?_
  obtain⟨rfl,rfl|rfl⟩:=g
  ·exact⟨by simp,Fr.refl _ _⟩
  ·exact⟨by simp,Fr.drew _ _⟩
noncomputable def FSB (f:za->UInt8->O):zb->Option O:=ql (α:=za×UInt8) (fun a=>[str a.1,TH a.2]) (fun a=>a.1.length<=zu) (fun a=>f a.1 a.2)
theorem zch:∀a b:za×UInt8,[str a.1,TH a.2]=[str b.1,TH b.2]->a=b:=by
 rintro⟨g,c⟩ ⟨h,d⟩ e;simp only[zk,zI]at e;have i:=qV e.2;have f:c.toNat=d.toNat:=by omega
 rw[wR e.1,Qh.1 f]
theorem Of(f:za->UInt8->O)(a:za)(c:UInt8)(Y:Hp)(Z:Nat)(h:a.length<=zu)(b:(f a c).flat=true):zh false [] (FSB f) [str a,TH c] Y Z=some (f a c,Y,Z):=
 Ja (a,c) _ _ rfl zch h (.inl b)
def ibP(a:za)(c:UInt8):O:=int (Lib.indexByte a c)
theorem iq:zg prog 257 (zh false [] (FSB ibP)):=
 xt ⟨_,func257,by kernel_rfl,by kernel_rfl⟩ fun args r h=>by
  obtain⟨⟨a,c⟩,rfl,d,rfl⟩:=zN h;refine⟨[.string ⟨a.toArray⟩,.int .u8 c.toNat],rfl,by simp[lit],rfl,.int .i64 (Lib.indexByte a c),fun w S=>.v rfl,fun w S _=>?_⟩;refine(Any.strings_IndexByte Tryz.zaL ⟨a.toArray⟩ c.toNat w).mono fun e w' b=>?_
  obtain⟨rfl,rfl⟩:=b;exact⟨by simp,Fr.refl _ _⟩
def tZ(done:List za)(k:Nat):List zb:=done.map (fun p=>[str p])++List.replicate k [str []]
theorem BR(done:List za)(k:Nat)(p:za):(tZ done (k+1)).set done.length [str p]=tZ (done++[p]) k:=by unfold tZ;rw[List.set_append_right _ _ (by simp)];simp[List.replicate_succ]
theorem BS(done:List za)(k:Nat):(tZ done (k+1))[done.length]?=some [str []]:=by unfold tZ;rw[zS (by simp)];simp[List.replicate_succ]
theorem Lv(done:List za):tZ done 0=done.map fun p=>[str p]:=by simp[tZ]
def qc(s sep:za):List za:=Lib.split s sep
theorem bz{sep s:za}{i k:Nat}(h:Lib.index s sep=i):Lib.splitK sep 0 (k+1) s=s.take i::Lib.splitK sep 0 k (s.drop (i+sep.length)):=by
 have a:¬(Lib.index s sep==-1)=true:=by rw[yJ];omega
 rw[Lib.splitK,zc a,h];simp
theorem rX{s sep:za}(h:sep≠[]):Lib.count s sep<=s.length:=by have:=Lib.countB_le ⟨sep.toArray⟩ (by cases sep<;>simp_all) s.length ⟨s.toArray⟩ (by simp);simpa[Lib.countB]using this
theorem Og(a b:za)(Y:Hp)(Z:Nat)(h:a.length<=zu)(c:b.length<=zu)(d:1<=b.length):zh false [] (Zr cntP fun _ b=>1<=b.length) [str a,str b] Y Z=some (int (Lib.count a b),Y,Z):=jV _ _ a b Y Z h c d rfl
def Kz(xs:List za):kv:=⟨9,1,true,xs.map fun p=>[str p]⟩
theorem pj(s sep:za)(E:s.length<=zu)(F:sep.length<=zu)(u:1<=sep.length) :
  ∃x Y Z,jF Ci2 f198 [str s,str sep,int 0,int (-1)] (fun _=>none) 0=some (x,Y,Z)/\VM (some (Kz (qc s sep))) x Y Z:=by
 have b:sep≠[]:=by intro e;subst e;simp at u
 have G:=rX (s:=s) b;unfold zu at E F;refine Ks rfl ?_;have l:=wU b;have v:=wz ((Lib.count s sep:Int)+1);have H:=wz ((s.length:Int)+1);have w3:(if(s.length:Int)+1<(Lib.count s sep:Int)+1 then(s.length:Int)+1 else(Lib.count s sep:Int)+1)=(Lib.count s sep:Int)+1:=zc (by omega);have I:i6.wrap ((Lib.count s sep:Int)+1-1)=(Lib.count s sep:Int):=by rw[wu (by omega) (by omega)];omega
 have m:=wz (Lib.count s sep:Int);have w:((Lib.count s sep:Int)+1).toNat=Lib.count s sep+1:=by omega
 have y:0<=(Lib.count s sep:Int)+1:=by omega
 have c3:Lib.count s sep+1<=maxLen:=by simp[maxLen];omega
 have J:(Lib.count s sep+1)*16<=140737488355328:=by omega
 have n:=fun Y Z=>Og s sep Y Z (by unfold zu;omega) (by unfold zu;omega) u
 have o:¬s.length<Lib.count s sep:=by omega
 have K:(Lib.count s sep:Int)+1<=(maxLen:Int):=by simp[maxLen];omega
 simp[l,n,v,H,o,I,m,xM,w,y,K,J];refine zP (fun j U Y Z=>∃done cur,done.length=j/\U 0=str cur/\U 1=str sep/\U 2=int 0/\U 3=int (Lib.count s sep)/\U 9=.own 0 0 (Lib.count s sep+1)/\U 10=int j /\
   Y 0=some ⟨9,1,true,tZ done (Lib.count s sep+1-j)⟩/\j+Lib.count cur sep=Lib.count s sep/\qc s sep=done++qc cur sep/\cur.length<=s.length) (Lib.count s sep)
  ⟨[],s,rfl,by simp,by simp,by simp,by simp[m],by simp,by simp,by simp[tZ],by simp,by simp,zf _⟩ ?_
 rintro j U Y Z hj ⟨done,cur,hd,z,A,B,C,D,d,k,hc,hs,hl⟩;have f:∀Y Z,zh false [] (Zr Fv fun _ _=>True) [str cur,str sep] Y Z=some (int (Lib.index cur sep),Y,Z):=fun Y Z=>JP cur sep Y Z (by unfold zu;omega) (by unfold zu;omega)
 by_cases p:j<Lib.count s sep
 ·have L:Lib.index cur sep≠-1:=fun e=>by have:=Lib.count_miss e;omega
  have q:0<=Lib.index cur sep:=by
   rcases Lib.index_spec cur sep with⟨h,_⟩|⟨i,h,_⟩
   ·exact absurd h L
   ·omega
  obtain⟨i,hi⟩:∃i:Nat,Lib.index cur sep=i:=⟨(Lib.index cur sep).toNat,by omega⟩;have M:=Lib.index_room cur sep q;rw[hi]at M f;have r:=Lib.count_hit b hi;have c:qc cur sep=cur.take i::qc (cur.drop (i+sep.length)) sep:=by unfold qc Lib.split;rw[r,AO 1,bz hi]
  have N:¬((i:Int)<0):=by omega
  have P:=wz (i:Int);have Q:=wz ((i:Int)+sep.length);have R:=qG j;have S:((i:Int)+sep.length).toNat=i+sep.length:=by omega
  have T:i+sep.length<=cur.length:=by omega
  have W:i<=cur.length:=by omega
  have X:0<=(i:Int)+sep.length:=by omega
  have k9:j<Lib.count s sep+1:=by omega
  have t:Lib.count s sep+1-j=(Lib.count s sep-j)+1:=by omega
  have g:=BS done (Lib.count s sep-j);rw[hd]at g;have a:=BR done (Lib.count s sep-j) (cur.take i);rw[hd]at a;rw[t]at k;simp[z,A,B,C,D,d,k,p,f,N,P,Q,R,S,T,W,X,k9,g,a];have ht:List.take (cur.length-(i+sep.length)) (List.drop (i+sep.length) cur)=List.drop (i+sep.length) cur:=qx (by simp);rw[ht];exact⟨by omega,done++[cur.take i],by simp[hd],rfl,by omega,by rw[hs,c];simp,by omega⟩
 ·obtain rfl:j=Lib.count s sep:=by omega
  have hz:Lib.count cur sep=0:=by omega
  have c:qc cur sep=[cur]:=by unfold qc Lib.split;rw[hz];rfl
  have t:Lib.count s sep+1-Lib.count s sep=0+1:=by omega
  have g:=BS done 0;have a:=BR done 0 cur;rw[hd]at g a;rw[t]at k;simp[z,A,B,C,D,d,k,g,a,v,m,w,y,VM,jy,f198];rw[hs,c];exact⟨0,⟨by omega,by simp[Kz,hd]⟩,by simp[Kz,Lv]⟩
noncomputable def FGs:zb->Option (Option kv):=ql (α:=za×za) (fun a=>[str a.1,str a.2,int 0,int (-1)]) (fun a=>a.1.length<=zu/\a.2.length<=zu/\1<=a.2.length) (fun a=>some (Kz (qc a.1 a.2)))
noncomputable def FSp:zb->Option (Option kv):=ql (α:=za×za) (fun a=>[str a.1,str a.2]) (fun a=>a.1.length<=zu/\a.2.length<=zu/\1<=a.2.length) (fun a=>some (Kz (qc a.1 a.2)))
theorem zci:∀a b:za×za,[str a.1,str a.2,int 0,int (-1)]=[str b.1,str b.2,int 0,int (-1)]->a=b:=by rintro⟨c,d⟩ ⟨f,g⟩ e;simp only[zk,zI]at e;rw[wR e.1,wR e.2]
theorem mw:zg prog 198 (yR [] FGs):=
 Qn (fn:=f198) (code:=_) Oc ⟨func198,by kernel_rfl,rfl,by kernel_rfl⟩ [] _ fun args r h=>by obtain⟨⟨a,b⟩,rfl,⟨c,d,e⟩,rfl⟩:=zN h;exact⟨by simp[f198],pj a b c d e⟩
theorem TK(a b:za)(Y:Hp)(Z:Nat)(c:a.length<=zu)(d:b.length<=zu)(f:1<=b.length):yR [] FGs [str a,str b,int 0,int (-1)] Y Z=some (.own Z 0 (qc a b).length,qv Y Z (some (Kz (qc a b))),Z+1):=by have e:FGs (yg [] [str a,str b,int 0,int (-1)])=some (some (Kz (qc a b))):=qF (V:=fun a:List UInt8×za=>[str a.1,str a.2,int 0,int (-1)]) (a:=(a,b)) zci ⟨c,d,f⟩;simp[yR,e,Kz]
noncomputable abbrev Csp:Ctx:=zR prog [(198,yR [] FGs)]
theorem zcj:Gd Csp:=zU mixed ⟨mw,trivial⟩
theorem Ww:zg prog 162 (yR [] FSp):=
 Qn (fn:=f162) (code:=_) zcj ⟨func162,by kernel_rfl,rfl,by kernel_rfl⟩ [] _ fun args r h=>by
  obtain⟨⟨a,b⟩,rfl,⟨c,d,e⟩,rfl⟩:=zN h;have f:=fun Y Z=>TK a b Y Z c d e
  exact⟨by simp[f162],Ks rfl (by simp[f,VM,Kz,f162])⟩
theorem ZW(a b:za)(Y:Hp)(Z:Nat)(c:a.length<=zu)(d:b.length<=zu)(f:1<=b.length):yR [] FSp [str a,str b] Y Z=some (.own Z 0 (qc a b).length,qv Y Z (some (Kz (qc a b))),Z+1):=by have e:FSp (yg [] [str a,str b])=some (some (Kz (qc a b))):=qF (V:=fun a:List UInt8×za=>[str a.1,str a.2]) (a:=(a,b)) Fu ⟨c,d,f⟩;simp[yR,e,Kz]
def KA(c:UInt8):Bool:=pr 48 57 c
def kV(l:za):Bool:=l.all KA
def yx(l:za):Bool:=!(l==[])&&!(decide (1<l.length)&&l.headD 0==48)&&kV l
def yh(l:za):Bool:=l==[120]||l==[88]||l==[42]
def JQ(c:UInt8):Bool:=pr 97 122 c||pr 65 90 c||pr 48 57 c||c==45
def eJ(l:za):Bool:=l.all JQ&&!(l==[])
theorem eK{l:za}{k:Nat}(h:k<l.length):kV (l.drop k)=(KA l[k]&&kV (l.drop (k+1))):=cz h
theorem rY{l:za}{k:Nat}(h:k<l.length):(l.drop k).all JQ=(JQ l[k]&&(l.drop (k+1)).all JQ):=cz h
theorem mx(l:za)(i:l.length<=zu):zq C0 f203 [str l]=some (qS (kV l)):=by
 refine zm rfl ?_;unfold zu at i;simp;refine zP (fun k U Y Z=>U 0=str l/\U 5=int l.length/\U 6=int k/\kV l=kV (l.drop k)) l.length ⟨by simp,by simp,by simp,by simp⟩ ?_;rintro k U Y Z m ⟨e,f,g,b⟩;by_cases a:k<l.length
 ·have j:=qG k;rw[eK a]at b;have h:=VQ 48 57 l[k];simp only[ZK]at h;cases d:KA l[k]
  ·have b:kV l=false:=by rw[b,d];rfl
   have c:pr 48 57 l[k]=false:=d;simp[e,f,g,a,b,h,c,f203]
  ·have c:pr 48 57 l[k]=true:=d;simp[e,f,g,a,h,c,j];exact⟨a,by rw[b,d];rfl⟩
 ·obtain rfl:k=l.length:=by omega
  have b:kV l=true:=by rw[b,zn];rfl
  simp[e,f,g,b,f203]
theorem WW:zg prog 203 (zh false [] (FS kV)):=
 xy jG func203 false [] fun l Y=>⟨by simp[f203],_,mx l Y,qb _⟩
noncomputable abbrev Cdg:Ctx:=zR prog [(203,zh false [] (FS kV))]
theorem zck:AM.Good Cdg (fun g=>[203].contains g):=qw mixed ⟨WW,fun _=>zt _ _,trivial⟩
theorem Fy(l:za)(g:l.length<=zu):zq Cdg f199 [str l]=some (qS (yx l)):=by
 refine zm rfl ?_;have hd:=fun Y Z=>ki kV l Y Z g
 cases l with
 |nil=>simp[yx,f199]
 |cons c l=>
  by_cases b:0<l.length
  ·have a:l≠[]:=by intro e;subst e;simp at b
   have f:(1:Int)<(l.length:Int)+1:=by omega
   by_cases d:c=48
   ·subst d;simp[hd,b,a,f,yx,f199]
   ·have h:((c.toNat:Int)==48)=false:=by rw[wN];intro e;apply d;rw[<-Qh];simp;omega
    simp[hd,b,a,d,h,f,yx,f199]
  ·have a:l=[]:=by cases l<;>simp_all
   subst a;simp[hd,yx,f199]
theorem gz:zg prog 199 (zh false [] (FS yx)):=
 xy zck func199 false [] fun l Y=>⟨by simp[f199],_,Fy l Y,qb _⟩
theorem Lw(l:za):zq C0 f209 [str l]=some (qS (yh l)):=by
 refine zm rfl ?_;cases a:(l==[120])
 ·cases b:(l==[88])
  ·simp[a,b,yh,f209]
  ·simp[a,b,yh,f209]
 ·simp[a,yh,f209]
theorem my:zg prog 209 (zh false [] (FS yh)):=
 xy jG func209 false [] fun l Y=>⟨by simp[f209],_,Lw l,qb _⟩
def ua(l:za):Int:=((Lib.decNat l).getD 0:Nat)
theorem KB:∀(l:za) (a:Nat),kV l=true->∃n,Lib.decFrom a l=some n/\n<(a+1)*10 ^ l.length
 |[],a,_=>⟨a,rfl,by simp⟩
 |c::l,a,h=>by
  simp only[kV,wI,zz]at h;have b:48<=c.toNat/\c.toNat<=57:=by have:=h.1;simpa[KA,pr]using this
  obtain⟨n,d,e⟩:=KB l (a*10+(c.toNat-48)) h.2;refine⟨n,?_,?_⟩
  ·simp only[Lib.decFrom,Lib.digitVal,b,and_self,qH];exact d
  ·have f:a*10+(c.toNat-48)+1<=(a+1)*10:=by omega
   calc n<(a*10+(c.toNat-48)+1)*10 ^ l.length:=e
    _<=(a+1)*10*10 ^ l.length:=zK _ f
    _=(a+1)*10 ^ (c::l).length:=by rw[zO,Nat.pow_succ,Nat.mul_assoc,zaB 10]
theorem mz{l:za}(h:yx l=true):l≠[]/\kV l=true:=by simp only[yx,zz]at h;exact⟨by intro e;subst e;simp at h,h.2⟩
theorem Fz{l:za}(h:yx l=true):Lib.atoi l=some (ua l):=by
 obtain⟨a,b⟩:=mz h;obtain⟨n,i,_⟩:=KB l 0 b;have f:Lib.decNat l=some n:=by unfold Lib.decNat;rw[zc (by simpa using a)];exact i
 cases l with
 |nil=>exact absurd rfl a
 |cons c l=>
  have k:48<=c.toNat/\c.toNat<=57:=by have:=b;simp only[kV,wI,zz]at this;simpa[KA,pr]using this.1
  have j:ua (c::l)=n:=by unfold ua;rw[f];rfl
  rw[j];have g:∀d:UInt8,d.toNat<48->(c==d)=false:=fun d hd=>by rw[wN];intro e;subst e;omega
  unfold Lib.atoi;simp only[];rw[g 45 (by decide),g 43 (by decide),f];rfl
noncomputable def FAt:zb->Option O:=ql (α:=za) (fun l=>[str l]) (fun l=>l.length<=18/\yx l=true) (fun l=>.wG [int (ua l),.v .nilIface])
theorem Oh{dr:Prop}(w:World)(e:TypeId)(s:ByteArray):Fr dr w (fun _=>False) (Lib.bytesWorld w e s):=by
 have d:∀(b:World) (a:Addr) (n k:Nat),k≠a.block->(b.freeze a n).heap[k]?=b.heap[k]?:=by
  intro b a n k c;unfold World.freeze;split
  ·rfl
  ·simp[vR,Ne.symm c]
 have f:∀(b:World) (a:Addr) (n:Nat),(b.freeze a n).heap.size=b.heap.size:=by intro b a n;unfold World.freeze;split<;>simp
 unfold Lib.bytesWorld;refine⟨rfl,rfl,rfl,?_,?_,fun k c _=>?_⟩
 ·rw[f];simp
 ·exact fun _=>Zp _
 ·rw[d _ _ _ k (by simpa using Nat.ne_of_lt c)];exact(Below.heap_alloc w.drew _ k c)
@[simp]theorem Ss(U:Nat->O):AM.get U (.const .nilIface)=some (.v .nilIface):=rfl
theorem mA:zg prog 200 (zh false [] FAt):=
 xt ⟨_,func200,by kernel_rfl,by kernel_rfl⟩ fun args r h=>by
  obtain⟨l,rfl,⟨c,d⟩,rfl⟩:=zN h;refine⟨[.string ⟨l.toArray⟩],rfl,by simp[lit],rfl,.tuple #[.int .i64 (ua l),.nilIface],fun w S=>.wG rfl fun j g u a b=>?_,fun w S _=>?_⟩
  ·match j,a,b with
   | 0,a,b=>simp at a b;subst a;subst b;exact .v rfl
   | 1,a,b=>simp at a b;subst a;subst b;exact .v rfl
   |j+2,a,b=>simp at a
  refine(Any.strconv_Atoi Tryz.zaM ⟨l.toArray⟩ (ua l) (by simpa using c) (by simpa using Fz d) w).mono fun e w' f=>?_
  obtain⟨rfl,t,rfl⟩:=f;exact⟨rfl,Oh _ _ _⟩
theorem rZ(l:za)(Y:Hp)(Z:Nat)(c:l.length<=18)(d:yx l=true):zh false [] FAt [str l] Y Z=some (.wG [int (ua l),.v .nilIface],Y,Z):=
 Ja l _ _ rfl (fun a b e=>by simp only[zk,zI]at e;exact wR e) ⟨c,d⟩ (.inl rfl)
def jW(l:za):Option Int:=if yx l=true/\l.length<=6 then some (ua l)else none
def Jc(l:za):O:=.wG [int ((jW l).getD 0),qS (jW l).isSome]
noncomputable def Nn (f:za->O):zb->Option O:=ql (α:=za) (fun l=>[str l]) (fun l=>l.length<=zu) f
theorem cI(f:za->O)(l:za)(Y:Hp)(Z:Nat)(h:l.length<=zu)(c:(f l).flat=true):zh false [] (Nn f) [str l] Y Z=some (f l,Y,Z):=
 Ja l _ _ rfl (fun a b e=>by simp only[zk,zI]at e;exact wR e) h (.inl c)
noncomputable abbrev Cvn:Ctx:=zR prog [(199,zh false [] (FS yx)),(200,zh false [] FAt)]
theorem zcl:AM.Good Cvn (fun g=>[199].contains g):=qw mixed ⟨gz,fun _=>zt _ _,mA,fun _=>zt _ _,trivial⟩
theorem bA(l:za)(f:l.length<=zu):zq Cvn f163 [str l]=some (Jc l):=by
 refine zm rfl ?_;have b:=fun Y Z=>ki yx l Y Z f
 cases a:yx l
 ·simp[b,a,Jc,jW,wa,f163]
 ·by_cases e:l.length<=6
  ·have c:¬((6:Int)<l.length):=by omega
   have g:=fun Y Z=>rZ l Y Z (by omega) a
   simp[b,a,e,c,g,Hy,Jc,jW,wa,f163]
  ·have c:(6:Int)<l.length:=by omega
   have d:6<l.length:=by omega
   simp[b,a,e,d,c,Jc,jW,wa,f163]
theorem W5:zg prog 163 (zh false [] (Nn Jc)):=
 xy zcl func163 false [] fun l Y=>⟨by simp[f163],_,bA l Y,qb _⟩
@[simp]theorem zdZ(P:Program)(Y:Hp)(t:TypeId)(id a b:Nat)(k:IntKind)(i:Int)(h:yf P t=none):qJ P Y t (.ref id a b) (.v (.int k i))=(A6 P t).bind fun c=>(qz P c.2).bind fun n=>if 0<=i/\i<c.1 then some (.ref id a (b+i.toNat*n))else none:=by
 simp only[qJ,h,Zb];cases A6 P t with
 |none=>rfl
 |some c=>obtain⟨m,e⟩:=c;simp only[z7];cases qz P e<;>rfl
@[simp]theorem zd0(P:Program)(Y:Hp)(t:TypeId)(cs:zb)(k:IntKind)(i:Int)(h:yf P t=none):qJ P Y t (.ptr cs) (.v (.int k i))=(A6 P t).bind fun a=>(qz P a.2).bind fun n=>if 0<=i/\i<a.1 then some (.ptr (cs.drop (i.toNat*n)))else none:=by
 simp only[qJ,h,Zb];cases A6 P t with
 |none=>rfl
 |some a=>obtain⟨m,e⟩:=a;simp only[z7];cases qz P e<;>rfl
@[simp]theorem wrl0:i6.wrap 0=0:=wu (by decide) (by decide)
@[simp]theorem wrl1:i6.wrap 1=1:=wu (by decide) (by decide)
@[simp]theorem wrl2:i6.wrap 2=2:=wu (by decide) (by decide)
@[simp]theorem wrl3:i6.wrap 3=3:=wu (by decide) (by decide)
theorem FA(l:za)(h:l.length<=zu):zq C0 f202 [str l]=some (qS (eJ l)):=by
 refine zm rfl ?_;unfold zu at h;simp;refine zP (fun k U Y Z=>U 0=str l/\U 6=int l.length/\U 7=int k/\l.all JQ=(l.drop k).all JQ) l.length ⟨by simp,by simp,by simp,by simp⟩ ?_;rintro k U Y Z m ⟨e,f,g,b⟩;by_cases a:k<l.length
 ·have i:=qG k;rw[rY a]at b;have c:(decide ((97:Int)<=l[k].toNat)&&decide ((l[k].toNat:Int)<=122)||decide ((65:Int)<=l[k].toNat)&&decide ((l[k].toNat:Int)<=90)||decide ((48:Int)<=l[k].toNat)&&decide ((l[k].toNat:Int)<=57)||((l[k].toNat:Int)==45))=JQ l[k]:=by
   have j:((l[k].toNat:Int)==45)=(l[k]==45):=by rw[qh];simp[<-Qh];omega
   rw[j,qh];simp[JQ,pr,<-Qh];omega
  cases d:JQ l[k]
  ·have b:l.all JQ=false:=by rw[b,d];rfl
   rw[d]at c;simp[e,f,g,a,c,eJ,b,-List.all_eq_true,-List.all_eq_false,f202]
  ·rw[d]at c;simp[e,f,g,a,c,i,-List.all_eq_true,-List.all_eq_false];exact⟨a,by rw[b,d];rfl⟩
 ·obtain rfl:k=l.length:=by omega
  have b:l.all JQ=true:=by rw[b,zn];rfl
  simp[e,f,g,b,eJ,-List.all_eq_true,f202]
theorem BT:zg prog 202 (zh false [] (FS eJ)):=
 xy jG func202 false [] fun l Y=>⟨by simp[f202],_,FA l Y,qb _⟩
theorem pk:zg prog 201 (zh false [] (F3 kI)):=
 wW (fn:=f201) jG (qD func201) false [] _ fun args r h=>by obtain⟨a,b,c,rfl,rfl⟩:=Fk h;exact⟨by simp[f201],_,zm rfl (by simp[f201,kI]),qb _⟩
structure wy where
 a:Int
 b:Int
 c:Int
 pre:List (List UInt8)
def zy(l:List za):List zb:=l.map fun p=>[str p]
theorem ji{a b:List za}(h:zy a=zy b):a=b:=kS (fun x y e=>by simp only[zk,zI]at e;exact wR e) h
@[simp]theorem qC(l:List za):(zy l).length=l.length:=by simp[zy]
@[simp]theorem Oi:zy []=[]:=rfl
@[simp]theorem Lx(l:List za):(zy l).take l.length=zy l:=qx (by simp)
@[simp]theorem XO(p:za)(l:List za):zy (p::l)=[str p]::zy l:=rfl
@[simp]theorem zgY(l:List za):Kz l=⟨9,1,true,zy l⟩:=rfl
@[simp]theorem zgZ{l:List za}{k:Nat}(h:k<(zy l).length):(zy l)[k]=[str (l[k]'(by simpa using h))]:=by simp[zy]
theorem JR{l:List za}{k:Nat}(h:k<l.length):(zy l)[k]?=some [str l[k]]:=by simp[zy,h]
def wy.V(v:wy):zb:=[int v.a,int v.b,int v.c,.sl 1 (zy v.pre)]
theorem Wx{a b:wy}(h:a.V=b.V):a=b:=by
 cases a;cases b;simp only[wy.V,zk,zI]at h;obtain⟨d,e,f,c⟩:=h;injection c with _ c
 rw[qV d,qV e,qV f,ji c]
abbrev jY:List (Option Nat):=[none,none,none,some 1]
def wy.small(v:wy):Prop:=v.pre.length<=zu/\∀p∈v.pre,p.length<=zu
def wD(p:za):Bool:=decide (20<p.length)||!eJ p||(kV p&&!yx p)
def yS(v:wy):Int:=if kI v.a 0 999999=true/\kI v.b 0 999999=true/\kI v.c 0 999999=true then(if 10<v.pre.length then 2 else if v.pre.any wD then 3 else 0)else 1
noncomputable def HN (f:wy->O):zb->Option O:=ql (α:=wy) (fun v=>[.agg v.V]) wy.small f
theorem mB(f:wy->O)(v:wy)(x:O)(Y Y1:Hp)(Z:Nat)(y:O)(d:zD Y [x]=some ([y],Y1))(i:(Sh.g jY).fix y=.agg v.V)(h:v.small)(c:(f v).flat=true):qn [.g jY] (HN f) [x] Y Z=some (f v,Y,Z):=by
 have e:HN f (cF [.g jY] (yg [] [y]))=some (f v):=by show HN f [(Sh.g jY).fix y]=_;rw[i];exact qF (V:=fun v:wy=>[O.agg v.V]) (a:=v) (fun a b e=>by simp only[zk,zI]at e;injection e with e;exact Wx e) h
 unfold qn zh;simp only[d,e,c,true_or,qH]
noncomputable abbrev Oj:Ctx:=zR prog [(201,zh false [] (F3 kI)),(202,zh false [] (FS eJ)),(203,zh false [] (FS kV)),(199,zh false [] (FS yx))]
theorem TL:AM.Good Oj (fun g=>[201,202,203,199].contains g):=qw mixed ⟨pk,fun _=>zt _ _,BT,fun _=>zt _ _,WW,fun _=>zt _ _,gz,fun _=>zt _ _,trivial⟩
@[simp]theorem zd1:kT Oj 202:=je (by rfl) (zt _ _)
@[simp]theorem zd2:kT Oj 203:=je (by rfl) (zt _ _)
@[simp]theorem zd3:kT Oj 199:=je (by rfl) (zt _ _)
theorem cJ(v:wy)(h:v.small):zq Oj f164 [.agg v.V]=some (int (yS v)):=by
 obtain⟨a,b,c,pre⟩:=v;obtain⟨w,o⟩:=h;simp only at w o;unfold zu at w;refine zm rfl ?_;simp[wy.V,zp,zE,zo];rw[zH];cases n:kI a 0 999999
 ·simp[n,yS,f164]
 simp[n];rw[zH];cases p:kI b 0 999999
 ·simp[n,p,yS,f164]
 simp[p];rw[zH];cases q:kI c 0 999999
 ·simp[n,p,q,yS,f164]
 simp[q];rw[zH];simp;by_cases s:10<pre.length
 ·have g:(10:Int)<pre.length:=by omega
  simp[n,p,q,s,g,yS,f164]
 have g:¬(10:Int)<pre.length:=by omega
 simp[s,g];have t:yS ⟨a,b,c,pre⟩=if pre.any wD then 3 else 0:=by simp[yS,n,p,q,s]
 rw[t];refine zP (fun k U Y Z=>U 28=.sl 1 (zy pre)/\U 29=int pre.length/\U 30=int k/\pre.any wD=(pre.drop k).any wD) pre.length ⟨by simp,by simp,by simp,by simp⟩ ?_;rintro k U Y Z B ⟨i,j,l,f⟩;by_cases d:k<pre.length
 ·have C:=qG k;have x:=JR d;rw[ze d,y9]at f;have m:=o _ (zj d);have y:=fun Y Z=>ki eJ pre[k] Y Z m
  have z:=fun Y Z=>ki kV pre[k] Y Z m
  have A:=fun Y Z=>ki yx pre[k] Y Z m
  have u:wD pre[k]=(decide (20<pre[k].length)||!eJ pre[k]||(kV pre[k]&&!yx pre[k])):=rfl;have e:(decide ((20:Int)<pre[k].length)||!eJ pre[k]||kV pre[k]&&!yx pre[k])=wD pre[k]:=by rw[u];congr 2;rw[qh];simp;omega
  cases r:wD pre[k]
  ·rw[r]at e;simp[i,j,l,d,x,y,z,A,e,C];exact⟨d,by rw[f,r];rfl⟩
  ·rw[r]at e;have f:pre.any wD=true:=by rw[f,r];rfl
   simp[i,j,l,d,x,y,z,A,e,f,-List.any_eq_true,f164]
 ·obtain rfl:k=pre.length:=by omega
  have f:pre.any wD=false:=by rw[f,zn];rfl
  simp[i,j,l,f,-List.any_eq_false,f164]
theorem HO{f:wy->O}{args:zb}{r:O}(h:HN f args=some r):∃v:wy,args=[.agg v.V]/\v.small/\r=f v:=zN h
theorem ZX:zg prog 164 (qn [.g jY] (HN fun v=>int (yS v))):=
 wO (fn:=f164) TL (qD func164) _ _ fun args r h=>by obtain⟨v,rfl,a,rfl⟩:=HO h;exact⟨by simp[f164],_,cJ v a,qX.refl _⟩
theorem mC(sep:za):∀(k:Nat) (s p:za),p∈Lib.splitK sep 0 k s->p.length<=s.length
 | 0,s,p,h=>by simp[Lib.splitK]at h;rw[h];exact zf _
 |k+1,s,p,h=>by
  unfold Lib.splitK at h;split at h
  ·simp at h;rw[h];exact zf _
  ·rcases zv.1 h with rfl|h
   ·simp;omega
   ·have:=mC sep k _ p h;simp at this;omega
theorem mD(sep:za):∀(k:Nat) (s:za),(Lib.splitK sep 0 k s).length<=k+1
 | 0,s=>by simp[Lib.splitK]
 |k+1,s=>by
  unfold Lib.splitK;split
  ·simp
  ·have:=mD sep k (s.drop ((Lib.index s sep).toNat+sep.length));simp;omega
theorem vr{s sep p:za}(h:p∈qc s sep):p.length<=s.length:=mC _ _ _ _ h
theorem xQ{s sep:za}(h:sep≠[]):(qc s sep).length<=s.length+1:=by have a:=mD sep (Lib.count s sep) s;have b:=rX (s:=s) h;exact zw a (by omega)
theorem Ol(s sep:za):(Lib.cut s sep).1.length<=s.length/\(Lib.cut s sep).2.1.length<=s.length:=by
 unfold Lib.cut;split
 ·simp;omega
 ·simp
noncomputable def YY (f:za->O):zb->Option O:=ql (α:=za) (fun l=>[str l]) (fun l=>l.length+1<=zu) f
theorem j6(f:za->O)(l:za)(Y:Hp)(Z:Nat)(h:l.length+1<=zu):zh false [] (YY f) [str l] Y Z=some (f l,Y,Z):=
 Ja l _ _ rfl (fun a b e=>by simp only[zk,zI]at e;exact wR e) h (.inr (by simp))
def Vd:wy:=⟨0,0,0,[]⟩
def jH(t:za):List za:=if(Lib.cut t [45]).2.2 then qc (Lib.cut t [45]).2.1 [46]else[]
def cK(t:za):Option wy:=match qc (Lib.cut t [45]).1 [46]with
 |[d,e,f]=>match jW d,jW e,jW f with
  |some a,some b,some c=>if yS ⟨a,b,c,jH t⟩=0 then some ⟨a,b,c,jH t⟩else none
  |_,_,_=>none
 |_=>none
def eL(t:za):O:=match cK t with
 |some v=>.wG [.agg v.V,int 0]
 |none=>.wG [.agg Vd.V,int 10]
noncomputable abbrev Crv:Ctx:=zR prog [(161,zh false [] (Zr ph fun _ _=>True)),(162,yR [] FSp),(163,zh false [] (Nn Jc)),(164,qn [.g jY] (HN fun v=>int (yS v)))]
theorem zcm:Gd Crv:=zU mixed ⟨mu,Ww,W5,ZX,trivial⟩
theorem XP(l:za)(Y:Hp)(Z:Nat)(h:l.length<=zu):zh false [] (Nn Jc) [str l] Y Z=some (.wG [int ((jW l).getD 0),qS (jW l).isSome],Y,Z):=cI Jc l Y Z h rfl
theorem Om{α:Type}{l:List α}(h:l.length=3):∃a b c,l=[a,b,c]:=by
 match l,h with
 |[a,b,c],_=>exact⟨a,b,c,rfl⟩
theorem eM(t:za)(N:t.length+1<=zu):∃I,zq Crv f125 [str t]=some I/\qX I (eL t):=by
 refine yB (sh:=.g jY) rfl ?_;have J:=Ol t [45];have m:=fun Y Z=>mr t [45] Y Z (by omega) (by decide)
 have r:=fun Y Z=>ZW (Lib.cut t [45]).1 [46] Y Z (by omega) (by decide) (by decide)
 have o:=fun Y Z=>ZW (Lib.cut t [45]).2.1 [46] Y Z (by omega) (by decide) (by decide)
 have h:∀p∈qc (Lib.cut t [45]).1 [46],p.length<=zu:=fun p Y=>by have:=vr Y;omega
 have A:∀p∈qc (Lib.cut t [45]).2.1 [46],p.length<=zu:=fun p Y=>by have:=vr Y;omega
 have B:(qc (Lib.cut t [45]).2.1 [46]).length<=zu:=by have:=xQ (s:=(Lib.cut t [45]).2.1) (sep:=[46]) (by simp);omega
 by_cases y:(qc (Lib.cut t [45]).1 [46]).length=3
 ·obtain⟨C,D,E,d⟩:=Om y;rw[d]at r h;have i:=fun Y Z=>XP C Y Z (h C (by simp))
  have j:=fun Y Z=>XP D Y Z (h D (by simp))
  have k:=fun Y Z=>XP E Y Z (h E (by simp))
  simp[m,r];rw[zH];cases l:jW C with
  |none=>rw[l]at i;simp[i,eL,cK,d,l,z8,qB,qi,Vd,wy.V,f125]
  |some a=>
   rw[l]at i;simp[i];rw[zH];cases q:jW D with
   |none=>rw[q]at j;simp[j,eL,cK,d,l,q,z8,qB,qi,Vd,wy.V,f125]
   |some b=>
    rw[q]at j;simp[j];rw[zH];cases u:jW E with
    |none=>rw[u]at k;simp[k,eL,cK,d,l,q,u,z8,qB,qi,Vd,wy.V,f125]
    |some c=>
     rw[u]at k;simp[k];rw[zH];simp[z8,qB];have F:(⟨a,b,c,[]⟩:wy).small:=⟨by simp,by simp⟩;have G:(⟨a,b,c,qc (Lib.cut t [45]).2.1 [46]⟩:wy).small:=⟨B,A⟩;cases z:(Lib.cut t [45]).2.2
     ·have f:=fun Y Z=>mB (fun v=>int (yS v)) ⟨a,b,c,[]⟩ (.agg [int a,int b,int c,.nil]) Y Y Z _ rfl rfl F rfl
      by_cases w:yS ⟨a,b,c,[]⟩=0
      ·simp[f,w,eL,cK,jH,d,l,q,u,z,qi,wy.V,f125]
      ·have x:=Za w;simp[f,w,x,eL,cK,jH,d,l,q,u,z,z8,qB,qi,Vd,wy.V,f125]
     ·have f:∀(Y:Hp) (Z id n:Nat),Y id=some ⟨9,1,true,zy (qc (Lib.cut t [45]).2.1 [46])⟩->n=(qc (Lib.cut t [45]).2.1 [46]).length->qn [.g jY] (HN fun v=>int (yS v)) [.agg [int a,int b,int c,.own id 0 n]] Y Z=some (int (yS ⟨a,b,c,qc (Lib.cut t [45]).2.1 [46]⟩),Y,Z):=by intro Y Z id n K L;subst L;exact mB (fun v=>int (yS v)) ⟨a,b,c,qc (Lib.cut t [45]).2.1 [46]⟩ _ Y (qv Y id none) Z (.agg [int a,int b,int c,.sl 1 (zy (qc (Lib.cut t [45]).2.1 [46]))]) (by simp[K]) rfl G rfl
      by_cases w:yS ⟨a,b,c,qc (Lib.cut t [45]).2.1 [46]⟩=0
      ·simp[o,f,w,eL,cK,jH,d,l,q,u,z,qi,wy.V,f125]
      ·have x:=Za w;simp[o,f,w,x,eL,cK,jH,d,l,q,u,z,z8,qB,qi,Vd,wy.V,f125]
 ·have H:(((qc (Lib.cut t [45]).1 [46]).length:Int) != 3)=true:=by simp;omega
  have M:cK t=none:=by
   unfold cK;split
   ·rename_i e;rw[e]at y;simp at y
   ·rfl
  simp[m,r,H,y,eL,M,z8,qB,qi,Vd,wy.V,f125]
theorem Jd:zg prog 125 (zh false [] (YY eL)):=
 Qq (fn:=f125) zcm (qD func125) false [] _ fun args r h w S vs a=>by obtain⟨l,rfl,Y,rfl⟩:=zN h;obtain⟨b,c,d⟩:=eM l Y;exact⟨_,b,a,by simp[f125],c,d⟩
structure Part where
 n0:Int
 n1:Int
 n2:Int
 has:Int
 pre:List (List UInt8)
def Part.V(p:Part):zb:=[int p.n0,int p.n1,int p.n2,int p.has,.sl 1 (zy p.pre)]
abbrev VU:List (Option Nat):=[none,none,none,none,some 1]
def q9:Part:=⟨0,0,0,0,[]⟩
def Part.put(p:Part)(i:Nat)(n:Int):Part:=match i with
 | 0=>{p with n0:=n,has:=p.has+1}
 | 1=>{p with n1:=n,has:=p.has+1}
 |_=>{p with n2:=n,has:=p.has+1}
def wK(p:Part)(i:Nat)(t:za):Option Part:=if(jW t).isSome=true/\p.has=i then some (p.put i ((jW t).getD 0))else if yh t=true/\i≠0 then some p else none
def yi:Part->Nat->List za->Option Part
 |p,_,[]=>some p
 |p,i,t::l=>match wK p i t with
  |some q=>yi q (i+1) l
  |none=>none
def zQ(t:za):Part×Bool:=if Lib.contains t [45]=true then(match cK t with
    |some v=>(⟨v.a,v.b,v.c,3,v.pre⟩,true)
    |none=>(⟨0,0,0,3,[]⟩,false))
 else if 3<(qc t [46]).length then(q9,false)else match yi q9 0 (qc t [46])with
  |some p=>(p,true)
  |none=>(q9,false)
def jS(t:za):O:=.wG [.agg (zQ t).1.V,qS (zQ t).2]
noncomputable abbrev Crpv:Ctx:=zR prog [(123,zh false [] (Zr BP fun _ _=>True)),(125,zh false [] (YY eL)),(162,yR [] FSp),(163,zh false [] (Nn Jc)),(209,zh false [] (FS yh))]
theorem zcn:AM.Good Crpv (fun g=>[209].contains g):=qw mixed ⟨YH,by simp,Jd,by simp,Ww,by simp,W5,by simp,my,fun _=>zt _ _,trivial⟩
theorem On(a b:za)(Y:Hp)(Z:Nat)(h:a.length<=zu)(c:b.length<=zu):zh false [] (Zr BP fun _ _=>True) [str a,str b] Y Z=some (qS (Lib.contains a b),Y,Z):=jV _ _ a b Y Z h c trivial rfl
def Part.raw(p:Part):zb:=[int p.n0,int p.n1,int p.n2,int p.has,.nil]
theorem pn{p:Part}{k:Nat}{l:List za}(h:k<l.length):yi p k (l.drop k)=match wK p k l[k]with
  |some q=>yi q (k+1) (l.drop (k+1))
  |none=>none:=by
 rw[ze h];rfl
theorem eN(t:za)(W:t.length+1<=zu):∃S,zq Crpv f207 [str t]=some S/\qX S (jS t):=by
 refine yB (sh:=.g VU) rfl ?_;have B:=fun Y Z=>On t [45] Y Z (by omega) (by decide)
 cases I:Lib.contains t [45]
 ·have J:=fun Y Z=>ZW t [46] Y Z (by omega) (by decide) (by decide)
  have E:∀p∈qc t [46],p.length<=zu:=fun p Y=>by have:=vr Y;omega
  by_cases M:3<(qc t [46]).length
  ·have F:(3:Int)<(qc t [46]).length:=by omega
   simp[B,I,J,M,F,jS,zQ,z8,qB,qi,q9,Part.V,f207]
  have F:¬(3:Int)<(qc t [46]).length:=by omega
  simp[B,I,J,M,F];obtain⟨l,N⟩:=jc (qc t [46]);rw[N]at E M;have e:zQ t=match yi q9 0 l with
   |some p=>(p,true)
   |none=>(q9,false):=by
   unfold zQ;rw[zc (by rw[I];simp),N,zc M]
   try rfl
  simp only[N];refine zP (fun k U Y Z=>∃p:Part,p.pre=[]/\U 2=.ref 0 0 0/\U 7=.ref 2 0 0/\U 37=.own 1 0 l.length/\U 38=int l.length/\U 39=int k/\p.has<=k/\0<=p.has /\
    Y 0=some ⟨171,5,false,[q9.raw]⟩/\Y 1=some ⟨9,1,true,zy l⟩/\Y 2=some ⟨171,5,false,[p.raw]⟩/\yi q9 0 l=yi p k (l.drop k)) l.length
   ⟨q9,rfl,by simp,by simp,by simp,by simp,by simp,by simp[q9],by simp[q9],by simp[q9,Part.raw],by simp,by simp[q9,Part.raw],by simp⟩ ?_
  rintro k U Y Z X ⟨p,G,w,x,f,h,i,P,H,y,z,A,j⟩;by_cases b:k<l.length
  ·have C:=fun Y Z=>XP l[k] Y Z (E _ (zj b))
   have D:=fun Y Z=>ki yh l[k] Y Z (E _ (zj b))
   have K:=qG k;have Q:=wz (p.has+1);rw[pn b]at j;have R:k=0\/k=1\/k=2:=by omega
   obtain⟨r,n1,s,a,pre⟩:=p;simp only at G P H Q;subst G;cases q:(jW l[k]).isSome
   ·cases c:yh l[k]
    ·have hs:wK ⟨r,n1,s,a,[]⟩ k l[k]=none:=by simp[wK,q,c]
     rw[hs]at j;rw[j]at e;simp[w,x,f,h,i,y,z,A,b,C,D,q,c,jS,e,z8,qB,qi,q9,Part.raw,Part.V,f207]
    ·by_cases m:k=0
     ·subst m;have hs:wK ⟨r,n1,s,a,[]⟩ 0 l[0]=none:=by simp[wK,q]
      rw[hs]at j;rw[j]at e;simp[w,x,f,h,i,y,z,A,b,C,D,q,c,jS,e,z8,qB,qi,q9,Part.raw,Part.V,f207]
     ·have hs:wK ⟨r,n1,s,a,[]⟩ k l[k]=some ⟨r,n1,s,a,[]⟩:=by simp[wK,q,c,m]
      have u:((k:Int)==0)=false:=by simpa using m
      rw[hs]at j;simp[w,x,f,h,i,y,z,A,b,C,D,q,c,K,u,m];exact⟨b,⟨r,n1,s,a,[]⟩,rfl,Int.le_trans P (by omega),H,rfl,j⟩
   ·by_cases d:a=k
    ·have hs:wK ⟨r,n1,s,a,[]⟩ k l[k]=some ((⟨r,n1,s,a,[]⟩:Part).put k ((jW l[k]).getD 0)):=by simp[wK,q,d]
     rw[hs]at j;rcases R with rfl|rfl|rfl
     ·obtain rfl:a=0:=by simpa using d
      have n:(0:Int)<(l.length:Int):=by omega
      simp[w,x,f,h,i,y,z,A,b,n,C,D,q,K,Part.raw];refine⟨b,_,?_,?_,?_,?_,(by simpa using j)⟩<;>simp[Part.put]
     ·obtain rfl:a=1:=by simpa using d
      have n:(1:Int)<(l.length:Int):=by omega
      simp[w,x,f,h,i,y,z,A,b,n,C,D,q,K,Part.raw];refine⟨b,_,?_,?_,?_,?_,(by simpa using j)⟩<;>simp[Part.put]
     ·obtain rfl:a=2:=by simpa using d
      have n:(2:Int)<(l.length:Int):=by omega
      simp[w,x,f,h,i,y,z,A,b,n,C,D,q,K,Part.raw];refine⟨b,_,?_,?_,?_,?_,(by simpa using j)⟩<;>simp[Part.put]
    ·cases c:yh l[k]
     ·have hs:wK ⟨r,n1,s,a,[]⟩ k l[k]=none:=by simp[wK,q,c,d]
      have o:(a==(k:Int))=false:=by simpa using d
      rw[hs]at j;rw[j]at e;simp[w,x,f,h,i,y,z,A,b,C,D,q,c,o,jS,e,z8,qB,qi,q9,Part.raw,Part.V,f207]
     ·by_cases m:k=0
      ·subst m;have hs:wK ⟨r,n1,s,a,[]⟩ 0 l[0]=none:=by simp[wK,d];intro _;exact d
       have o:(a==0)=false:=by simpa using d
       rw[hs]at j;rw[j]at e;simp[w,x,f,h,i,y,z,A,b,C,D,q,c,o,jS,e,z8,qB,qi,q9,Part.raw,Part.V,f207]
      ·have hs:wK ⟨r,n1,s,a,[]⟩ k l[k]=some ⟨r,n1,s,a,[]⟩:=by simp[wK,q,c,m,d]
       have u:((k:Int)==0)=false:=by simpa using m
       have o:(a==(k:Int))=false:=by simpa using d
       rw[hs]at j;simp[w,x,f,h,i,y,z,A,b,C,D,q,c,K,u,m,o,Part.raw];exact⟨b,⟨r,n1,s,a,[]⟩,rfl,Int.le_trans P (by omega),H,⟨rfl,rfl,rfl,rfl⟩,j⟩
  ·obtain rfl:k=l.length:=by omega
   rw[zn]at j;simp only[yi]at j;rw[j]at e;simp[w,x,f,h,i,y,z,A,jS,e,G,qi,Part.raw,Part.V,f207]
 ·have L:=fun Y Z=>j6 eL t Y Z W
  cases T:cK t with
  |none=>simp[B,I,L,eL,T,jS,zQ,z8,qB,qi,Vd,wy.V,Part.V,f207]
  |some v=>simp[B,I,L,eL,T,jS,zQ,z8,qB,qi,wy.V,Part.V,f207]
theorem cL:zg prog 207 (zh false [] (YY jS)):=
 Qq (fn:=f207) zcn (qD func207) false [] _ fun args r h w S vs a=>by obtain⟨l,rfl,Y,rfl⟩:=zN h;obtain⟨b,c,d⟩:=eN l Y;exact⟨_,b,a,by simp[f207],c,d⟩
def Qr(e s:Nat):zb->Option (Option kv)
 |[.nil]=>some none
 |[.em]=>some (some ⟨e,s,true,[]⟩)
 |[.sl a es]=>if a=s/\es≠[]/\es.length<=zu then some (some ⟨e,s,true,es⟩)else none
 |_=>none
def Zz(e s:Nat)(es:List zb)(y:O)(Z:Nat):O×(Hp->Hp)×Nat:=match y with
 | .nil=>(.nil,fun h=>h,Z)
 |_=>(.own Z 0 es.length,fun h=>qv h Z (some ⟨e,s,true,es⟩),Z+1)
theorem mE{e s:Nat}{es:List zb}{y:O}(h:fX s es y)(a:es.length<=zu)(Y:Hp)(Z:Nat):yR [] (Qr e s) [y] Y Z=some ((Zz e s es y Z).1,(Zz e s es y Z).2.1 Y,(Zz e s es y Z).2.2):=by
 cases h with
 |nil=>rfl
 |em=>rfl
 |sl=>simp at a;simp[yR,yg,Qr,Zz,a]
theorem BU{e s:Nat}{es:List zb}{y:O}{Z:Nat}(Y:Hp){id:Nat}(h:id<Z):(Zz e s es y Z).2.1 Y id=Y id:=by
 unfold Zz;split
 ·rfl
 ·exact zx _ _ _ _ (by omega)
theorem FB{e s:Nat}{es:List zb}{y:O}(h:fX s es y)(Y:Hp)(Z:Nat):qT ((Zz e s es y Z).2.1 Y) (Zz e s es y Z).2.2 e s (Zz e s es y Z).1 es:=by
 cases h with
 |nil=>exact .inl ⟨rfl,rfl⟩
 |em=>exact .inr ⟨Z,by simp[Zz],rfl,by simp[Zz]⟩
 |sl=>exact .inr ⟨Z,by simp[Zz],rfl,by simp[Zz]⟩
theorem BV(args:zb)(r:Option kv)(h:Qr 57 5 args=some r):args.length<=f178.ntmps/\∃x Y Z,jF C0 f178 args (fun _=>none) 0=some (x,Y,Z)/\VM r x Y Z:=by
 unfold Qr at h;split at h
 ·injection h with h;subst h;exact⟨by simp[f178],qE rfl (by simp[Qj,Kh,f178,VM])⟩
 ·injection h with h;subst h;exact⟨by simp[f178],qE rfl (by simp[Qj,Kh,f178,VM,zp,yK,AM.view,maxLen,zE,zo])⟩
 ·rename_i es;split at h
  ·rename_i d;obtain⟨rfl,a,b⟩:=d;injection h with h;subst h
   cases es with
   |nil=>exact absurd rfl a
   |cons c es=>
    unfold zu at b;simp at b;have e:es.length+1<=maxLen:=by unfold maxLen;omega
    have f:(es.length+1)*80<=140737488355328:=by omega
    refine⟨by simp[f178],qE rfl ?_⟩;simp[Qj,Kh,f178,VM,zp,yK,AM.view,zE,zo,e,f]
  ·cases h
 ·cases h
theorem ub:zg prog 178 (yR [] (Qr 57 5)):=
 Qn (fn:=f178) (code:=_) jG ⟨func178,by kernel_rfl,rfl,by kernel_rfl⟩ [] _ BV
def qa.inner(v:qa):List qa:=v.items++v.fields.map (·.2)
def Wh(v:qa)(k:Nat):List zb:=(v.items++(v.fields.take k).map (·.2)).map qa.V
theorem uc(v:qa):Wh v 0=v.items.map qa.V:=by simp[Wh]
theorem ud{v:qa}{k:Nat}(h:k<v.fields.length):Wh v (k+1)=Wh v k++[v.fields[k].2.V]:=by unfold Wh;rw[qq h,zbJ (f:=fun x:List UInt8×qa=>x.2),<-qM,zbJ (f:=qa.V)];rfl
theorem ue(v:qa):Wh v v.fields.length=v.inner.map qa.V:=by simp[Wh,qa.inner]
theorem mG(v:qa)(k:Nat):(Wh v k).length<=v.items.length+v.fields.length:=by simp[Wh];omega
noncomputable abbrev Cin:Ctx:=zR prog [(178,yR [] (Qr 57 5))]
theorem FD(v:qa)(z:v.vb<=zu)(y:O)(m:fX 5 (v.items.map qa.V) y) :
  ∃a,zq Cin f134 [.agg (v.V.set 3 y)]=some a/\∀(w:World) (S:Nat->Prop) (u:Value),wJ w S a u->wJ w S (.sl 5 (v.inner.map qa.V)) u:=by
 have A:=xz v;have B:=yY v.items;have C:=jt v.fields;have o:=fun Y Z=>mE (e:=57) m (by simp;omega) Y Z
 have d:=fun Y Z=>FB (e:=57) m Y Z
 unfold zu at z;have f:v.V.set 3 y=[int v.kind,int v.n,str v.s,y,.sl 6 (v.fields.map yk)]:=by rw[xu];rfl
 have g:∀{code},f134.body=some code->Zy Cin code ⟨j9 [.agg (v.V.set 3 y)],fun _=>none,0⟩ (Jt Cin.P f134 (xx (.sl 5 (v.inner.map qa.V))))->∃a,zq Cin f134 [.agg (v.V.set 3 y)]=some a/\∀(w:World) (S:Nat->Prop) (u:Value),wJ w S a u->wJ w S (.sl 5 (v.inner.map qa.V)) u:=by intro code D h;obtain⟨a,E,F⟩:=kh D h;exact⟨a,E,fun w S u G=>tK G F⟩
 refine g rfl ?_;rw[f];have H:=fun Y=>BU (e:=57) (s:=5) (es:=v.items.map qa.V) (y:=y) (Z:=1) Y (id:=0) (by omega)
 simp[m.cell,o,H];refine zP (fun k U Y Z=>U 10=.sl 6 (v.fields.map yk)/\U 11=int v.fields.length/\U 12=int k/\qT Y Z 57 5 (U 3) (Wh v k)) v.fields.length
  ⟨by simp,by simp,by simp,by rw[uc];simpa using d _ _⟩ ?_
 rintro k U Y Z K ⟨i,j,l,p⟩;have I:=mG v k;by_cases b:k<v.fields.length
 ·have J:=qG k;have q:=p.more (some ⟨129,6,false,[str v.fields[k].1::v.fields[k].2.V]⟩);have r:=q.jd (P:=prog) (t:=23) (c:=v.fields[k].2.V) el23 sz57 by57 ze57 rfl (by omega) (by unfold maxLen;omega) (by omega);have x:∀Y Z,zp prog Y Z 23 1 [(0,.agg v.fields[k].2.V)]=some (.own Z 0 1,qv Y Z (some ⟨57,5,true,[v.fields[k].2.V]⟩),Z+1):=fun Y Z=>by simp only[zp,el23,sz57,ze57,zo,Ku];simp[zE]
  simp[i,j,l,b,x,J,r];refine⟨b,?_⟩;rw[ud b];exact qT.after
 ·obtain rfl:k=v.fields.length:=by omega
  rw[ue]at p;have:=p.freeze Z;simp[i,j,l,f134];exact this
theorem BW:zg prog 134 (GV fun v=>.sl 5 (v.inner.map qa.V)):=
 Qq (fn:=f134) (zU mixed ⟨ub,trivial⟩:AM.Good Cin _) (qD func134) false [] _ fun args r h w S vs b=>by obtain⟨v,rfl,c,rfl⟩:=Kv h;obtain⟨u,d,e⟩:=Yk b;subst d;obtain⟨y,f,a⟩:=gx e (j:=3) (s:=5) (es:=v.items.map qa.V) (by simp);obtain⟨g,i,k⟩:=FD v c.1 y f;exact⟨_,g,.cons a .nil,by simp[f134],i,k⟩
end Go.Q
