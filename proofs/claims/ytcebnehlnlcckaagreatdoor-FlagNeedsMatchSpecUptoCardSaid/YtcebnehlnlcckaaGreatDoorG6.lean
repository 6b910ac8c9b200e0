/- Lemmas. -/
import Derived.Shelf.Strings.Search2
import Derived.Shelf.Strings.Split
import Derived.Shelf.Strings.Trim
import Derived.Shelf.Strconv.Atoi
import Derived.Ground.Names2Prog
import Derived.Test.YtcebnehlnlcckaaGreatDoorProg
import Derived.Lib.Split
import Derived.Test.YtcebnehlnlcckaaGreatDoorG5
set_option maxRecDepth 100000
open Go Proofs Proofs.YtcebnehlnlcckaaGreatDoor Proofs.Tryz RowKit AM SpanLaw Q Zz
open Go.IntKind renaming i64→i6
namespace Go.Q
abbrev int(n:Int):O:=.v (.int .i64 n)
abbrev wo(b:Bool):O:=.v (.bool b)
abbrev Rj(c:UInt8):O:=.v (.int .u8 c.toNat)
abbrev zw:Nat:=268435456
theorem mixed:prog.follows .mixedOrders=true:=by kernel_rfl
noncomputable abbrev C0:Ctx:=zR prog []
theorem jS:Gd C0:=qq mixed trivial
def F3(f:Int->Int->Int->Bool):zb->Option O
 |[.v (.int .i64 a),.v (.int .i64 b),.v (.int .i64 c)]=>some (.v (.bool (f a b c)))
 |_=>none
def PC(f:Int->Bool):zb->Option O
 |[.v (.int .u8 a)]=>some (.v (.bool (f a)))
 |_=>none
def jE(n a b:Int):Bool:=decide (a<=n)&&decide (n<=b)
def X3(n:Int):Bool:=decide (97<=n)&&decide (n<=122)||decide (48<=n)&&decide (n<=57)||n==45||n==95
@[simp]theorem zeY(f:Int->Int->Int->Bool)(a b c:Int)(Y:Hp)(Z:Nat):zg false [] (F3 f) [.v (.int .i64 a),.v (.int .i64 b),.v (.int .i64 c)] Y Z=some (.v (.bool (f a b c)),Y,Z):=yP rfl rfl (.inl rfl)
@[simp]theorem zdf(f:Int->Bool)(a:Int)(Y:Hp)(Z:Nat):zg false [] (PC f) [.v (.int .u8 a)] Y Z=some (.v (.bool (f a)),Y,Z):=yP rfl rfl (.inl rfl)
theorem rB{f:Int->Int->Int->Bool}{args:zb}{r:O}(h:F3 f args=some r):∃a b c,args=[int a,int b,int c]/\r=wo (f a b c):=by
 unfold F3 at h;split at h
 ·injection h with h;exact⟨_,_,_,rfl,h.symm⟩
 ·cases h
theorem rC{f:Int->Bool}{args:zb}{r:O}(h:PC f args=some r):∃a,args=[.v (.int .u8 a)]/\r=wo (f a):=by
 unfold PC at h;split at h
 ·injection h with h;exact⟨_,rfl,h.symm⟩
 ·cases h
theorem Z2:zf prog 36 (zg false [] (F3 jE)):=
 yt (fn:=f36) jS (qN func36) false [] _ fun args r h=>by obtain⟨a,b,c,rfl,rfl⟩:=rB h;exact⟨by simp[f36],_,zm rfl (by simp[f36,jE]),qc _⟩
theorem Zi:zf prog 150 (zg false [] (F3 jE)):=
 yt (fn:=f150) jS (qN func150) false [] _ fun args r h=>by obtain⟨a,b,c,rfl,rfl⟩:=rB h;exact⟨by simp[f150],_,zm rfl (by simp[f150,jE]),qc _⟩
theorem rD:zf prog 37 (zg false [] (PC X3)):=
 yt (fn:=f37) jS (qN func37) false [] _ fun args r h=>by obtain⟨a,rfl,rfl⟩:=rC h;exact⟨by simp[f37],_,zm rfl (by simp[f37,X3]),qc _⟩
theorem iI:zf prog 119 (zg false [] (PC X3)):=
 yt (fn:=f119) jS (qN func119) false [] _ fun args r h=>by obtain⟨a,rfl,rfl⟩:=rC h;exact⟨by simp[f119],_,zm rfl (by simp[f119,X3]),qc _⟩
noncomputable def FS (f:za->Bool):zb->Option O:=qf (α:=za) (fun l=>[str l]) (fun l=>l.length<=zw) (fun l=>wo (f l))
@[simp]theorem kM(f:za->Bool)(l:za)(Y:Hp)(Z:Nat)(h:l.length<=zw):zg false [] (FS f) [str l] Y Z=some (wo (f l),Y,Z):=
 XX l _ _ rfl (fun a b e=>by simp only[zh,zA]at e;exact wb e) h (.inl rfl)
def pr(a b:Nat)(c:UInt8):Bool:=decide (a<=c.toNat)&&decide (c.toNat<=b)
theorem Vm(a b:Nat)(c:UInt8):(decide ((c.toNat:Int)<a)||decide ((b:Int)<c.toNat))=!pr a b c:=by rw[qx];simp[pr]
def qZ(a b:Nat)(l:za):Bool:=l.all (pr a b)
def kd(l:za):Bool:=qZ 33 126 l&&jE l.length 1 100
def Vn(l:za):Bool:=qZ 33 126 l&&!(l==[])
def Z3(l:za):Bool:=l.all fun c=>X3 c.toNat
def YD(l:za):Bool:=Z3 l&&!(l==[])
def ou:za->Bool
 |[]=>false
 |c::_=>decide ((97:Int)<=c.toNat)&&decide ((c.toNat:Int)<=(122:Int))
def qG(l:za):Bool:=jE l.length 1 40&&ou l&&Z3 l
noncomputable abbrev C1:Ctx:=zR prog [(36,zg false [] (F3 jE)),(37,zg false [] (PC X3)),(150,zg false [] (F3 jE)),(119,zg false [] (PC X3))]
abbrev qRl1:List Nat:=[36,37,150,119]
theorem ov:AM.Good C1 (fun g=>qRl1.contains g):=qq mixed ⟨Z2,fun _=>zu _ _,rD,fun _=>zu _ _,Zi,fun _=>zu _ _,iI,fun _=>zu _ _,trivial⟩
theorem bC{l:za}{p:UInt8->Bool}{k:Nat}(h:k<l.length):(l.drop k).all p=(p l[k]&&(l.drop (k+1)).all p):=by rw[zc h,wO]
theorem x2{a b:Nat}{l:za}{k:Nat}(h:k<l.length):qZ a b (l.drop k)=(pr a b l[k]&&qZ a b (l.drop (k+1))):=bC h
theorem eU{l:za}{k:Nat}(h:k<l.length):Z3 (l.drop k)=(X3 l[k].toNat&&Z3 (l.drop (k+1))):=bC h
@[simp]theorem TV(a b:Nat):qZ a b []=true:=rfl
@[simp]theorem zag:Z3 []=true:=rfl
theorem Hb(l:za)(h:l.length<=zw):zo C1 f139 [str l]=some (wo (qZ 32 126 l)):=by
 refine zm rfl ?_;unfold zw at h;simp;refine zF (fun k U Y Z=>U 0=str l/\U 5=int l.length/\U 6=int k/\qZ 32 126 l=qZ 32 126 (l.drop k)) l.length ⟨by simp,by simp,by simp,by simp⟩ ?_;rintro k U Y Z j ⟨d,e,f,b⟩;by_cases a:k<l.length
 ·have i:=ql k;rw[x2 a]at b;have g:=Vm 32 126 l[k];simp only[Zr]at g;cases c:pr 32 126 l[k]
  ·have b:qZ 32 126 l=false:=by rw[b,c];rfl
   simp[d,e,f,a,b,g,c,f139]
  ·simp[d,e,f,a,g,c,i];exact⟨a,by rw[b,c];rfl⟩
 ·obtain rfl:k=l.length:=by omega
  have b:qZ 32 126 l=true:=by rw[b,zn];rfl
  simp[d,e,f,b,f139]
theorem iJ(l:za)(h:l.length<=zw):zo C1 f151 [str l]=some (wo (qZ 32 126 l)):=by
 refine zm rfl ?_;unfold zw at h;simp;refine zF (fun k U Y Z=>U 0=str l/\U 5=int l.length/\U 6=int k/\qZ 32 126 l=qZ 32 126 (l.drop k)) l.length ⟨by simp,by simp,by simp,by simp⟩ ?_;rintro k U Y Z j ⟨d,e,f,b⟩;by_cases a:k<l.length
 ·have i:=ql k;rw[x2 a]at b;have g:=Vm 32 126 l[k];simp only[Zr]at g;cases c:pr 32 126 l[k]
  ·have b:qZ 32 126 l=false:=by rw[b,c];rfl
   simp[d,e,f,a,b,g,c,f151]
  ·simp[d,e,f,a,g,c,i];exact⟨a,by rw[b,c];rfl⟩
 ·obtain rfl:k=l.length:=by omega
  have b:qZ 32 126 l=true:=by rw[b,zn];rfl
  simp[d,e,f,b,f151]
theorem Di(l:za)(h:l.length<=zw):zo C1 f71 [str l]=some (wo (kd l)):=by
 refine zm rfl ?_;unfold zw at h;simp;refine zF (fun k U Y Z=>U 0=str l/\U 5=int l.length/\U 6=int k/\qZ 33 126 l=qZ 33 126 (l.drop k)) l.length ⟨by simp,by simp,by simp,by simp⟩ ?_;rintro k U Y Z j ⟨d,e,f,b⟩;by_cases a:k<l.length
 ·have i:=ql k;rw[x2 a]at b;have g:=Vm 33 126 l[k];simp only[Zr]at g;cases c:pr 33 126 l[k]
  ·have b:qZ 33 126 l=false:=by rw[b,c];rfl
   simp[d,e,f,a,b,g,c,kd,f71]
  ·simp[d,e,f,a,g,c,i];exact⟨a,by rw[b,c];rfl⟩
 ·obtain rfl:k=l.length:=by omega
  have b:qZ 33 126 l=true:=by rw[b,zn];rfl
  simp[d,e,f,b,kd,f71]
theorem Dj(l:za)(h:l.length<=zw):zo C1 f123 [str l]=some (wo (Vn l)):=by
 refine zm rfl ?_;unfold zw at h;simp;refine zF (fun k U Y Z=>U 0=str l/\U 5=int l.length/\U 6=int k/\qZ 33 126 l=qZ 33 126 (l.drop k)) l.length ⟨by simp,by simp,by simp,by simp⟩ ?_;rintro k U Y Z j ⟨d,e,f,b⟩;by_cases a:k<l.length
 ·have i:=ql k;rw[x2 a]at b;have g:=Vm 33 126 l[k];simp only[Zr]at g;cases c:pr 33 126 l[k]
  ·have b:qZ 33 126 l=false:=by rw[b,c];rfl
   simp[d,e,f,a,b,g,c,Vn,f123]
  ·simp[d,e,f,a,g,c,i];exact⟨a,by rw[b,c];rfl⟩
 ·obtain rfl:k=l.length:=by omega
  have b:qZ 33 126 l=true:=by rw[b,zn];rfl
  simp[d,e,f,b,Vn,f123]
theorem rE(l:za)(g:l.length<=zw):zo C1 f82 [str l]=some (wo (YD l)):=by
 refine zm rfl ?_;unfold zw at g;simp;refine zF (fun k U Y Z=>U 0=str l/\U 5=int l.length/\U 6=int k/\Z3 l=Z3 (l.drop k)) l.length ⟨by simp,by simp,by simp,by simp⟩ ?_;rintro k U Y Z i ⟨d,e,f,b⟩;by_cases a:k<l.length
 ·have h:=ql k;rw[eU a]at b;cases c:X3 l[k].toNat
  ·have b:Z3 l=false:=by rw[b,c];rfl
   simp[d,e,f,a,b,c,YD,f82]
  ·simp[d,e,f,a,c,h];exact⟨a,by rw[b,c];rfl⟩
 ·obtain rfl:k=l.length:=by omega
  have b:Z3 l=true:=by rw[b,zn];rfl
  simp[d,e,f,b,YD,f82]
theorem uJ(l:za)(n:l.length<=zw):zo C1 f22 [str l]=some (wo (qG l)):=by
 refine zm rfl ?_;unfold zw at n;cases e:jE l.length 1 40
 ·simp[e,qG,f22]
 have a:0<l.length:=by simp[jE]at e;omega
 have o:ou l=(decide ((97:Int)<=l[0].toNat)&&decide ((l[0].toNat:Int)<=(122:Int))):=by
  cases l with
  |nil=>simp at a
  |cons c l=>rfl
 have m:(decide ((l[0].toNat:Int)<(97:Int))||decide ((122:Int)<l[0].toNat))=!ou l:=by rw[o,qx];simp
 cases g:ou l
 ·simp[e,a,m,g,qG,f22]
 simp[e,a,m,g];refine zF (fun k U Y Z=>U 0=str l/\U 19=int l.length/\U 20=int k/\Z3 l=Z3 (l.drop k)) l.length ⟨by simp,by simp,by simp,by simp⟩ ?_;rintro k U Y Z q ⟨h,i,j,d⟩;by_cases b:k<l.length
 ·have p:=ql k;rw[eU b]at d;cases f:X3 l[k].toNat
  ·have d:Z3 l=false:=by rw[d,f];rfl
   simp[h,i,j,b,d,f,qG,f22]
  ·simp[h,i,j,b,f,p];exact⟨b,by rw[d,f];rfl⟩
 ·obtain rfl:k=l.length:=by omega
  have d:Z3 l=true:=by rw[d,zn];rfl
  simp[h,i,j,d,e,g,qG,f22]
theorem iK:zf prog 139 (zg false [] (FS (qZ 32 126))):=
 vX ov func139 false [] fun l Y=>⟨by simp[f139],_,Hb l Y,qc _⟩
theorem Wv:zf prog 151 (zg false [] (FS (qZ 32 126))):=
 vX ov func151 false [] fun l Y=>⟨by simp[f151],_,iJ l Y,qc _⟩
theorem YE:zf prog 71 (zg false [] (FS kd)):=
 vX ov func71 false [] fun l Y=>⟨by simp[f71],_,Di l Y,qc _⟩
theorem eV:zf prog 123 (zg false [] (FS Vn)):=
 vX ov func123 false [] fun l Y=>⟨by simp[f123],_,Dj l Y,qc _⟩
theorem mZ:zf prog 82 (zg false [] (FS YD)):=
 vX ov func82 false [] fun l Y=>⟨by simp[f82],_,rE l Y,qc _⟩
theorem xf:zf prog 22 (zg false [] (FS qG)):=
 vX ov func22 false [] fun l Y=>⟨by simp[f22],_,uJ l Y,qc _⟩
noncomputable abbrev CRw:Ctx:=zR prog [(139,zg false [] (FS (qZ 32 126))),(151,zg false [] (FS (qZ 32 126))),(71,zg false [] (FS kd)),(123,zg false [] (FS Vn)),(82,zg false [] (FS YD)),(22,zg false [] (FS qG)),(36,zg false [] (F3 jE)),(150,zg false [] (F3 jE))]
abbrev qRw:List Nat:=[139,151,71,123,82,22,36,150]
theorem Mf:AM.Good CRw (fun g=>qRw.contains g):=qq mixed ⟨iK,fun _=>zu _ _,Wv,fun _=>zu _ _,YE,fun _=>zu _ _,eV,fun _=>zu _ _,mZ,fun _=>zu _ _,xf,fun _=>zu _ _,Z2,fun _=>zu _ _,Zi,fun _=>zu _ _,trivial⟩
theorem Hc(l:za):(Vn l&&decide ((l.length:Int)<=100))=kd l:=by
 cases l with
 |nil=>rfl
 |cons c l=>rw[qx];simp[Vn,kd,jE];omega
theorem uK(l:za)(a:l.length<=zw):zo CRw f85 [str l]=some (wo (kd l)):=by refine zm rfl ?_;simp[a,f85,Hc]
theorem rF(l:za)(h:0<l.length):(YD l&&decide ((l.length:Int)<=40)&&decide ((97:Int)<=l[0].toNat)&&decide ((l[0].toNat:Int)<=(122:Int)))=qG l:=by
 cases l with
 |nil=>simp at h
 |cons c l=>unfold YD qG;generalize Z3 (c::l)=w;rw[qx];cases w<;>simp[jE,ou]<;>omega
theorem rG(l:za)(b:l.length<=zw):zo CRw f49 [str l]=some (wo (qG l)):=by
 refine zm rfl ?_;cases l with
 |nil=>simp[f49,YD,qG,ou]
 |cons c l=>
  have a:0<(c::l).length:=by simp
  have:=rF (c::l) a;generalize d:c::l=m at *;simp[b,a,f49,this]
theorem bD:zf prog 85 (zg false [] (FS kd)):=
 vX Mf func85 false [] fun l Y=>⟨by simp[f85],_,uK l Y,qc _⟩
theorem xw:zf prog 49 (zg false [] (FS qG)):=
 vX Mf func49 false [] fun l Y=>⟨by simp[f49],_,rG l Y,qc _⟩
end Go.Q
namespace Go.AM
variable{dr:Prop}
section
variable{C:Ctx}{pf:FuncId->Bool}{f:FuncId}{fn:Func}{code:Code}
theorem rH(hg:xJ dr C pf)(s:fM C pf f fn code)(k:Bool)(ns:List Nat)(F:zb->Option O)
  (hF:∀args r,F args=some r->∀(w:World) (S:Nat->Prop) (vs:List Value),Zip (wH w S) args vs->∃a t,Zip (wH w S) a vs/\a.length<=fn.ntmps/\zo C fn a=some t/\∀(w:World) (S:Nat->Prop) (u:Value),wH w S t u->wH w S r u):kh dr C.P f (zg k ns F):=by
 refine⟨⟨fn,s.func,s.name,by rw[s.body];rfl⟩,?_⟩;intro args Y Z r Y' Z' h w S G vs hi hz;unfold zg at h;split at h
 ·rename_i aZ Y1 z;split at h
  ·rename_i t A;obtain⟨S1,y,B,D⟩:=jN (dr:=dr) hi z hz;obtain⟨a,rr,E,hn,d,H⟩:=hF _ t A w S1 vs (Wa B);unfold zo at d;split at d
   ·rename_i x hpe nxe I;obtain⟨⟨r1,hpf1⟩,J,l⟩:=zV d;simp only at l;subst l;refine(ZA hg s I hn y.inv.st y.inv.gT E).mono fun e w' hh=>?_
    obtain⟨v,S',G',he,fr,m,hx,hs0,K,_⟩:=hh;obtain⟨S2,k2,L⟩:=WL (dr:=dr) m J hx;have M:=H _ _ _ L;have n:∀b,S2 b->S1 b\/(w.heap.size<=b/\b<w'.heap.size):=by
     intro b j;have o:=k2.inv.st b j;rcases k2.from_ b j with h1|⟨id,blk,h1,rfl⟩|h1
     ·rcases K b h1 with N|N
      ·exact .inl N
      ·exact .inr ⟨N,o⟩
     ·rcases Nat.lt_or_ge (G' id).g w.heap.size with h3|h3
      ·rename_i p;have:=p id blk h1;omega
      ·exact .inr ⟨h3,o⟩
     ·exact absurd h1 (by omega)
    split at h
    ·rename_i i;injection h with h
     injection h with Q h;injection h with R T;subst Q;subst R;subst T;refine⟨v,_,G,he,kO.outer hi fr,.c ?_⟩;rcases i with W|X
     ·exact iE M W
     ·have q:=D X;exact M.mono fun b j=>⟨by rw[<-q];exact n b j,rfl⟩
    ·split at h
     ·injection h with h;injection h with Q h;injection h with R T;subst Q;subst R;subst T;exact⟨v,_,G,he,y.trans (kO.outer y.inv fr),.c (M.mono fun b j=>⟨n b j,rfl⟩)⟩
     ·cases h
   ·cases d
  ·cases h
 ·cases h
inductive eI (s:Nat):List (List O)->O->Prop
 |nil:eI s [] .nil
 |em:eI s [] .em
 |sl {c:List O} {es:List (List O)}:eI s (c::es) (.sl s (c::es))
theorem uL{w:World}{S:Nat->Prop}{s:Nat}{es:List zb}{u:Value}(h:wH w S (.sl s es) u):∃y,eI s es y/\wH w S y u:=by
 cases es with
 |cons c es=>exact⟨_,.sl,h⟩
 |nil=>
  cases h with
  |sl us a d b e f g=>
   rename_i A cap;cases A with
   |none=>have:=a rfl;subst this;exact⟨.nil,.nil,.nil⟩
   |some ad=>exact⟨.em,.em,.em b⟩
theorem Vo{w:World}{S:Nat->Prop}{s:Nat}{es:List zb}{y:O}{u:Value}(h:eI s es y)(a:wH w S y u):wH w S (.sl s es) u:=by
 cases h with
 |nil=>cases a;exact .sl (es:=[]) (fun _ _=>undef) (by simp) (by simp) (by simp[maxLen]) (by simp) (by simp) (by simp)
 |em=>
  cases a with
  |em b=>exact .sl (es:=[]) (fun _ _=>undef) (by simp) (by simp) b (by simp) (by simp) (by simp)
 |sl=>exact a
theorem eW{w:World}{S:Nat->Prop}{cs:zb}{u:Value}(h:wH w S (.agg cs) u){j s:Nat}{es:List zb}(c:cs[j]?=some (.sl s es)):∃y,eI s es y/\wH w S (.agg (cs.set j y)) u:=by
 cases h with
 |agg f d=>
  rename_i us;have g:j<cs.length:=(zi.1 c).1;obtain⟨y,i,l⟩:=uL (d j _ us[j] c (by simp));refine⟨y,i,.agg (by simpa using f) fun k m u a b=>?_⟩;rw[List.getElem?_set]at a;split at a
  ·rename_i e;subst e;injection a with a
   subst a;rw[jY (by omega)]at b;injection b with b
   subst b;exact l
  ·exact d k m u a b
section
variable{P:Program}{Y:Hp}{Z:Nat}{t:TypeId}{s e:Nat}{es:List zb}{y:O}
theorem eI.cell(h:eI s es y):y.wW=true:=by cases h<;>rfl
end
theorem wa.more{Y:Hp}{Z e s:Nat}{v:O}{xs:List zb}(h:wa Y Z e s v xs)(b:Option kN):wa (qR Y Z b) (Z+1) e s v xs:=by
 rcases h with⟨rfl,rfl⟩|⟨id,c,rfl,a⟩
 ·exact .inl ⟨rfl,rfl⟩
 ·exact .inr ⟨id,by omega,rfl,by rw[zM _ _ _ _ (by omega)];exact a⟩
theorem Qu(g:xJ dr C pf)(c:J6 C pf f fn)(b:Bool)(d:List Nat)(F:zb->Option O)
  (hF:∀args r,F args=some r->∀(w:World) (S:Nat->Prop) (vs:List Value),Zip (wH w S) args vs->∃a e,Zip (wH w S) a vs/\a.length<=fn.ntmps/\zo C fn a=some e/\∀(w:World) (S:Nat->Prop) (u:Value),wH w S e u->wH w S r u):kh dr C.P f (zg b d F):=
 let⟨_,c⟩:=c
 rH g c b d F hF
end
variable{dr:Prop}
def rI(P:Program)(l:Zu)(k:Nat)(L:List Tmp)(b:List Nat):Ctx:=⟨P,lookup l,fun _=>[],fun i=>if i=k then L else[],fun g=>b.contains g,fun _=>[],fun _=>none⟩
@[simp]theorem zdg(P:Program)(l:Zu)(k:Nat)(L:List Tmp)(b:List Nat):(rI P l k L b).P=P:=rfl
@[simp]theorem zdh(P:Program)(l:Zu)(k:Nat)(L:List Tmp)(b:List Nat)(Y:Hp)(Z g:Nat)(x y xs:zb):jH (rI P l k L b) Y Z (some (.fn (.func g) x y)) xs=(lookup l g).bind fun s=>s (x++xs++y) Y Z:=by unfold jH rI;simp only;cases lookup l g<;>rfl
def Dk(P:Program)(l:Zu)(k:Nat)(t:Tmp):Ctx:=⟨P,lookup l,fun _=>[],fun _=>[],fun _=>false,fun i=>if i=k then[t]else[],fun _=>none⟩
@[simp]theorem zdi(P:Program)(l:Zu)(k:Nat)(t:Tmp):(Dk P l k t).P=P:=rfl
@[simp]theorem zdj(P:Program)(l:Zu)(k:Nat)(t:Tmp)(Y:Hp)(Z g:Nat)(x y xs:zb):jH (Dk P l k t) Y Z (some (.fn (.func g) x y)) xs=(lookup l g).bind fun s=>s (x++xs++y) Y Z:=by unfold jH Dk;simp only;cases lookup l g<;>rfl
def rJ(b:List Nat):Zu->Prop
 |[]=>True
 |(g,s)::l=>(b.contains g=true->QU s)/\rJ b l
theorem Mg{P:Program}{l:Zu}{q:List Nat}{k:Nat}{L:List Tmp}{b:List Nat}(d:P.follows .mixedOrders=true)(h:XA dr P q l)(f:rJ b l):xJ dr (rI P l k L b) (fun g=>q.contains g):=by
 let g:=qq d h;refine⟨g.spec,g.quiet,g.mixed,?_,fun _ _ h=>by cases h⟩;have c:∀l:Zu,rJ b l->∀g s,b.contains g=true->lookup l g=some s->QU s:=by
  intro l
  induction l with
  |nil=>intro _ g s _ h;cases h
  |cons x l i=>
   obtain⟨k,sp⟩:=x;rintro⟨j,m⟩ g s a hs;simp only[eS]at hs;split at hs
   ·rename_i e;injection hs with hs
    subst hs;subst e;exact j a
   ·exact i m g s a hs
 exact fun g s a hs=>c l f g s a hs
theorem Vp:∀{xs ys:zb} {Y Y1:Hp},zD Y xs=some (ys,Y1)->∀{id:Nat} {b:kN},Y id=some b->b.arr=false->Y1 id=some b
 |[],ys,Y,Y1,h,id,b,a,c=>by simp only[zD]at h;injection h with h;injection h with _ h;subst h;exact a
 |x::l,ys,Y,Y1,h,id,b,a,c=>by
  simp only[zD]at h;split at h
  ·rename_i y Y2 d;split at h
   ·rename_i r e f;injection h with h;injection h with _ h;subst h
    exact Vp f (YW d a c) c
   ·cases h
  ·cases h
def qX(a r:O):Prop:=∀(w:World) (S:Nat->Prop) (u:Value),wH w S a u->wH w S r u
def zdk(r:O)(x:O)(Y:Hp)(_:Nat):Prop:=∃a,(AM.freeze Y x).map (·.1)=some a/\qX a r
theorem WO{C:Ctx}{fn:Func}{code:Code}{args:zb}{r:O}(b:fn.body=some code)
  (h:Zy C code ⟨kE args,fun _=>none,0⟩ (J2 C.P fn (zdk r))):∃a,zo C fn args=some a/\qX a r:=by
 obtain⟨x,f,g,c,a,d,e⟩:=qF b h;exact⟨a,by unfold zo;simp only[c];exact d,e⟩
theorem rK{w:World}{S:Nat->Prop}{s:Nat}{xs:List zb}{y:O}{u:Value}(h:y=.nil/\xs=[]\/y=.sl s xs)(a:wH w S y u):wH w S (.sl s xs) u:=by
 rcases h with⟨rfl,rfl⟩|rfl
 ·exact Vo .nil a
 ·exact a
theorem qX.refl(x:O):qX x x:=fun _ _ _ h=>h
theorem qX.ah{s:Nat}{xs:List zb}{y:O}(h:y=.nil/\xs=[]\/y=.sl s xs):qX y (.sl s xs):=fun _ _ _ a=>rK h a
inductive ka:List O->List O->Prop
 |nil:ka [] []
 |cons {x y:O} {xs ys:List O}:qX x y->ka xs ys->ka (x::xs) (y::ys)
theorem ka.length{xs ys:zb}(h:ka xs ys):xs.length=ys.length:=by
 induction h with
 |nil=>rfl
 |cons _ _ a=>simp[a]
theorem ka.get{xs ys:zb}(h:ka xs ys):∀{j:Nat} {x y:O},xs[j]?=some x->ys[j]?=some y->qX x y:=by
 induction h with
 |nil=>intro j x y h;cases h
 |cons c _ d=>
  intro j x y a b;cases j with
  |zero=>simp at a b;subst a;subst b;exact c
  |succ j=>exact d (by simpa using a) (by simpa using b)
theorem ka.agg{xs ys:zb}(h:ka xs ys):qX (.agg xs) (.agg ys):=by
 intro w S u c;cases c with
 |agg d e=>
  refine .agg (by rw[<-h.length];exact d) fun j g u b f=>?_
  have a:j<xs.length:=by rw[h.length];exact(zi.1 b).1
  exact h.get (zl a) b _ _ _ (e j _ u (zl a) f)
theorem ka.wP{xs ys:zb}(h:ka xs ys):qX (.wP xs) (.wP ys):=by
 intro w S u c;cases c with
 |wP d e=>
  refine .wP (by rw[<-h.length];exact d) fun j g u b f=>?_
  have a:j<xs.length:=by rw[h.length];exact(zi.1 b).1
  exact h.get (zl a) b _ _ _ (e j _ u (zl a) f)
theorem wa.at_{Y:Hp}{Z e s:Nat}{v:O}{xs:List zb}(h:wa Y Z e s v xs)(a:0<xs.length):∃id,id<Z/\v=.own id 0 xs.length/\Y id=some ⟨e,s,true,xs⟩:=by
 rcases h with⟨rfl,rfl⟩|h
 ·simp at a
 ·exact h
end Go.AM
namespace Go.SpanLaw
abbrev Sp:=Int×Int
def TW:Int->List Sp->Prop
 |_,[]=>True
 |lo,s::l=>lo<s.1/\s.1<s.2/\TW s.2 l
def mem(l:List Sp)(k:Int):Prop:=∃s∈l,s.1<=k/\k<s.2
def skip(x:Int):List Sp->List Sp
 |[]=>[]
 |b::l=>if b.2<=x then skip x l else b::l
def Below(hi:Int)(l:List Sp):Prop:=∀s∈l,s.2<=hi
structure zga (op:Int->Prop) (at_:Int) (out:List Sp):Prop where
 canon:TW (-1) out
 below:Below at_ out
 holds:∀k,mem out k↔0<=k/\k<at_/\op k
end Go.SpanLaw
namespace Go.Q
inductive qu where
 |mk (kind n:Int) (s:List UInt8) (items:List qu) (fields:List (List UInt8×qu))
namespace qu
def kind:qu->Int|.mk k _ _ _ _=>k
def n:qu->Int|.mk _ n _ _ _=>n
def s:qu->za|.mk _ _ s _ _=>s
def items:qu->List qu|.mk _ _ _ l _=>l
def fields:qu->List (za×qu)|.mk _ _ _ _ l=>l
end qu
theorem qu.ind{P:qu->Prop}(h:∀k n s e g,(∀x∈e,P x)->(∀f∈g,P f.2)->P (.mk k n s e g))(v:qu):P v:=
 qu.rec (motive_1:=P) (motive_2:=fun l=>∀x∈l,P x) (motive_3:=fun l=>∀f∈l,P f.2) (motive_4:=fun f=>P f.2) (fun k n s e g i j=>h k n s e g i j)
  (by simp) (fun x l c d y b=>by rcases zv.1 b with rfl|b;(first|exact c|exact d y b);(first|exact c|exact d y b)) (by simp) (fun x l c d y b=>by rcases zv.1 b with rfl|b;(first|exact c|exact d y b);(first|exact c|exact d y b)) (fun a v m=>m) v
mutual
def qu.V:qu->zb
 | .mk k n s a b=>[int k,int n,str s,.sl 5 (Gn a),.sl 6 (Gp b)]
def Gn:List qu->List zb
 |[]=>[]
 |v::l=>v.V::Gn l
def Gp:List (za×qu)->List zb
 |[]=>[]
 |(a,v)::l=>(str a::v.V)::Gp l
end
abbrev kj(f:za×qu):zb:=str f.1::f.2.V
theorem ow:∀l:List qu,Gn l=l.map qu.V
 |[]=>rfl
 |v::l=>by simp[Gn,ow l]
theorem ox:∀l:List (za×qu),Gp l=l.map kj
 |[]=>rfl
 |(a,v)::l=>by simp[Gp,ox l]
theorem QE(v:qu):v.V=[int v.kind,int v.n,str v.s,.sl 5 (v.items.map qu.V),.sl 6 (v.fields.map kj)]:=by
 cases v with
 |mk k n s a b=>simp[qu.V,ow,ox,qu.kind,qu.n,qu.s,qu.items,qu.fields]
@[simp]theorem zah(v:qu):v.V.length=5:=by rw[QE];rfl
@[simp]theorem Hd(v:qu):v.V.all O.wW=true:=by rw[QE];rfl
@[simp]theorem zai(v:qu):(∀x,x∈v.V->O.wW x=true)=True:=by have:=Hd v;rw[zY]at this;exact eq_true this
@[simp]theorem zdl(v:qu):v.V.take 5=v.V:=qL (by simp)
@[simp]theorem zf0(v:qu)(h:0<v.V.length):v.V[0]=int v.kind:=by simp[QE v]
@[simp]theorem zf1(v:qu)(h:1<v.V.length):v.V[1]=int v.n:=by simp[QE v]
@[simp]theorem zf2(v:qu)(h:2<v.V.length):v.V[2]=str v.s:=by simp[QE v]
@[simp]theorem zf3(v:qu)(h:3<v.V.length):v.V[3]=.sl 5 (v.items.map qu.V):=by simp[QE v]
@[simp]theorem zf4(v:qu)(h:4<v.V.length):v.V[4]=.sl 6 (v.fields.map kj):=by simp[QE v]
theorem J7{α a:Type}{f:α->a}:∀{xs ys:List α},(∀x∈xs,∀y,f x=f y->x=y)->xs.map f=ys.map f->xs=ys
 |[],[],_,_=>rfl
 |[],y::ys,_,e=>by simp at e
 |x::xs,[],_,e=>by simp at e
 |x::xs,y::ys,h,e=>by simp only[wc,zh]at e;rw[h x (by simp) y e.1,J7 (fun z b=>h z (by simp[b])) e.2]
theorem J8:∀{a b:qu},a.V=b.V->a=b:=by
 intro a
 induction a using qu.ind with
 |h k n s q r g i=>
  intro b e;cases b with
  |mk t u v j l=>
   simp only[QE,qu.kind,qu.n,qu.s,qu.items,qu.fields,zh,zA]at e;obtain⟨m,o,p,c,d⟩:=e;obtain rfl:=qI m;obtain rfl:=qI o;obtain rfl:=wb p;injection c with _ c
   injection d with _ d;obtain rfl:=J7 (fun x f y=>g x f) c;obtain rfl:=J7 (fun x f y e=>by simp only[kj,zh]at e;exact Prod.ext (wb e.1) (i x f e.2)) d
   rfl
mutual
def qu.vb:qu->Nat
 | .mk _ _ s a b=>1+s.length+Ys a+mS b
def Ys:List qu->Nat
 |[]=>0
 |v::l=>v.vb+Ys l
def mS:List (za×qu)->Nat
 |[]=>0
 |(a,v)::l=>a.length+v.vb+mS l
end
theorem Ya(v:qu):v.vb=1+v.s.length+Ys v.items+mS v.fields:=by cases v;rfl
theorem Vq(v:qu):0<v.vb:=by rw[Ya];omega
theorem ko:∀{l:List qu} {x:qu},x∈l->x.vb<=Ys l
 |y::l,x,h=>by
  simp only[Ys];rcases zv.1 h with rfl|h
  ·omega
  ·have:=ko h;omega
theorem Z4:∀{l:List (za×qu)} {x:za×qu},x∈l->x.1.length+x.2.vb<=mS l
 |(a,y)::l,x,h=>by
  simp only[mS];rcases zv.1 h with rfl|h
  ·simp only;omega
  ·have:=Z4 h;omega
theorem ja:∀l:List qu,l.length<=Ys l
 |[]=>by simp[Ys]
 |v::l=>by have:=ja l;have:=Vq v;simp only[Ys,zP];omega
theorem vr:∀l:List (za×qu),l.length<=mS l
 |[]=>by simp[mS]
 |(a,v)::l=>by have:=vr l;have:=Vq v;simp only[mS,zP];omega
noncomputable def FV (out:qu->O) (n:Nat):zb->Option O:=qf (α:=qu) (fun v=>[.agg v.V]) (fun v=>v.vb<=zw/\v.vb<=n) out
theorem zdm(out:qu->O)(n:Nat)(v:qu)(h:v.vb<=zw/\v.vb<=n):FV out n [.agg v.V]=some (out v):=
 qM (V:=fun v:qu=>[.agg v.V]) (a:=v) (fun a b e=>by simp only[zh,zA,O.agg.injEq]at e;exact J8 e) h
@[simp]theorem Lm(Y:Hp)(v:qu):wx Y v.V=some (v.V,Y):=by rw[QE];simp
theorem J9(Y:Hp)(v:qu):qD Y (.agg v.V)=some (.agg v.V,Y):=by rw[QE];simp
theorem oy(v:qu):O.noOwn (.agg v.V)=true:=by rw[QE];simp
theorem Xb(out:qu->O)(n:Nat)(v:qu)(Y:Hp)(Z:Nat)(h:v.vb<=zw/\v.vb<=n):zg false [] (FV out n) [.agg v.V] Y Z=some (out v,Y,Z):=
 yP (Y1:=Y) (show zD Y [.agg v.V]=some ([.agg v.V],Y) by simp only[zD,J9]) (zdm out n v h) (.inr (by simp only[wO,oy,tP,Bool.and_self]))
mutual
def qu.parts:qu->Nat
 | .mk _ _ _ a b=>1+kL a+kU b
def kL:List qu->Nat
 |[]=>0
 |v::l=>v.parts+kL l
def kU:List (za×qu)->Nat
 |[]=>0
 |(_,v)::l=>v.parts+kU l
end
mutual
def qu.levels:qu->Nat
 | .mk _ _ _ a b=>max (kb a) (kx b)+1
def kb:List qu->Nat
 |[]=>0
 |v::l=>max v.levels (kb l)
def kx:List (za×qu)->Nat
 |[]=>0
 |(_,v)::l=>max v.levels (kx l)
end
theorem uM(v:qu):v.parts=1+kL v.items+kU v.fields:=by cases v;rfl
theorem oz(v:qu):v.levels=max (kb v.items) (kx v.fields)+1:=by cases v;rfl
theorem iL(v:qu):v.parts<=v.vb:=by
 induction v using qu.ind with
 |h k n s e f g i=>
  have a:∀l:List qu,(∀x∈l,x.parts<=x.vb)->kL l<=Ys l:=by
   intro l
   induction l with
   |nil=>simp[kL]
   |cons v l c=>intro h;have:=h v (by simp);have:=c fun x d=>h x (by simp[d]);simp only[kL,Ys];omega
  have b:∀l:List (za×qu),(∀x∈l,x.2.parts<=x.2.vb)->kU l<=mS l:=by
   intro l
   induction l with
   |nil=>simp[kU]
   |cons v l c=>intro h;have:=h v (by simp);have:=c fun x d=>h x (by simp[d]);obtain⟨a,v⟩:=v;simp only[kU,mS];simp only at *;omega
  have:=a e g;have:=b f i;simp only[qu.parts,qu.vb];omega
theorem oA(v:qu):v.levels<=v.parts:=by
 induction v using qu.ind with
 |h k n s e f g i=>
  have a:∀l:List qu,(∀x∈l,x.levels<=x.parts)->kb l<=kL l:=by
   intro l
   induction l with
   |nil=>simp[kb]
   |cons v l c=>intro h;have:=h v (by simp);have:=c fun x d=>h x (by simp[d]);simp only[kb,kL];omega
  have b:∀l:List (za×qu),(∀x∈l,x.2.levels<=x.2.parts)->kx l<=kU l:=by
   intro l
   induction l with
   |nil=>simp[kx]
   |cons v l c=>intro h;have:=h v (by simp);have:=c fun x d=>h x (by simp[d]);obtain⟨a,v⟩:=v;simp only[kx,kU];simp only at *;omega
  have:=a e g;have:=b f i;simp only[qu.parts,qu.levels];omega
noncomputable abbrev Cc (n:Nat):Ctx:=J4 prog [(105,zg false [] (FV (fun v=>.wP [int v.parts,int v.levels]) n))] (uG 2 [(2,1)])
theorem yQ{C:Ctx}{fn:Func}{code:Code}{args:zb}{Y:Hp}{Z:Nat}{x:O}{a:Hp}{b:Nat}(c:fn.body=some code)
  (h:Zy C code ⟨kE args,Y,Z⟩ (J2 C.P fn (fun y h m=>y=x/\h=a/\m=b))):jJ C fn args Y Z=some (x,a,b):=by
 obtain⟨y,e,n1,d,rfl,rfl,rfl⟩:=qF c h;exact d
theorem iM(n:Nat)(v:qu)(h:v.vb<=zw/\v.vb<=n)(Y:Hp)(Z i j:Nat)(hi:i<Z)(s:j<Z)(b:i≠j)(p q:Nat)(c:Y i=some ⟨3,1,false,[[int p]]⟩)(d:Y j=some ⟨3,1,false,[[int q]]⟩)(f:p<=zw) :
  yq (Cc n) f137 [.agg v.V,.ref i 0 0,.ref j 0 0] Y Z =
   some (.wP [],qR (qR (qR Y Z (some ⟨100,5,false,[v.V]⟩)) i (some ⟨3,1,false,[[int ((p+v.parts:Nat):Int)]]⟩)) j (some ⟨3,1,false,[[int ((max q v.levels:Nat):Int)]]⟩),Z+1):=by
 have g:=iL v;have k:=oA v;unfold zw at *;have l:=wu ((p:Int)+v.parts);unfold yq;rw[ze (by simp[f137])];refine yQ rfl ?_;have a:=fun Y Z=>Xb (fun v=>.wP [int v.parts,int v.levels]) n v Y Z h
 have e:¬i=Z:=by omega
 have m:¬j=Z:=by omega
 have o:¬j=i:=by omega
 have r:(if q<v.levels then(v.levels:Int)else q)=((max q v.levels:Nat):Int):=by split<;>omega
 simp[a];rw[YA _ _ _ _ _ _ (iG (blk:=⟨3,1,false,[[int p]]⟩) (id:=j) (i:=0) (j:=0) (id':=i) (i':=0) (j':=0) (by simp) (by simp) (Ne.symm b) (by simp[e,c]) rfl) (fun _ h=>by cases h)];simp[c,d,e,m,o,b,l,r,f137]
theorem X4(a b:List qu):kL (a++b)=kL a+kL b:=by
 induction a with
 |nil=>simp[kL]
 |cons v a c=>simp only[q7,kL,c];omega
theorem iN(a b:List qu):kb (a++b)=max (kb a) (kb b):=by
 induction a with
 |nil=>simp[kb]
 |cons v a c=>simp only[q7,kb,c];omega
theorem X5(a b:List (za×qu)):kU (a++b)=kU a+kU b:=by
 induction a with
 |nil=>simp[kU]
 |cons v a c=>obtain⟨x,v⟩:=v;simp only[q7,kU,c];omega
theorem iO(a b:List (za×qu)):kx (a++b)=max (kx a) (kx b):=by
 induction a with
 |nil=>simp[kx]
 |cons v a c=>obtain⟨x,v⟩:=v;simp only[q7,kx,c];omega
theorem zdn{l:List qu}{k:Nat}(h:k<l.length):kL (l.take (k+1))=kL (l.take k)+l[k].parts/\kb (l.take (k+1))=max (kb (l.take k)) l[k].levels:=by rw[zX h,X4,iN];simp[kL,kb]
theorem zdo{l:List (za×qu)}{k:Nat}(h:k<l.length):kU (l.take (k+1))=kU (l.take k)+l[k].2.parts/\kx (l.take (k+1))=max (kx (l.take k)) l[k].2.levels:=by rw[zX h,X5,iO];simp[kU,kx]
theorem He(l:List qu)(k:Nat):kL (l.take k)<=kL l:=by have:=X4 (l.take k) (l.drop k);rw[vU]at this;omega
theorem Hf(l:List (za×qu))(k:Nat):kU (l.take k)<=kU l:=by have:=X5 (l.take k) (l.drop k);rw[vU]at this;omega
noncomputable abbrev Cd (n:Nat):Ctx:=J4 prog [(137,yq (Cc n) f137)] (uG 13 [(3,2)])
theorem Dl(n:Nat)(v:qu)(h:v.vb<=zw/\v.vb<=n+1):zo (Cd n) f105 [.agg v.V]=some (.wP [int v.parts,int v.levels]):=by
 have z:=iL v;have A:=uM v;have B:=Ya v;have t:=oz v;have C:=ja v.items;have D:=vr v.fields;obtain⟨E,H⟩:=h;unfold zw at E;refine zm rfl ?_;simp;refine zF (fun k U Y Z=>U 1=.ref 0 0 0/\U 2=.ref 1 0 0/\U 3=.ref 2 0 0/\U 4=.fn (.func 137) [] [.ref 1 0 0,.ref 2 0 0]/\U 11=.sl 5 (v.items.map qu.V)/\U 12=int v.items.length/\U 13=int k/\3<=Z/\Y 0=some ⟨100,5,false,[v.V]⟩ /\
   Y 1=some ⟨3,1,false,[[int ((1+kL (v.items.take k):Nat):Int)]]⟩/\Y 2=some ⟨3,1,false,[[int (kb (v.items.take k))]]⟩) v.items.length
  ⟨by simp,by simp,by simp,by simp,by simp,by simp,by simp,by simp,by simp,by simp[kL],by simp[kb]⟩ ?_
 rintro k U Y Z y ⟨m,f,g,p,c,d,e,q,u,l,o⟩;by_cases a:k<v.items.length
 ·obtain⟨w,x⟩:=zdn a;have F:=ko (zj a);have r:=ql k;have s:=He v.items k;have b:=iM n v.items[k] ⟨by unfold zw;omega,by omega⟩ (qR Y Z (some ⟨100,5,false,[v.items[k].V]⟩)) (Z+1) 1 2 (by omega) (by omega) (by omega) _ _ (by rw[zM _ _ _ _ (by omega)];exact l) (by rw[zM _ _ _ _ (by omega)];exact o) (by unfold zw;omega);simp[m,f,g,p,c,d,e,a,b,r];refine⟨a,by omega,?_,?_,?_⟩
  ·simp[u,show¬0=Z by omega,show¬0=Z+1 by omega]
  ·rw[w];omega
  ·rw[x]
 ·obtain rfl:k=v.items.length:=by omega
  rw[wJ]at l o;simp[m,f,g,p,c,d,e,u];refine zF (fun k U Y Z=>U 1=.ref 0 0 0/\U 2=.ref 1 0 0/\U 3=.ref 2 0 0/\U 4=.fn (.func 137) [] [.ref 1 0 0,.ref 2 0 0]/\U 22=.sl 6 (v.fields.map kj)/\U 23=int v.fields.length/\U 24=int k/\3<=Z /\
    Y 1=some ⟨3,1,false,[[int ((1+kL v.items+kU (v.fields.take k):Nat):Int)]]⟩/\Y 2=some ⟨3,1,false,[[int ((max (kb v.items) (kx (v.fields.take k)):Nat):Int)]]⟩) v.fields.length
   ⟨by simp[m],by simp[f],by simp[g],by simp[p],by simp,by simp,by simp,q,by simp[l,kU],by simp[o,kx]⟩ ?_
  clear m f g p c d e q u l o a y Z Y U;rintro k U Y Z y ⟨m,f,g,p,c,d,e,q,l,o⟩;by_cases a:k<v.fields.length
  ·obtain⟨w,x⟩:=zdo a;have F:=Z4 (zj a);have r:=ql k;have s:=Hf v.fields k;have b:=iM n v.fields[k].2 ⟨by unfold zw;omega,by omega⟩ (qR Y Z (some ⟨143,6,false,[kj v.fields[k]]⟩)) (Z+1) 1 2 (by omega) (by omega) (by omega) _ _ (by rw[zM _ _ _ _ (by omega)];exact l) (by rw[zM _ _ _ _ (by omega)];exact o) (by unfold zw;omega);simp[kj]at b;simp[m,f,g,p,c,d,e,a,r,b];refine⟨a,by omega,?_,?_⟩
   ·rw[w];omega
   ·rw[x]
  ·obtain rfl:k=v.fields.length:=by omega
   rw[wJ]at l o;have G:=oA v;have r:i6.wrap (((max (kb v.items) (kx v.fields):Nat):Int)+1)=(v.levels:Int):=by rw[wR (by omega) (by omega),t];omega
   simp[m,f,g,p,c,d,e];rw[YA _ _ _ _ _ _ (iG (id:=2) (i:=0) (j:=0) (id':=1) (i':=0) (j':=0) (by simp[g]) (by simp[f]) (by omega) (by exact l) rfl) (fun _ h=>by cases h)];simp[m,f,g,l,o,r,f105,zI];omega
theorem Ka{out:qu->O}{n:Nat}{args:zb}{r:O}(h:FV out n args=some r):∃v:qu,args=[.agg v.V]/\(v.vb<=zw/\v.vb<=n)/\r=out v:=zN h
theorem Rk{out:qu->O}:∀args r,FV out 0 args=some r->False:=fun args r h=>by obtain⟨v,rfl,a,rfl⟩:=Ka h;have:=Vq v;omega
theorem rL{out:qu->O}{f:FuncId}(a:∃fn,prog.funcs[f]?=some fn/\(fn.name== "runtime.NumGoroutine")=false/\fn.body.isNone=false):zf prog f (zg false [] (FV out 0)):=by
 refine⟨a,fun args Y Z r b c h=>?_⟩;unfold zg at h;split at h
 ·split at h
  ·rename_i d hF;exact(Rk _ _ hF).elim
  ·cases h
 ·cases h
theorem uN:∀n,zf prog 105 (zg false [] (FV (fun v=>.wP [int v.parts,int v.levels]) n)):=by
 intro n
 induction n with
 |zero=>exact rL ⟨_,func105,by kernel_rfl,by kernel_rfl⟩
 |succ n a=>
  have b:Gd (Cc n):=uF _ mixed ⟨a,by simp,trivial⟩;have c:zf prog 137 (yq (Cc n) f137):=kQ b func137;have hd:Gd (Cd n):=uF _ mixed ⟨c,by simp,trivial⟩;exact yt (fn:=f105) hd (qN func105) false [] _ fun args r h=>by obtain⟨v,rfl,d,rfl⟩:=Ka h;exact⟨zG (zk 1) (by decide),_,Dl n v d,qc _⟩
noncomputable abbrev GV (out:qu->O):AM.Spec:=zg false [] (FV out zw)
theorem QV(out:qu->O)(v:qu)(Y:Hp)(Z:Nat)(h:v.vb<=zw):GV out [.agg v.V] Y Z=some (out v,Y,Z):=Xb out zw v Y Z ⟨h,h⟩
def uO(k:Int):Bool:=decide (k<0)||decide (5<k)
def Vr(k n:Int)(s:za)(i f:Nat):Bool:=n != 0&&k != 1&&k != 2||!(s==[])&&k != 3||decide (0<i)&&k != 4||decide (0<f)&&k != 5
def bE(k n:Int):Bool:=k==1&&n != 0&&n != 1
def bF(k n:Int):Bool:=k==2&&(decide (n<=-1000000000000000)||decide (1000000000000000<=n))
def Fm(i f:Nat):Bool:=decide ((100:Int)<i)||decide ((100:Int)<f)
def Fo(s:za):Bool:=decide ((500:Int)<s.length)
def Yb(k n:Int)(s:za)(i f:Nat):Int:=
 if uO k then 4 else if Vr k n s i f then 3 else if bE k n||bF k n then 1 else if Fo s then 2 else if qZ 32 126 s then(if Fm i f then 2 else 0)else 1
def Vs(a b:za):Bool:=Op.bytesLess a b||a==b
def iP(a:za):Bool:=a.isEmpty||decide ((60:Int)<a.length)||!qZ 32 126 a
def js(b:Option za)(a:za):Bool:=match b with
 |none=>false
 |some p=>Vs a p
mutual
def qu.fault:qu->Int
 | .mk k n s a b=>if Yb k n s a.length b.length=0 then(if Zg a=0 then KL none b else Zg a)else Yb k n s a.length b.length
def Zg:List qu->Int
 |[]=>0
 |v::l=>if v.fault=0 then Zg l else v.fault
def KL:Option za->List (za×qu)->Int
 |_,[]=>0
 |prev,(a,v)::l=>if iP a then 5 else if js prev a then 8 else if v.fault=0 then KL (some a) l else v.fault
end
theorem uP(v:qu):v.fault=if Yb v.kind v.n v.s v.items.length v.fields.length=0 then(if Zg v.items=0 then KL none v.fields else Zg v.items)else Yb v.kind v.n v.s v.items.length v.fields.length:=by cases v;rfl
theorem uQ:zf prog 138 (GV fun v=>wo (Vr v.kind v.n v.s v.items.length v.fields.length)):=
 yt (fn:=f138) jS (qN func138) false [] _ fun args r h=>by obtain⟨v,rfl,a,rfl⟩:=Ka h;exact⟨by simp[f138],_,zm rfl (by simp[f138,Vr]),qc _⟩
noncomputable abbrev Ck (n:Nat):Ctx:=zR prog [(106,zg false [] (FV (fun v=>int v.fault) n)),(138,GV fun v=>wo (Vr v.kind v.n v.s v.items.length v.fields.length)),(139,zg false [] (FS (qZ 32 126)))]
@[simp]theorem qk(n:Nat):kY (Ck n) 139:=y9 (by rfl) (zu _ _)
theorem eX{l:List qu}{k:Nat}(h:k<l.length):Zg (l.drop k)=if l[k].fault=0 then Zg (l.drop (k+1))else l[k].fault:=by rw[zc h,Zg]
theorem eY{l:List (za×qu)}{k:Nat}(h:k<l.length)(p:Option za):KL p (l.drop k)=if iP l[k].1 then 5 else if js p l[k].1 then 8 else if l[k].2.fault=0 then KL (some l[k].1) (l.drop (k+1))else l[k].2.fault:=by rw[zc h,KL]
def Z5(l:List (za×qu))(k:Nat):Option za:=if k=0 then none else(l[k-1]?).map (·.1)
theorem iQ(n:Nat)(v:qu)(h:v.vb<=zw/\v.vb<=n+1):zo (Ck n) f106 [.agg v.V]=some (int v.fault):=by
 have hvb:=Ya v;have hl1:=ja v.items;have hl2:=vr v.fields;obtain⟨ha,hb⟩:=h;unfold zw at ha;have b:=uP v;have d:=fun Y Z=>QV (fun v=>wo (Vr v.kind v.n v.s v.items.length v.fields.length)) v Y Z ha
 have A:v.s.length<=zw:=by unfold zw;omega
 refine zm rfl ?_;have x:(decide (v.kind<0)||decide (5<v.kind))=uO v.kind:=rfl;have F:(v.kind==1&&v.n != 0&&v.n != 1)=bE v.kind v.n:=rfl;have H:(v.kind==2&&(decide (v.n<=-1000000000000000)||decide (1000000000000000<=v.n)))=bF v.kind v.n:=rfl;have e4:(decide ((100:Int)<v.items.length)||decide ((100:Int)<v.fields.length))=Fm v.items.length v.fields.length:=rfl;have L:decide ((500:Int)<v.s.length)=Fo v.s:=rfl;cases q:uO v.kind
 case true=>simp[x,q,b,Yb,f106]
 cases y:Vr v.kind v.n v.s v.items.length v.fields.length
 case true=>simp[x,q,d,y,b,Yb,f106]
 cases B:bE v.kind v.n
 case true=>simp[x,q,d,y,F,B,b,Yb,f106]
 cases G:bF v.kind v.n
 case true=>simp[x,q,d,y,F,B,H,G,b,Yb,f106]
 cases I:Fo v.s
 case true=>simp[x,q,d,y,F,B,H,G,L,I,b,Yb,f106]
 cases M:qZ 32 126 v.s
 case false=>simp[x,q,d,y,F,B,H,G,L,I,M,A,b,Yb,f106]
 cases P:Fm v.items.length v.fields.length
 case true=>simp[x,q,d,y,F,B,H,G,L,I,M,A,e4,P,b,Yb,f106]
 have hh:Yb v.kind v.n v.s v.items.length v.fields.length=0:=by simp[Yb,q,y,B,G,I,M,P]
 rw[hh,ze rfl]at b;simp[x,q,d,y,F,B,H,G,L,I,M,A,e4,P];refine zF (fun k U Y Z=>U 1=.ref 0 0 0/\U 70=.sl 5 (v.items.map qu.V)/\U 71=int v.items.length/\U 72=int k/\1<=Z/\Y 0=some ⟨100,5,false,[v.V]⟩/\Zg v.items=Zg (v.items.drop k)) v.items.length
  ⟨by simp,by simp,by simp,by simp,by simp,by simp,by simp⟩ ?_
 rintro k U Y Z hk ⟨l,r,t,u,C,p,w⟩;have z:¬0=Z:=by omega
 by_cases c:k<v.items.length
 ·have hm:=ko (zj c);have hw:=ql k;have a:=fun Y Z=>Xb (fun v=>int v.fault) n v.items[k] Y Z ⟨by unfold zw;omega,by omega⟩
  rw[eX c]at w;by_cases e:v.items[k].fault=0
  ·rw[ze e]at w;simp[l,r,t,u,c,a,e,hw]
   and_intros<;>first|omega|exact w|simp[z,p]
  ·rw[zd e]at w;have o:=xN e;rw[w,zd e]at b;simp[l,r,t,u,c,a,o,b,f106]
 ·obtain rfl:k=v.items.length:=by omega
  rw[zn]at w;have w:Zg v.items=0:=by rw[w];rfl
  rw[w,ze rfl]at b;simp[l,r,t,u,p];refine zF (fun k U Y Z=>U 1=.ref 0 0 0/\U 83=.sl 6 (v.fields.map kj)/\U 84=int v.fields.length/\U 85=int k/\1<=Z/\Y 0=some ⟨100,5,false,[v.V]⟩/\v.fault=KL (Z5 v.fields k) (v.fields.drop k)) v.fields.length
   ⟨by simp[l],by simp,by simp,by simp,C,p,by simp[b,Z5]⟩ ?_
  clear l r t u C p c hk z Z Y U b;rintro k U Y Z hk ⟨l,f,g,i,C,p,b⟩;have z:¬0=Z:=by omega
  by_cases c:k<v.fields.length
  ·have hm:=Z4 (zj c);have hw:=ql k;have m:v.fields[k].1.length<=zw:=by unfold zw;omega
   have a:=fun Y Z=>Xb (fun v=>int v.fault) n v.fields[k].2 Y Z ⟨by unfold zw;omega,by omega⟩
   have en:(v.fields[k].1.isEmpty||decide ((60:Int)<v.fields[k].1.length)||!qZ 32 126 v.fields[k].1)=iP v.fields[k].1:=rfl;rw[eY c]at b;cases D:iP v.fields[k].1
   case true=>simp[l,f,g,i,c,m,en,D,b,f106]
   have J:Z5 v.fields (k+1)=some v.fields[k].1:=by simp[Z5,c]
   simp only[D,zq,qn]at b;by_cases k0:k=0
   ·subst k0;simp only[Z5,js,qB,zq,qn]at b;by_cases e:v.fields[0].2.fault=0
    ·rw[ze e]at b;have w1:=wu 1;simp[l,f,g,i,c,m,en,D,a,e,w1]
     and_intros<;>first|omega|(rw[b];rw[J];simp;done)|simp[z,p]
    ·rw[zd e]at b;have o:=xN e;simp[l,f,g,i,c,m,en,D,a,o,b,f106]
   ·obtain⟨j,rfl⟩:∃j,k=j+1:=⟨k-1,by omega⟩;have N:j<v.fields.length:=by omega
    have Q:i6.wrap ((j:Int)+1-1)=(j:Int):=by rw[wR (by omega) (by omega)];omega
    have E:=wu (j:Int);have R:((j:Int)+1).toNat=j+1:=by omega
    have S:0<(j:Int)+1:=by omega
    have T:0<=(j:Int)+1:=by omega
    have W:(j:Int)+1<v.fields.length:=by omega
    have wk:=wu ((j:Int)+1+1);have X:(Op.bytesLess v.fields[j+1].1 v.fields[j].1||v.fields[j+1].1==v.fields[j].1)=Vs v.fields[j+1].1 v.fields[j].1:=rfl;have hpj:Z5 v.fields (j+1)=some v.fields[j].1:=by simp[Z5,N]
    simp only[hpj,js]at b;cases K:Vs v.fields[j+1].1 v.fields[j].1
    case true=>simp only[K,qB]at b;simp[l,f,g,i,c,N,m,en,D,a,p,z,Q,E,R,S,T,W,X,K,b,f106]
    simp only[K,zq,qn]at b;by_cases e:v.fields[j+1].2.fault=0
    ·rw[ze e]at b;simp[l,f,g,i,c,N,m,en,D,a,p,z,Q,E,R,S,T,W,X,K,e,wk]
     and_intros<;>first|omega|(rw[b];rw[J])|simp[z,p]
    ·rw[zd e]at b;have o:=xN e;simp[l,f,g,i,c,N,m,en,D,a,p,z,Q,E,R,S,T,W,X,K,o,b,f106]
  ·obtain rfl:k=v.fields.length:=by omega
   rw[zn]at b;have b:v.fault=0:=by rw[b];rfl
   simp[l,f,g,i,b,f106]
theorem fP:∀n,zf prog 106 (zg false [] (FV (fun v=>int v.fault) n)):=by
 intro n
 induction n with
 |zero=>exact rL ⟨_,func106,by kernel_rfl,by kernel_rfl⟩
 |succ n a=>
  have b:AM.Good (Ck n) (fun g=>[139].contains g):=qq mixed ⟨a,by simp,uQ,by simp,iK,fun _=>zu _ _,trivial⟩;exact yt (fn:=f106) b (qN func106) false [] _ fun args r h=>by obtain⟨v,rfl,c,rfl⟩:=Ka h;exact⟨zG (zk 1) (by decide),_,iQ n v c,qc _⟩
def qu.check(v:qu):Int:=if decide ((1000:Int)<v.parts)||decide ((8:Int)<v.levels)then 2 else v.fault
noncomputable abbrev Cch:Ctx:=zR prog [(106,GV fun v=>int v.fault),(105,GV fun v=>.wP [int v.parts,int v.levels])]
theorem eZ:zf prog 65 (GV fun v=>int v.check):=
 yt (fn:=f65) (zS mixed ⟨fP zw,uN zw,trivial⟩:AM.Good Cch _) (qN func65) false [] _ fun args r h=>by
  obtain⟨v,rfl,a,rfl⟩:=Ka h;have b:=fun Y Z=>QV (fun v=>int v.fault) v Y Z a.1
  have c:=fun Y Z=>QV (fun v=>.wP [int v.parts,int v.levels]) v Y Z a.1
  refine⟨by simp[f65],_,zm rfl ?_,qc _⟩;cases d:(decide ((1000:Int)<v.parts)||decide ((8:Int)<v.levels))
  ·simp[b,c,d,f65,qu.check]
  ·simp[b,c,d,f65,qu.check]
def Z6(e s:Nat):zb->Option (Option kN)
 |[.nil]=>some none
 |[.em]=>some (some ⟨e,s,true,[]⟩)
 |[.sl a es]=>if a=s/\es≠[]/\es.length<=zw then some (some ⟨e,s,true,es⟩)else none
 |_=>none
def Zj(e s:Nat)(es:List zb)(y:O)(Z:Nat):O×(Hp->Hp)×Nat:=match y with
 | .nil=>(.nil,fun h=>h,Z)
 |_=>(.own Z 0 es.length,fun h=>qR h Z (some ⟨e,s,true,es⟩),Z+1)
theorem iR{e s:Nat}{es:List zb}{y:O}(h:eI s es y)(a:es.length<=zw)(Y:Hp)(Z:Nat):yI [] (Z6 e s) [y] Y Z=some ((Zj e s es y Z).1,(Zj e s es y Z).2.1 Y,(Zj e s es y Z).2.2):=by
 cases h with
 |nil=>rfl
 |em=>rfl
 |sl=>simp at a;simp[yI,yj,Z6,Zj,a]
theorem uR{e s:Nat}{es:List zb}{y:O}{Z:Nat}(Y:Hp){id:Nat}(h:id<Z):(Zj e s es y Z).2.1 Y id=Y id:=by
 unfold Zj;split
 ·rfl
 ·exact zM _ _ _ _ (by omega)
theorem Dm{e s:Nat}{es:List zb}{y:O}(h:eI s es y)(Y:Hp)(Z:Nat):wa ((Zj e s es y Z).2.1 Y) (Zj e s es y Z).2.2 e s (Zj e s es y Z).1 es:=by
 cases h with
 |nil=>exact .inl ⟨rfl,rfl⟩
 |em=>exact .inr ⟨Z,by simp[Zj],rfl,by simp[Zj]⟩
 |sl=>exact .inr ⟨Z,by simp[Zj],rfl,by simp[Zj]⟩
theorem uS(args:zb)(r:Option kN)(h:Z6 100 5 args=some r):args.length<=f160.ntmps/\∃x Y Z,jJ C0 f160 args (fun _=>none) 0=some (x,Y,Z)/\Vi r x Y Z:=by
 unfold Z6 at h;split at h
 ·injection h with h;subst h;exact⟨by simp[f160],qF rfl (by simp[ZV,JS,f160,Vi])⟩
 ·injection h with h;subst h;exact⟨by simp[f160],qF rfl (by simp[ZV,JS,f160,Vi,zr,yW,AM.view,maxLen,zJ,zp])⟩
 ·rename_i es;split at h
  ·rename_i d;obtain⟨rfl,a,b⟩:=d;injection h with h;subst h
   cases es with
   |nil=>exact absurd rfl a
   |cons c es=>
    unfold zw at b;simp at b;have e:es.length+1<=maxLen:=by unfold maxLen;omega
    have f:(es.length+1)*80<=140737488355328:=by omega
    refine⟨by simp[f160],qF rfl ?_⟩;simp[ZV,JS,f160,Vi,zr,yW,AM.view,zJ,zp,e,f]
  ·cases h
 ·cases h
theorem rM:zf prog 160 (yI [] (Z6 100 5)):=
 Z1 (fn:=f160) (code:=_) jS ⟨func160,by kernel_rfl,rfl,by kernel_rfl⟩ [] _ uS
def qu.inner(v:qu):List qu:=v.items++v.fields.map (·.2)
def QW(v:qu)(k:Nat):List zb:=(v.items++(v.fields.take k).map (·.2)).map qu.V
theorem rN(v:qu):QW v 0=v.items.map qu.V:=by simp[QW]
theorem rO{v:qu}{k:Nat}(h:k<v.fields.length):QW v (k+1)=QW v k++[v.fields[k].2.V]:=by unfold QW;rw[zX h,nR (f:=fun x:List UInt8×qu=>x.2),<-q5,nR (f:=qu.V)];rfl
theorem rP(v:qu):QW v v.fields.length=v.inner.map qu.V:=by simp[QW,qu.inner]
theorem iS(v:qu)(k:Nat):(QW v k).length<=v.items.length+v.fields.length:=by simp[QW];omega
noncomputable abbrev Cin:Ctx:=zR prog [(160,yI [] (Z6 100 5))]
theorem Dn(v:qu)(z:v.vb<=zw)(y:O)(m:eI 5 (v.items.map qu.V) y) :
  ∃a,zo Cin f148 [.agg (v.V.set 3 y)]=some a/\∀(w:World) (S:Nat->Prop) (u:Value),wH w S a u->wH w S (.sl 5 (v.inner.map qu.V)) u:=by
 have A:=Ya v;have B:=ja v.items;have C:=vr v.fields;have o:=fun Y Z=>iR (e:=100) m (by simp;omega) Y Z
 have d:=fun Y Z=>Dm (e:=100) m Y Z
 unfold zw at z;have f:v.V.set 3 y=[int v.kind,int v.n,str v.s,y,.sl 6 (v.fields.map kj)]:=by rw[QE];rfl
 have g:∀{code},f148.body=some code->Zy Cin code ⟨kE [.agg (v.V.set 3 y)],fun _=>none,0⟩ (J2 Cin.P f148 (Jl (.sl 5 (v.inner.map qu.V))))->∃a,zo Cin f148 [.agg (v.V.set 3 y)]=some a/\∀(w:World) (S:Nat->Prop) (u:Value),wH w S a u->wH w S (.sl 5 (v.inner.map qu.V)) u:=by intro code D h;obtain⟨a,E,F⟩:=xe D h;exact⟨a,E,fun w S u G=>rq G F⟩
 refine g rfl ?_;rw[f];have H:=fun Y=>uR (e:=100) (s:=5) (es:=v.items.map qu.V) (y:=y) (Z:=1) Y (id:=0) (by omega)
 simp[m.cell,o,H];refine zF (fun k U Y Z=>U 10=.sl 6 (v.fields.map kj)/\U 11=int v.fields.length/\U 12=int k/\wa Y Z 100 5 (U 3) (QW v k)) v.fields.length
  ⟨by simp,by simp,by simp,by rw[rN];simpa using d _ _⟩ ?_
 rintro k U Y Z K ⟨i,j,l,p⟩;have I:=iS v k;by_cases b:k<v.fields.length
 ·have J:=ql k;have q:=p.more (some ⟨143,6,false,[str v.fields[k].1::v.fields[k].2.V]⟩);have r:=q.y8 (P:=prog) (t:=37) (c:=v.fields[k].2.V) el37 TS zc4 TT rfl (by omega) (by unfold maxLen;omega) (by omega);have x:∀Y Z,zr prog Y Z 37 1 [(0,.agg v.fields[k].2.V)]=some (.own Z 0 1,qR Y Z (some ⟨100,5,true,[v.fields[k].2.V]⟩),Z+1):=fun Y Z=>by simp only[zr,el37,TS,TT,zp,J9];simp[zJ]
  simp[i,j,l,b,x,J,r];refine⟨b,?_⟩;rw[rO b];exact wa.after
 ·obtain rfl:k=v.fields.length:=by omega
  rw[rP]at p;have:=p.freeze Z;simp[i,j,l,f148];exact this
theorem uT:zf prog 148 (GV fun v=>.sl 5 (v.inner.map qu.V)):=
 Qu (fn:=f148) (zS mixed ⟨rM,trivial⟩:AM.Good Cin _) (qN func148) false [] _ fun args r h w S vs b=>by obtain⟨v,rfl,c,rfl⟩:=Ka h;obtain⟨u,d,e⟩:=WN b;subst d;obtain⟨y,f,a⟩:=eW e (j:=3) (s:=5) (es:=v.items.map qu.V) (by simp);obtain⟨g,i,k⟩:=Dn v c.1 y f;exact⟨_,g,.cons a .nil,by simp[f148],i,k⟩
abbrev Rg:=Int×Int×Int
abbrev Vt(r:Rg):zb:=[int r.1,int r.2.1,int r.2.2]
theorem Mh{a b:Rg}(h:Vt a=Vt b):a=b:=by simp only[zh,zA,O.v.injEq,Value.int.injEq,true_and]at h;exact Prod.ext h.1 (Prod.ext h.2.1 h.2.2)
theorem iT{a b:List Rg}(h:O.sl 3 (a.map Vt)=O.sl 3 (b.map Vt)):a=b:=by injection h with _ h;exact yX (fun _ _=>Mh) h
def rgO(a:Int)(r:Rg):Bool:=(r.1 != a)||decide (r.2.1<=r.1)
def TX(p:Option Int)(r:Rg):Bool:=match p with
 |none=>false
 |some q=>q==r.2.2
def Mi(n:Int):Int->Option Int->List Rg->Int
 |at_,_,[]=>if at_=100000 then 0 else 8
 |at_,p,r::l=>if jE r.2.2 0 (n-1)then(if rgO at_ r then 8 else if(100000:Int)<r.2.1 then 1 else if TX p r then 7 else Mi n r.2.1 (some r.2.2) l)else 1
theorem uU{l:List Rg}{k:Nat}(h:k<l.length)(n a:Int)(p:Option Int):Mi n a p (l.drop k)=if jE l[k].2.2 0 (n-1)then(if rgO a l[k]then 8 else if(100000:Int)<l[k].2.1 then 1 else if TX p l[k]then 7 else Mi n l[k].2.1 (some l[k].2.2) (l.drop (k+1)))else 1:=by rw[zc h,Mi]
def YF(l:List Rg)(k:Nat):Option Int:=if k=0 then none else(l[k-1]?).map (·.2.2)
def Z7(l:List Rg)(n:Int):Int:=if l.length=0 then 9 else if(200:Int)<l.length then 2 else Mi n 0 none l
theorem xx:zf prog 43 (zg false [] (F3 jE)):=
 yt (fn:=f43) jS (qN func43) false [] _ fun args r h=>by obtain⟨a,b,c,rfl,rfl⟩:=rB h;exact⟨by simp[f43],_,zm rfl (by simp[f43,jE]),qc _⟩
noncomputable abbrev Cwf:Ctx:=zR prog [(43,zg false [] (F3 jE))]
theorem dt(l:List Rg)(n:Int)(N:1<=n/\n<=20):zo Cwf f76 [.sl 3 (l.map Vt),int n]=some (int (Z7 l n)):=by
 refine zm rfl ?_;have g:=wu (n-1);rw[Z7];by_cases v:l.length=0
 ·have:l=[]:=zT.1 v;subst this;simp[f76]
 have q:¬l=[]:=fun h=>v (by rw[h];rfl)
 have D:((l.length:Int)==0)=false:=by simpa using q
 by_cases E:(200:Int)<l.length
 ·simp[D,v,q,E,f76]
 simp[D,v,q,E];refine zF (fun k U Y Z=>U 0=.sl 3 (l.map Vt)/\U 1=int n/\U 14=.sl 3 (l.map Vt)/\U 15=int l.length/\U 16=int k/\∃a:Int,U 5=int a/\Mi n 0 none l=Mi n a (YF l k) (l.drop k)) l.length
  ⟨by simp,by simp,by simp,by simp,by simp,0,by simp,by simp[YF]⟩ ?_
 rintro k U Y Z P ⟨i,m,d,e,f,a,o,b⟩;by_cases c:k<l.length
 ·have Q:=ql k;rw[uU c]at b;cases p:jE l[k].2.2 0 (n-1)
  case false=>rw[p]at b;simp at b;simp[i,m,o,d,e,f,c,g,p,b,f76]
  simp only[p,qB]at b;have r:((l[k].1 != a)||decide (l[k].2.1<=l[k].1))=rgO a l[k]:=rfl;cases z:rgO a l[k]
  case true=>rw[z]at r b;simp only[qB]at b;simp[i,m,o,d,e,f,c,g,p,r,b,f76]
  rw[z]at r;simp only[z,zq,qn]at b;by_cases s:(100000:Int)<l[k].2.1
  ·rw[ze s]at b;simp[i,m,o,d,e,f,c,g,p,r,s,b,f76]
  rw[zd s]at b;have t:YF l (k+1)=some l[k].2.2:=by simp[YF,c]
  by_cases K:k=0
  ·subst K;simp only[YF,qB,TX,zq,qn]at b;have L:=wu 1;simp[i,m,o,d,e,f,c,g,p,r,s,L];exact⟨c,by rw[b,t];simp⟩
  ·obtain⟨j,rfl⟩:∃j,k=j+1:=⟨k-1,by omega⟩;have A:j<l.length:=by omega
   have F:i6.wrap ((j:Int)+1-1)=(j:Int):=by rw[wR (by omega) (by omega)];omega
   have u:=wu (j:Int);have G:((j:Int)+1).toNat=j+1:=by omega
   have H:0<(j:Int)+1:=by omega
   have I:0<=(j:Int)+1:=by omega
   have J:(j:Int)+1<l.length:=by omega
   have M:=wu ((j:Int)+1+1);have B:YF l (j+1)=some l[j].2.2:=by simp[YF,A]
   have w:(l[j].2.2==l[j+1].2.2)=TX (some l[j].2.2) l[j+1]:=rfl;rw[B]at b;cases x:TX (some l[j].2.2) l[j+1]
   ·rw[x]at w;simp only[x,zq,qn]at b;simp[i,m,o,d,e,f,c,A,g,p,r,s,w,F,u,G,H,I,J,M];exact⟨by omega,by rw[b,t]⟩
   ·rw[x]at w;simp only[x,qB]at b;simp[i,m,o,d,e,f,c,A,g,p,r,s,w,F,u,G,H,I,J,b,f76]
 ·obtain rfl:k=l.length:=by omega
  rw[zn,Mi]at b;by_cases y:a=100000
  ·rw[ze y]at b;simp[i,m,o,d,e,f,y,b,f76]
  ·rw[zd y]at b;have C:(a != 100000)=true:=by simpa using y
   simp[i,m,o,d,e,f,C,b,f76]
noncomputable def FRN (out:List Rg->Int->O) (pre:List Rg->Int->Prop):zb->Option O:=qf (α:=List Rg×Int) (fun a=>[.sl 3 (a.1.map Vt),int a.2]) (fun a=>pre a.1 a.2) (fun a=>out a.1 a.2)
theorem uV(out:List Rg->Int->O)(pre:List Rg->Int->Prop)(l:List Rg)(n:Int)(Y:Hp)(Z:Nat)(h:pre l n):zg false [] (FRN out pre) [.sl 3 (l.map Vt),int n] Y Z=some (out l n,Y,Z):=
 XX (l,n) _ _ rfl (fun a b e=>by obtain⟨c,d⟩:=a;obtain⟨f,g⟩:=b;simp only[zh,zA]at e;rw[iT e.1,qI e.2]) h (.inr rfl)
theorem bG:zf prog 76 (zg false [] (FRN (fun l n=>int (Z7 l n)) fun _ n=>1<=n/\n<=20)):=
 vX (qq (q:=[43]) mixed ⟨xx,fun _=>zu _ _,trivial⟩:AM.Good Cwf _) func76 false [] fun⟨l,n⟩ a=>⟨zG (zk 2) (by decide),_,dt l n a,qc _⟩
inductive qW where
 |mk (kind:Int) (attr:List UInt8) (op:Int) (kP:List qu) (pat name:List UInt8) (args:List qW)
namespace qW
def kind:qW->Int|.mk k _ _ _ _ _ _=>k
def attr:qW->za|.mk _ a _ _ _ _ _=>a
def op:qW->Int|.mk _ _ o _ _ _ _=>o
def kP:qW->List qu|.mk _ _ _ v _ _ _=>v
def pat:qW->za|.mk _ _ _ _ p _ _=>p
def name:qW->za|.mk _ _ _ _ _ n _=>n
def args:qW->List qW|.mk _ _ _ _ _ _ l=>l
end qW
theorem qW.ind{P:qW->Prop}(h:∀k a o v p n l,(∀x∈l,P x)->P (.mk k a o v p n l))(c:qW):P c:=
 qW.rec (motive_1:=P) (motive_2:=fun l=>∀x∈l,P x) (fun k a o v p n l b=>h k a o v p n l b) (by simp)
  (fun x l e b y d=>by
   rcases zv.1 d with rfl|d
   ·exact e
   ·exact b y d) c
mutual
def qW.V:qW->zb
 | .mk k a o v p n l=>[int k,str a,int o,.sl 5 (v.map qu.V),str p,str n,.sl 7 (tT l)]
def tT:List qW->List zb
 |[]=>[]
 |c::l=>c.V::tT l
end
theorem iU:∀l:List qW,tT l=l.map qW.V
 |[]=>rfl
 |c::l=>by simp[tT,iU l]
theorem q6(c:qW):c.V=[int c.kind,str c.attr,int c.op,.sl 5 (c.kP.map qu.V),str c.pat,str c.name,.sl 7 (c.args.map qW.V)]:=by
 cases c with
 |mk k a o v p n l=>simp[qW.V,iU,qW.kind,qW.attr,qW.op,qW.kP,qW.pat,qW.name,qW.args]
@[simp]theorem TY(c:qW):c.V.length=7:=by rw[q6];rfl
@[simp]theorem Dp(c:qW):c.V.all O.wW=true:=by rw[q6];rfl
@[simp]theorem TZ(c:qW):(∀x,x∈c.V->O.wW x=true)=True:=by have:=Dp c;rw[zY]at this;exact eq_true this
@[simp]theorem Xc(c:qW):c.V.take 7=c.V:=qL (by simp)
@[simp]theorem zfB(c:qW)(h:0<c.V.length):c.V[0]=int c.kind:=by simp[q6 c]
@[simp]theorem zfC(c:qW)(h:1<c.V.length):c.V[1]=str c.attr:=by simp[q6 c]
@[simp]theorem zfD(c:qW)(h:2<c.V.length):c.V[2]=int c.op:=by simp[q6 c]
@[simp]theorem zfE(c:qW)(h:3<c.V.length):c.V[3]=.sl 5 (c.kP.map qu.V):=by simp[q6 c]
@[simp]theorem zfF(c:qW)(h:4<c.V.length):c.V[4]=str c.pat:=by simp[q6 c]
@[simp]theorem zfG(c:qW)(h:5<c.V.length):c.V[5]=str c.name:=by simp[q6 c]
@[simp]theorem zfH(c:qW)(h:6<c.V.length):c.V[6]=.sl 7 (c.args.map qW.V):=by simp[q6 c]
theorem iV{a b:List qu}(h:a.map qu.V=b.map qu.V):a=b:=yX (fun _ _=>J8) h
theorem Zk:∀{a b:qW},a.V=b.V->a=b:=by
 intro a
 induction a using qW.ind with
 |h k a o v p n l f=>
  intro b e;cases b with
  |mk s t o' u w z l'=>
   simp only[q6,qW.kind,qW.attr,qW.op,qW.kP,qW.pat,qW.name,qW.args,zh,zA]at e;obtain⟨g,i,j,c,m,q,d⟩:=e;obtain rfl:=qI g;obtain rfl:=wb i;obtain rfl:=qI j;injection c with _ c
   obtain rfl:=iV c;obtain rfl:=wb m;obtain rfl:=wb q;injection d with _ d;rw[J7 (fun x r y=>f x r) d]
mutual
def qW.cb:qW->Nat
 | .mk _ a _ v p n l=>1+a.length+Ys v+p.length+n.length+mM l
def mM:List qW->Nat
 |[]=>0
 |c::l=>c.cb+mM l
end
theorem Jm(c:qW):c.cb=1+c.attr.length+Ys c.kP+c.pat.length+c.name.length+mM c.args:=by cases c;rfl
theorem iW(c:qW):0<c.cb:=by rw[Jm];omega
theorem Z8:∀{l:List qW} {x:qW},x∈l->x.cb<=mM l
 |y::l,x,h=>by
  simp only[mM];rcases zv.1 h with rfl|h
  ·omega
  ·have:=Z8 h;omega
theorem xR:∀l:List qW,l.length<=mM l
 |[]=>by simp[mM]
 |c::l=>by have:=xR l;have:=iW c;simp only[mM,zP];omega
mutual
def qW.parts:qW->Nat
 | .mk _ _ _ _ _ _ l=>1+yy l
def yy:List qW->Nat
 |[]=>0
 |c::l=>c.parts+yy l
end
mutual
def qW.levels:qW->Nat
 | .mk _ _ _ _ _ _ l=>yL l+1
def yL:List qW->Nat
 |[]=>0
 |c::l=>max c.levels (yL l)
end
theorem WY(c:qW):c.parts=1+yy c.args:=by cases c;rfl
theorem ar(c:qW):c.levels=yL c.args+1:=by cases c;rfl
theorem Dq(l:List qW)(h:∀x∈l,x.parts<=x.cb):yy l<=mM l:=by
 induction l with
 |nil=>simp[yy]
 |cons v l a=>have:=h v (by simp);have:=a fun x b=>h x (by simp[b]);simp only[yy,mM];omega
theorem Hg(c:qW):c.parts<=c.cb:=by
 induction c using qW.ind with
 |h k a o v p n l b=>have:=Dq l b;rw[WY,Jm];simp only[qW.args];omega
theorem uW(l:List qW)(h:∀x∈l,x.levels<=x.parts):yL l<=yy l:=by
 induction l with
 |nil=>simp[yL]
 |cons v l a=>have:=h v (by simp);have:=a fun x b=>h x (by simp[b]);simp only[yy,yL];omega
theorem Dr(c:qW):c.levels<=c.parts:=by
 induction c using qW.ind with
 |h k a o v p n l b=>have:=uW l b;rw[WY,ar];simp only[qW.args];omega
theorem X6(a b:List qW):yy (a++b)=yy a+yy b:=by
 induction a with
 |nil=>simp[yy]
 |cons v a c=>simp only[q7,yy,c];omega
theorem iX(a b:List qW):yL (a++b)=max (yL a) (yL b):=by
 induction a with
 |nil=>simp[yL]
 |cons v a c=>simp only[q7,yL,c];omega
theorem zdp{l:List qW}{k:Nat}(h:k<l.length):yy (l.take (k+1))=yy (l.take k)+l[k].parts/\yL (l.take (k+1))=max (yL (l.take k)) l[k].levels:=by rw[zX h,X6,iX];simp[yy,yL]
theorem oB(l:List qW)(k:Nat):yy (l.take k)<=yy l:=by have:=X6 (l.take k) (l.drop k);rw[vU]at this;omega
noncomputable def FC (out:qW->O) (n:Nat):zb->Option O:=qf (α:=qW) (fun c=>[.agg c.V]) (fun c=>c.cb<=zw/\c.cb<=n) out
theorem zdq(out:qW->O)(n:Nat)(c:qW)(h:c.cb<=zw/\c.cb<=n):FC out n [.agg c.V]=some (out c):=
 qM (V:=fun c:qW=>[.agg c.V]) (a:=c) (fun a b e=>by simp only[zh,zA,O.agg.injEq]at e;exact Zk e) h
@[simp]theorem Hh(Y:Hp)(c:qW):wx Y c.V=some (c.V,Y):=by rw[q6];simp
theorem Vu(Y:Hp)(c:qW):qD Y (.agg c.V)=some (.agg c.V,Y):=by rw[q6];simp
theorem iY(c:qW):O.noOwn (.agg c.V)=true:=by rw[q6];simp
theorem QX(out:qW->O)(n:Nat)(c:qW)(Y:Hp)(Z:Nat)(h:c.cb<=zw/\c.cb<=n):zg false [] (FC out n) [.agg c.V] Y Z=some (out c,Y,Z):=
 yP (Y1:=Y) (show zD Y [.agg c.V]=some ([.agg c.V],Y) by simp only[zD,Vu]) (zdq out n c h) (.inr (by simp only[wO,iY,tP,Bool.and_self]))
theorem Y3{out:qW->O}{n:Nat}{args:zb}{r:O}(h:FC out n args=some r):∃c:qW,args=[.agg c.V]/\(c.cb<=zw/\c.cb<=n)/\r=out c:=zN h
theorem du(c:qW):0<c.parts:=by rw[WY];omega
theorem au:∀{l:List qW} {x:qW},x∈l->x.parts<=yy l
 |y::l,x,h=>by
  simp only[yy];rcases zv.1 h with rfl|h
  ·omega
  ·have:=au h;omega
theorem av:∀l:List qW,l.length<=yy l
 |[]=>by simp
 |c::l=>by have:=av l;have:=du c;simp only[yy,zP];omega
noncomputable def FCp (out:qW->O) (n:Nat):zb->Option O:=qf (α:=qW) (fun c=>[.agg c.V]) (fun c=>c.parts<=zw/\c.parts<=n) out
theorem Mj(out:qW->O)(n:Nat)(c:qW)(h:c.parts<=zw/\c.parts<=n):FCp out n [.agg c.V]=some (out c):=
 qM (V:=fun c:qW=>[.agg c.V]) (a:=c) (fun a b e=>by simp only[zh,zA,O.agg.injEq]at e;exact Zk e) h
theorem Mk(out:qW->O)(n:Nat)(c:qW)(Y:Hp)(Z:Nat)(h:c.parts<=zw/\c.parts<=n):zg false [] (FCp out n) [.agg c.V] Y Z=some (out c,Y,Z):=
 yP (Y1:=Y) (show zD Y [.agg c.V]=some ([.agg c.V],Y) by simp only[zD,Vu]) (Mj out n c h) (.inr (by simp only[wO,iY,tP,Bool.and_self]))
theorem oC{dr:Prop}{P:Program}{f:FuncId}{a:Bool}{b:List Nat}{F c:zb->Option O}(h:∀args r,F args=some r->c args=some r)(hs:kh dr P f (zg a b c)):kh dr P f (zg a b F):=
 ⟨hs.1,fun args Y Z r d g e=>hs.2 args Y Z r d g (by
  unfold zg at e⊢;split at e
  ·split at e
   ·rename_i hF;simp only[h _ _ hF];exact e
   ·cases e
  ·cases e)⟩
theorem Ml(out:qW->O)(n:Nat):∀args r,FC out n args=some r->FCp out zw args=some r:=fun args r h=>by obtain⟨c,rfl,⟨a,_⟩,rfl⟩:=zN h;have:=Hg c;exact Mj out zw c ⟨by omega,by omega⟩
theorem rQ{out:qW->O}{f:FuncId}(a:∃fn,prog.funcs[f]?=some fn/\(fn.name== "runtime.NumGoroutine")=false/\fn.body.isNone=false):zf prog f (zg false [] (FC out 0)):=by
 refine⟨a,fun args Y Z r b d h=>?_⟩;unfold zg at h;split at h
 ·split at h
  ·rename_i e hF;obtain⟨c,_,g,_⟩:=Y3 hF;have:=iW c;omega
  ·cases h
 ·cases h
noncomputable abbrev GC (out:qW->O):AM.Spec:=zg false [] (FC out zw)
theorem Zv(out:qW->O)(c:qW)(Y:Hp)(Z:Nat)(h:c.cb<=zw):GC out [.agg c.V] Y Z=some (out c,Y,Z):=QX out zw c Y Z ⟨h,h⟩
end Go.Q
namespace Go.AM
variable{dr:Prop}
def n1(s:Nat):O->O
 | .nil=>.sl s []
 | .em=>.sl s []
 |x=>x
@[simp]theorem zfI(s:Nat):n1 s .nil=.sl s []:=rfl
@[simp]theorem zf5(s:Nat):n1 s .em=.sl s []:=rfl
@[simp]theorem zf6(s t:Nat)(es:List zb):n1 s (.sl t es)=.sl t es:=rfl
@[simp]theorem n1_v(s:Nat)(x:Value):n1 s (.v x)=.v x:=rfl
def Qq:List (Option Nat)->zb->zb
 |some s::l,x::xs=>n1 s x::Qq l xs
 |none::l,x::xs=>x::Qq l xs
 |_,xs=>xs
inductive Sh where
 |a
 |g (p:List (Option Nat))
 |s (n:Nat) (p:List (Option Nat))
def Sh.fix:Sh->O->O
 | .g p,.agg cs=>.agg (Qq p cs)
 | .s _ p,.sl m es=>.sl m (es.map (Qq p))
 | .s n _,x=>n1 n x
 |_,x=>x
@[simp]theorem Sh.zgb(x:O):Sh.fix .a x=x:=by cases x<;>rfl
@[simp]theorem Sh.zgc(p:List (Option Nat))(cs:zb):Sh.fix (.g p) (.agg cs)=.agg (Qq p cs):=rfl
@[simp]theorem Sh.mN(n m:Nat)(p:List (Option Nat))(es:List zb):Sh.fix (.s n p) (.sl m es)=.sl m (es.map (Qq p)):=rfl
@[simp]theorem Sh.zfl(n:Nat)(p:List (Option Nat)):Sh.fix (.s n p) .nil=.sl n []:=rfl
@[simp]theorem Sh.zfQ(n:Nat)(p:List (Option Nat)):Sh.fix (.s n p) .em=.sl n []:=rfl
attribute [simp] Qq
def bH:List Sh->zb->zb
 |h::l,x::xs=>h.fix x::bH l xs
 |_,xs=>xs
attribute [simp] bH
theorem Hi(s:Nat)(x:O):qX x (n1 s x):=by
 intro w S u h;cases x with
 |nil=>exact Vo .nil h
 |em=>exact Vo .em h
 |_=>exact h
theorem vZ:∀(p:List (Option Nat)) (cs:zb),(Qq p cs).length=cs.length
 |[],cs=>by cases cs<;>rfl
 |none::p,[]=>rfl
 |some s::p,[]=>rfl
 |none::p,x::cs=>by simp[vZ p cs]
 |some s::p,x::cs=>by simp[vZ p cs]
theorem x4:∀(p:List (Option Nat)) (cs:zb),ka cs (Qq p cs)
 |[],[]=>.nil
 |[],x::cs=>by have:=x4 [] cs;rw[show Qq [] cs=cs by cases cs<;>rfl]at this;exact .cons (qX.refl x) this
 |none::p,[]=>.nil
 |some s::p,[]=>.nil
 |none::p,x::cs=>.cons (qX.refl x) (x4 p cs)
 |some s::p,x::cs=>.cons (Hi s x) (x4 p cs)
theorem Kb(h:Sh)(x:O):qX x (h.fix x):=by
 intro w S u f;cases h with
 |a=>simpa using f
 |g p=>
  cases x with
  |agg cs=>exact(x4 p cs).agg w S u f
  |_=>exact f
 |s n p=>
  cases x with
  |sl m es=>
   cases f with
   |sl us o q r t v y=>
    rename_i A cap;have:=wH.sl (w:=w) (S:=S) (es:=es.map (Qq p)) (A:=A) (cap:=cap) (s:=m) us o (by simpa using q) r (fun c z=>by
     obtain⟨b,d,rfl⟩:=qw.1 z;rw[vZ];exact t b d) (fun i j c B hi l=>by
     rw[qo]at hi;obtain⟨b,d,rfl⟩:∃b,es[i]?=some b/\Qq p b=c:=by
      cases k:es[i]? with
      |none=>rw[k]at hi;cases hi
      |some b=>rw[k]at hi;injection hi with hi;exact⟨b,rfl,hi⟩
     have e:j<b.length:=by have:=(zi.1 l).1;rwa [vZ]at this
     exact v i j b _ d (zl e)) (fun i j c B hi l=>by
     rw[qo]at hi;obtain⟨b,d,rfl⟩:∃b,es[i]?=some b/\Qq p b=c:=by
      cases k:es[i]? with
      |none=>rw[k]at hi;cases hi
      |some b=>rw[k]at hi;injection hi with hi;exact⟨b,rfl,hi⟩
     have e:j<b.length:=by have:=(zi.1 l).1;rwa [vZ]at this
     exact(x4 p b).get (zl e) l _ _ _ (y i j b _ d (zl e)))
    rw[w9]at this;exact this
  |nil=>exact Vo .nil f
  |em=>exact Vo .em f
  |_=>exact f
theorem Jn{w:World}{S:Nat->Prop}:∀{hs:List Sh} {xs:zb} {us:List Value},Zip (wH w S) xs us->Zip (wH w S) (bH hs xs) us
 |[],xs,us,h=>by cases xs<;>exact h
 |s::hs,[],us,h=>h
 |s::hs,x::xs,us,h=>by obtain⟨u,a,rfl,b,c⟩:=h.jG;exact .cons (Kb s x w S u b) (Jn c)
def qy(a:List Sh)(F:zb->Option O):AM.Spec:=zg false [] fun args=>F (bH a args)
theorem yY(a:List Sh)(F:zb->Option O):Q9 (qy a F):=zu _ _
theorem wM{C:Ctx}{pf:FuncId->Bool}{f:FuncId}{fn:Func}(c:xJ dr C pf)(d:J6 C pf f fn)(a:List Sh)(F:zb->Option O)
  (hF:∀args r,F args=some r->args.length<=fn.ntmps/\∃b,zo C fn args=some b/\qX b r):kh dr C.P f (qy a F):=
 Qu c d false [] _ fun args r h w S vs e=>by obtain⟨g,b,i,j⟩:=hF _ _ h;exact⟨bH a args,b,Jn e,g,i,j⟩
theorem vK{a:List Sh}{F:zb->Option O}{args:zb}{Y:Hp}{Z:Nat}{b:zb}{r:O}(c:zD Y args=some (b,Y))(d:F (bH a b)=some r)(e:r.flat=true\/args.all O.noOwn=true) :
  qy a F args Y Z=some (r,Y,Z):=by
 have f:yj [] b=b:=by cases b<;>rfl
 exact yP c (by rw[f];exact d) e
def bI(sh:Sh)(r:O)(x:O)(Y:Hp)(_:Nat):Prop:=∃a,(AM.freeze Y x).map (·.1)=some a/\sh.fix a=r
theorem WQ{C:Ctx}{fn:Func}{code:Code}{args:zb}{sh:Sh}{r:O}(b:fn.body=some code)
  (h:Zy C code ⟨kE args,fun _=>none,0⟩ (J2 C.P fn (bI sh r))):∃a,zo C fn args=some a/\qX a r:=by
 obtain⟨x,f,g,c,a,d,e⟩:=qF b h;exact⟨a,by unfold zo;simp only[c];exact d,e ▸ Kb sh a⟩
def qi(sh:Sh)(r:O)(x:O)(Y:Hp)(_:Nat):Prop:=∃a y,(AM.freeze Y x).map (·.1)=some (.wP [a,y])/\.wP [sh.fix a,y]=r
theorem yB{C:Ctx}{fn:Func}{code:Code}{args:zb}{sh:Sh}{r:O}(b:fn.body=some code)
  (h:Zy C code ⟨kE args,fun _=>none,0⟩ (J2 C.P fn (qi sh r))):∃a,zo C fn args=some a/\qX a r:=by
 obtain⟨x,f,g,c,a,y,d,e⟩:=qF b h;exact⟨.wP [a,y],by unfold zo;simp only[c];exact d,e ▸ (ka.cons (Kb sh a) (.cons (qX.refl y) .nil)).wP⟩
theorem xy{P:Program}{g:FuncId}{F:zb->Option O}(j:∃fn,P.funcs[g]?=some fn/\(fn.name== "runtime.NumGoroutine")=false/\fn.body.isNone=false)
  (h:∀args r,F args=some r->∃us:List Value,args=us.map O.v/\(∀u∈us,lit u=true)/\r.flat=true/\∃v,(∀w S,wH w S r v)/\∀w S,Gl P w S->Calls P g us.toArray w fun e w'=>e=.returned v/\Fr dr w (fun _=>False) w'):kh dr P g (zg false [] F):=by
 refine⟨j,?_⟩;intro args Y Z r I J hs w S G vs hi s;unfold zg at hs;split at hs
 ·rename_i k Y1 m;split at hs
  ·rename_i K hF;obtain⟨us,e,t,n,v,z,A⟩:=h _ _ hF;have B:yj [] k=k:=by cases k<;>rfl
   rw[B]at e;subst e;have d:args=us.map O.v:=by
    have o:∀(args:zb) (us:List Value) (Y1:Hp),zD Y args=some (us.map O.v,Y1)->args=us.map O.v:=by
     intro args
     induction args with
     |nil=>intro us Y1 b;simp only[zD]at b;injection b with b;injection b with b _
     |cons x l C=>
      intro us Y1 b;simp only[zD]at b;split at b
      ·rename_i y Y2 a;split at b
       ·rename_i L p q;injection b with b
        injection b with b _;cases us with
        |nil=>simp at b
        |cons u us=>
         simp only[wc,zh]at b;obtain⟨rfl,rfl⟩:=b;have D:x=.v u/\Y2=Y:=by
          unfold qD at a;split at a
          ·split at a
           ·injection a with a;injection a with a _;cases a
           ·cases a
          ·unfold wV at a;split at a<;>first
            |(split at a<;>first|(split at a<;>first|(injection a with a;injection a with a _;cases a;done)|cases a)|cases a)
            |(injection a with a;injection a with i f;first|(exact⟨by rw[<-i],f.symm⟩)|cases i)
            |cases a
         obtain⟨rfl,rfl⟩:=D;rw[C us p q];rfl
       ·cases b
      ·cases b
    exact o args us Y1 m
   subst d;simp only[n,true_or,qB]at hs;injection hs with hs
   injection hs with i f;injection f with f E;subst i;subst f;subst E;rw[iH t s];refine(A w S hi.gT).mono fun e w' b=>?_
   obtain⟨rfl,H⟩:=b;exact⟨v,_,G,rfl,kO.outer hi H,.c (z _ _)⟩
  ·cases hs
 ·cases hs
end Go.AM
namespace Go.Proofs
open Go.Shelf
def Tryz.Cr:Go.Shelf.Ren:=⟨fun|161=>213|231=>245|227=>247|233=>248|235=>250|228=>272|197=>199|151=>273|260=>226|152=>285|137=>215|119=>293|224=>261|225=>260|217=>253|266=>275|n=>n,fun|9=>9|4=>4|3=>3|5=>5|117=>268|116=>267|0=>0|124=>271|105=>229|21=>21|119=>274|46=>85|139=>277|138=>276|n=>n,fun|3=>1|4=>2|n=>n⟩
theorem Tryz.Tm:Go.Proofs.Lays.n161 prog Tryz.Cr:={
 mixed:=by kernel_rfl
 f119:=func293.trans (zt some (by kernel_rfl))
 f137:=func215.trans (zt some (by kernel_rfl))
 f151:=func273.trans (zt some (by kernel_rfl))
 f152:=func285.trans (zt some (by kernel_rfl))
 f161:=func213.trans (zt some (by kernel_rfl))
 f197:=func199.trans (zt some (by kernel_rfl))
 f217:=func253.trans (zt some (by kernel_rfl))
 f224:=func261.trans (zt some (by kernel_rfl))
 f225:=func260.trans (zt some (by kernel_rfl))
 f227:=func247.trans (zt some (by kernel_rfl))
 f228:=func272.trans (zt some (by kernel_rfl))
 f231:=func245.trans (zt some (by kernel_rfl))
 f233:=func248.trans (zt some (by kernel_rfl))
 f235:=func250.trans (zt some (by kernel_rfl))
 f260:=func226.trans (zt some (by kernel_rfl))
 f266:=func275.trans (zt some (by kernel_rfl))
 t0:=underlying0
 a0:=isAgg0
 z0:=sizeOf0
 v0:=zeroValue0
 t3:=underlying3
 a3:=isAgg3
 z3:=sizeOf3
 v3:=zeroValue3
 t4:=underlying4
 a4:=isAgg4
 z4:=sizeOf4
 v4:=zeroValue4
 t5:=underlying5
 a5:=isAgg5
 z5:=sizeOf5
 v5:=zeroValue5
 t9:=underlying9
 a9:=isAgg9
 z9:=sizeOf9
 v9:=zeroValue9
 t21:=underlying21
 a21:=isAgg21
 z21:=sizeOf21
 v21:=zeroValue21
 t46:=underlying85
 a46:=isAgg85
 z46:=sizeOf85
 v46:=zeroValue85
 t105:=underlying229
 a105:=isAgg229
 z105:=sizeOf229
 v105:=zeroValue229
 t116:=underlying267
 a116:=isAgg267
 z116:=sizeOf267
 t117:=underlying268
 a117:=isAgg268
 z117:=sizeOf268
 v117:=zeroValue268
 t119:=underlying274
 a119:=isAgg274
 z119:=sizeOf274
 t124:=underlying271
 a124:=isAgg271
 z124:=sizeOf271
 v124:=zeroValue271
 t138:=underlying276
 a138:=isAgg276
 z138:=sizeOf276
 v138:=zeroValue276
 t139:=underlying277
 a139:=isAgg277
 z139:=sizeOf277
 v139:=zeroValue277
 g3:=by kernel_rfl
 g4:=by kernel_rfl}
def Tryz.Cs:Go.Shelf.Ren:=⟨fun|160=>212|232=>246|231=>245|227=>247|234=>249|233=>248|236=>251|235=>250|228=>272|271=>274|151=>273|197=>199|120=>286|152=>285|260=>226|137=>215|119=>293|224=>261|225=>260|217=>253|266=>275|n=>n,fun|9=>9|4=>4|3=>3|5=>5|117=>268|116=>267|0=>0|124=>271|21=>21|105=>229|46=>85|119=>274|139=>277|138=>276|n=>n,fun|3=>1|4=>2|n=>n⟩
theorem Tryz.Tn:Go.Proofs.Lays.n160 prog Tryz.Cs:={
 mixed:=by kernel_rfl
 f119:=func293.trans (zt some (by kernel_rfl))
 f120:=func286.trans (zt some (by kernel_rfl))
 f137:=func215.trans (zt some (by kernel_rfl))
 f151:=func273.trans (zt some (by kernel_rfl))
 f152:=func285.trans (zt some (by kernel_rfl))
 f160:=func212.trans (zt some (by kernel_rfl))
 f197:=func199.trans (zt some (by kernel_rfl))
 f217:=func253.trans (zt some (by kernel_rfl))
 f224:=func261.trans (zt some (by kernel_rfl))
 f225:=func260.trans (zt some (by kernel_rfl))
 f227:=func247.trans (zt some (by kernel_rfl))
 f228:=func272.trans (zt some (by kernel_rfl))
 f231:=func245.trans (zt some (by kernel_rfl))
 f232:=func246.trans (zt some (by kernel_rfl))
 f233:=func248.trans (zt some (by kernel_rfl))
 f234:=func249.trans (zt some (by kernel_rfl))
 f235:=func250.trans (zt some (by kernel_rfl))
 f236:=func251.trans (zt some (by kernel_rfl))
 f260:=func226.trans (zt some (by kernel_rfl))
 f266:=func275.trans (zt some (by kernel_rfl))
 f271:=func274.trans (zt some (by kernel_rfl))
 t0:=underlying0
 a0:=isAgg0
 z0:=sizeOf0
 v0:=zeroValue0
 t3:=underlying3
 a3:=isAgg3
 z3:=sizeOf3
 v3:=zeroValue3
 t4:=underlying4
 a4:=isAgg4
 z4:=sizeOf4
 v4:=zeroValue4
 t5:=underlying5
 a5:=isAgg5
 z5:=sizeOf5
 v5:=zeroValue5
 t9:=underlying9
 a9:=isAgg9
 z9:=sizeOf9
 v9:=zeroValue9
 t21:=underlying21
 a21:=isAgg21
 z21:=sizeOf21
 v21:=zeroValue21
 t46:=underlying85
 a46:=isAgg85
 z46:=sizeOf85
 v46:=zeroValue85
 t105:=underlying229
 a105:=isAgg229
 z105:=sizeOf229
 v105:=zeroValue229
 t116:=underlying267
 a116:=isAgg267
 z116:=sizeOf267
 t117:=underlying268
 a117:=isAgg268
 z117:=sizeOf268
 v117:=zeroValue268
 t119:=underlying274
 a119:=isAgg274
 z119:=sizeOf274
 t124:=underlying271
 a124:=isAgg271
 z124:=sizeOf271
 v124:=zeroValue271
 t138:=underlying276
 a138:=isAgg276
 z138:=sizeOf276
 v138:=zeroValue276
 t139:=underlying277
 a139:=isAgg277
 z139:=sizeOf277
 v139:=zeroValue277
 g3:=by kernel_rfl
 g4:=by kernel_rfl}
def Tryz.Ct:Go.Shelf.Ren:=⟨fun|137=>215|217=>253|266=>275|n=>n,fun|9=>9|5=>5|3=>3|n=>n,fun|n=>n⟩
theorem Tryz.To:Go.Proofs.Lays.n137 prog Tryz.Ct:={
 mixed:=by kernel_rfl
 f137:=func215.trans (zt some (by kernel_rfl))
 f217:=func253.trans (zt some (by kernel_rfl))
 f266:=func275.trans (zt some (by kernel_rfl))
 t3:=underlying3
 a3:=isAgg3
 z3:=sizeOf3
 v3:=zeroValue3
 t5:=underlying5
 a5:=isAgg5
 z5:=sizeOf5
 v5:=zeroValue5
 t9:=underlying9
 a9:=isAgg9
 z9:=sizeOf9
 v9:=zeroValue9}
def Tryz.Cu:Go.Shelf.Ren:=⟨fun|172=>230|244=>266|245=>267|247=>279|279=>280|280=>281|281=>282|282=>283|287=>289|316=>290|171=>292|205=>291|321=>294|322=>295|243=>296|246=>297|283=>298|284=>299|285=>300|286=>301|129=>98|317=>302|318=>303|319=>304|320=>305|337=>306|338=>307|n=>n,fun|9=>9|3=>3|75=>254|76=>255|4=>4|5=>5|167=>285|37=>286|0=>0|85=>287|2=>2|168=>289|53=>130|175=>295|46=>85|210=>298|127=>303|145=>306|143=>304|21=>21|171=>308|173=>310|212=>313|51=>128|20=>20|213=>314|232=>315|233=>316|80=>317|n=>n,fun|15=>3|16=>4|17=>5|18=>6|19=>7|n=>n⟩
theorem Tryz.Tp:Go.Proofs.Lays.n172 prog Tryz.Cu:={
 mixed:=by kernel_rfl
 f129:=func98.trans (zt some (by kernel_rfl))
 f171:=func292.trans (zt some (by kernel_rfl))
 f172:=func230.trans (zt some (by kernel_rfl))
 f205:=func291.trans (zt some (by kernel_rfl))
 f243:=func296.trans (zt some (by kernel_rfl))
 f244:=func266.trans (zt some (by kernel_rfl))
 f245:=func267.trans (zt some (by kernel_rfl))
 f246:=func297.trans (zt some (by kernel_rfl))
 f247:=func279.trans (zt some (by kernel_rfl))
 f279:=func280.trans (zt some (by kernel_rfl))
 f280:=func281.trans (zt some (by kernel_rfl))
 f281:=func282.trans (zt some (by kernel_rfl))
 f282:=func283.trans (zt some (by kernel_rfl))
 f283:=func298.trans (zt some (by kernel_rfl))
 f284:=func299.trans (zt some (by kernel_rfl))
 f285:=func300.trans (zt some (by kernel_rfl))
 f286:=func301.trans (zt some (by kernel_rfl))
 f287:=func289.trans (zt some (by kernel_rfl))
 f316:=func290.trans (zt some (by kernel_rfl))
 f317:=func302.trans (zt some (by kernel_rfl))
 f318:=func303.trans (zt some (by kernel_rfl))
 f319:=func304.trans (zt some (by kernel_rfl))
 f320:=func305.trans (zt some (by kernel_rfl))
 f321:=func294.trans (zt some (by kernel_rfl))
 f322:=func295.trans (zt some (by kernel_rfl))
 f337:=func306.trans (zt some (by kernel_rfl))
 f338:=func307.trans (zt some (by kernel_rfl))
 t0:=underlying0
 a0:=isAgg0
 z0:=sizeOf0
 v0:=zeroValue0
 t2:=underlying2
 a2:=isAgg2
 z2:=sizeOf2
 v2:=zeroValue2
 t3:=underlying3
 a3:=isAgg3
 z3:=sizeOf3
 v3:=zeroValue3
 t4:=underlying4
 a4:=isAgg4
 z4:=sizeOf4
 v4:=zeroValue4
 t5:=underlying5
 a5:=isAgg5
 z5:=sizeOf5
 v5:=zeroValue5
 t9:=underlying9
 a9:=isAgg9
 z9:=sizeOf9
 v9:=zeroValue9
 t20:=underlying20
 a20:=isAgg20
 z20:=sizeOf20
 v20:=zeroValue20
 t21:=underlying21
 a21:=isAgg21
 z21:=sizeOf21
 v21:=zeroValue21
 t37:=underlying286
 a37:=isAgg286
 z37:=sizeOf286
 v37:=zeroValue286
 t46:=underlying85
 a46:=isAgg85
 z46:=sizeOf85
 v46:=zeroValue85
 t51:=underlying128
 a51:=isAgg128
 z51:=sizeOf128
 v51:=zeroValue128
 t53:=underlying130
 a53:=isAgg130
 z53:=sizeOf130
 v53:=zeroValue130
 t75:=underlying254
 a75:=isAgg254
 z75:=sizeOf254
 v75:=zeroValue254
 t76:=underlying255
 a76:=isAgg255
 z76:=sizeOf255
 v76:=zeroValue255
 t85:=underlying287
 a85:=isAgg287
 z85:=sizeOf287
 v85:=zeroValue287
 t127:=underlying303
 a127:=isAgg303
 z127:=sizeOf303
 v127:=zeroValue303
 t143:=underlying304
 a143:=isAgg304
 z143:=sizeOf304
 v143:=zeroValue304
 t145:=underlying306
 a145:=isAgg306
 z145:=sizeOf306
 v145:=zeroValue306
 t167:=underlying285
 a167:=isAgg285
 z167:=sizeOf285
 v167:=zeroValue285
 t168:=underlying289
 a168:=isAgg289
 z168:=sizeOf289
 v168:=zeroValue289
 t171:=underlying308
 a171:=isAgg308
 z171:=sizeOf308
 v171:=zeroValue308
 t173:=underlying310
 a173:=isAgg310
 z173:=sizeOf310
 v173:=zeroValue310
 t175:=underlying295
 a175:=isAgg295
 z175:=sizeOf295
 v175:=zeroValue295
 t210:=underlying298
 a210:=isAgg298
 z210:=sizeOf298
 v210:=zeroValue298
 t212:=underlying313
 a212:=isAgg313
 z212:=sizeOf313
 v212:=zeroValue313
 t213:=underlying314
 a213:=isAgg314
 z213:=sizeOf314
 t232:=underlying315
 a232:=isAgg315
 z232:=sizeOf315
 v232:=zeroValue315
 t233:=underlying316
 a233:=isAgg316
 z233:=sizeOf316
 v233:=zeroValue316
 g15:=by kernel_rfl
 g16:=by kernel_rfl
 g17:=by kernel_rfl
 g18:=by kernel_rfl
 g19:=by kernel_rfl}
def Tryz.Cv:Go.Shelf.Ren:=⟨fun|219=>227|217=>253|225=>260|224=>261|267=>262|266=>275|314=>278|n=>n,fun|9=>9|3=>3|4=>4|5=>5|46=>85|146=>283|51=>128|n=>n,fun|1=>0|n=>n⟩
theorem Tryz.Tq:Go.Proofs.Lays.n219 prog Tryz.Cv:={
 mixed:=by kernel_rfl
 f217:=func253.trans (zt some (by kernel_rfl))
 f219:=func227.trans (zt some (by kernel_rfl))
 f224:=func261.trans (zt some (by kernel_rfl))
 f225:=func260.trans (zt some (by kernel_rfl))
 f266:=func275.trans (zt some (by kernel_rfl))
 f267:=func262.trans (zt some (by kernel_rfl))
 f314:=func278.trans (zt some (by kernel_rfl))
 t3:=underlying3
 a3:=isAgg3
 z3:=sizeOf3
 v3:=zeroValue3
 t4:=underlying4
 a4:=isAgg4
 z4:=sizeOf4
 v4:=zeroValue4
 t5:=underlying5
 a5:=isAgg5
 z5:=sizeOf5
 v5:=zeroValue5
 t9:=underlying9
 a9:=isAgg9
 z9:=sizeOf9
 v9:=zeroValue9
 t46:=underlying85
 a46:=isAgg85
 z46:=sizeOf85
 v46:=zeroValue85
 t51:=underlying128
 a51:=isAgg128
 z51:=sizeOf128
 v51:=zeroValue128
 t146:=underlying283
 a146:=isAgg283
 z146:=sizeOf283
 v146:=zeroValue283
 g1:=by kernel_rfl}
def Tryz.Cw:Go.Shelf.Ren:=⟨fun|138=>211|195=>243|218=>244|143=>200|219=>227|217=>253|225=>260|224=>261|267=>262|266=>275|314=>278|n=>n,fun|9=>9|3=>3|4=>4|5=>5|0=>0|46=>85|146=>283|51=>128|n=>n,fun|1=>0|n=>n⟩
theorem Tryz.Tr:Go.Proofs.Lays.n138 prog Tryz.Cw:={
 mixed:=by kernel_rfl
 f138:=func211.trans (zt some (by kernel_rfl))
 f143:=func200.trans (zt some (by kernel_rfl))
 f195:=func243.trans (zt some (by kernel_rfl))
 f217:=func253.trans (zt some (by kernel_rfl))
 f218:=func244.trans (zt some (by kernel_rfl))
 f219:=func227.trans (zt some (by kernel_rfl))
 f224:=func261.trans (zt some (by kernel_rfl))
 f225:=func260.trans (zt some (by kernel_rfl))
 f266:=func275.trans (zt some (by kernel_rfl))
 f267:=func262.trans (zt some (by kernel_rfl))
 f314:=func278.trans (zt some (by kernel_rfl))
 t0:=underlying0
 a0:=isAgg0
 z0:=sizeOf0
 v0:=zeroValue0
 t3:=underlying3
 a3:=isAgg3
 z3:=sizeOf3
 v3:=zeroValue3
 t4:=underlying4
 a4:=isAgg4
 z4:=sizeOf4
 v4:=zeroValue4
 t5:=underlying5
 a5:=isAgg5
 z5:=sizeOf5
 v5:=zeroValue5
 t9:=underlying9
 a9:=isAgg9
 z9:=sizeOf9
 v9:=zeroValue9
 t46:=underlying85
 a46:=isAgg85
 z46:=sizeOf85
 v46:=zeroValue85
 t51:=underlying128
 a51:=isAgg128
 z51:=sizeOf128
 v51:=zeroValue128
 t146:=underlying283
 a146:=isAgg283
 z146:=sizeOf283
 v146:=zeroValue283
 g1:=by kernel_rfl}
end Go.Proofs
namespace Go.Q
noncomputable def Yc (f:za->za->O) (pre:za->za->Prop):zb->Option O:=qf (α:=za×za) (fun a=>[str a.1,str a.2]) (fun a=>a.1.length<=zw/\a.2.length<=zw/\pre a.1 a.2) (fun a=>f a.1 a.2)
theorem Dt:∀a b:za×za,[str a.1,str a.2]=[str b.1,str b.2]->a=b:=by rintro⟨c,d⟩ ⟨f,g⟩ e;simp only[zh,zA]at e;rw[wb e.1,wb e.2]
theorem xS(f:za->za->O)(pre:za->za->Prop)(a b:za)(Y:Hp)(Z:Nat)(h:a.length<=zw)(c:b.length<=zw)(d:pre a b)(e:(f a b).flat=true):zg false [] (Yc f pre) [str a,str b] Y Z=some (f a b,Y,Z):=
 XX (a,b) _ _ rfl Dt ⟨h,c,d⟩ (.inl e)
theorem xg{f:za->za->O}{pre:za->za->Prop}{args:zb}{r:O}(h:Yc f pre args=some r):∃a b,args=[str a,str b]/\a.length<=zw/\b.length<=zw/\pre a b/\r=f a b:=by obtain⟨⟨a,b⟩,rfl,⟨c,d,e⟩,rfl⟩:=zN h;exact⟨a,b,rfl,c,d,e,rfl⟩
theorem Fp:Lu prog 0:=by refine⟨cY (by kernel_rfl),#[.int .i64 0],3,by kernel_rfl,rfl,by kernel_rfl,by kernel_rfl,by kernel_rfl⟩
def Du(a b:za):O:=int (Lib.index a b)
def cntP(a b:za):O:=int (Lib.count a b)
theorem uX:zf prog 227 (zg false [] (Yc Du fun _ _=>True)):=
 xy ⟨_,func227,by kernel_rfl,by kernel_rfl⟩ fun args r h=>by
  obtain⟨a,b,rfl,c,d,_,rfl⟩:=xg h;unfold zw at c d;refine⟨[.string ⟨a.toArray⟩,.string ⟨b.toArray⟩],rfl,by simp[lit],rfl,.int .i64 (Lib.index a b),fun w S=>.v rfl,fun w S f=>?_⟩;obtain⟨_,m,g⟩:=f.1 0 Fp;refine(Any.stringslite_Index Tryz.Tq ⟨a.toArray⟩ ⟨b.toArray⟩ m w (by simp;omega) g).mono fun e w' i=>?_
  obtain⟨rfl,rfl⟩:=i;exact⟨by simp,Fr.refl _ _⟩
theorem rR:zf prog 211 (zg false [] (Yc cntP fun _ b=>1<=b.length)):=
 xy ⟨_,func211,by kernel_rfl,by kernel_rfl⟩ fun args r h=>by
  obtain⟨a,b,rfl,c,d,f,rfl⟩:=xg h;unfold zw at c d;refine⟨[.string ⟨a.toArray⟩,.string ⟨b.toArray⟩],rfl,by simp[lit],rfl,.int .i64 (Lib.count a b),fun w S=>.v rfl,fun w S g=>?_⟩;obtain⟨_,m,i⟩:=g.1 0 Fp;refine(Any.strings_Count_any Tryz.Tr ⟨a.toArray⟩ ⟨b.toArray⟩ m w (by simp;omega) i (by simpa using f)).mono fun e w' j=>?_
  obtain⟨rfl,rfl⟩:=j;exact⟨by simp[Lib.countB],Fr.refl _ _⟩
noncomputable abbrev Ci:Ctx:=zR prog [(227,zg false [] (Yc Du fun _ _=>True))]
theorem T0:AM.Good Ci (fun g=>[227].contains g):=qq mixed ⟨uX,fun _=>zu _ _,trivial⟩
theorem Jo(a b:za)(Y:Hp)(Z:Nat)(h:a.length<=zw)(c:b.length<=zw):zg false [] (Yc Du fun _ _=>True) [str a,str b] Y Z=some (int (Lib.index a b),Y,Z):=xS _ _ a b Y Z h c trivial rfl
theorem bJ:zf prog 200 (zg false [] (Yc Du fun _ _=>True)):=
 yt (fn:=f200) T0 (qN func200) false [] _ fun args r h=>by obtain⟨a,b,rfl,c,d,_,rfl⟩:=xg h;exact⟨by simp[f200],_,zm rfl (by simp[Jo,c,d,Du,f200]),qc _⟩
noncomputable abbrev Ci2:Ctx:=zR prog [(200,zg false [] (Yc Du fun _ _=>True)),(211,zg false [] (Yc cntP fun _ b=>1<=b.length))]
theorem Mm:AM.Good Ci2 (fun g=>[200].contains g):=qq mixed ⟨bJ,fun _=>zu _ _,rR,fun _=>zu _ _,trivial⟩
def Rl(a b:za):O:=wo (Lib.contains a b)
theorem iZ:zf prog 201 (zg false [] (Yc Rl fun _ _=>True)):=
 yt (fn:=f201) Mm (qN func201) false [] _ fun args r h=>by obtain⟨a,b,rfl,c,d,_,rfl⟩:=xg h;exact⟨by simp[f201],_,zm rfl (by simp[Jo,c,d,Rl,Lib.contains,f201]),qc _⟩
def na(a b:za):O:=.wP [str (Lib.cut a b).1,str (Lib.cut a b).2.1,wo (Lib.cut a b).2.2]
theorem Mn(a b:za)(c:a.length<=zw)(d:b.length<=zw):zo Ci f254 [str a,str b]=some (na a b):=by
 refine zm rfl ?_;unfold zw at c d;by_cases h:0<=Lib.index a b
 ·have l:=Lib.index_room a b h;have e:Lib.cut a b=(a.take (Lib.index a b).toNat,a.drop ((Lib.index a b).toNat+b.length),true):=by unfold Lib.cut;rw[ze h]
  have f:=wu (Lib.index a b+b.length);have g:(Lib.index a b+b.length).toNat=(Lib.index a b).toNat+b.length:=by omega
  have i:0<=Lib.index a b+b.length:=by omega
  have j:(Lib.index a b).toNat<=a.length:=by omega
  have k:(Lib.index a b).toNat+b.length<=a.length:=by omega
  simp[Jo,zw,c,d,h,f,g,i,j,k,na,e,zI,f254];rw[qL (by simp)]
 ·have e:Lib.cut a b=(a,[],false):=by unfold Lib.cut;rw[zd h]
  simp[Jo,zw,c,d,h,na,e,zI,f254]
theorem Hj:zf prog 254 (zg false [] (Yc na fun _ _=>True)):=
 yt (fn:=f254) T0 (qN func254) false [] _ fun args r h=>by obtain⟨a,b,rfl,c,d,_,rfl⟩:=xg h;exact⟨by simp[f254],_,Mn a b c d,qc _⟩
def Rm(a b:za):O:=wo (b.isPrefixOf a)
theorem uY(a b:za):(decide (b.length<=a.length)&&(a.take b.length==b))=b.isPrefixOf a:=by
 rw[qx];simp only[zC,qz,jq,Cl];constructor
 ·rintro⟨_,h⟩;exact List.prefix_iff_eq_take.2 h.symm
 ·intro h;exact⟨h.length_le,(List.prefix_iff_eq_take.1 h).symm⟩
noncomputable abbrev Cw0:Ctx:=zR prog []
theorem zaj:Gd Cw0:=qq mixed trivial
theorem fQ(a b:za):zo Cw0 f268 [str a,str b]=some (Rm a b):=by
 refine zm rfl ?_;have Y:=uY a b;by_cases h:b.length<=a.length
 ·rw[decide_eq_true h,kX]at Y;simp[h,Rm,<-Y,f268]
 ·rw[decide_eq_false h,JP]at Y;have c:¬((b.length:Int)<=a.length):=by omega
  simp[h,c,Rm,<-Y,f268]
theorem dv:zf prog 268 (zg false [] (Yc Rm fun _ _=>True)):=
 yt (fn:=f268) zaj (qN func268) false [] _ fun args r h=>by obtain⟨a,b,rfl,c,d,_,rfl⟩:=xg h;exact⟨by simp[f268],_,fQ a b,qc _⟩
noncomputable abbrev Cw1:Ctx:=zR prog [(268,zg false [] (Yc Rm fun _ _=>True)),(254,zg false [] (Yc na fun _ _=>True))]
theorem Dv:AM.Good Cw1 (fun g=>[268].contains g):=qq mixed ⟨dv,fun _=>zu _ _,Hj,fun _=>zu _ _,trivial⟩
theorem gD(a b:za)(Y:Hp)(Z:Nat)(h:a.length<=zw)(c:b.length<=zw):zg false [] (Yc Rm fun _ _=>True) [str a,str b] Y Z=some (wo (b.isPrefixOf a),Y,Z):=xS _ _ a b Y Z h c trivial rfl
theorem lf(a b:za)(Y:Hp)(Z:Nat)(h:a.length<=zw)(c:b.length<=zw):zg false [] (Yc na fun _ _=>True) [str a,str b] Y Z=some (.wP [str (Lib.cut a b).1,str (Lib.cut a b).2.1,wo (Lib.cut a b).2.2],Y,Z):=xS _ _ a b Y Z h c trivial rfl
theorem fR:zf prog 252 (zg false [] (Yc Rm fun _ _=>True)):=
 yt (fn:=f252) Dv (qN func252) false [] _ fun args r h=>by obtain⟨a,b,rfl,c,d,_,rfl⟩:=xg h;exact⟨by simp[f252],_,zm rfl (by simp[gD,c,d,Rm,f252]),qc _⟩
theorem lg:zf prog 218 (zg false [] (Yc na fun _ _=>True)):=
 yt (fn:=f218) Dv (qN func218) false [] _ fun args r h=>by obtain⟨a,b,rfl,c,d,_,rfl⟩:=xg h;exact⟨by simp[f218],_,zm rfl (by simp[lf,c,d,na,zI,f218]),qc _⟩
def Rn(a b:za):O:=.wP [str (if b.isPrefixOf a then a.drop b.length else a),wo (b.isPrefixOf a)]
theorem fS(a b:za)(c:a.length<=zw)(d:b.length<=zw):zo Cw1 f231 [str a,str b]=some (Rn a b):=by
 refine zm rfl ?_;cases h:b.isPrefixOf a
 ·simp[gD,c,d,h,Rn,zI,f231]
 ·have e:=(Cl.1 h).length_le;simp[gD,c,d,h,e,Rn,zI,f231];rw[qL (by simp)]
theorem dw:zf prog 231 (zg false [] (Yc Rn fun _ _=>True)):=
 yt (fn:=f231) Dv (qN func231) false [] _ fun args r h=>by obtain⟨a,b,rfl,c,d,_,rfl⟩:=xg h;exact⟨by simp[f231],_,fS a b c d,qc _⟩
noncomputable abbrev Cw2:Ctx:=zR prog [(231,zg false [] (Yc Rn fun _ _=>True))]
theorem zak:Gd Cw2:=qq mixed ⟨dw,fun _=>zu _ _,trivial⟩
theorem Fq(a b:za)(Y:Hp)(Z:Nat)(h:a.length<=zw)(c:b.length<=zw):zg false [] (Yc Rn fun _ _=>True) [str a,str b] Y Z=some (.wP [str (if b.isPrefixOf a then a.drop b.length else a),wo (b.isPrefixOf a)],Y,Z):=xS _ _ a b Y Z h c trivial rfl
theorem fT:zf prog 204 (zg false [] (Yc Rn fun _ _=>True)):=
 yt (fn:=f204) zak (qN func204) false [] _ fun args r h=>by obtain⟨a,b,rfl,c,d,_,rfl⟩:=xg h;exact⟨by simp[f204],_,zm rfl (by simp[Fq,c,d,Rn,zI,f204]),qc _⟩
def tlP(a b:za):O:=str (Lib.trimLeftB a (b.headD 0))
def tbP(a b:za):O:=str (Lib.trimB a (b.headD 0))
def rS(b:za):Prop:=∃c:UInt8,b=[c]/\c.toNat<128
theorem Yd:zf prog 213 (zg false [] (Yc tlP fun _ b=>rS b)):=
 xy ⟨_,func213,by kernel_rfl,by kernel_rfl⟩ fun args r h=>by
  obtain⟨a,b,rfl,g,i,⟨c,rfl,d⟩,rfl⟩:=xg h;refine⟨[.string ⟨a.toArray⟩,.string ⟨#[c]⟩],rfl,by simp[lit],rfl,.string ⟨(Lib.trimLeftB a c).toArray⟩,fun w S=>.v rfl,fun w S _=>?_⟩;refine(Any.strings_TrimLeft_one Tryz.Tm ⟨a.toArray⟩ c d w).mono fun e w' f=>?_
  obtain⟨rfl,rfl⟩:=f;exact⟨by simp,Fr.refl _ _⟩
theorem uZ:zf prog 212 (zg false [] (Yc tbP fun _ b=>rS b)):=
 xy ⟨_,func212,by kernel_rfl,by kernel_rfl⟩ fun args r h=>by
  obtain⟨a,b,rfl,d,i,⟨c,rfl,f⟩,rfl⟩:=xg h;unfold zw at d;refine⟨[.string ⟨a.toArray⟩,.string ⟨#[c]⟩],rfl,by simp[lit],rfl,.string ⟨(Lib.trimB a c).toArray⟩,fun w S=>.v rfl,fun w S _=>?_⟩;refine(Any.strings_Trim_one Tryz.Tn ⟨a.toArray⟩ c f w (by simp;omega)).mono fun e w' g=>?_
  obtain⟨rfl,rfl|rfl⟩:=g
  ·exact⟨by simp,Fr.refl _ _⟩
  ·exact⟨by simp,Fr.drew _ _⟩
noncomputable def FSB (f:za->UInt8->O):zb->Option O:=qf (α:=za×UInt8) (fun a=>[str a.1,Rj a.2]) (fun a=>a.1.length<=zw) (fun a=>f a.1 a.2)
theorem zal:∀a b:za×UInt8,[str a.1,Rj a.2]=[str b.1,Rj b.2]->a=b:=by
 rintro⟨g,c⟩ ⟨h,d⟩ e;simp only[zh,zA]at e;have i:=qI e.2;have f:c.toNat=d.toNat:=by omega
 rw[wb e.1,Yq.1 f]
theorem Mo(f:za->UInt8->O)(a:za)(c:UInt8)(Y:Hp)(Z:Nat)(h:a.length<=zw)(b:(f a c).flat=true):zg false [] (FSB f) [str a,Rj c] Y Z=some (f a c,Y,Z):=
 XX (a,c) _ _ rfl zal h (.inl b)
def ibP(a:za)(c:UInt8):O:=int (Lib.indexByte a c)
theorem fU:zf prog 215 (zg false [] (FSB ibP)):=
 xy ⟨_,func215,by kernel_rfl,by kernel_rfl⟩ fun args r h=>by
  obtain⟨⟨a,c⟩,rfl,d,rfl⟩:=zN h;refine⟨[.string ⟨a.toArray⟩,.int .u8 c.toNat],rfl,by simp[lit],rfl,.int .i64 (Lib.indexByte a c),fun w S=>.v rfl,fun w S _=>?_⟩;refine(Any.strings_IndexByte Tryz.To ⟨a.toArray⟩ c.toNat w).mono fun e w' b=>?_
  obtain⟨rfl,rfl⟩:=b;exact⟨by simp,Fr.refl _ _⟩
def rT(done:List za)(k:Nat):List zb:=done.map (fun p=>[str p])++List.replicate k [str []]
theorem u5(done:List za)(k:Nat)(p:za):(rT done (k+1)).set done.length [str p]=rT (done++[p]) k:=by unfold rT;rw[List.set_append_right _ _ (by simp)];simp[List.replicate_succ]
theorem u6(done:List za)(k:Nat):(rT done (k+1))[done.length]?=some [str []]:=by unfold rT;rw[zQ (by simp)];simp[List.replicate_succ]
theorem Hk(done:List za):rT done 0=done.map fun p=>[str p]:=by simp[rT]
def qg(s sep:za):List za:=Lib.split s sep
theorem aw{sep s:za}{i k:Nat}(h:Lib.index s sep=i):Lib.splitK sep 0 (k+1) s=s.take i::Lib.splitK sep 0 k (s.drop (i+sep.length)):=by
 have a:¬(Lib.index s sep==-1)=true:=by rw[jq];omega
 rw[Lib.splitK,zd a,h];simp
theorem oD{s sep:za}(h:sep≠[]):Lib.count s sep<=s.length:=by have:=Lib.countB_le ⟨sep.toArray⟩ (by cases sep<;>simp_all) s.length ⟨s.toArray⟩ (by simp);simpa[Lib.countB]using this
theorem Mp(a b:za)(Y:Hp)(Z:Nat)(h:a.length<=zw)(c:b.length<=zw)(d:1<=b.length):zg false [] (Yc cntP fun _ b=>1<=b.length) [str a,str b] Y Z=some (int (Lib.count a b),Y,Z):=xS _ _ a b Y Z h c d rfl
def Kc(xs:List za):kN:=⟨9,1,true,xs.map fun p=>[str p]⟩
theorem nb(s sep:za)(E:s.length<=zw)(F:sep.length<=zw)(u:1<=sep.length) :
  ∃x Y Z,jJ Ci2 f187 [str s,str sep,int 0,int (-1)] (fun _=>none) 0=some (x,Y,Z)/\Vi (some (Kc (qg s sep))) x Y Z:=by
 have b:sep≠[]:=by intro e;subst e;simp at u
 have G:=oD (s:=s) b;unfold zw at E F;refine J5 rfl ?_;have l:=jD b;have v:=wu ((Lib.count s sep:Int)+1);have H:=wu ((s.length:Int)+1);have w3:(if(s.length:Int)+1<(Lib.count s sep:Int)+1 then(s.length:Int)+1 else(Lib.count s sep:Int)+1)=(Lib.count s sep:Int)+1:=zd (by omega);have I:i6.wrap ((Lib.count s sep:Int)+1-1)=(Lib.count s sep:Int):=by rw[wR (by omega) (by omega)];omega
 have m:=wu (Lib.count s sep:Int);have w:((Lib.count s sep:Int)+1).toNat=Lib.count s sep+1:=by omega
 have y:0<=(Lib.count s sep:Int)+1:=by omega
 have c3:Lib.count s sep+1<=maxLen:=by simp[maxLen];omega
 have J:(Lib.count s sep+1)*16<=140737488355328:=by omega
 have n:=fun Y Z=>Mp s sep Y Z (by unfold zw;omega) (by unfold zw;omega) u
 have o:¬s.length<Lib.count s sep:=by omega
 have K:(Lib.count s sep:Int)+1<=(maxLen:Int):=by simp[maxLen];omega
 simp[l,n,v,H,o,I,m,Zz,w,y,K,J];refine zF (fun j U Y Z=>∃done cur,done.length=j/\U 0=str cur/\U 1=str sep/\U 2=int 0/\U 3=int (Lib.count s sep)/\U 9=.own 0 0 (Lib.count s sep+1)/\U 10=int j /\
   Y 0=some ⟨9,1,true,rT done (Lib.count s sep+1-j)⟩/\j+Lib.count cur sep=Lib.count s sep/\qg s sep=done++qg cur sep/\cur.length<=s.length) (Lib.count s sep)
  ⟨[],s,rfl,by simp,by simp,by simp,by simp[m],by simp,by simp,by simp[rT],by simp,by simp,zk _⟩ ?_
 rintro j U Y Z hj ⟨done,cur,hd,z,A,B,C,D,d,k,hc,hs,hl⟩;have f:∀Y Z,zg false [] (Yc Du fun _ _=>True) [str cur,str sep] Y Z=some (int (Lib.index cur sep),Y,Z):=fun Y Z=>Jo cur sep Y Z (by unfold zw;omega) (by unfold zw;omega)
 by_cases p:j<Lib.count s sep
 ·have L:Lib.index cur sep≠-1:=fun e=>by have:=Lib.count_miss e;omega
  have q:0<=Lib.index cur sep:=by
   rcases Lib.index_spec cur sep with⟨h,_⟩|⟨i,h,_⟩
   ·exact absurd h L
   ·omega
  obtain⟨i,hi⟩:∃i:Nat,Lib.index cur sep=i:=⟨(Lib.index cur sep).toNat,by omega⟩;have M:=Lib.index_room cur sep q;rw[hi]at M f;have r:=Lib.count_hit b hi;have c:qg cur sep=cur.take i::qg (cur.drop (i+sep.length)) sep:=by unfold qg Lib.split;rw[r,cW 1,aw hi]
  have N:¬((i:Int)<0):=by omega
  have P:=wu (i:Int);have Q:=wu ((i:Int)+sep.length);have R:=ql j;have S:((i:Int)+sep.length).toNat=i+sep.length:=by omega
  have T:i+sep.length<=cur.length:=by omega
  have W:i<=cur.length:=by omega
  have X:0<=(i:Int)+sep.length:=by omega
  have k9:j<Lib.count s sep+1:=by omega
  have t:Lib.count s sep+1-j=(Lib.count s sep-j)+1:=by omega
  have g:=u6 done (Lib.count s sep-j);rw[hd]at g;have a:=u5 done (Lib.count s sep-j) (cur.take i);rw[hd]at a;rw[t]at k;simp[z,A,B,C,D,d,k,p,f,N,P,Q,R,S,T,W,X,k9,g,a];have ht:List.take (cur.length-(i+sep.length)) (List.drop (i+sep.length) cur)=List.drop (i+sep.length) cur:=qL (by simp);rw[ht];exact⟨by omega,done++[cur.take i],by simp[hd],rfl,by omega,by rw[hs,c];simp,by omega⟩
 ·obtain rfl:j=Lib.count s sep:=by omega
  have hz:Lib.count cur sep=0:=by omega
  have c:qg cur sep=[cur]:=by unfold qg Lib.split;rw[hz];rfl
  have t:Lib.count s sep+1-Lib.count s sep=0+1:=by omega
  have g:=u6 done 0;have a:=u5 done 0 cur;rw[hd]at g a;rw[t]at k;simp[z,A,B,C,D,d,k,g,a,v,m,w,y,Vi,yG,f187];rw[hs,c];exact⟨0,⟨by omega,by simp[Kc,hd]⟩,by simp[Kc,Hk]⟩
noncomputable def FGs:zb->Option (Option kN):=qf (α:=za×za) (fun a=>[str a.1,str a.2,int 0,int (-1)]) (fun a=>a.1.length<=zw/\a.2.length<=zw/\1<=a.2.length) (fun a=>some (Kc (qg a.1 a.2)))
noncomputable def T1:zb->Option (Option kN):=qf (α:=za×za) (fun a=>[str a.1,str a.2]) (fun a=>a.1.length<=zw/\a.2.length<=zw/\1<=a.2.length) (fun a=>some (Kc (qg a.1 a.2)))
theorem zam:∀a b:za×za,[str a.1,str a.2,int 0,int (-1)]=[str b.1,str b.2,int 0,int (-1)]->a=b:=by rintro⟨c,d⟩ ⟨f,g⟩ e;simp only[zh,zA]at e;rw[wb e.1,wb e.2]
theorem lh:zf prog 187 (yI [] FGs):=
 Z1 (fn:=f187) (code:=_) Mm ⟨func187,by kernel_rfl,rfl,by kernel_rfl⟩ [] _ fun args r h=>by obtain⟨⟨a,b⟩,rfl,⟨c,d,e⟩,rfl⟩:=zN h;exact⟨by simp[f187],nb a b c d e⟩
theorem Ro(a b:za)(Y:Hp)(Z:Nat)(c:a.length<=zw)(d:b.length<=zw)(f:1<=b.length):yI [] FGs [str a,str b,int 0,int (-1)] Y Z=some (.own Z 0 (qg a b).length,qR Y Z (some (Kc (qg a b))),Z+1):=by have e:FGs (yj [] [str a,str b,int 0,int (-1)])=some (some (Kc (qg a b))):=qM (V:=fun a:List UInt8×za=>[str a.1,str a.2,int 0,int (-1)]) (a:=(a,b)) zam ⟨c,d,f⟩;simp[yI,e,Kc]
noncomputable abbrev Csp:Ctx:=zR prog [(187,yI [] FGs)]
theorem zan:Gd Csp:=zS mixed ⟨lh,trivial⟩
theorem Wc:zf prog 169 (yI [] T1):=
 Z1 (fn:=f169) (code:=_) zan ⟨func169,by kernel_rfl,rfl,by kernel_rfl⟩ [] _ fun args r h=>by
  obtain⟨⟨a,b⟩,rfl,⟨c,d,e⟩,rfl⟩:=zN h;have f:=fun Y Z=>Ro a b Y Z c d e
  exact⟨by simp[f169],J5 rfl (by simp[f,Vi,Kc,f169])⟩
theorem ZB(a b:za)(Y:Hp)(Z:Nat)(c:a.length<=zw)(d:b.length<=zw)(f:1<=b.length):yI [] T1 [str a,str b] Y Z=some (.own Z 0 (qg a b).length,qR Y Z (some (Kc (qg a b))),Z+1):=by have e:T1 (yj [] [str a,str b])=some (some (Kc (qg a b))):=qM (V:=fun a:List UInt8×za=>[str a.1,str a.2]) (a:=(a,b)) Dt ⟨c,d,f⟩;simp[yI,e,Kc]
def Kd(c:UInt8):Bool:=pr 48 57 c
def kZ(l:za):Bool:=l.all Kd
def yu(l:za):Bool:=!(l==[])&&!(decide (1<l.length)&&l.headD 0==48)&&kZ l
def yk(l:za):Bool:=l==[120]||l==[88]||l==[42]
def Jp(c:UInt8):Bool:=pr 97 122 c||pr 65 90 c||pr 48 57 c||c==45
def dx(l:za):Bool:=l.all Jp&&!(l==[])
theorem dy{l:za}{k:Nat}(h:k<l.length):kZ (l.drop k)=(Kd l[k]&&kZ (l.drop (k+1))):=bC h
theorem oE{l:za}{k:Nat}(h:k<l.length):(l.drop k).all Jp=(Jp l[k]&&(l.drop (k+1)).all Jp):=bC h
theorem lj(l:za)(i:l.length<=zw):zo C0 f265 [str l]=some (wo (kZ l)):=by
 refine zm rfl ?_;unfold zw at i;simp;refine zF (fun k U Y Z=>U 0=str l/\U 5=int l.length/\U 6=int k/\kZ l=kZ (l.drop k)) l.length ⟨by simp,by simp,by simp,by simp⟩ ?_;rintro k U Y Z m ⟨e,f,g,b⟩;by_cases a:k<l.length
 ·have j:=ql k;rw[dy a]at b;have h:=Vm 48 57 l[k];simp only[Zr]at h;cases d:Kd l[k]
  ·have b:kZ l=false:=by rw[b,d];rfl
   have c:pr 48 57 l[k]=false:=d;simp[e,f,g,a,b,h,c,f265]
  ·have c:pr 48 57 l[k]=true:=d;simp[e,f,g,a,h,c,j];exact⟨a,by rw[b,d];rfl⟩
 ·obtain rfl:k=l.length:=by omega
  have b:kZ l=true:=by rw[b,zn];rfl
  simp[e,f,g,b,f265]
theorem Ww:zf prog 265 (zg false [] (FS kZ)):=
 vX jS func265 false [] fun l Y=>⟨by simp[f265],_,lj l Y,qc _⟩
noncomputable abbrev Cdg:Ctx:=zR prog [(265,zg false [] (FS kZ))]
theorem zao:AM.Good Cdg (fun g=>[265].contains g):=qq mixed ⟨Ww,fun _=>zu _ _,trivial⟩
theorem Dw(l:za)(g:l.length<=zw):zo Cdg f229 [str l]=some (wo (yu l)):=by
 refine zm rfl ?_;have hd:=fun Y Z=>kM kZ l Y Z g
 cases l with
 |nil=>simp[yu,f229]
 |cons c l=>
  by_cases b:0<l.length
  ·have a:l≠[]:=by intro e;subst e;simp at b
   have f:(1:Int)<(l.length:Int)+1:=by omega
   by_cases d:c=48
   ·subst d;simp[hd,b,a,f,yu,f229]
   ·have h:((c.toNat:Int)==48)=false:=by rw[jk];intro e;apply d;rw[<-Yq];simp;omega
    simp[hd,b,a,d,h,f,yu,f229]
  ·have a:l=[]:=by cases l<;>simp_all
   subst a;simp[hd,yu,f229]
theorem e8:zf prog 229 (zg false [] (FS yu)):=
 vX zao func229 false [] fun l Y=>⟨by simp[f229],_,Dw l Y,qc _⟩
theorem Hl(l:za):zo C0 f177 [str l]=some (wo (yk l)):=by
 refine zm rfl ?_;cases a:(l==[120])
 ·cases b:(l==[88])
  ·simp[a,b,yk,f177]
  ·simp[a,b,yk,f177]
 ·simp[a,yk,f177]
theorem lk:zf prog 177 (zg false [] (FS yk)):=
 vX jS func177 false [] fun l Y=>⟨by simp[f177],_,Hl l,qc _⟩
def rU(l:za):Int:=((Lib.decNat l).getD 0:Nat)
theorem Ke:∀(l:za) (a:Nat),kZ l=true->∃n,Lib.decFrom a l=some n/\n<(a+1)*10 ^ l.length
 |[],a,_=>⟨a,rfl,by simp⟩
 |c::l,a,h=>by
  simp only[kZ,wO,zC]at h;have b:48<=c.toNat/\c.toNat<=57:=by have:=h.1;simpa[Kd,pr]using this
  obtain⟨n,d,e⟩:=Ke l (a*10+(c.toNat-48)) h.2;refine⟨n,?_,?_⟩
  ·simp only[Lib.decFrom,Lib.digitVal,b,and_self,qB];exact d
  ·have f:a*10+(c.toNat-48)+1<=(a+1)*10:=by omega
   calc n<(a*10+(c.toNat-48)+1)*10 ^ l.length:=e
    _<=(a+1)*10*10 ^ l.length:=zH _ f
    _=(a+1)*10 ^ (c::l).length:=by rw[zP,Nat.pow_succ,Nat.mul_assoc,cX 10]
theorem ll{l:za}(h:yu l=true):l≠[]/\kZ l=true:=by simp only[yu,zC]at h;exact⟨by intro e;subst e;simp at h,h.2⟩
theorem Dx{l:za}(h:yu l=true):Lib.atoi l=some (rU l):=by
 obtain⟨a,b⟩:=ll h;obtain⟨n,i,_⟩:=Ke l 0 b;have f:Lib.decNat l=some n:=by unfold Lib.decNat;rw[zd (by simpa using a)];exact i
 cases l with
 |nil=>exact absurd rfl a
 |cons c l=>
  have k:48<=c.toNat/\c.toNat<=57:=by have:=b;simp only[kZ,wO,zC]at this;simpa[Kd,pr]using this.1
  have j:rU (c::l)=n:=by unfold rU;rw[f];rfl
  rw[j];have g:∀d:UInt8,d.toNat<48->(c==d)=false:=fun d hd=>by rw[jk];intro e;subst e;omega
  unfold Lib.atoi;simp only[];rw[g 45 (by decide),g 43 (by decide),f];rfl
noncomputable def FAt:zb->Option O:=qf (α:=za) (fun l=>[str l]) (fun l=>l.length<=18/\yu l=true) (fun l=>.wP [int (rU l),.v .nilIface])
theorem Mq{dr:Prop}(w:World)(e:TypeId)(s:ByteArray):Fr dr w (fun _=>False) (Lib.bytesWorld w e s):=by
 have d:∀(b:World) (a:Addr) (n k:Nat),k≠a.block->(b.freeze a n).heap[k]?=b.heap[k]?:=by
  intro b a n k c;unfold World.freeze;split
  ·rfl
  ·simp[vT,Ne.symm c]
 have f:∀(b:World) (a:Addr) (n:Nat),(b.freeze a n).heap.size=b.heap.size:=by intro b a n;unfold World.freeze;split<;>simp
 unfold Lib.bytesWorld;refine⟨rfl,rfl,rfl,?_,?_,fun k c _=>?_⟩
 ·rw[f];simp
 ·exact fun _=>Qj _
 ·rw[d _ _ _ k (by simpa using Nat.ne_of_lt c)];exact(Below.heap_alloc w.drew _ k c)
@[simp]theorem O7(U:Nat->O):AM.get U (.const .nilIface)=some (.v .nilIface):=rfl
theorem ln:zf prog 230 (zg false [] FAt):=
 xy ⟨_,func230,by kernel_rfl,by kernel_rfl⟩ fun args r h=>by
  obtain⟨l,rfl,⟨c,d⟩,rfl⟩:=zN h;refine⟨[.string ⟨l.toArray⟩],rfl,by simp[lit],rfl,.tuple #[.int .i64 (rU l),.nilIface],fun w S=>.wP rfl fun j g u a b=>?_,fun w S _=>?_⟩
  ·match j,a,b with
   | 0,a,b=>simp at a b;subst a;subst b;exact .v rfl
   | 1,a,b=>simp at a b;subst a;subst b;exact .v rfl
   |j+2,a,b=>simp at a
  refine(Any.strconv_Atoi Tryz.Tp ⟨l.toArray⟩ (rU l) (by simpa using c) (by simpa using Dx d) w).mono fun e w' f=>?_
  obtain⟨rfl,t,rfl⟩:=f;exact⟨rfl,Mq _ _ _⟩
theorem oF(l:za)(Y:Hp)(Z:Nat)(c:l.length<=18)(d:yu l=true):zg false [] FAt [str l] Y Z=some (.wP [int (rU l),.v .nilIface],Y,Z):=
 XX l _ _ rfl (fun a b e=>by simp only[zh,zA]at e;exact wb e) ⟨c,d⟩ (.inl rfl)
def xK(l:za):Option Int:=if yu l=true/\l.length<=6 then some (rU l)else none
def YG(l:za):O:=.wP [int ((xK l).getD 0),wo (xK l).isSome]
noncomputable def Ln (f:za->O):zb->Option O:=qf (α:=za) (fun l=>[str l]) (fun l=>l.length<=zw) f
theorem bK(f:za->O)(l:za)(Y:Hp)(Z:Nat)(h:l.length<=zw)(c:(f l).flat=true):zg false [] (Ln f) [str l] Y Z=some (f l,Y,Z):=
 XX l _ _ rfl (fun a b e=>by simp only[zh,zA]at e;exact wb e) h (.inl c)
noncomputable abbrev Cvn:Ctx:=zR prog [(229,zg false [] (FS yu)),(230,zg false [] FAt)]
theorem zap:AM.Good Cvn (fun g=>[229].contains g):=qq mixed ⟨e8,fun _=>zu _ _,ln,fun _=>zu _ _,trivial⟩
theorem ax(l:za)(f:l.length<=zw):zo Cvn f203 [str l]=some (YG l):=by
 refine zm rfl ?_;have b:=fun Y Z=>kM yu l Y Z f
 cases a:yu l
 ·simp[b,a,YG,xK,zI,f203]
 ·by_cases e:l.length<=6
  ·have c:¬((6:Int)<l.length):=by omega
   have g:=fun Y Z=>oF l Y Z (by omega) a
   simp[b,a,e,c,g,Fa,YG,xK,zI,f203]
  ·have c:(6:Int)<l.length:=by omega
   have d:6<l.length:=by omega
   simp[b,a,e,d,c,YG,xK,zI,f203]
theorem WB:zf prog 203 (zg false [] (Ln YG)):=
 vX zap func203 false [] fun l Y=>⟨by simp[f203],_,ax l Y,qc _⟩
@[simp]theorem zbY(P:Program)(Y:Hp)(t:TypeId)(id a b:Nat)(k:IntKind)(i:Int)(h:wY P t=none):qH P Y t (.ref id a b) (.v (.int k i))=(ue P t).bind fun c=>(qv P c.2).bind fun n=>if 0<=i/\i<c.1 then some (.ref id a (b+i.toNat*n))else none:=by
 simp only[qH,h,x1];cases ue P t with
 |none=>rfl
 |some c=>obtain⟨m,e⟩:=c;simp only[zZ];cases qv P e<;>rfl
@[simp]theorem zbZ(P:Program)(Y:Hp)(t:TypeId)(cs:zb)(k:IntKind)(i:Int)(h:wY P t=none):qH P Y t (.ptr cs) (.v (.int k i))=(ue P t).bind fun a=>(qv P a.2).bind fun n=>if 0<=i/\i<a.1 then some (.ptr (cs.drop (i.toNat*n)))else none:=by
 simp only[qH,h,x1];cases ue P t with
 |none=>rfl
 |some a=>obtain⟨m,e⟩:=a;simp only[zZ];cases qv P e<;>rfl
@[simp]theorem wrl0:i6.wrap 0=0:=wR (by decide) (by decide)
@[simp]theorem wrl1:i6.wrap 1=1:=wR (by decide) (by decide)
@[simp]theorem wrl2:i6.wrap 2=2:=wR (by decide) (by decide)
@[simp]theorem wrl3:i6.wrap 3=3:=wR (by decide) (by decide)
theorem Dy(l:za)(h:l.length<=zw):zo C0 f264 [str l]=some (wo (dx l)):=by
 refine zm rfl ?_;unfold zw at h;simp;refine zF (fun k U Y Z=>U 0=str l/\U 6=int l.length/\U 7=int k/\l.all Jp=(l.drop k).all Jp) l.length ⟨by simp,by simp,by simp,by simp⟩ ?_;rintro k U Y Z m ⟨e,f,g,b⟩;by_cases a:k<l.length
 ·have i:=ql k;rw[oE a]at b;have c:(decide ((97:Int)<=l[k].toNat)&&decide ((l[k].toNat:Int)<=122)||decide ((65:Int)<=l[k].toNat)&&decide ((l[k].toNat:Int)<=90)||decide ((48:Int)<=l[k].toNat)&&decide ((l[k].toNat:Int)<=57)||((l[k].toNat:Int)==45))=Jp l[k]:=by
   have j:((l[k].toNat:Int)==45)=(l[k]==45):=by rw[qx];simp[<-Yq];omega
   rw[j,qx];simp[Jp,pr,<-Yq];omega
  cases d:Jp l[k]
  ·have b:l.all Jp=false:=by rw[b,d];rfl
   rw[d]at c;simp[e,f,g,a,c,dx,b,-List.all_eq_true,-List.all_eq_false,f264]
  ·rw[d]at c;simp[e,f,g,a,c,i,-List.all_eq_true,-List.all_eq_false];exact⟨a,by rw[b,d];rfl⟩
 ·obtain rfl:k=l.length:=by omega
  have b:l.all Jp=true:=by rw[b,zn];rfl
  simp[e,f,g,b,dx,-List.all_eq_true,f264]
theorem u7:zf prog 264 (zg false [] (FS dx)):=
 vX jS func264 false [] fun l Y=>⟨by simp[f264],_,Dy l Y,qc _⟩
theorem nc:zf prog 263 (zg false [] (F3 jE)):=
 yt (fn:=f263) jS (qN func263) false [] _ fun args r h=>by obtain⟨a,b,c,rfl,rfl⟩:=rB h;exact⟨by simp[f263],_,zm rfl (by simp[f263,jE]),qc _⟩
structure yf where
 a:Int
 b:Int
 c:Int
 pre:List (List UInt8)
def zx(l:List za):List zb:=l.map fun p=>[str p]
theorem jd{a b:List za}(h:zx a=zx b):a=b:=yX (fun x y e=>by simp only[zh,zA]at e;exact wb e) h
@[simp]theorem qJ(l:List za):(zx l).length=l.length:=by simp[zx]
@[simp]theorem Mr:zx []=[]:=rfl
@[simp]theorem Hm(l:List za):(zx l).take l.length=zx l:=qL (by simp)
@[simp]theorem Xd(p:za)(l:List za):zx (p::l)=[str p]::zx l:=rfl
@[simp]theorem zeZ(l:List za):Kc l=⟨9,1,true,zx l⟩:=rfl
@[simp]theorem ze0{l:List za}{k:Nat}(h:k<(zx l).length):(zx l)[k]=[str (l[k]'(by simpa using h))]:=by simp[zx]
theorem Vv{l:List za}{k:Nat}(h:k<l.length):(zx l)[k]?=some [str l[k]]:=by simp[zx,h]
def yf.V(v:yf):zb:=[int v.a,int v.b,int v.c,.sl 1 (zx v.pre)]
theorem Jq{a b:yf}(h:a.V=b.V):a=b:=by
 cases a;cases b;simp only[yf.V,zh,zA]at h;obtain⟨d,e,f,c⟩:=h;injection c with _ c
 rw[qI d,qI e,qI f,jd c]
abbrev va:List (Option Nat):=[none,none,none,some 1]
def yf.small(v:yf):Prop:=v.pre.length<=zw/\∀p∈v.pre,p.length<=zw
def yg(p:za):Bool:=decide (20<p.length)||!dx p||(kZ p&&!yu p)
def Qr(v:yf):Int:=if jE v.a 0 999999=true/\jE v.b 0 999999=true/\jE v.c 0 999999=true then(if 10<v.pre.length then 2 else if v.pre.any yg then 3 else 0)else 1
noncomputable def FVr (f:yf->O):zb->Option O:=qf (α:=yf) (fun v=>[.agg v.V]) yf.small f
theorem u9(f:yf->O)(v:yf)(x:O)(Y Y1:Hp)(Z:Nat)(y:O)(d:zD Y [x]=some ([y],Y1))(i:(Sh.g va).fix y=.agg v.V)(h:v.small)(c:(f v).flat=true):qy [.g va] (FVr f) [x] Y Z=some (f v,Y,Z):=by
 have e:FVr f (bH [.g va] (yj [] [y]))=some (f v):=by show FVr f [(Sh.g va).fix y]=_;rw[i];exact qM (V:=fun v:yf=>[O.agg v.V]) (a:=v) (fun a b e=>by simp only[zh,zA]at e;injection e with e;exact Jq e) h
 unfold qy zg;simp only[d,e,c,true_or,qB]
noncomputable abbrev Ms:Ctx:=zR prog [(263,zg false [] (F3 jE)),(264,zg false [] (FS dx)),(265,zg false [] (FS kZ)),(229,zg false [] (FS yu))]
theorem Rp:AM.Good Ms (fun g=>[263,264,265,229].contains g):=qq mixed ⟨nc,fun _=>zu _ _,u7,fun _=>zu _ _,Ww,fun _=>zu _ _,e8,fun _=>zu _ _,trivial⟩
@[simp]theorem zb0:kY Ms 264:=y9 (by rfl) (zu _ _)
@[simp]theorem zb1:kY Ms 265:=y9 (by rfl) (zu _ _)
@[simp]theorem zb2:kY Ms 229:=y9 (by rfl) (zu _ _)
theorem bL(v:yf)(h:v.small):zo Ms f228 [.agg v.V]=some (int (Qr v)):=by
 obtain⟨a,b,c,pre⟩:=v;obtain⟨w,o⟩:=h;simp only at w o;unfold zw at w;refine zm rfl ?_;simp[yf.V,zr,zJ,zp];rw[zE];cases n:jE a 0 999999
 ·simp[n,Qr,f228]
 simp[n];rw[zE];cases p:jE b 0 999999
 ·simp[n,p,Qr,f228]
 simp[p];rw[zE];cases q:jE c 0 999999
 ·simp[n,p,q,Qr,f228]
 simp[q];rw[zE];simp;by_cases s:10<pre.length
 ·have g:(10:Int)<pre.length:=by omega
  simp[n,p,q,s,g,Qr,f228]
 have g:¬(10:Int)<pre.length:=by omega
 simp[s,g];have t:Qr ⟨a,b,c,pre⟩=if pre.any yg then 3 else 0:=by simp[Qr,n,p,q,s]
 rw[t];refine zF (fun k U Y Z=>U 28=.sl 1 (zx pre)/\U 29=int pre.length/\U 30=int k/\pre.any yg=(pre.drop k).any yg) pre.length ⟨by simp,by simp,by simp,by simp⟩ ?_;rintro k U Y Z B ⟨i,j,l,f⟩;by_cases d:k<pre.length
 ·have C:=ql k;have x:=Vv d;rw[zc d,yr]at f;have m:=o _ (zj d);have y:=fun Y Z=>kM dx pre[k] Y Z m
  have z:=fun Y Z=>kM kZ pre[k] Y Z m
  have A:=fun Y Z=>kM yu pre[k] Y Z m
  have u:yg pre[k]=(decide (20<pre[k].length)||!dx pre[k]||(kZ pre[k]&&!yu pre[k])):=rfl;have e:(decide ((20:Int)<pre[k].length)||!dx pre[k]||kZ pre[k]&&!yu pre[k])=yg pre[k]:=by rw[u];congr 2;rw[qx];simp;omega
  cases r:yg pre[k]
  ·rw[r]at e;simp[i,j,l,d,x,y,z,A,e,C];exact⟨d,by rw[f,r];rfl⟩
  ·rw[r]at e;have f:pre.any yg=true:=by rw[f,r];rfl
   simp[i,j,l,d,x,y,z,A,e,f,-List.any_eq_true,f228]
 ·obtain rfl:k=pre.length:=by omega
  have f:pre.any yg=false:=by rw[f,zn];rfl
  simp[i,j,l,f,-List.any_eq_false,f228]
theorem Rq{f:yf->O}{args:zb}{r:O}(h:FVr f args=some r):∃v:yf,args=[.agg v.V]/\v.small/\r=f v:=zN h
theorem ay:zf prog 228 (qy [.g va] (FVr fun v=>int (Qr v))):=
 wM (fn:=f228) Rp (qN func228) _ _ fun args r h=>by obtain⟨v,rfl,a,rfl⟩:=Rq h;exact⟨by simp[f228],_,bL v a,qX.refl _⟩
theorem lp(sep:za):∀(k:Nat) (s p:za),p∈Lib.splitK sep 0 k s->p.length<=s.length
 | 0,s,p,h=>by simp[Lib.splitK]at h;rw[h];exact zk _
 |k+1,s,p,h=>by
  unfold Lib.splitK at h;split at h
  ·simp at h;rw[h];exact zk _
  ·rcases zv.1 h with rfl|h
   ·simp;omega
   ·have:=lp sep k _ p h;simp at this;omega
theorem lq(sep:za):∀(k:Nat) (s:za),(Lib.splitK sep 0 k s).length<=k+1
 | 0,s=>by simp[Lib.splitK]
 |k+1,s=>by
  unfold Lib.splitK;split
  ·simp
  ·have:=lq sep k (s.drop ((Lib.index s sep).toNat+sep.length));simp;omega
theorem xh{s sep p:za}(h:p∈qg s sep):p.length<=s.length:=lp _ _ _ _ h
theorem xT{s sep:za}(h:sep≠[]):(qg s sep).length<=s.length+1:=by have a:=lq sep (Lib.count s sep) s;have b:=oD (s:=s) h;exact zG a (by omega)
theorem Mt(s sep:za):(Lib.cut s sep).1.length<=s.length/\(Lib.cut s sep).2.1.length<=s.length:=by
 unfold Lib.cut;split
 ·simp;omega
 ·simp
noncomputable def XB (f:za->O):zb->Option O:=qf (α:=za) (fun l=>[str l]) (fun l=>l.length+1<=zw) f
theorem Za(f:za->O)(l:za)(Y:Hp)(Z:Nat)(h:l.length+1<=zw):zg false [] (XB f) [str l] Y Z=some (f l,Y,Z):=
 XX l _ _ rfl (fun a b e=>by simp only[zh,zA]at e;exact wb e) h (.inr (by simp))
def bh:yf:=⟨0,0,0,[]⟩
def xo(t:za):List za:=if(Lib.cut t [45]).2.2 then qg (Lib.cut t [45]).2.1 [46]else[]
def oG(t:za):Option yf:=match qg (Lib.cut t [45]).1 [46]with
 |[d,e,f]=>match xK d,xK e,xK f with
  |some a,some b,some c=>if Qr ⟨a,b,c,xo t⟩=0 then some ⟨a,b,c,xo t⟩else none
  |_,_,_=>none
 |_=>none
def Fs(t:za):O:=match oG t with
 |some v=>.wP [.agg v.V,int 0]
 |none=>.wP [.agg bh.V,int 10]
noncomputable abbrev Crv:Ctx:=zR prog [(218,zg false [] (Yc na fun _ _=>True)),(169,yI [] T1),(203,zg false [] (Ln YG)),(228,qy [.g va] (FVr fun v=>int (Qr v)))]
theorem zaq:Gd Crv:=zS mixed ⟨lg,Wc,WB,ay,trivial⟩
theorem Xe(l:za)(Y:Hp)(Z:Nat)(h:l.length<=zw):zg false [] (Ln YG) [str l] Y Z=some (.wP [int ((xK l).getD 0),wo (xK l).isSome],Y,Z):=bK YG l Y Z h rfl
theorem T2{α:Type}{l:List α}(h:l.length=3):∃a b c,l=[a,b,c]:=by
 match l,h with
 |[a,b,c],_=>exact⟨a,b,c,rfl⟩
theorem dz(t:za)(N:t.length+1<=zw):∃I,zo Crv f202 [str t]=some I/\qX I (Fs t):=by
 refine yB (sh:=.g va) rfl ?_;have J:=Mt t [45];have m:=fun Y Z=>lf t [45] Y Z (by omega) (by decide)
 have r:=fun Y Z=>ZB (Lib.cut t [45]).1 [46] Y Z (by omega) (by decide) (by decide)
 have o:=fun Y Z=>ZB (Lib.cut t [45]).2.1 [46] Y Z (by omega) (by decide) (by decide)
 have h:∀p∈qg (Lib.cut t [45]).1 [46],p.length<=zw:=fun p Y=>by have:=xh Y;omega
 have A:∀p∈qg (Lib.cut t [45]).2.1 [46],p.length<=zw:=fun p Y=>by have:=xh Y;omega
 have B:(qg (Lib.cut t [45]).2.1 [46]).length<=zw:=by have:=xT (s:=(Lib.cut t [45]).2.1) (sep:=[46]) (by simp);omega
 by_cases y:(qg (Lib.cut t [45]).1 [46]).length=3
 ·obtain⟨C,D,E,d⟩:=T2 y;rw[d]at r h;have i:=fun Y Z=>Xe C Y Z (h C (by simp))
  have j:=fun Y Z=>Xe D Y Z (h D (by simp))
  have k:=fun Y Z=>Xe E Y Z (h E (by simp))
  simp[m,r];rw[zE];cases l:xK C with
  |none=>rw[l]at i;simp[i,Fs,oG,d,l,qb,qE,qi,bh,yf.V,f202]
  |some a=>
   rw[l]at i;simp[i];rw[zE];cases q:xK D with
   |none=>rw[q]at j;simp[j,Fs,oG,d,l,q,qb,qE,qi,bh,yf.V,f202]
   |some b=>
    rw[q]at j;simp[j];rw[zE];cases u:xK E with
    |none=>rw[u]at k;simp[k,Fs,oG,d,l,q,u,qb,qE,qi,bh,yf.V,f202]
    |some c=>
     rw[u]at k;simp[k];rw[zE];simp[qb,qE];have F:(⟨a,b,c,[]⟩:yf).small:=⟨by simp,by simp⟩;have G:(⟨a,b,c,qg (Lib.cut t [45]).2.1 [46]⟩:yf).small:=⟨B,A⟩;cases z:(Lib.cut t [45]).2.2
     ·have f:=fun Y Z=>u9 (fun v=>int (Qr v)) ⟨a,b,c,[]⟩ (.agg [int a,int b,int c,.nil]) Y Y Z _ rfl rfl F rfl
      by_cases w:Qr ⟨a,b,c,[]⟩=0
      ·simp[f,w,Fs,oG,xo,d,l,q,u,z,qi,yf.V,f202]
      ·have x:=xN w;simp[f,w,x,Fs,oG,xo,d,l,q,u,z,qb,qE,qi,bh,yf.V,f202]
     ·have f:∀(Y:Hp) (Z id n:Nat),Y id=some ⟨9,1,true,zx (qg (Lib.cut t [45]).2.1 [46])⟩->n=(qg (Lib.cut t [45]).2.1 [46]).length->qy [.g va] (FVr fun v=>int (Qr v)) [.agg [int a,int b,int c,.own id 0 n]] Y Z=some (int (Qr ⟨a,b,c,qg (Lib.cut t [45]).2.1 [46]⟩),Y,Z):=by intro Y Z id n K L;subst L;exact u9 (fun v=>int (Qr v)) ⟨a,b,c,qg (Lib.cut t [45]).2.1 [46]⟩ _ Y (qR Y id none) Z (.agg [int a,int b,int c,.sl 1 (zx (qg (Lib.cut t [45]).2.1 [46]))]) (by simp[K]) rfl G rfl
      by_cases w:Qr ⟨a,b,c,qg (Lib.cut t [45]).2.1 [46]⟩=0
      ·simp[o,f,w,Fs,oG,xo,d,l,q,u,z,qi,yf.V,f202]
      ·have x:=xN w;simp[o,f,w,x,Fs,oG,xo,d,l,q,u,z,qb,qE,qi,bh,yf.V,f202]
 ·have H:(((qg (Lib.cut t [45]).1 [46]).length:Int) != 3)=true:=by simp;omega
  have M:oG t=none:=by
   unfold oG;split
   ·rename_i e;rw[e]at y;simp at y
   ·rfl
  simp[m,r,H,y,Fs,M,qb,qE,qi,bh,yf.V,f202]
theorem bM:zf prog 202 (zg false [] (XB Fs)):=
 Qu (fn:=f202) zaq (qN func202) false [] _ fun args r h w S vs a=>by obtain⟨l,rfl,Y,rfl⟩:=zN h;obtain⟨b,c,d⟩:=dz l Y;exact⟨_,b,a,by simp[f202],c,d⟩
structure Part where
 n0:Int
 n1:Int
 n2:Int
 has:Int
 pre:List (List UInt8)
def Part.V(p:Part):zb:=[int p.n0,int p.n1,int p.n2,int p.has,.sl 1 (zx p.pre)]
abbrev Vw:List (Option Nat):=[none,none,none,none,some 1]
def wg:Part:=⟨0,0,0,0,[]⟩
def Part.put(p:Part)(i:Nat)(n:Int):Part:=match i with
 | 0=>{p with n0:=n,has:=p.has+1}
 | 1=>{p with n1:=n,has:=p.has+1}
 |_=>{p with n2:=n,has:=p.has+1}
def wE(p:Part)(i:Nat)(t:za):Option Part:=if(xK t).isSome=true/\p.has=i then some (p.put i ((xK t).getD 0))else if yk t=true/\i≠0 then some p else none
def yc:Part->Nat->List za->Option Part
 |p,_,[]=>some p
 |p,i,t::l=>match wE p i t with
  |some q=>yc q (i+1) l
  |none=>none
def zO(t:za):Part×Bool:=if Lib.contains t [45]=true then(match oG t with
    |some v=>(⟨v.a,v.b,v.c,3,v.pre⟩,true)
    |none=>(⟨0,0,0,3,[]⟩,false))
 else if 3<(qg t [46]).length then(wg,false)else match yc wg 0 (qg t [46])with
  |some p=>(p,true)
  |none=>(wg,false)
def jT(t:za):O:=.wP [.agg (zO t).1.V,wo (zO t).2]
noncomputable abbrev Crpv:Ctx:=zR prog [(201,zg false [] (Yc Rl fun _ _=>True)),(202,zg false [] (XB Fs)),(169,yI [] T1),(203,zg false [] (Ln YG)),(177,zg false [] (FS yk))]
theorem zar:AM.Good Crpv (fun g=>[177].contains g):=qq mixed ⟨iZ,by simp,bM,by simp,Wc,by simp,WB,by simp,lk,fun _=>zu _ _,trivial⟩
theorem Mu(a b:za)(Y:Hp)(Z:Nat)(h:a.length<=zw)(c:b.length<=zw):zg false [] (Yc Rl fun _ _=>True) [str a,str b] Y Z=some (wo (Lib.contains a b),Y,Z):=xS _ _ a b Y Z h c trivial rfl
def Part.raw(p:Part):zb:=[int p.n0,int p.n1,int p.n2,int p.has,.nil]
theorem nf{p:Part}{k:Nat}{l:List za}(h:k<l.length):yc p k (l.drop k)=match wE p k l[k]with
  |some q=>yc q (k+1) (l.drop (k+1))
  |none=>none:=by
 rw[zc h];rfl
theorem dA(t:za)(W:t.length+1<=zw):∃S,zo Crpv f175 [str t]=some S/\qX S (jT t):=by
 refine yB (sh:=.g Vw) rfl ?_;have B:=fun Y Z=>Mu t [45] Y Z (by omega) (by decide)
 cases I:Lib.contains t [45]
 ·have J:=fun Y Z=>ZB t [46] Y Z (by omega) (by decide) (by decide)
  have E:∀p∈qg t [46],p.length<=zw:=fun p Y=>by have:=xh Y;omega
  by_cases M:3<(qg t [46]).length
  ·have F:(3:Int)<(qg t [46]).length:=by omega
   simp[B,I,J,M,F,jT,zO,qb,qE,qi,wg,Part.V,f175]
  have F:¬(3:Int)<(qg t [46]).length:=by omega
  simp[B,I,J,M,F];obtain⟨l,N⟩:=yx (qg t [46]);rw[N]at E M;have e:zO t=match yc wg 0 l with
   |some p=>(p,true)
   |none=>(wg,false):=by
   unfold zO;rw[zd (by rw[I];simp),N,zd M]
   try rfl
  simp only[N];refine zF (fun k U Y Z=>∃p:Part,p.pre=[]/\U 2=.ref 0 0 0/\U 7=.ref 2 0 0/\U 37=.own 1 0 l.length/\U 38=int l.length/\U 39=int k/\p.has<=k/\0<=p.has /\
    Y 0=some ⟨183,5,false,[wg.raw]⟩/\Y 1=some ⟨9,1,true,zx l⟩/\Y 2=some ⟨183,5,false,[p.raw]⟩/\yc wg 0 l=yc p k (l.drop k)) l.length
   ⟨wg,rfl,by simp,by simp,by simp,by simp,by simp,by simp[wg],by simp[wg],by simp[wg,Part.raw],by simp,by simp[wg,Part.raw],by simp⟩ ?_
  rintro k U Y Z X ⟨p,G,w,x,f,h,i,P,H,y,z,A,j⟩;by_cases b:k<l.length
  ·have C:=fun Y Z=>Xe l[k] Y Z (E _ (zj b))
   have D:=fun Y Z=>kM yk l[k] Y Z (E _ (zj b))
   have K:=ql k;have Q:=wu (p.has+1);rw[nf b]at j;have R:k=0\/k=1\/k=2:=by omega
   obtain⟨r,n1,s,a,pre⟩:=p;simp only at G P H Q;subst G;cases q:(xK l[k]).isSome
   ·cases c:yk l[k]
    ·have hs:wE ⟨r,n1,s,a,[]⟩ k l[k]=none:=by simp[wE,q,c]
     rw[hs]at j;rw[j]at e;simp[w,x,f,h,i,y,z,A,b,C,D,q,c,jT,e,qb,qE,qi,wg,Part.raw,Part.V,f175]
    ·by_cases m:k=0
     ·subst m;have hs:wE ⟨r,n1,s,a,[]⟩ 0 l[0]=none:=by simp[wE,q]
      rw[hs]at j;rw[j]at e;simp[w,x,f,h,i,y,z,A,b,C,D,q,c,jT,e,qb,qE,qi,wg,Part.raw,Part.V,f175]
     ·have hs:wE ⟨r,n1,s,a,[]⟩ k l[k]=some ⟨r,n1,s,a,[]⟩:=by simp[wE,q,c,m]
      have u:((k:Int)==0)=false:=by simpa using m
      rw[hs]at j;simp[w,x,f,h,i,y,z,A,b,C,D,q,c,K,u,m];exact⟨b,⟨r,n1,s,a,[]⟩,rfl,Int.le_trans P (by omega),H,rfl,j⟩
   ·by_cases d:a=k
    ·have hs:wE ⟨r,n1,s,a,[]⟩ k l[k]=some ((⟨r,n1,s,a,[]⟩:Part).put k ((xK l[k]).getD 0)):=by simp[wE,q,d]
     rw[hs]at j;rcases R with rfl|rfl|rfl
     ·obtain rfl:a=0:=by simpa using d
      have n:(0:Int)<(l.length:Int):=by omega
      simp[w,x,f,h,i,y,z,A,b,n,C,D,q,K,Part.raw];refine⟨b,_,?_,?_,?_,?_,(by simpa using j)⟩<;>simp[Part.put]
     ·obtain rfl:a=1:=by simpa using d
      have n:(1:Int)<(l.length:Int):=by omega
      simp[w,x,f,h,i,y,z,A,b,n,C,D,q,K,Part.raw];refine⟨b,_,?_,?_,?_,?_,(by simpa using j)⟩<;>simp[Part.put]
     ·obtain rfl:a=2:=by simpa using d
      have n:(2:Int)<(l.length:Int):=by omega
      simp[w,x,f,h,i,y,z,A,b,n,C,D,q,K,Part.raw];refine⟨b,_,?_,?_,?_,?_,(by simpa using j)⟩<;>simp[Part.put]
    ·cases c:yk l[k]
     ·have hs:wE ⟨r,n1,s,a,[]⟩ k l[k]=none:=by simp[wE,q,c,d]
      have o:(a==(k:Int))=false:=by simpa using d
      rw[hs]at j;rw[j]at e;simp[w,x,f,h,i,y,z,A,b,C,D,q,c,o,jT,e,qb,qE,qi,wg,Part.raw,Part.V,f175]
     ·by_cases m:k=0
      ·subst m;have hs:wE ⟨r,n1,s,a,[]⟩ 0 l[0]=none:=by simp[wE,d];intro _;exact d
       have o:(a==0)=false:=by simpa using d
       rw[hs]at j;rw[j]at e;simp[w,x,f,h,i,y,z,A,b,C,D,q,c,o,jT,e,qb,qE,qi,wg,Part.raw,Part.V,f175]
      ·have hs:wE ⟨r,n1,s,a,[]⟩ k l[k]=some ⟨r,n1,s,a,[]⟩:=by simp[wE,q,c,m,d]
       have u:((k:Int)==0)=false:=by simpa using m
       have o:(a==(k:Int))=false:=by simpa using d
       rw[hs]at j;simp[w,x,f,h,i,y,z,A,b,C,D,q,c,K,u,m,o,Part.raw];exact⟨b,⟨r,n1,s,a,[]⟩,rfl,Int.le_trans P (by omega),H,⟨rfl,rfl,rfl,rfl⟩,j⟩
  ·obtain rfl:k=l.length:=by omega
   rw[zn]at j;simp only[yc]at j;rw[j]at e;simp[w,x,f,h,i,y,z,A,jT,e,G,qi,Part.raw,Part.V,f175]
 ·have L:=fun Y Z=>Za Fs t Y Z W
  cases T:oG t with
  |none=>simp[B,I,L,Fs,T,jT,zO,qb,qE,qi,bh,yf.V,Part.V,f175]
  |some v=>simp[B,I,L,Fs,T,jT,zO,qb,qE,qi,yf.V,Part.V,f175]
theorem bN:zf prog 175 (zg false [] (XB jT)):=
 Qu (fn:=f175) zar (qN func175) false [] _ fun args r h w S vs a=>by obtain⟨l,rfl,Y,rfl⟩:=zN h;obtain⟨b,c,d⟩:=dA l Y;exact⟨_,b,a,by simp[f175],c,d⟩
end Go.Q
