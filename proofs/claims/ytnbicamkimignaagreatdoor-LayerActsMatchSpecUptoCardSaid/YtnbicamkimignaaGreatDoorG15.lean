/- Lemmas. -/
import Derived.Shelf.SlSortCmp.InsertionK
import Derived.Sort.AssemblyPlain
import Derived.Shelf.SlSortCmp.WholeK
import Derived.Shelf.SlSortCmp.NoneTotal
import Derived.Test.YtnbicamkimignaaGreatDoorProg
import Derived.Test.YtnbicamkimignaaGreatDoorG14
set_option maxRecDepth 8000
open Go Proofs Proofs.YtnbicamkimignaaGreatDoor Proofs.Tryz RowKit AM SpanLaw Q Zz
namespace Go.Q
structure TO {α:Type} (c:α→α→Int):Prop where
 refl:∀x,c x x=0
 flip:∀x y,c x y<0↔0<c y x
 tr:∀x y z,c x y≤0→c y z≤0→c x z≤0
theorem TO.le{α:Type}{c:α→α→Int}(h:TO c)(x y:α):c x y≤0↔0≤c y x:=by have:=h.flip y x;omega
theorem TO.eq{α:Type}{c:α→α→Int}(h:TO c)(x y:α):c x y=0↔c y x=0:=by have a:=h.flip y x;have b:=h.flip x y;omega
theorem TO.trans{α:Type}{c:α→α→Int}(h:TO c){x y z:α}(e:c x y<0)(b:c y z<0):c x z<0:=by
 have d:=h.tr x y z (by omega) (by omega);rcases aX d with a|a
 ·exact a
 ·have f:=(h.eq x z).1 a;have g:=h.tr z x y (by omega) (by omega);have:=(h.flip y z).1 b;omega
theorem TO.ntrans{α:Type}{c:α→α→Int}(h:TO c){x y z:α}(a:0≤c x y)(b:0≤c y z):0≤c x z:=
 (h.le z x).1 (h.tr z y x ((h.le z y).2 b) ((h.le y x).2 a))
theorem TO.pull{α a:Type}{c:a→a→Int}(h:TO c)(f:α→a):TO fun x y=>c (f x) (f y):=⟨fun _=>h.refl _,fun _ _=>h.flip _ _,fun _ _ _=>h.tr _ _ _⟩
def YV{α:Type}(c d:α→α→Int)(x y:α):Int:=if c x y=0 then d x y else c x y
theorem TO.lex{α:Type}{c d:α→α→Int}(f:TO c)(hd:TO d):TO (YV c d) where
 refl x:=by simp[YV,f.refl,hd.refl]
 flip x y:=by
  unfold YV;have g:=f.flip x y;have i:=f.flip y x;have l:=hd.flip x y;by_cases h:c x y=0
  ·rw[zf h,zf ((f.eq x y).1 h)];exact l
  ·rw[zj h,zj (fun e=>h ((f.eq x y).2 e))];exact g
 tr x y z:=by
  unfold YV;intro g i;by_cases a:c x y=0<;>by_cases b:c y z=0
  ·rw[zf a]at g;rw[zf b]at i;have j:=f.tr x y z (by omega) (by omega);have k:=f.tr z y x (by have:=(f.eq y z).1 b;omega) (by have:=(f.eq x y).1 a;omega);have m:=(f.le z x).1 k;rw[zf (by omega)];exact hd.tr x y z g i
  ·rw[zj b]at i;have j:=f.tr x y z (by omega) i;by_cases e:c x z=0
   ·exfalso;have k:=f.tr z x y (by have:=(f.eq x z).1 e;omega) (by omega);have:=(f.flip y z).1 (by omega);omega
   ·rw[zj e];exact j
  ·rw[zj a]at g;have j:=f.tr x y z g (by omega);by_cases e:c x z=0
   ·exfalso;have k:=f.tr y z x (by omega) (by have:=(f.eq x z).1 e;omega);have:=(f.flip x y).1 (by omega);omega
   ·rw[zj e];exact j
  ·rw[zj a]at g;rw[zj b]at i;have:=f.trans (x:=x) (y:=y) (z:=z) (by omega) (by omega);rw[zj (by omega)];omega
theorem TO.zero{α:Type}:TO fun(_ _:α)=>(0:Int):=⟨fun _=>rfl,fun _ _=>by simp,fun _ _ _ _ _=>jb _⟩
theorem Iz{α:Type}{c:α→α→Int}(h:TO c):TO (y1 c) where
 refl l:=by
  induction l with
  |nil=>rfl
  |cons x l f=>simp[y1,h.refl,f]
 flip a b:=by
  induction a generalizing b with
  |nil=>cases b<;>simp[y1]
  |cons x a f=>
   cases b with
   |nil=>simp[y1]
   |cons y b=>
    simp only[y1];by_cases e:c x y=0
    ·rw[zf e,zf ((h.eq x y).1 e)];exact f b
    ·rw[zj e,zj (fun m=>e ((h.eq x y).2 m))];exact h.flip x y
 tr a b d:=by
  induction a generalizing b d with
  |nil=>cases d<;>simp[y1]
  |cons x a f=>
   cases b with
   |nil=>simp[y1]
   |cons y b=>
    cases d with
    |nil=>simp[y1]
    |cons z d=>
     simp only[y1];intro g i;by_cases p:c x y=0<;>by_cases q:c y z=0
     ·rw[zf p]at g;rw[zf q]at i;have j:=h.tr x y z (by omega) (by omega);have k:=h.tr z y x (by have:=(h.eq y z).1 q;omega) (by have:=(h.eq x y).1 p;omega);have n:=(h.le z x).1 k;rw[zf (by omega)];exact f b d g i
     ·rw[zj q]at i;have j:=h.tr x y z (by omega) i;by_cases e:c x z=0
      ·exfalso;have k:=h.tr z x y (by have:=(h.eq x z).1 e;omega) (by omega);have:=(h.flip y z).1 (by omega);omega
      ·rw[zj e];exact j
     ·rw[zj p]at g;have j:=h.tr x y z g (by omega);by_cases e:c x z=0
      ·exfalso;have k:=h.tr y z x (by omega) (by have:=(h.eq x z).1 e;omega);have:=(h.flip x y).1 (by omega);omega
      ·rw[zj e];exact j
     ·rw[zj p]at g;rw[zj q]at i;have:=h.trans (x:=x) (y:=y) (z:=z) (by omega) (by omega);rw[zj (by omega)];omega
theorem JN:TO ya:=⟨fun x=>by simp[ya],fun x y=>by unfold ya;split<;>split<;>(try split)<;>omega,fun x y z=>by unfold ya;repeat' split<;>omega⟩
theorem C4:∀a b:za,YF a b=y1 (fun x y:UInt8=>ya x.toNat y.toNat) a b
 |[],[]=>rfl
 |[],_::_=>rfl
 |_::_,[]=>rfl
 |x::a,y::b=>by
  have f:=C4 a b;simp only[y1];unfold YF at f⊢;simp only[Lib.compareBytes];rcases Nat.lt_trichotomy x.toNat y.toNat with h|h|h
  ·have c:x<y:=h;have e:ya x.toNat y.toNat=-1:=by unfold ya;rw[zf (by omega)]
   simp[c,e]
  ·have e:ya x.toNat y.toNat=0:=by unfold ya;rw[zj (by omega),zj (by omega)]
   have c:¬x<y:=by show¬x.toNat<y.toNat;omega
   have d:¬y<x:=by show¬y.toNat<x.toNat;omega
   simp[c,d,e,f]
  ·have c:¬x<y:=by show¬x.toNat<y.toNat;omega
   have d:y<x:=h;have e:ya x.toNat y.toNat=1:=by unfold ya;rw[zj (by omega),zf (by omega)]
   simp[c,d,e]
theorem aN:TO YF:=by
 have:YF=y1 (fun x y:UInt8=>ya x.toNat y.toNat):=by funext a b;exact C4 a b
 rw[this];exact Iz (JN.pull fun x:UInt8=>(x.toNat:Int))
noncomputable def fE (a:za):Int×Int×za×za:=if xX a=true then(0,(Lib.trimLeftB a 48).length,Lib.trimLeftB a 48,[])else(1,0,[],a)
theorem C5(a b:za):yc a b=YV (fun x y=>ya x.1 y.1) (YV (fun x y=>ya x.2.1 y.2.1) (YV (fun x y=>YF x.2.2.1 y.2.2.1) fun x y=>YF x.2.2.2 y.2.2.2)) (fE a) (fE b):=by
 unfold yc fE YV;have r:=aN.refl [];have e:ya 0 0=0:=rfl;have f:ya 1 1=0:=rfl;by_cases c:xX a=true<;>by_cases d:xX b=true
 ·simp only[c,d,wi,e,r,V4]
 ·simp[c,d,ya]
 ·simp[c,d,ya]
 ·simp[c,d,e,f,r]
theorem GA:TO yc:=by
 have:yc=fun a b=>YV (fun x y=>ya x.1 y.1) (YV (fun x y=>ya x.2.1 y.2.1) (YV (fun x y=>YF x.2.2.1 y.2.2.1) fun x y=>YF x.2.2.2 y.2.2.2)) (fE a) (fE b):=by funext a b;exact C5 a b
 rw[this];exact TO.pull (TO.lex (JN.pull fun x:Int×Int×za×za=>x.1) (TO.lex (JN.pull fun x:Int×Int×za×za=>x.2.1) (TO.lex (aN.pull fun x:Int×Int×za×za=>x.2.2.1) (aN.pull fun x:Int×Int×za×za=>x.2.2.2)))) fE
def dz(v:yJ):Int:=if v.pre.length=0 then 1 else 0
theorem PK(v w:yJ):Qn v w=YV (fun x y=>ya x.a y.a) (YV (fun x y=>ya x.b y.b) (YV (fun x y=>ya x.c y.c) (YV (fun x y=>ya (dz x) (dz y)) fun x y=>y1 yc x.pre y.pre))) v w:=by
 unfold Qn YV;by_cases d:ya v.a w.a=0
 ·by_cases e:ya v.b w.b=0
  ·by_cases f:ya v.c w.c=0
   ·simp only[V4,d,e,f,wi];by_cases p:v.pre.length=0<;>by_cases q:w.pre.length=0
    ·have g:v.pre=[]:=qo.1 p;have h:w.pre=[]:=qo.1 q;simp[dz,p,q,ya,g,h,y1]
    ·simp[dz,p,q,ya]
    ·simp[dz,p,q,ya]
    ·simp[dz,p,q,ya]
   ·simp[V4,d,e,f]
  ·simp[V4,d,e]
 ·simp[V4,d]
theorem zck:TO Qn:=by
 have:Qn=YV (fun x y=>ya x.a y.a) (YV (fun x y=>ya x.b y.b) (YV (fun x y=>ya x.c y.c) (YV (fun x y=>ya (dz x) (dz y)) fun x y=>y1 yc x.pre y.pre))):=by funext a b;exact PK a b
 rw[this];exact TO.lex (JN.pull fun x:yJ=>x.a) (TO.lex (JN.pull fun x:yJ=>x.b) (TO.lex (JN.pull fun x:yJ=>x.c) (TO.lex (JN.pull dz) ((Iz GA).pull fun x:yJ=>x.pre))))
def Mm(c:Cut):Int:=if c.after=true then 1 else 0
theorem PL(a b:Cut):wX a b=YV (fun x y=>Qn x.v y.v) (fun x y=>ya (Mm x) (Mm y)) a b:=by
 unfold wX YV;by_cases h:Qn a.v b.v=0
 ·simp only[h,wi];cases c:a.after<;>cases d:b.after<;>simp[Mm,c,d,ya]
 ·simp[h]
theorem wL:TO wX:=by
 have:wX=YV (fun x y=>Qn x.v y.v) (fun x y=>ya (Mm x) (Mm y)):=by funext a b;exact PL a b
 rw[this];exact TO.lex (zck.pull fun x:Cut=>x.v) (JN.pull Mm)
end Go.Q
namespace Go.AM
open Go.RowKit Go.Sort Go.Proofs
variable{dr:Prop}
def WZ(xs:List zc)(i:Nat):zc:=xs.getD (if i<xs.length then i else 0) []
theorem vi{xs:List zc}(h:xs≠[])(i:Nat):WZ xs i∈xs:=by
 have b:0<xs.length:=kz.2 h;have a:(if i<xs.length then i else 0)<xs.length:=by split<;>assumption
 unfold WZ;rw[KU,zu a];exact zm _
theorem PM{xs:List zc}{i:Nat}(h:i<xs.length):WZ xs i=xs[i]:=by unfold WZ;rw[zf h,KU,zu h];rfl
def nv(cf:zc→zc→Int)(xs:List zc)(i j:Nat):Int:=cf (WZ xs i) (WZ xs j)
def zlP(cf:zc→zc→Int)(xs:List zc):Array Nat:=pdq (ltOf (nv cf xs)) (Array.range xs.length) 0 xs.length (Lib.bitLen xs.length) true true
def Zo(cf:zc→zc→Int)(xs:List zc):List zc:=if xs.length=0 then[]else(zlP cf xs).toList.map (WZ xs)
structure Je (cf:List O→List O→Int) (xs:List (List O)):Prop where
 irrefl:∀x∈xs,0≤cf x x
 trans:∀x∈xs,∀y∈xs,∀z∈xs,cf x y<0→cf y z<0→cf x z<0
 ntrans:∀x∈xs,∀y∈xs,∀z∈xs,0≤cf x y→0≤cf y z→0≤cf x z
section
variable{cf:zc→zc→Int}{xs:List zc}
theorem IA{i j:Nat}(h:ltOf (nv cf xs) i j=true):cf (WZ xs i) (WZ xs j)<0:=QR h
theorem nw{i j:Nat}(h:ltOf (nv cf xs) i j=false):0≤cf (WZ xs i) (WZ xs j):=Int.not_lt.1 (of_decide_eq_false h)
theorem PN{i j:Nat}(h:cf (WZ xs i) (WZ xs j)<0):ltOf (nv cf xs) i j=true:=xE h
theorem IB{i j:Nat}(h:0≤cf (WZ xs i) (WZ xs j)):ltOf (nv cf xs) i j=false:=Ze (Int.not_lt.2 h)
theorem Je.swo(h:Je cf xs)(a:xs≠[]):SWO (ltOf (nv cf xs)) where
 irrefl i:=IB (h.irrefl _ (vi a i))
 trans i j k b c:=PN (h.trans _ (vi a i) _ (vi a j) _ (vi a k) (IA b) (IA c))
 ntrans i j k b c:=IB (h.ntrans _ (vi a i) _ (vi a j) _ (vi a k) (nw b) (nw c))
theorem Vn(h:Je cf xs)(a:xs≠[]):PermIn 0 xs.length (Array.range xs.length) (zlP cf xs)∧SortedIn (ltOf (nv cf xs)) 0 xs.length (zlP cf xs):=
 pdq_sorts (ltOf (nv cf xs)) (h.swo a) (Array.range xs.length) 0 xs.length (Lib.bitLen xs.length) true true (kD _) (by simp) (Or.inl rfl)
theorem Vo(h:Je cf xs)(a:xs≠[]):(zlP cf xs).size=xs.length:=by have:=(Vn h a).1.1;simpa using this
theorem YW(h:Je cf xs):(Zo cf xs).Perm xs:=by
 unfold Zo;split
 ·rename_i a;have:xs=[]:=qo.1 a;subst this;exact .refl _
 ·rename_i a;have c:xs≠[]:=by rintro rfl;simp at a
  obtain⟨k,_,d⟩:=(Vn h c).1;have hs:=Vo h c;have f:(zlP cf xs).extract 0 xs.length=zlP cf xs:=by rw[←hs];simp
  have g:(Array.range xs.length).extract 0 xs.length=Array.range xs.length:=by
   conv=>lhs;rw[show xs.length=(Array.range xs.length).size by simp]
   simp
  rw[f,g]at d;have e:=d.map (WZ xs);have j:(Array.range xs.length).toList.map (WZ xs)=xs:=by
   apply List.ext_getElem
   ·simp
   ·intro i l b;simp[PM b]
  rw[j]at e;exact e
theorem Vp(h:Je cf xs):(Zo cf xs).Pairwise (fun x y=>0≤cf y x):=by
 unfold Zo;split
 ·exact List.Pairwise.nil
 ·rename_i f;have c:xs≠[]:=by rintro rfl;simp at f
  have hs:=Vo h c;have g:=(Vn h c).2;rw[Ll,List.pairwise_iff_getElem];intro i j d a b;have e:=g i j (kD _) b (by simp at a;omega);simp at d a;rw[getElem!_pos _ i d,getElem!_pos _ j a]at e;simpa using nw e
theorem Yt(h:Je cf xs):(Zo cf xs).length=xs.length:=(YW h).length_eq
end
def Ap(P:Program)(f k:Nat):Prop:=
 (∀(α:Type) [Inhabited α] (V:α→List Value) (_:∀x,(V x).length=k) (_:∀x,∀v∈V x,v.oneCell'=true) (cf:α→α→Int) (_:SWO (ltOf cf)) (g:Nat) (blk off cap:Nat) (d:Array α) (w:World)
  (_:∀args w,(callFunc g args).run P w=.ok (.enter g args) w) (_:CmpLays P g #[] V k cf blk off d.size w) (_:HoldsK V k w blk off d) (_:blk<w.heap.size) (_:d.size<4611686018427387904),
  Calls P f #[.slice (some ⟨blk,off,none⟩) d.size cap,.func (.func g) #[] #[]] w fun e a=>
   e=.returned (.tuple #[])∧∃n b,a=sortWorldK V k w blk off n (pdq (ltOf cf) d 0 d.size (Lib.bitLen d.size) true true) b) ∧
 ∀(p:Option Addr) (cap:Nat) (c:Value) (w:World),Calls P f #[.slice p 0 cap,c] w fun e a=>e=.returned (.tuple #[])∧a=w
def IC(P:Program)(g k:Nat)(cf:zc→zc→Int)(dom:zc→Prop):Prop:=
 (∀args w,(callFunc g args).run P w=.ok (.enter g args) w)∧∃a,zg P g a∧∀x y,x.length=k→y.length=k→dom x→dom y→a [.agg x,.agg y] (fun _=>none) 0=some (.v (.int .i64 (cf x y)),fun _=>none,0)
open Classical in
noncomputable def KA (k:Nat) (g:Nat) (cf:zc→zc→Int) (dom:zc→Prop):AM.Spec:=fun args Y Z=>
 match args with
 |[.nil,.fn _ _ _]=>some (.yb [],Y,Z)
 |[.own id off n,.fn (.func a) [] []]=>if n=0 then some (.yb [],Y,Z)else match Y id with
  |some b=>if a=g∧b.arr=true∧b.s=k∧off+n≤b.es.length∧n<4611686018427387904∧Je cf ((b.es.drop off).take n)∧∀x∈(b.es.drop off).take n,dom x then
    some (.yb [],qZ Y id (some ⟨b.e,b.s,b.arr,b.es.take off++Zo cf ((b.es.drop off).take n)++b.es.drop (off+n)⟩),Z)else none
  |none=>none
 |_=>none
theorem GB{W a:World}(h:Fr True W (fun _=>False) a):∃q d,a=grow (W.drewN q) d:=by
 refine⟨a.drawn-W.drawn,a.heap.extract W.heap.size a.heap.size,?_⟩;obtain⟨b,f,e,p,c⟩:=a;obtain⟨g,j,k,o,l,m⟩:=h;simp only at g j k o l m;unfold grow World.drewN;simp only[World.mk.injEq];refine⟨?_,j,by have:=l trivial;omega,g,k⟩;apply Array.ext_getElem?;intro i;by_cases n:i<W.heap.size
 ·rw[m i n (fun h=>h),Array.getElem?_append_left n]
 ·rw[Array.getElem?_append_right (by omega),Array.getElem?_extract];by_cases r:i<b.size
  ·rw[zf (by omega)];congr 1;omega
  ·rw[zj (by omega),Array.getElem?_eq_none (by omega)]
theorem kJ.grown{P:Program}{Y:Hp}{Z:Nat}{S:Nat→Prop}{G:Nat→GI}{w d:World}(h:Inv P w S G Y Z)(c:Fr dr w (fun _=>False) d):kJ dr P Y Z S G w Y Z S G d:=by
 have e:∀b,b<w.heap.size→d.heap[b]?=w.heap[b]?:=fun b a=>c.block b a (fun h=>h)
 refine⟨⟨fun b a=>zlO (h.st b a) c.size,h.top,fun id b a=>?_,h.apart,h.inj,h.eR.mono fun b a=>⟨a,e b (h.st b a)⟩⟩,ze _,fun _ _=>rfl,fun _ a=>a,fun _ a=>.inl a,fun id b a=>.inl ⟨id,b,a,rfl⟩,⟨c.os,c.tape,c.output,c.size,c.drawn,fun k g _=>c.block k g (fun h=>h)⟩⟩;have f:=h.live id b a;exact f.mono (fun b a=>⟨a,e b (h.st b a)⟩) (ze _) (fun _ _=>rfl) (e _ f.lt)
theorem Vq{α:Type}[Inhabited α](V:α→List Value)(k:Nat)(w:World)(blk off m:Nat)(d:Array α)(a:Array Obj):Fr dr (putRowK V k w blk off d) (fun _=>False) (sortWorldK V k w blk off m d a):=by
 refine⟨rfl,rfl,rfl,?_,fun _=>?_,fun b c _=>?_⟩
 ·show _≤(_++a).size;rw[JL];exact Nat.le_add_right _ _
 ·exact Nat.le_add_right _ _
 ·exact Array.getElem?_append_left c
theorem Wx{α:Type}[Inhabited α](V:α→List Value)(k:Nat)(w:World)(blk off:Nat)(d:Array α){a:Array Value}{e:TypeId}(h:w.heap[blk]?=some (.cells a e (0,0))) :
  putRowK V k w blk off d=w.setRow blk (putCells (fun v:Value=>v) off (flatK V k d) a):=by
 unfold putRowK putRow mapBlock World.setRow;congr 1;apply Array.ext_getElem?;intro i;simp only[Ji];by_cases b:blk=i
 ·subst b;simp only[wi,h,zH,onCells];rfl
 ·simp[b]
section
variable{P:Program}{f k g:Nat}{cf:zc→zc→Int}{dom:zc→Prop}
theorem Xw(h0:0<k)(hfn:∃fn,P.funcs[f]?=some fn∧(fn.name== "runtime.NumGoroutine")=false∧fn.body.isNone=false)(hso:Ap P f k)(hco:IC P g k cf dom):km dr P f (KA k g cf dom):=by
 refine⟨hfn,?_⟩;intro args Y Z r Y' Z' h w S G vs T hz;unfold KA at h;split at h
 ·injection h with h;injection h with e1 h;injection h with e2 e3;subst e1;subst e2;subst e3;obtain⟨u,us,rfl,hu,z⟩:=hz.jl;obtain⟨v,us,rfl,hv,z⟩:=z.jl;obtain rfl:=z.Yi;obtain rfl:=hu.xc;refine(hso.2 none 0 v w).mono fun e w' hh=>?_
  obtain⟨rfl,rfl⟩:=hh;exact⟨_,_,_,rfl,.refl T,xp⟩
 ·rename_i id off n g';obtain⟨u,us,rfl,hu,z⟩:=hz.jl;obtain⟨v,us,rfl,hv,z⟩:=z.jl;obtain rfl:=z.Yi;have o:=hu.Zb;obtain⟨cap,g1,g2,g3,g4,rfl⟩:=hu.xd;split at h
  ·rename_i hn0;subst hn0;injection h with h
   injection h with e1 h;injection h with e2 e3;subst e1;subst e2;subst e3;refine(hso.2 _ cap v w).mono fun e w' hh=>?_
   obtain⟨rfl,rfl⟩:=hh;exact⟨_,_,_,rfl,.refl T,xp⟩
  rename_i hn0;split at h
  case h_2=>cases h
  rename_i b hb;split at h
  case isFalse=>cases h
  rename_i hc;obtain⟨rfl,harr,hbk,X,hn,hW,M⟩:=hc;injection h with h
  injection h with e1 h;injection h with e2 e3;subst e1;subst e2;subst e3;have d:=T.live id b hb;obtain⟨us,ts,rfl,hus,hts,_,_⟩:=hv.BR;obtain rfl:us=#[]:=Array.eq_empty_of_size_eq_zero (by simpa using hus.symm);obtain rfl:ts=#[]:=Array.eq_empty_of_size_eq_zero (by simpa using hts.symm);have A:(G id).s=k:=by rw[←d.bs];exact hbk
  obtain⟨N,c1,c2,c3⟩:=d.row o;rw[A]at c3 g4;obtain⟨xs,Q⟩:∃xs,(b.es.drop off).take n=xs:=⟨_,rfl⟩;rw[Q]at hW M;have H:xs.length=n:=by rw[←Q];simp;omega
  have I:xs≠[]:=by rintro rfl;simp at H;omega
  have B:∀x∈xs,x.length=k:=fun x I=>by rw[←A];rw[←Q]at I;exact d.len o x (zh1 (xG I))
  have hxg:∀i,i<n→xs[i]?=b.es[off+i]?:=fun i T=>by rw[←Q,qG,zf T,wF]
  let ix:Nat→Nat:=fun i=>if i<n then i else 0
  have hix:∀i,ix i<n:=fun i=>by show(if i<n then i else 0)<n;split<;>omega
  have hel:∀i,xs[ix i]?=some (WZ xs i):=fun i=>by
   unfold WZ;rw[KU];show xs[if i<n then i else 0]?=_;have:(if i<n then i else 0)<xs.length:=by rw[H];exact hix i
   rw[H,zu this];rfl
  let V:Nat→List Value:=fun i=>(List.range k).map fun j=>(N[(off+ix i)*k+j]?).getD undef
  have hek:∀x,(V x).length=k:=fun x=>by simp[V]
  have l:∀i j C,(WZ xs i)[j]?=some C→∃u,N[(off+ix i)*k+j]?=some u∧(V i)[j]?=some u∧wT w S C u∧u.oneCell'=true:=fun i j C hj=>by
   have J:j<k:=by have:=(zq.1 hj).1;rw[B _ (vi I i)]at this;exact this
   obtain⟨u,U,L⟩:=c3 (off+ix i) j (WZ xs i) C (by rw[←hxg _ (hix i)];exact hel i) hj;rw[harr]at L;refine⟨u,U,?_,L.1 rfl,L.2.2⟩;simp[V,J,U]
  have E:∀i j,j<k→∃C,(WZ xs i)[j]?=some C:=fun i j hj=>by
   have:j<(WZ xs i).length:=by rw[B _ (vi I i)];exact hj
   exact⟨_,zu this⟩
  have h1c:∀x,∀v∈V x,v.oneCell'=true:=fun x v hv=>by obtain⟨j,hj,rfl⟩:=qX.1 hv;obtain⟨C,hpv⟩:=E x j (ZV.1 hj);obtain⟨u,U,_,_,q4⟩:=l x j C hpv;rw[U];exact q4
  have hblk:(G id).g<w.heap.size:=d.lt;have F:∀m D (p:Array Nat) K,S K→(sortWorldK V k w (G id).g (off*k) m p D).heap[K]?=w.heap[K]?:=fun m D p K a=>by
   have R:K<(putRowK V k w (G id).g (off*k) p).heap.size:=by rw[Wx V k w _ _ p c1,size_setRow];exact T.st K a
   rw[(Vq (dr:=True) V k w (G id).g (off*k) m p D).block K R (fun h=>h),Wx V k w _ _ p c1];exact setRow_other _ _ _ _ fun e=>T.apart id b hb (e ▸ a)
  have zh6:∀m D (p:Array Nat),w.heap.size≤(sortWorldK V k w (G id).g (off*k) m p D).heap.size:=fun m D p=>by have:=(Vq (dr:=True) V k w (G id).g (off*k) m p D).size;rw[Wx V k w _ _ p c1,size_setRow]at this;exact this
  obtain⟨eg,spec,hsp,TC⟩:=hco;have hcmp:CmpLays P g' #[] V k (nv cf xs) (G id).g (off*k) n w:=by
   intro m D p hdk x y;have hagg:∀x,wT (sortWorldK V k w (G id).g (off*k) m p D) S (.agg (WZ xs x)) (.agg (V x).toArray):=fun x=>by
    refine .agg (by simp[hek,B _ (vi I x)]) fun j C u hj hu=>?_
    obtain⟨u',_,L,q3,_⟩:=l x j C hj;have:u=u':=by simpa[L]using hu.symm
    subst this;exact q3.mono fun K a=>⟨a,F m D p K a⟩
   have:=hsp.2 _ _ _ _ _ _ (TC _ _ (B _ (vi I x)) (B _ (vi I y)) (M _ (vi I x)) (M _ (vi I y))) (sortWorldK V k w (G id).g (off*k) m p D) S G [.agg (V x).toArray,.agg (V y).toArray]
    ⟨fun K a=>zlO (T.st K a) (zh6 m D p),fun _ _ h=>(nomatch h),fun _ _ h=>(nomatch h),fun _ _ h=>(nomatch h),fun _ _ _ _ h=>(nomatch h),T.eR.mono fun K a=>⟨a,F m D p K a⟩⟩ (.cons (.c (hagg x)) (.cons (.c (hagg y)) .nil))
   refine this.mono fun e w' hh=>?_
   obtain⟨v,S',G',rfl,st,hv⟩:=hh;obtain⟨rfl,_⟩:=hv.yH;refine⟨rfl,GB ⟨st.fr.os,st.fr.tape,st.fr.output,st.fr.size,st.fr.drawn,fun k hk _=>st.fr.block k hk ?_⟩⟩;rintro⟨_,_,h,_⟩;cases h
  have hH:HoldsK V k w (G id).g (off*k) (Array.range n):=by
   intro t ht;have ht':t<n*k:=by simpa using ht
   have hd:=Nat.div_add_mod t k;have hm:=Nat.mod_lt t h0;have hdl:t/k<n:=(Nat.div_lt_iff_lt_mul h0).2 ht';rw[get_flatK _ _ _ _ (by simpa using ht')];have hr:(Array.range n)[t/k]! = t/k:=by rw[getElem!_pos _ _ (by simpa using hdl)];simp
   obtain⟨C,hpv⟩:=E (t/k) (t % k) hm;obtain⟨u,U,L,_,_⟩:=l (t/k) (t % k) C hpv;have hixe:ix (t/k)=t/k:=zf hdl;constructor
   ·rw[cell_of_row w _ _ N _ _ c1,hr,List.getElem!_eq_getElem?_getD,L];rw[hixe]at U;have:off*k+t=(off+t/k)*k+t % k:=by rw[yL,zb8 (t/k) k];omega
    rw[this,U];rfl
   ·simp[World.frozen?,c1]
  have hsw:=hW.swo I;have key:=hso.1 Nat V hek h1c (nv cf xs) hsw g' (G id).g (off*k) cap (Array.range n) w eg (by simpa using hcmp) hH hblk (by simpa using hn);have es1:(Array.range n).size=n:=by simp
  rw[es1]at key;rw[A];refine key.mono fun e w' hh=>?_
  obtain⟨rfl,m,D,rfl⟩:=hh;have hidx:pdq (ltOf (nv cf xs)) (Array.range n) 0 n (Lib.bitLen n) true true=zlP cf xs:=by unfold zlP;rw[H]
  rw[hidx];have hds:(zlP cf xs).size=n:=by rw[Vo hW I,H]
  have N5:(Zo cf xs).length=n:=by rw[Yt hW,H]
  have hpl:off+(Zo cf xs).length≤b.es.length:=by rw[N5];exact X
  have hsg:∀i,i<n→(Zo cf xs)[i]?=some (WZ xs (zlP cf xs)[i]!):=fun i hin=>by unfold Zo;rw[zj (by omega),wy,Array.getElem?_toList,getElem!_pos _ i (by omega),V3 (by omega)];rfl
  refine⟨_,S,G,rfl,?_,xp⟩;rw[Q];have Lp:=kJ.set (dr:=dr) T hb o (putCells (fun v:Value=>v) (off*k) (flatK V k (zlP cf xs)) N) (b.es.take off++Zo cf xs++b.es.drop (off+n)) (by simp[putCells,c2])
   (fun c hc=>by
    rw[qj]at hc;rcases qP.1 hc with hc|hc
    ·exact d.len o c (xG hc)
    rcases qP.1 hc with hc|hc
    ·rw[A];exact B c ((YW hW).mem_iff.1 hc)
    ·exact d.len o c (zh1 hc))
   (by have:=Wt b.es (Zo cf xs) off hpl;rw[N5]at this;rw[this];exact d.fit o)
   (fun i j c C q W=>by
    have hspl:=vN b.es (Zo cf xs) off i hpl;rw[N5]at hspl;rw[hspl]at q;rw[A];split at q
    ·rename_i hin;rw[hsg _ (by omega)]at q;injection q with q
     subst q;have J:j<k:=by have:=(zq.1 W).1;rw[B _ (vi I _)]at this;exact this
     obtain⟨u,U,L,q3,q4⟩:=l _ j C W;refine⟨u,?_,fun _=>q3,.c q3,q4⟩;obtain⟨i',rfl⟩:∃i',i=off+i':=⟨i-off,by omega⟩;have e1:off+i'-off=i':=by omega
     rw[e1]at L;have e2:(off+i')*k+j=off*k+(i'*k+j):=by rw[yL];omega
     have R:i'*k+j<n*k:=Qu (by omega) J;have hcl:off*k+(i'*k+j)<N.size:=by rw[c2];have:=d.fit o;rw[A]at this;have h5:(off+n)*k≤b.es.length*k:=qB k X;rw[yL]at h5;omega
     rw[e2];unfold putCells;rw[Array.getElem?_mapIdx,V3 hcl];simp only[zH,size_flatK,hds];rw[zf ⟨by omega,by omega⟩,show off*k+(i'*k+j)-off*k=i'*k+j by omega,get_flatK _ _ _ _ (by rw[hds];exact R)];have e3:(i'*k+j)/k=i':=by rw[zb8,Nat.mul_add_div h0,Nat.div_eq_of_lt J];rfl
     have e4:(i'*k+j) % k=j:=by rw[zb8,Nat.mul_add_mod,Nat.mod_eq_of_lt J]
     rw[e3,e4,List.getElem!_eq_getElem?_getD,L];rfl
    ·rename_i hin;obtain⟨u,U,L⟩:=c3 i j c C q W;refine⟨u,?_,L⟩;have J:j<k:=by have:=(zq.1 W).1;rw[d.len o c (zO q),A]at this;exact this
     unfold putCells;rw[Array.getElem?_mapIdx,U];simp only[zH,size_flatK,hds];rw[zj];rintro⟨a1,a2⟩;apply hin;constructor
     ·apply Fo.1;intro R;have:(i+1)*k≤off*k:=qB k R;rw[yL]at this;omega
     ·apply Nat.not_le.1;intro hle;have:(off+n)*k≤i*k:=qB k hle;rw[yL]at this;omega)
  rw[←Wx V k w _ _ _ c1]at Lp;exact Lp.trans (kJ.grown Lp.inv (Vq V k w (G id).g (off*k) m (zlP cf xs) D))
 ·cases h
end
end Go.AM
namespace Go.Q
open Classical in
noncomputable def PO (x y:zc):Int:=if h:∃a b:Cut,x=a.V∧y=b.V then wX (Classical.choose h) (Classical.choose (jN h))else 0
theorem Yu(a b:Cut):PO a.V b.V=wX a b:=by have h:∃c d:Cut,a.V=c.V∧b.V=d.V:=⟨a,b,rfl,rfl⟩;unfold PO;rw[zjj h];have e:=jN (jN h);exact congr (zD wX (Wd e.1).symm) (Wd e.2).symm
def wE(l:List Cut):List zc:=l.map Cut.V
theorem PQ(l:List Cut):Je PO (wE l) where
 irrefl x d:=by obtain⟨a,_,rfl⟩:=qX.1 d;rw[Yu,wL.refl];exact jb _
 trans x d y e z f:=by obtain⟨a,_,rfl⟩:=qX.1 d;obtain⟨b,_,rfl⟩:=qX.1 e;obtain⟨c,_,rfl⟩:=qX.1 f;rw[Yu,Yu,Yu];exact wL.trans
 ntrans x d y e z f:=by obtain⟨a,_,rfl⟩:=qX.1 d;obtain⟨b,_,rfl⟩:=qX.1 e;obtain⟨c,_,rfl⟩:=qX.1 f;rw[Yu,Yu,Yu];exact wL.ntrans
def U8(x:zc):Prop:=∃a:Cut,x=a.V∧a.v.small
theorem zd4:IC prog 239 5 PO U8:=by
 refine⟨fun args w=>?_,_,QE,fun x y _ _ c d=>?_⟩
 ·have h:prog.funcs[239]?=some f239:=func239;simp[callFunc,h,f239]
 ·obtain⟨a,rfl,e⟩:=c;obtain⟨b,rfl,f⟩:=d;rw[Yu];exact Kz a b _ _ e f
open Classical in
noncomputable def GD (x:zc):Cut:=if h:∃a:Cut,x=a.V then Classical.choose h else wA
theorem PR(a:Cut):GD a.V=a:=by have h:∃c:Cut,a.V=c.V:=⟨a,rfl⟩;unfold GD;rw[zjj h];exact(Wd (jN h)).symm
theorem Xx(l:List Cut):(wE l).map GD=l:=by
 induction l with
 |nil=>rfl
 |cons a l b=>show GD a.V::(wE l).map GD=_;rw[PR,b]
theorem Xy(l:List Cut):∃s:List Cut,Zo PO (wE l)=wE s∧s.Perm l∧s.Pairwise fun a b=>wX a b≤0:=by
 have Y:=YW (PQ l);have hs:=Vp (PQ l);have c:∀(r:List zc),(∀x∈r,∃a:Cut,x=a.V)→∃s:List Cut,r=wE s:=by
  intro r
  induction r with
  |nil=>intro _;exact⟨[],rfl⟩
  |cons x r d=>
   intro h;obtain⟨a,rfl⟩:=h x (by simp);obtain⟨s,rfl⟩:=d fun y f=>h y (by simp[f])
   exact⟨a::s,rfl⟩
 obtain⟨s,e⟩:=c (Zo PO (wE l)) fun x g=>by have:=Y.mem_iff.1 g;obtain⟨a,_,rfl⟩:=qX.1 this;exact⟨a,rfl⟩
 rw[e]at Y hs;refine⟨s,e,?_,?_⟩
 ·have:=Y.map GD;rwa [Xx,Xx]at this
 ·rw[wE,Ll]at hs;refine hs.imp fun{a b} h=>?_
  rw[Yu]at h;exact(wL.le a b).2 h
end Go.Q
namespace Go.Q
def QG(out:List wR)(c:Cut):List wR:=match out.getLast? with
 |some s=>out.dropLast++[⟨s.lo,c,false⟩]
 |none=>out
def bu(b:Cut→Bool)(a:Bool×List wR)(c:Cut):Bool×List wR:=(b c,if(b c&&!a.1)=true then a.2++[yw c]else if(!b c&&a.1)=true then QG a.2 c else a.2)
theorem Mn(a:Cut→Bool)(b:Bool×List wR)(c:Cut):bu a (bu a b c) c=bu a b c:=by unfold bu;cases a c<;>simp
def VY(a:Cut→Bool)(l:List Cut)(b:Bool×List wR):Bool×List wR:=l.foldl (bu a) b
open Classical in
noncomputable def dA:List Cut→List Cut
 |[]=>[]
 |a::l=>match dA l with
  |[]=>[a]
  |b::r=>if a=b then b::r else a::b::r
theorem ny(c:Cut→Bool):∀(l:List Cut) (d:Bool×List wR),VY c l d=VY c (dA l) d
 |[],d=>rfl
 |a::l,d=>by
  have f:=ny c l (bu c d a);show VY c l (bu c d a)=_;rw[f];simp only[dA];split
  ·rename_i e;rw[e];rfl
  ·rename_i b r e;rw[e];split
   ·rename_i h;subst h;show VY c r (bu c (bu c d a) a)=VY c r (bu c d a);rw[Mn]
   ·rfl
theorem fF:∀(l:List Cut) (c:Cut),c∈dA l↔c∈l
 |[],c=>by simp[dA]
 |a::l,c=>by
  have d:=fF l c;simp only[dA];split
  ·rename_i e;rw[e]at d;simp only[zL,List.not_mem_nil,or_false];rw[←d];simp
  ·rename_i b r e;rw[e]at d;split
   ·rename_i h;subst h;rw[zL (b:=a) (l:=l),←d];simp
   ·rw[zL,zL (b:=a) (l:=l),d]
theorem dB:∀(l:List Cut) (_:∀a∈l,∀b∈l,wX a b=0→a=b),(l.Pairwise fun a b=>wX a b≤0)→(dA l).Pairwise fun a b=>wX a b<0
 |[],_,_=>.nil
 |a::l,j,hs=>by
  obtain⟨m,n⟩:=wv.1 hs;have f:=dB l (fun x o y p=>j x (by simp[o]) y (by simp[p])) n;simp only[dA];split
  ·simp
  ·rename_i b r e;rw[e]at f;split
   ·exact f
   ·rename_i g;refine wv.2 ⟨fun c i=>?_,f⟩;have k:b∈l:=(fF l b).1 (by rw[e];simp);have d:wX a b<0:=by
     rcases aX (m b k)with h|h
     ·exact h
     ·exact absurd (j a (by simp) b (by simp[k]) h) g
    rcases zL.1 i with rfl|i
    ·exact d
    ·exact wL.trans d ((wv.1 f).1 c i)
theorem sQ:∀(x y:List Cut),(x.Pairwise fun a b=>wX a b<0)→(y.Pairwise fun a b=>wX a b<0)→(∀c,c∈x↔c∈y)→x=y
 |[],[],_,_,_=>rfl
 |[],b::y,_,_,h=>absurd ((h b).2 (by simp)) (by simp)
 |a::x,[],_,_,h=>absurd ((h a).1 (by simp)) (by simp)
 |a::x,b::y,l,m,h=>by
  obtain⟨j,n⟩:=wv.1 l;obtain⟨k,o⟩:=wv.1 m;have d:∀c:Cut,¬wX c c<0:=fun c=>by rw[wL.refl];omega
  have i:a=b:=by
   rcases zL.1 ((h a).1 (by simp))with e|p
   ·exact e
   ·rcases zL.1 ((h b).2 (by simp))with e|q
    ·exact e.symm
    ·exact absurd (wL.trans (j b q) (k a p)) (d a)
  subst i;rw[sQ x y n o fun c=>?_];constructor
  ·intro g;rcases zL.1 ((h c).1 (by simp[g]))with e|f
   ·subst e;exact absurd (j c g) (d c)
   ·exact f
  ·intro g;rcases zL.1 ((h c).2 (by simp[g]))with e|f
   ·subst e;exact absurd (k c g) (d c)
   ·exact f
def wz:List wR→List Cut
 |[]=>[]
 |s::l=>(if s.vL=true then[s.lo]else[s.lo,s.hi])++wz l
theorem Wy(a b:List wR):wz (a++b)=wz a++wz b:=by
 induction a with
 |nil=>rfl
 |cons s a c=>simp only[q9,wz,c,qj]
theorem Z7(a:List wR):(wz a).length≤2*a.length:=by
 induction a with
 |nil=>simp[wz]
 |cons s a b=>simp only[wz,ye,qa];split<;>simp<;>omega
theorem YX{Q:Cut→Prop}{a:List wR}(h:∀s∈a,Q s.lo∧Q s.hi):∀c∈wz a,Q c:=by
 induction a with
 |nil=>intro c hc;cases hc
 |cons s a d=>
  intro c hc;obtain⟨b,e⟩:=h s (by simp);simp only[wz,qP]at hc;rcases hc with hc|hc
  ·split at hc
   ·rw[jy]at hc;rw[hc];exact b
   ·simp only[zL,List.not_mem_nil,or_false]at hc;rcases hc with rfl|rfl
    ·exact b
    ·exact e
  ·exact d (fun x f=>h x (by simp[f])) c hc
noncomputable def QH (l:List Cut):List Cut:=(Zo PO (wE l)).map GD
theorem GF(l:List Cut):Zo PO (wE l)=wE (QH l):=by obtain⟨s,h,_⟩:=Xy l;unfold QH;rw[h,Xx]
theorem Zp(l:List Cut):(QH l).Perm l:=by obtain⟨s,h,a,_⟩:=Xy l;unfold QH;rw[h,Xx];exact a
theorem pW(l:List Cut):(QH l).Pairwise fun a b=>wX a b≤0:=by obtain⟨s,h,_,c⟩:=Xy l;unfold QH;rw[h,Xx];exact c
noncomputable def vj (f:Bool→Bool→Bool) (a b:List wR):List wR:=(VY (fun c=>f (yP a c) (yP b c)) (QH (wz a++wz b)) (false,[])).2
theorem C6(out:List wR)(c:Cut):(QG out c).length=out.length:=by
 unfold QG;split
 ·rename_i s h;have:out≠[]:=by rintro rfl;cases h
  have:=kz.2 this;simp;omega
 ·rfl
theorem ID(b:Cut→Bool):∀(l:List Cut) (a:Bool×List wR),2*(VY b l a).2.length+(if a.1=true then 1 else 0)≤2*a.2.length+l.length+(if(VY b l a).1=true then 1 else 0)
 |[],a=>by show 2*a.2.length+(if a.1=true then 1 else 0)≤2*a.2.length+0+(if a.1=true then 1 else 0);omega
 |c::l,a=>by
  have d:=ID b l (bu b a c);have e:VY b (c::l) a=VY b l (bu b a c):=rfl;rw[e];have hs:2*(bu b a c).2.length+(if a.1=true then 1 else 0)≤2*a.2.length+1+(if(bu b a c).1=true then 1 else 0):=by obtain⟨o,out⟩:=a;unfold bu;cases b c<;>cases o<;>simp[C6]<;>omega
  simp only[qa];omega
theorem KB(f:Bool→Bool→Bool)(a b:List wR):(vj f a b).length≤a.length+b.length:=by have h:=ID (fun c=>f (yP a c) (yP b c)) (QH (wz a++wz b)) (false,[]);have d:=(Zp (wz a++wz b)).length_eq;have e:=Z7 a;have g:=Z7 b;rw[ye]at d;unfold vj;simp only[zU,wK,vV]at h;split at h<;>omega
theorem C7{Q:Cut→Prop}{out:List wR}{c:Cut}(h:∀s∈out,Q s.lo∧Q s.hi)(b:Q c):∀s∈QG out c,Q s.lo∧Q s.hi:=by
 unfold QG;split
 ·rename_i s hs;intro x a;rcases qP.1 a with a|a
  ·exact h x (List.dropLast_subset _ a)
  ·rw[jy]at a;rw[a];exact⟨(h s (List.mem_of_getLast? hs)).1,b⟩
 ·exact h
theorem IE{Q:Cut→Prop}(d:Q QV)(b:Cut→Bool):∀(l:List Cut) (a:Bool×List wR),(∀c∈l,Q c)→(∀s∈a.2,Q s.lo∧Q s.hi)→∀s∈(VY b l a).2,Q s.lo∧Q s.hi
 |[],a,_,h=>h
 |c::l,a,e,h=>by
  refine IE d b l (bu b a c) (fun x g=>e x (by simp[g])) ?_;have f:=e c (by simp);unfold bu;dsimp only;split
  ·intro s hs;rcases qP.1 hs with hs|hs
   ·exact h s hs
   ·rw[jy]at hs;rw[hs];exact⟨f,d⟩
  ·split
   ·exact C7 h f
   ·exact h
theorem sR{Q:Cut→Prop}(d:Q QV)(f:Bool→Bool→Bool){a b:List wR}(e:∀s∈a,Q s.lo∧Q s.hi)(g:∀s∈b,Q s.lo∧Q s.hi):∀s∈vj f a b,Q s.lo∧Q s.hi:=
 IE d _ _ _ (fun c i=>by
  have:=(Zp _).mem_iff.1 i;rcases qP.1 this with h|h
  ·exact YX e c h
  ·exact YX g c h) (fun s hs=>by cases hs)
end Go.Q
namespace Go.AM
variable{dr:Prop}
def fG(p:List (Option Nat))(b:jz):jz:=⟨b.e,b.s,b.arr,b.es.map (Z4 p)⟩
theorem vu.fixed{P:Program}{w:World}{S:Nat→Prop}{G:Nat→GI}{Z:Nat}{k:GI}{b:jz}(h:vu P w S G Z k b)(f:0<k.s)(q:b.arr=true)(p:List (Option Nat)):vu P w S G Z k (fG p b):=by
 refine vu.xb f h.bs ⟨h.size f,fun c r=>?_,by simpa[fG]using h.fit f,?_⟩
 ·obtain⟨a,d,rfl⟩:=qX.1 r;rw[xl];exact h.len f a d
 ·obtain⟨l,t,v,x⟩:=h.row f;refine⟨l,t,v,fun i j c B e m=>?_⟩;simp only[fG,wy]at e;obtain⟨a,d,rfl⟩:∃a,b.es[i]?=some a∧Z4 p a=c:=by
   cases n:b.es[i]? with
   |none=>rw[n]at e;cases e
   |some a=>rw[n]at e;injection e with e;exact⟨a,rfl,e⟩
  have g:j<a.length:=by have:=(zq.1 m).1;rwa [xl]at this
  obtain⟨u,y,z,_,A⟩:=x i j a a[j] d (zu g);have o:=(Zx p a).get (zu g) m _ _ _ (z q);exact⟨u,y,fun _=>o,.c o,A⟩
theorem kJ.fixed{P:Program}{Y:Hp}{Z:Nat}{S:Nat→Prop}{G:Nat→GI}{w:World}{Y2:Hp}{g:Nat}{m:Nat→Prop}{j:Nat→GI}{n:World}(k:kJ dr P Y Z S G w Y2 g m j n)
  {id:Nat} {b:jz} (o:Y2 id=some b) (r:b.arr=true) (t:0<(j id).s) (p:List (Option Nat)):kJ dr P Y Z S G w (qZ Y2 id (some (fG p b))) g m j n:=by
 have d:∀k c,qZ Y2 id (some (fG p b)) k=some c→∃f,Y2 k=some f:=fun k c q=>by
  by_cases e:k=id
  ·subst e;exact⟨b,o⟩
  ·rw[qY _ _ _ _ e]at q;exact⟨c,q⟩
 refine⟨⟨k.inv.st,fun i c a=>?_,fun i c a=>?_,fun i c a=>?_,fun i i' c u a l v=>?_,k.inv.eR⟩,k.up,k.loc,k.ZC,k.from_,fun i c a=>?_,k.fr⟩
 ·obtain⟨f,h⟩:=d i c a;exact k.inv.top i f h
 ·by_cases e:i=id
  ·subst e;rw[w9]at a;injection a with a
   subst a;exact(k.inv.live i b o).fixed t r p
  ·rw[qY _ _ _ _ e]at a;exact k.inv.live i c a
 ·obtain⟨f,h⟩:=d i c a;exact k.inv.apart i f h
 ·obtain⟨f,h⟩:=d i c a;obtain⟨x,y⟩:=d i' u l;exact k.inv.inj i i' f x h y v
 ·obtain⟨f,h⟩:=d i c a;exact k.own i f h
def v8(a:List Sh)(F:zc→Option (Option jz)):AM.Spec:=yO [] fun args=>F (YR a args)
def C8(p:List (Option Nat))(r:Option jz)(x:O)(Y:Hp)(_:Nat):Prop:=match r with
 |none=>x=.nil
 |some b=>∃id a,x=.own id 0 a.es.length∧Y id=some a∧a.arr=true∧b=fG p a
section
variable{C:Ctx}{pf:FuncId→Bool}{f:FuncId}{fn:Func}{code:Code}
theorem JZ(U:Yj dr C pf)(l:Xk C pf f fn)(z:List Sh)(p:List (Option Nat))(F:zc→Option (Option jz))(W:∀args r,F args=some r→args.length≤fn.ntmps∧∃x Y Z,yr C fn args (fun _=>none) 0=some (x,Y,Z)∧C8 p r x Y Z) :
  km dr C.P f (v8 z F):=by
 obtain⟨_,l⟩:=l;refine⟨⟨fn,l.func,l.name,by rw[l.body];rfl⟩,?_⟩;intro args Y Z r Y' Z' h w S G vs hi hz;unfold v8 yO at h;split at h
 ·rename_i aZ Y1 A;obtain⟨S1,g,t,_⟩:=jC (dr:=dr) hi A hz;have j:∀id b,Y1 id=some b→Y1 id=some b∧¬False:=fun id b h=>⟨h,fun h=>h⟩
  split at h
  ·rename_i m;obtain⟨B,x,E,H,n,d⟩:=W _ none m;injection h with h
   injection h with I h;injection h with J K;subst I;subst J;subst K;simp only[C8]at d;subst d;refine(xq U l n B g.inv.st g.inv.eR (Km (Qy t))).mono fun e w' L=>?_
   obtain⟨v,S',G',M,N,a,Q,o,q,_⟩:=L;have R:=Kg (dr:=dr) (D:=fun _=>False) (Y2:=Y1) g.inv j (fun _ h=>h.elim) N a o (fun b T=>(q b T).imp (fun h=>h) .inr);have:=Q.xc;subst this;exact⟨_,_,_,M,g.trans R,.c .nil⟩
  ·rename_i b m;obtain⟨B,x,E,H,n,d⟩:=W _ (some b) m;injection h with h
   injection h with I h;injection h with J K;subst I;subst J;subst K;obtain⟨id,s,rfl,hid,k,rfl⟩:=d;refine(xq U l n B g.inv.st g.inv.eR (Km (Qy t))).mono fun e w' L=>?_
   obtain⟨v,S',G',M,N,a,Q,o,q,u⟩:=L;have R:=da (dr:=dr) (D:=fun _=>False) (Y2:=Y1) g.inv j (fun _ h=>h.elim) N a o (fun b T=>(q b T).imp (fun h=>h) .inr) hid k (.inr (u id s hid));have y:=db (Z:=Z) (G:=G) Q;have X:=R.fixed (id:=Z) (by simp) k y.Zb p;rw[show qZ (qZ Y1 Z (some s)) Z (some (fG p s))=qZ Y1 Z (some (fG p s)) by funext i;unfold qZ;split<;>rfl]at X;refine⟨_,_,_,M,g.trans X,?_⟩;rw[show(fG p s).es.length=s.es.length by simp[fG]];exact y
  ·cases h
 ·cases h
end
end Go.AM
namespace Go.Proofs
open Go.Shelf
def Tryz.N7:Go.Shelf.Ren:=⟨fun|6=>238|15=>68|14=>267|28=>106|29=>107|20=>293|21=>294|22=>295|23=>296|24=>297|25=>298|26=>299|27=>300|46=>330|47=>133|48=>134|49=>331|50=>332|57=>345|n=>n,fun|22=>258|24=>237|25=>261|3=>3|39=>109|0=>0|53=>147|55=>149|4=>4|46=>141|45=>140|50=>43|5=>5|9=>9|66=>172|70=>176|76=>196|77=>191|n=>n,fun|n=>n⟩
theorem Tryz.zc9:Go.Proofs.SlLaysF0.n6 prog Tryz.N7:={
 mixed:=by kernel_rfl
 f6:=⟨f238.name,by decide,func238.trans (zD some (by kernel_rfl))⟩
 f14:=⟨f267.name,by decide,func267.trans (zD some (by kernel_rfl))⟩
 f15:=func68.trans (zD some (by kernel_rfl))
 f20:=⟨f293.name,by decide,func293.trans (zD some (by kernel_rfl))⟩
 f21:=⟨f294.name,by decide,func294.trans (zD some (by kernel_rfl))⟩
 f22:=⟨f295.name,by decide,func295.trans (zD some (by kernel_rfl))⟩
 f23:=⟨f296.name,by decide,func296.trans (zD some (by kernel_rfl))⟩
 f24:=⟨f297.name,by decide,func297.trans (zD some (by kernel_rfl))⟩
 f25:=⟨f298.name,by decide,func298.trans (zD some (by kernel_rfl))⟩
 f26:=⟨f299.name,by decide,func299.trans (zD some (by kernel_rfl))⟩
 f27:=⟨f300.name,by decide,func300.trans (zD some (by kernel_rfl))⟩
 f28:=func106.trans (zD some (by kernel_rfl))
 f29:=func107.trans (zD some (by kernel_rfl))
 f46:=⟨f330.name,by decide,func330.trans (zD some (by kernel_rfl))⟩
 f47:=func133.trans (zD some (by kernel_rfl))
 f48:=func134.trans (zD some (by kernel_rfl))
 f49:=⟨f331.name,by decide,func331.trans (zD some (by kernel_rfl))⟩
 f50:=⟨f332.name,by decide,func332.trans (zD some (by kernel_rfl))⟩
 f57:=⟨f345.name,by decide,func345.trans (zD some (by kernel_rfl))⟩
 t0:=underlying0
 a0:=isAgg0
 z0:=sizeOf0
 v0:=zeroValue0
 t3:=underlying3
 a3:=isAgg3
 z3:=sizeOf3
 v3:=zeroValue3
 t4:=underlying4
 a4:=isAgg4
 z4:=sizeOf4
 v4:=zeroValue4
 t5:=underlying5
 a5:=isAgg5
 z5:=sizeOf5
 v5:=zeroValue5
 t9:=underlying9
 a9:=isAgg9
 z9:=sizeOf9
 v9:=zeroValue9
 t22:=underlying258
 a22:=isAgg258
 z22:=sizeOf258
 v22:=zeroValue258
 t25:=underlying261
 a25:=isAgg261
 z25:=sizeOf261
 v25:=zeroValue261
 t39:=underlying109
 a39:=isAgg109
 z39:=sizeOf109
 v39:=zeroValue109
 t45:=underlying140
 a45:=isAgg140
 z45:=sizeOf140
 v45:=zeroValue140
 t46:=underlying141
 a46:=isAgg141
 z46:=sizeOf141
 v46:=zeroValue141
 t50:=underlying43
 a50:=isAgg43
 z50:=sizeOf43
 v50:=zeroValue43
 t53:=underlying147
 a53:=isAgg147
 z53:=sizeOf147
 v53:=zeroValue147
 t55:=underlying149
 a55:=isAgg149
 z55:=sizeOf149
 v55:=zeroValue149
 t66:=underlying172
 a66:=isAgg172
 z66:=sizeOf172
 v66:=zeroValue172
 t70:=underlying176
 a70:=isAgg176
 z70:=sizeOf176
 v70:=zeroValue176
 t76:=underlying196
 a76:=isAgg196
 z76:=sizeOf196
 v76:=zeroValue196
 t77:=underlying191
 a77:=isAgg191
 z77:=sizeOf191
 v77:=zeroValue191}
theorem Tryz.TD:Ap prog 238 5:=⟨fun _ _ V e f h i g blk off cap d w j a k b c=>AnyQ.slices_SortFunc_eq Tryz.zc9 5 isAgg237 sizeOf237 V e f h i g #[] blk off cap d w j a k b c,
 fun p cap l w=>AnyF.slices_SortFunc_none Tryz.zc9 p cap l w⟩
end Go.Proofs
