/- Lemmas. -/
import Derived.Shelf.SlSortCmp.WholeK
import Derived.Shelf.SlSortCmp.NoneTotal
import Derived.Test.YtjnfibncnabkmaaGreatDoorProg
import Derived.RangeFuncBox
import Derived.RangeFuncLeaves
import Derived.Shelf.Abstract
import Derived.WalkKit
import Derived.OwnWalkIn
import Derived.TacticsInMore
import Derived.LoopNIn
import Derived.LoopIn
import Derived.Test.YtjnfibncnabkmaaGreatDoorG7
set_option maxRecDepth 100000
set_option maxHeartbeats 4000000
open Go Proofs Proofs.YtjnfibncnabkmaaGreatDoor Proofs.Tryz RowKit AM SpanLaw Q Zz
namespace Go.Q
noncomputable def vA (s:wG) (c:Cut):Bool:=decide (wP s.lo c<=0)&&(s.vm||decide (wP c s.hi<0))
def wG.small(s:wG):Prop:=s.lo.v.small/\s.hi.v.small
theorem Kj(x y:Cut)(Y:Hp)(Z:Nat)(a:x.v.small)(b:y.v.small):qK [.g jQ,.g jQ] (B9 fun v w=>int (wP v w)) [.agg x.V,.agg y.V] Y Z=some (int (wP x y),Y,Z):=uo x y (.agg x.V) (.agg y.V) Y Z (uw x) (uw y) (by simp only[zH,Oy]) a b
noncomputable abbrev Hs:Ctx:=qj prog [(145,qK [.g jQ,.g jQ] (B9 fun v w=>int (wP v w)))]
theorem OD:AM.Good Hs (fun g=>[145].contains g):=qx mixed ⟨Qt,fun _=>jn _ _,trivial⟩
theorem Fp:zi prog 198 (kX Hs f198):=J3 OD func198
theorem OE(s:wG)(c:Cut)(hs:s.small)(a:c.v.small)(Y:Hp)(Z id:Nat)(hid:id<Z)(b:Y id=some ⟨113,5,false,[c.V]⟩) :
  kX Hs f198 [.agg s.V,.ref id 0 0] Y Z=some (yh (vA s c),qf Y Z (some ⟨115,11,false,[s.V]⟩),Z+1):=by
 unfold kX;rw[zg (by simp[f198])];refine xK rfl ?_;have d:=fun Y Z=>Kj s.lo c Y Z hs.1 a
 have e:=fun Y Z=>Kj c s.hi Y Z a hs.2
 have f:¬id=Z:=by omega
 simp only[Cut.V]at d e b;by_cases g:wP s.lo c<=0<;>cases h:s.vm <;>
  simp[wG.V,Cut.V,d,e,b,f,g,h,vA,f198]
noncomputable def fh (c:Cut):Nat->List wG->Int
 |_,[]=>-1
 |k,s::l=>if vA s c=true then k else fh c (k+1) l
theorem Ch(c:Cut):∀(l:List wG) (k:Nat),decide (0<=fh c k l)=l.any (vA · c)
 |[],k=>by simp[fh]
 |s::l,k=>by
  by_cases h:vA s c=true
  ·have e:fh c k (s::l)=k:=by simp only[fh,zg h]
   rw[e,kV,h];simp
  ·have e:fh c k (s::l)=fh c (k+1) l:=by simp only[fh,zf h]
   rw[e,Ch c l (k+1),kV,Bool.eq_false_iff.2 h];rfl
noncomputable abbrev Up:Ctx:=qj prog [(198,kX Hs f198)]
theorem Uq:Gd Up:=qQ mixed ⟨Fp,trivial⟩
theorem Lo:zi prog 244 (kX Up f244):=J3 Uq func244
def Tj(id:Nat):O:=.fn (.func 198) [] [.ref id 0 0]
def OG(r:O)(Y:Hp)(Z:Nat)(x:O)(a:Hp)(b:Nat):Prop:=x=r/\Z<=b/\∀j,j<Z->a j=Y j
theorem Ur(l:List wG)(c:Cut)(A:l.length<=qg)(hs:∀s∈l,s.small)(B:c.v.small)(m:Hp)(i id:Nat)(hid:id<i)(C:m id=some ⟨113,5,false,[c.V]⟩) :
  ∃x w y,kX Up f244 [.sl 11 (qn l),Tj id] m i=some (x,w,y)/\OG (int (fh c 0 l)) m i x w y:=by
 unfold kX;rw[zg (by simp[f244])];refine w9 rfl ?_;unfold qg at A;have f:(qn l).length=l.length:=by simp[qn]
 simp[Tj,f];refine ql (fun k M Y Z=>M 0=.sl 11 (qn l)/\M 1=Tj id/\M 7=int l.length/\M 8=int k/\i<=Z/\(∀j,j<i->Y j=m j)/\fh c 0 l=fh c k (l.drop k)) l.length ⟨by simp,by simp[Tj],by simp,by simp,zk _,fun _ _=>rfl,by simp⟩ ?_;rintro k M Y Z D ⟨o,p,q,r,t,d,e⟩;by_cases b:k<l.length
 ·have z:=wv k;have a:=OE l[k] c (hs _ (zw b)) B Y Z id (by omega) (by rw[d id hid];exact C);have g:∀h:k<(qn l).length,(qn l)[k]=l[k].V:=fun h=>by simp[qn]
  simp only[wG.V,Cut.V,qU,xE]at a g;rw[zl b]at e;simp only[fh]at e;cases n:vA l[k] c
  ·rw[n,zf (by simp)]at e;rw[n]at a;simp[o,p,q,r,Tj,b,f,g,a,z];exact⟨b,by omega,fun j u=>by rw[w5 _ _ _ _ (by omega)];exact d j u,e⟩
  ·rw[n,zg rfl]at e;rw[n]at a;simp[o,p,q,r,Tj,b,f,g,a,z,f244];exact⟨by rw[e],by omega,fun j u=>by rw[w5 _ _ _ _ (by omega)];exact d j u⟩
 ·obtain rfl:k=l.length:=by omega
  rw[zA]at e;simp only[fh]at e;simp[o,p,q,r,f244];exact⟨by rw[e],t,d⟩
noncomputable abbrev Us:Ctx:=qj prog [(244,kX Up f244)]
theorem Ut:Gd Us:=qQ mixed ⟨Lo,trivial⟩
theorem Lp:zi prog 197 (kX Us f197):=J3 Ut func197
noncomputable def yE (l:List wG) (c:Cut):Bool:=l.any (vA · c)
theorem Uu(l:List wG)(c:Cut)(g:l.length<=qg)(hs:∀s∈l,s.small)(h:c.v.small)(a:Hp)(b id:Nat)(hid:id<b)(i:a id=some ⟨113,5,false,[c.V]⟩) :
  ∃x d e,kX Us f197 [.sl 11 (qn l),Tj id] a b=some (x,d,e)/\OG (yh (yE l c)) a b x d e:=by
 unfold kX;rw[zg (by simp[f197])];refine w9 rfl ?_;obtain⟨x,d,e,f,j,k,m⟩:=Ur l c g hs h a b id hid i;subst j;have n:=Ch c l 0;simp only[Tj]at f;simp[Tj,f,n,OG,yE,k,f197];exact m
noncomputable abbrev Ccov:Ctx:=qj prog [(197,kX Us f197)]
theorem Uv:Gd Ccov:=qQ mixed ⟨Lp,trivial⟩
def jU(l:List wG):Prop:=l.length<=qg/\∀s∈l,s.small
theorem nc{a b:wG}(h:a.V=b.V):a=b:=by obtain⟨⟨⟨s,t,u,v⟩,w⟩,⟨⟨x,y,z,A⟩,g⟩,i⟩:=a;obtain⟨⟨⟨B,C,D,E⟩,F⟩,⟨⟨G,H,I,J⟩,j⟩,k⟩:=b;simp only[wG.V,Cut.V,qU,xE,zq,qh]at h;obtain⟨l,m,n,c,o,p,q,r,d,e,f⟩:=h;injection c with _ c;injection d with _ d;rw[qA l,qA m,qA n,v8 c,Yl o,qA p,qA q,qA r,v8 d,Yl e,Yl f]
theorem Z4{a b:List wG}(h:qn a=qn b):a=b:=Yc (fun _ _ e=>nc e) h
noncomputable def FRC (f:List wG->Cut->O):zb->Option O:=qW (α:=List wG×Cut) (fun a=>[.sl 11 (qn a.1),.agg a.2.V]) (fun a=>jU a.1/\a.2.v.small) (fun a=>f a.1 a.2)
theorem zdk:∀a b:List wG×Cut,[O.sl 11 (qn a.1),.agg a.2.V]=[O.sl 11 (qn b.1),.agg b.2.V]->a=b:=by rintro⟨f,g⟩ ⟨h,i⟩ e;simp only[zq,qh]at e;obtain⟨c,d⟩:=e;injection c with _ c;injection d with d;rw[Z4 c,Q0 d]
theorem Cj(l:List wG)(c:Cut)(a:jU l)(d:c.v.small):zG Ccov f146 [.sl 11 (qn l),.agg c.V]=some (yh (yE l c)):=by refine zu rfl ?_;obtain⟨x,f,g,b,e,h,i⟩:=Uu l c a.1 a.2 d (qf (fun _=>none) 0 (some ⟨113,5,false,[c.V]⟩)) 1 0 (by omega) (by simp);subst e;simp only[Tj,Cut.V]at b;simp[Cut.V,b,yx,f146]
theorem uy:zi prog 146 (qK [.s 11 jA,.g jQ] (FRC fun l c=>yh (yE l c))):=
 yf (fn:=f146) Uv (wc func146) _ _ fun args r h=>by obtain⟨⟨l,c⟩,rfl,⟨a,b⟩,rfl⟩:=zL h;exact⟨by simp[f146],_,Cj l c a b,wW.refl _⟩
structure TO {α:Type} (c:α->α->Int):Prop where
 refl:∀x,c x x=0
 flip:∀x y,c x y<0↔0<c y x
 tr:∀x y z,c x y<=0->c y z<=0->c x z<=0
theorem TO.le{α:Type}{c:α->α->Int}(h:TO c)(x y:α):c x y<=0↔0<=c y x:=by have:=h.flip y x;omega
theorem TO.eq{α:Type}{c:α->α->Int}(h:TO c)(x y:α):c x y=0↔c y x=0:=by have a:=h.flip y x;have b:=h.flip x y;omega
theorem TO.trans{α:Type}{c:α->α->Int}(h:TO c){x y z:α}(e:c x y<0)(b:c y z<0):c x z<0:=by
 have d:=h.tr x y z (by omega) (by omega);rcases aO d with a|a
 ·exact a
 ·have f:=(h.eq x z).1 a;have g:=h.tr z x y (by omega) (by omega);have:=(h.flip y z).1 b;omega
theorem TO.ntrans{α:Type}{c:α->α->Int}(h:TO c){x y z:α}(a:0<=c x y)(b:0<=c y z):0<=c x z:=
 (h.le z x).1 (h.tr z y x ((h.le z y).2 b) ((h.le y x).2 a))
theorem TO.pull{α a:Type}{c:a->a->Int}(h:TO c)(f:α->a):TO fun x y=>c (f x) (f y):=⟨fun _=>h.refl _,fun _ _=>h.flip _ _,fun _ _ _=>h.tr _ _ _⟩
def xD{α:Type}(c d:α->α->Int)(x y:α):Int:=if c x y=0 then d x y else c x y
theorem TO.lex{α:Type}{c d:α->α->Int}(f:TO c)(hd:TO d):TO (xD c d) where
 refl x:=by simp[xD,f.refl,hd.refl]
 flip x y:=by
  unfold xD;have g:=f.flip x y;have i:=f.flip y x;have l:=hd.flip x y;by_cases h:c x y=0
  ·rw[zg h,zg ((f.eq x y).1 h)];exact l
  ·rw[zf h,zf (fun e=>h ((f.eq x y).2 e))];exact g
 tr x y z:=by
  unfold xD;intro g i;by_cases a:c x y=0<;>by_cases b:c y z=0
  ·rw[zg a]at g;rw[zg b]at i;have j:=f.tr x y z (by omega) (by omega);have k:=f.tr z y x (by have:=(f.eq y z).1 b;omega) (by have:=(f.eq x y).1 a;omega);have m:=(f.le z x).1 k;rw[zg (by omega)];exact hd.tr x y z g i
  ·rw[zf b]at i;have j:=f.tr x y z (by omega) i;by_cases e:c x z=0
   ·exfalso;have k:=f.tr z x y (by have:=(f.eq x z).1 e;omega) (by omega);have:=(f.flip y z).1 (by omega);omega
   ·rw[zf e];exact j
  ·rw[zf a]at g;have j:=f.tr x y z g (by omega);by_cases e:c x z=0
   ·exfalso;have k:=f.tr y z x (by omega) (by have:=(f.eq x z).1 e;omega);have:=(f.flip x y).1 (by omega);omega
   ·rw[zf e];exact j
  ·rw[zf a]at g;rw[zf b]at i;have:=f.trans (x:=x) (y:=y) (z:=z) (by omega) (by omega);rw[zf (by omega)];omega
theorem lh{α:Type}{c:α->α->Int}(h:TO c):TO (yl c) where
 refl l:=by
  induction l with
  |nil=>rfl
  |cons x l f=>simp[yl,h.refl,f]
 flip a b:=by
  induction a generalizing b with
  |nil=>cases b<;>simp[yl]
  |cons x a f=>
   cases b with
   |nil=>simp[yl]
   |cons y b=>
    simp only[yl];by_cases e:c x y=0
    ·rw[zg e,zg ((h.eq x y).1 e)];exact f b
    ·rw[zf e,zf (fun m=>e ((h.eq x y).2 m))];exact h.flip x y
 tr a b d:=by
  induction a generalizing b d with
  |nil=>cases d<;>simp[yl]
  |cons x a f=>
   cases b with
   |nil=>simp[yl]
   |cons y b=>
    cases d with
    |nil=>simp[yl]
    |cons z d=>
     simp only[yl];intro g i;by_cases p:c x y=0<;>by_cases q:c y z=0
     ·rw[zg p]at g;rw[zg q]at i;have j:=h.tr x y z (by omega) (by omega);have k:=h.tr z y x (by have:=(h.eq y z).1 q;omega) (by have:=(h.eq x y).1 p;omega);have n:=(h.le z x).1 k;rw[zg (by omega)];exact f b d g i
     ·rw[zf q]at i;have j:=h.tr x y z (by omega) i;by_cases e:c x z=0
      ·exfalso;have k:=h.tr z x y (by have:=(h.eq x z).1 e;omega) (by omega);have:=(h.flip y z).1 (by omega);omega
      ·rw[zf e];exact j
     ·rw[zf p]at g;have j:=h.tr x y z g (by omega);by_cases e:c x z=0
      ·exfalso;have k:=h.tr y z x (by omega) (by have:=(h.eq x z).1 e;omega);have:=(h.flip x y).1 (by omega);omega
      ·rw[zf e];exact j
     ·rw[zf p]at g;rw[zf q]at i;have:=h.trans (x:=x) (y:=y) (z:=z) (by omega) (by omega);rw[zf (by omega)];omega
theorem ZX:TO wI:=⟨fun x=>by simp[wI],fun x y=>by unfold wI;split<;>split<;>(try split)<;>omega,fun x y z=>by unfold wI;repeat' split<;>omega⟩
theorem Cl:∀a b:za,yW a b=yl (fun x y:UInt8=>wI x.toNat y.toNat) a b
 |[],[]=>rfl
 |[],_::_=>rfl
 |_::_,[]=>rfl
 |x::a,y::b=>by
  have f:=Cl a b;simp only[yl];unfold yW at f⊢;simp only[Lib.compareBytes];rcases Nat.lt_trichotomy x.toNat y.toNat with h|h|h
  ·have c:x<y:=h;have e:wI x.toNat y.toNat=-1:=by unfold wI;rw[zg (by omega)]
   simp[c,e]
  ·have e:wI x.toNat y.toNat=0:=by unfold wI;rw[zf (by omega),zf (by omega)]
   have c:¬x<y:=by show¬x.toNat<y.toNat;omega
   have d:¬y<x:=by show¬y.toNat<x.toNat;omega
   simp[c,d,e,f]
  ·have c:¬x<y:=by show¬x.toNat<y.toNat;omega
   have d:y<x:=h;have e:wI x.toNat y.toNat=1:=by unfold wI;rw[zf (by omega),zg (by omega)]
   simp[c,d,e]
theorem kL:TO yW:=by
 have:yW=yl (fun x y:UInt8=>wI x.toNat y.toNat):=by funext a b;exact Cl a b
 rw[this];exact lh (ZX.pull fun x:UInt8=>(x.toNat:Int))
noncomputable def fi (a:za):Int×Int×za×za:=if xv a=true then(0,(Lib.trimLeftB a 48).length,Lib.trimLeftB a 48,[])else(1,0,[],a)
theorem Cm(a b:za):yb a b=xD (fun x y=>wI x.1 y.1) (xD (fun x y=>wI x.2.1 y.2.1) (xD (fun x y=>yW x.2.2.1 y.2.2.1) fun x y=>yW x.2.2.2 y.2.2.2)) (fi a) (fi b):=by
 unfold yb fi xD;have r:=kL.refl [];have e:wI 0 0=0:=rfl;have f:wI 1 1=0:=rfl;by_cases c:xv a=true<;>by_cases d:xv b=true
 ·simp only[c,d,zK,e,r,KE]
 ·simp[c,d,wI]
 ·simp[c,d,wI]
 ·simp[c,d,e,f,r]
theorem Fq:TO yb:=by
 have:yb=fun a b=>xD (fun x y=>wI x.1 y.1) (xD (fun x y=>wI x.2.1 y.2.1) (xD (fun x y=>yW x.2.2.1 y.2.2.1) fun x y=>yW x.2.2.2 y.2.2.2)) (fi a) (fi b):=by funext a b;exact Cm a b
 rw[this];exact TO.pull (TO.lex (ZX.pull fun x:Int×Int×za×za=>x.1) (TO.lex (ZX.pull fun x:Int×Int×za×za=>x.2.1) (TO.lex (kL.pull fun x:Int×Int×za×za=>x.2.2.1) (kL.pull fun x:Int×Int×za×za=>x.2.2.2)))) fi
def di(v:yC):Int:=if v.pre.length=0 then 1 else 0
theorem OH(v w:yC):QM v w=xD (fun x y=>wI x.a y.a) (xD (fun x y=>wI x.b y.b) (xD (fun x y=>wI x.c y.c) (xD (fun x y=>wI (di x) (di y)) fun x y=>yl yb x.pre y.pre))) v w:=by
 unfold QM xD;by_cases d:wI v.a w.a=0
 ·by_cases e:wI v.b w.b=0
  ·by_cases f:wI v.c w.c=0
   ·simp only[KE,d,e,f,zK];by_cases p:v.pre.length=0<;>by_cases q:w.pre.length=0
    ·have g:v.pre=[]:=qM.1 p;have h:w.pre=[]:=qM.1 q;simp[di,p,q,wI,g,h,yl]
    ·simp[di,p,q,wI]
    ·simp[di,p,q,wI]
    ·simp[di,p,q,wI]
   ·simp[KE,d,e,f]
  ·simp[KE,d,e]
 ·simp[KE,d]
theorem zbu:TO QM:=by
 have:QM=xD (fun x y=>wI x.a y.a) (xD (fun x y=>wI x.b y.b) (xD (fun x y=>wI x.c y.c) (xD (fun x y=>wI (di x) (di y)) fun x y=>yl yb x.pre y.pre))):=by funext a b;exact OH a b
 rw[this];exact TO.lex (ZX.pull fun x:yC=>x.a) (TO.lex (ZX.pull fun x:yC=>x.b) (TO.lex (ZX.pull fun x:yC=>x.c) (TO.lex (ZX.pull di) ((lh Fq).pull fun x:yC=>x.pre))))
def Lq(c:Cut):Int:=if c.after=true then 1 else 0
theorem OI(a b:Cut):wP a b=xD (fun x y=>QM x.v y.v) (fun x y=>wI (Lq x) (Lq y)) a b:=by
 unfold wP xD;by_cases h:QM a.v b.v=0
 ·simp only[h,zK];cases c:a.after<;>cases d:b.after<;>simp[Lq,c,d,wI]
 ·simp[h]
theorem wy:TO wP:=by
 have:wP=xD (fun x y=>QM x.v y.v) (fun x y=>wI (Lq x) (Lq y)):=by funext a b;exact OI a b
 rw[this];exact TO.lex (zbu.pull fun x:Cut=>x.v) (ZX.pull Lq)
mutual
noncomputable def qG:Val->Val->Int
 | .mk k n s a b,w=>if k=w.kind then(if k=1\/k=2 then wI n w.n else if k=3 then yW s w.s else if k=4 then lG a w.items else if k=5 then lH b w.fields else 0)else wI k w.kind
noncomputable def lG:List Val->List Val->Int
 |[],[]=>0
 |[],_::_=>-1
 |_::_,[]=>1
 |a::xs,b::ys=>if qG a b=0 then lG xs ys else qG a b
noncomputable def lH:List (za×Val)->List (za×Val)->Int
 |[],[]=>0
 |[],_::_=>-1
 |_::_,[]=>1
 |(x,a)::xs,g::ys=>if KE [yW x g.1,qG a g.2]=0 then lH xs ys else KE [yW x g.1,qG a g.2]
end
noncomputable def jN (f g:za×Val):Int:=KE [yW f.1 g.1,qG f.2 g.2]
theorem nd:∀a b:List Val,lG a b=yl qG a b
 |[],[]=>rfl
 |[],_::_=>rfl
 |_::_,[]=>rfl
 |a::xs,b::ys=>by simp only[lG,yl,nd xs ys]
theorem nf:∀a b:List (za×Val),lH a b=yl jN a b
 |[],[]=>rfl
 |[],_::_=>rfl
 |_::_,[]=>rfl
 |(x,a)::xs,g::ys=>by simp only[lH,yl,nf xs ys,jN];rfl
theorem xk(a b:Val):qG a b=if a.kind=b.kind then(if a.kind=1\/a.kind=2 then wI a.n b.n else if a.kind=3 then yW a.s b.s else if a.kind=4 then yl qG a.items b.items else if a.kind=5 then yl jN a.fields b.fields else 0)else wI a.kind b.kind:=by
 cases a with
 |mk k n s e f=>
  cases b with
  |mk k' g h c d=>simp only[qG,nd,nf,Val.kind,Val.n,Val.s,Val.items,Val.fields];rfl
noncomputable def OJ (n:Nat):zb->Option O:=qW (α:=Val×Val) (fun a=>[.agg a.1.V,.agg a.2.V]) (fun a=>a.1.vb<=qg/\a.1.vb<=n/\a.2.vb<=qg) (fun a=>int (qG a.1 a.2))
theorem Qv(n:Nat)(a b:Val)(Y:Hp)(Z:Nat)(h:a.vb<=qg/\a.vb<=n/\b.vb<=qg):zn false [] (OJ n) [.agg a.V,.agg b.V] Y Z=some (int (qG a b),Y,Z):=
 jm (Y1:=Y) (show zH Y [.agg a.V,.agg b.V]=some ([.agg a.V,.agg b.V],Y) by simp only[zH,YG])
  (qX (V:=fun a:Val×Val=>[.agg a.1.V,.agg a.2.V]) (a:=(a,b)) (fun x y e=>by obtain⟨c,d⟩:=x;obtain⟨f,g⟩:=y;simp only[zq,qh,O.agg.injEq]at e;rw[xq e.1,xq e.2]) h) (.inl rfl)
theorem Kk{f:FuncId}{F:zb->Option O}(b:∃fn,prog.funcs[f]?=some fn/\(fn.name== "runtime.NumGoroutine")=false/\fn.body.isNone=false)(h:∀args r,F args=some r->False):zi prog f (zn false [] F):=by
 refine⟨b,fun args Y Z r d e a=>?_⟩;unfold zn at a;split at a
 ·split at a
  ·rename_i r0 c;exact(h _ _ c).elim
  ·cases a
 ·cases a
theorem Yp{a b:za×Val}(h:wN a=wN b):a=b:=by obtain⟨c,d⟩:=a;obtain⟨e,f⟩:=b;simp only[wN,zq]at h;rw[yp h.1,xq h.2]
theorem rV{a b:List (za×Val)}(h:a.map wN=b.map wN):a=b:=Yc (fun _ _=>Yp) h
theorem fj{a b:List Val}(h:a.map Val.V=b.map Val.V):a=b:=Yc (fun _ _=>xq) h
noncomputable abbrev Ccfv (n:Nat):Ctx:=qj prog [(64,zn false []<|OJ n)]
theorem dj(n:Nat)(a b:List (Val))(p:kh a<=qg/\kh a<=n)(t:kh b<=qg):zG (Ccfv n) f83 [.sl 5 (a.map Val.V),.sl 5 (b.map Val.V),.fn (.func 64) [] []]=some (int (yl qG a b)):=by
 refine zu rfl ?_;obtain⟨p,u⟩:=p;have y:=yT a;have z:=yT b;unfold qg at p t;simp;refine ql (fun k M Y Z=>M 0=.sl 5 (a.map Val.V)/\M 1=.sl 5 (b.map Val.V)/\M 2=.fn (.func 64) [] []/\M 11=.sl 5 (a.map Val.V)/\M 12=int a.length/\M 13=int k/\k<=b.length/\yl qG a b=yl qG (a.drop k) (b.drop k)) a.length
  ⟨by simp,by simp,by simp,by simp,by simp,by simp,by simp,by simp⟩ ?_
 rintro k M Y Z A ⟨j,l,m,f,g,h,v,c⟩;by_cases d:k<a.length
 ·have w:=wv k;by_cases e:k<b.length
  ·have i:¬b.length<=k:=by omega
   have B:=jZ (zw d);have C:=jZ (zw e);have s:=fun Y Z=>Qv n a[k] b[k] Y Z ⟨by unfold qg;omega,by omega,by unfold qg;omega⟩
   skip
   rw[zl d,zl e]at c;simp only[yl]at c;by_cases o:qG a[k] b[k]=0
   ·rw[zg o]at c;simp[j,l,m,f,g,h,d,e,i,s,o,w];exact⟨d,by omega,c⟩
   ·rw[zf o]at c;have q:=VF o;simp[j,l,m,f,g,h,d,e,i,s,q,c,f83]
  ·obtain rfl:k=b.length:=by omega
   rw[zl d,zA]at c;simp only[yl]at c;simp[j,l,m,f,g,h,d,c,f83]
 ·obtain rfl:k=a.length:=by omega
  rw[zA]at c;by_cases r:a.length<b.length
  ·rw[zl r]at c;simp only[yl]at c;simp[j,l,m,f,g,h,r,c,f83]
  ·rw[vj (by omega)]at c;simp only[yl]at c;have x:¬((a.length:Int)<b.length):=by omega
   simp[j,l,m,f,g,h,r,c,f83]
noncomputable def FLV (n:Nat):zb->Option O:=qW (α:=List (Val)×List (Val)) (fun a=>[.sl 5 (a.1.map Val.V),.sl 5 (a.2.map Val.V),.fn (.func 64) [] []]) (fun a=>(kh a.1<=qg/\kh a.1<=n)/\kh a.2<=qg) (fun a=>int (yl qG a.1 a.2))
theorem OK(n:Nat)(a b:List (Val))(Y:Hp)(Z:Nat)(h:(kh a<=qg/\kh a<=n)/\kh b<=qg):zn false [] (FLV n) [.sl 5 (a.map Val.V),.sl 5 (b.map Val.V),.fn (.func 64) [] []] Y Z=some (int (yl qG a b),Y,Z):=
 jm (Y1:=Y) (by simp) (qX (V:=fun a:List (Val)×List (Val)=>[O.sl 5 (a.1.map Val.V),.sl 5 (a.2.map Val.V),.fn (.func 64) [] []]) (a:=(a,b)) (fun x y e=>by obtain⟨f,g⟩:=x;obtain⟨i,j⟩:=y;simp only[zq,qh]at e;obtain⟨c,d⟩:=e;injection c with _ c;injection d with _ d;rw[fj c,fj d]) h) (.inl rfl)
noncomputable def FFF (n:Nat):zb->Option O:=qW (α:=(za×Val)×(za×Val)) (fun a=>[.agg (wN a.1),.agg (wN a.2)]) (fun a=>(a.1.2.vb<=qg/\a.1.2.vb<=n/\a.2.2.vb<=qg)) (fun a=>int (jN a.1 a.2))
theorem OL(n:Nat)(a b:za×Val)(Y:Hp)(Z:Nat)(h:a.2.vb<=qg/\a.2.vb<=n/\b.2.vb<=qg):zn false [] (FFF n) [.agg (wN a),.agg (wN b)] Y Z=some (int (jN a b),Y,Z):=
 jm (Y1:=Y) (show zH Y [.agg (wN a),.agg (wN b)]=some ([.agg (wN a),.agg (wN b)],Y) by simp[wN])
  (qX (V:=fun a:(za×Val)×(za×Val)=>[.agg (wN a.1),.agg (wN a.2)]) (a:=(a,b)) (fun x y e=>by
   obtain⟨d,f⟩:=x;obtain⟨g,i⟩:=y;have c:wN d=wN g/\wN f=wN i:=by simp only[zq,qh,O.agg.injEq]at e;exact⟨zq .. ▸ e.1,zq .. ▸ e.2⟩
   rw[Yp c.1,Yp c.2]) h) (.inl rfl)
noncomputable abbrev Ccfl (n:Nat):Ctx:=qj prog [(82,zn false [] (M1 yW)),(64,zn false [] (OJ n)),(129,zn false [] M3)]
theorem bQ(n:Nat)(a b:za×Val)(h:a.2.vb<=qg/\a.2.vb<=n/\b.2.vb<=qg):zG (Ccfl n) f85 [.agg (wN a),.agg (wN b)]=some (int (jN a b)):=by
 refine zu rfl ?_;have c:=fun Y Z=>Qv n a.2 b.2 Y Z h
 have d:∀(Y:Hp) (Z id:Nat),Y id=some ⟨3,1,true,[[int (yW a.1 b.1)],[int (qG a.2 b.2)]]⟩->zn false [] M3 [.own id 0 2] Y Z=some (int (jN a b),Y,Z):=fun Y Z id e=>dd [_,_] Y Z id _ (by show 2<=qg;decide) e
 simp[wN,c,d,zs,zF,zr,f85]
noncomputable abbrev Ccff (n:Nat):Ctx:=qj prog [(85,zn false []<|FFF n)]
theorem dk(n:Nat)(a b:List (za×Val))(p:QJ a<=qg/\QJ a<=n)(t:QJ b<=qg):zG (Ccff n) f84 [.sl 6 (a.map wN),.sl 6 (b.map wN),.fn (.func 85) [] []]=some (int (yl jN a b)):=by
 refine zu rfl ?_;obtain⟨p,u⟩:=p;have y:=kC a;have z:=kC b;unfold qg at p t;simp;refine ql (fun k M Y Z=>M 0=.sl 6 (a.map wN)/\M 1=.sl 6 (b.map wN)/\M 2=.fn (.func 85) [] []/\M 11=.sl 6 (a.map wN)/\M 12=int a.length/\M 13=int k/\k<=b.length/\yl jN a b=yl jN (a.drop k) (b.drop k)) a.length
  ⟨by simp,by simp,by simp,by simp,by simp,by simp,by simp,by simp⟩ ?_
 rintro k M Y Z A ⟨j,l,m,f,g,h,v,c⟩;by_cases d:k<a.length
 ·have w:=wv k;by_cases e:k<b.length
  ·have i:¬b.length<=k:=by omega
   have B:=Zb (zw d);have C:=Zb (zw e);have q:=fun Y Z=>OL n a[k] b[k] Y Z ⟨by unfold qg;omega,by omega,by unfold qg;omega⟩
   simp only[wN]at q;rw[zl d,zl e]at c;simp only[yl]at c;by_cases o:jN a[k] b[k]=0
   ·rw[zg o]at c;simp[j,l,m,f,g,h,d,e,i,q,o,w];exact⟨d,by omega,c⟩
   ·rw[zf o]at c;have r:=VF o;simp[j,l,m,f,g,h,d,e,i,q,r,c,f84]
  ·obtain rfl:k=b.length:=by omega
   rw[zl d,zA]at c;simp only[yl]at c;simp[j,l,m,f,g,h,d,c,f84]
 ·obtain rfl:k=a.length:=by omega
  rw[zA]at c;by_cases s:a.length<b.length
  ·rw[zl s]at c;simp only[yl]at c;simp[j,l,m,f,g,h,s,c,f84]
  ·rw[vj (by omega)]at c;simp only[yl]at c;have x:¬((a.length:Int)<b.length):=by omega
   simp[j,l,m,f,g,h,s,c,f84]
noncomputable def FLF (n:Nat):zb->Option O:=qW (α:=List (za×Val)×List (za×Val)) (fun a=>[.sl 6 (a.1.map wN),.sl 6 (a.2.map wN),.fn (.func 85) [] []]) (fun a=>(QJ a.1<=qg/\QJ a.1<=n)/\QJ a.2<=qg) (fun a=>int (yl jN a.1 a.2))
theorem OM(n:Nat)(a b:List (za×Val))(Y:Hp)(Z:Nat)(h:(QJ a<=qg/\QJ a<=n)/\QJ b<=qg):zn false [] (FLF n) [.sl 6 (a.map wN),.sl 6 (b.map wN),.fn (.func 85) [] []] Y Z=some (int (yl jN a b),Y,Z):=
 jm (Y1:=Y) (by simp) (qX (V:=fun a:List (za×Val)×List (za×Val)=>[O.sl 6 (a.1.map wN),.sl 6 (a.2.map wN),.fn (.func 85) [] []]) (a:=(a,b)) (fun x y e=>by obtain⟨f,g⟩:=x;obtain⟨i,j⟩:=y;simp only[zq,qh]at e;obtain⟨c,d⟩:=e;injection c with _ c;injection d with _ d;rw[rV c,rV d]) h) (.inl rfl)
noncomputable abbrev Ccmv (n:Nat):Ctx:=qj prog [(32,zn false [] (On wI)),(82,zn false [] (M1 yW)),(83,zn false [] (FLV n)),(84,zn false [] (FLF n))]
theorem pt(n:Nat)(a b:Val)(h:a.vb<=qg/\a.vb<=n+1/\b.vb<=qg):zG (Ccmv n) f64 [.agg a.V,.agg b.V]=some (int (qG a b)):=by
 obtain⟨u,v,w⟩:=h;have x:=kv a;have y:=kv b;have m:=fun Y Z=>OK n a.items b.items Y Z ⟨⟨by omega,by omega⟩,by omega⟩
 have o:=fun Y Z=>OM n a.fields b.fields Y Z ⟨⟨by omega,by omega⟩,by omega⟩
 refine zu rfl ?_;have c:=xk a b;by_cases e:a.kind=b.kind
 ·rw[zg e]at c;by_cases j:a.kind=1
  ·rw[zg (.inl j)]at c;have d:b.kind=1:=by omega
   simp[j,d,c,f64]
  by_cases k:a.kind=2
  ·rw[zg (.inr k)]at c;have d:b.kind=2:=by omega
   simp[k,d,c,f64]
  rw[zf (by omega)]at c;by_cases f:a.kind=3
  ·rw[zg f]at c;have d:b.kind=3:=by omega
   simp[f,d,c,f64]
  rw[zf f]at c;by_cases g:a.kind=4
  ·rw[zg g]at c;have d:b.kind=4:=by omega
   simp[g,d,c,m,f64]
  rw[zf g]at c;by_cases i:a.kind=5
  ·rw[zg i]at c;have d:b.kind=5:=by omega
   simp[i,d,c,o,f64]
  rw[zf i]at c;have l:(a.kind != b.kind)=false:=by simpa using e
  have p:=jl j;have q:=jl k;have r:=jl f;have s:=jl g;have t:=jl i;simp[l,p,q,r,s,t,c,f64]
 ·rw[zf e]at c;have l:(a.kind != b.kind)=true:=by simpa using e
  simp[l,c,f64]
theorem lj{n:Nat}{args:zb}{r:O}(h:OJ n args=some r):∃a b:Val,args=[.agg a.V,.agg b.V]/\(a.vb<=qg/\a.vb<=n/\b.vb<=qg)/\r=int (qG a b):=by obtain⟨⟨a,b⟩,c,d,e⟩:=zL h;exact⟨a,b,c,d,e⟩
theorem YP:∀n,zi prog 64 (zn false [] (OJ n)):=by
 intro n
 induction n with
 |zero=>
  exact Kk ⟨_,func64,by kernel_rfl,by kernel_rfl⟩ fun args r h=>by obtain⟨a,b,_,d,_⟩:=lj h;have:=WO a;omega
 |succ n e=>
  have f:Gd (Ccfv n):=qQ mixed ⟨e,trivial⟩;have i:zi prog 83 (zn false [] (FLV n)):=
   VG f func83 false [] fun⟨a,b⟩ ⟨c,d⟩=>by exact⟨z8 (zk 3) (by decide),_,dj n a b c d,q9 _⟩
  have j:AM.Good (Ccfl n) (fun g=>[82,64,129].contains g):=qx mixed ⟨Ze,fun _=>zt _ _,e,fun _=>zt _ _,Xm,fun _=>zt _ _,trivial⟩;have k:zi prog 85 (zn false [] (FFF n)):=
   VG j func85 false [] fun⟨a,b⟩ c=>by exact⟨z8 (zk 2) (by decide),_,bQ n a b c,q9 _⟩
  have l:Gd (Ccff n):=qQ mixed ⟨k,trivial⟩;have m:zi prog 84 (zn false [] (FLF n)):=
   VG l func84 false [] fun⟨a,b⟩ ⟨c,d⟩=>by exact⟨z8 (zk 3) (by decide),_,dk n a b c d,q9 _⟩
  have o:Gd (Ccmv n):=qQ mixed ⟨Z3,Ze,i,m,trivial⟩;exact y3 (fn:=f64) o (wc func64) false [] _ fun args r h=>by obtain⟨a,b,rfl,c,rfl⟩:=lj h;exact⟨z8 (zk 2) (by decide),_,pt n a b c,q9 _⟩
theorem uz(a b:UInt8):a<b\/a=b\/b<a:=by
 rcases Nat.lt_trichotomy a.toNat b.toNat with h|h|h
 ·exact .inl (yM.2 h)
 ·exact .inr (.inl (yU.1 h))
 ·exact .inr (.inr (yM.2 h))
theorem bR(a:UInt8):¬a<a:=fun h=>Nat.lt_irrefl _ (yM.1 h)
theorem ng{a b:UInt8}(h:a<b):¬b<a:=fun c=>Nat.lt_asymm (yM.1 h) (yM.1 c)
theorem ON{a b c:UInt8}(h:a<b)(d:b<c):a<c:=yM.2 (Nat.lt_trans (yM.1 h) (yM.1 d))
theorem K8:∀a b:za,yW a b<0↔Op.bytesLess a b=true
 |[],[]=>by simp[yW,Lib.compareBytes,Op.bytesLess]
 |[],_::_=>by simp[yW,Lib.compareBytes,Op.bytesLess]
 |_::_,[]=>by simp[yW,Lib.compareBytes,Op.bytesLess]
 |a::x,b::y=>by
  have d:=K8 x y;unfold yW at d⊢;rcases uz a b with h|rfl|h
  ·simp[Lib.compareBytes,Op.bytesLess,h]
  ·simp[Lib.compareBytes,Op.bytesLess,bR,d]
  ·have c:¬a=b:=fun e=>bR b (e ▸ h)
   simp[Lib.compareBytes,Op.bytesLess,h,ng h,c]
theorem xl:∀a b:za,yW a b=0↔a=b
 |[],[]=>by simp[yW,Lib.compareBytes]
 |[],_::_=>by simp[yW,Lib.compareBytes]
 |_::_,[]=>by simp[yW,Lib.compareBytes]
 |a::x,b::y=>by
  have d:=xl x y;unfold yW at d⊢;rcases uz a b with h|rfl|h
  ·have c:¬a=b:=fun e=>bR b (e ▸ h)
   simp[Lib.compareBytes,h,c]
  ·simp[Lib.compareBytes,bR,d]
  ·have c:¬a=b:=fun e=>bR b (e ▸ h)
   simp[Lib.compareBytes,h,ng h,c]
theorem nh:∀{a b c:za},Op.bytesLess a b=true->Op.bytesLess b c=true->Op.bytesLess a c=true
 |_,[],_,h,_=>by simp[Op.bytesLess]at h
 |_,_::_,[],_,h=>by simp[Op.bytesLess]at h
 |[],_::_,_::_,_,_=>by simp[Op.bytesLess]
 |a::x,b::y,c::z,e,d=>by
  simp only[Op.bytesLess,qT,q5,zD,yI]at e d⊢;rcases e with e|⟨rfl,e⟩
  ·rcases d with d|⟨rfl,d⟩
   ·exact .inl (ON e d)
   ·exact .inl e
  ·rcases d with d|⟨rfl,d⟩
   ·exact .inl d
   ·exact .inr ⟨rfl,nh e d⟩
theorem Xo:∀{a b:za},MY a b=false->Op.bytesLess b a=true
 |[],[],h=>by simp[MY]at h
 |[],_::_,h=>by simp[MY,Op.bytesLess]at h
 |_::_,[],_=>by simp[Op.bytesLess]
 |a::x,b::y,h=>by
  simp only[MY,Op.bytesLess,wE,kH,Bool.and_eq_false_iff,w8]at h;obtain⟨⟨d,c⟩,f⟩:=h;simp only[Op.bytesLess,qT,q5,zD,yI];rcases uz a b with g|rfl|g
  ·exact absurd g d
  ·refine .inr ⟨rfl,Xo ?_⟩;rcases c with c|c
   ·exact absurd rfl c
   ·have:¬x=y:=fun e=>f (by rw[e])
    simp[MY,c,this]
  ·exact .inl g
def Uw(f:Nat->Bool)(a b:Nat):Nat:=if h:a<b then(if f ((a+b)/2)then Uw f ((a+b)/2+1) b else Uw f a ((a+b)/2))else a
termination_by b-a
decreasing_by all_goals omega
noncomputable def zbZ (l:List za) (s:za) (k:Nat):Bool:=match l[k]? with
 |some x=>decide (yW x s<0)
 |none=>false
noncomputable def bsN (l:List za) (s:za):Nat×Bool:=(Uw (zbZ l s) 0 l.length,match l[Uw (zbZ l s) 0 l.length]? with
 |some x=>yW x s==0
 |none=>false)
def UpN(l:List za):Prop:=l.Pairwise fun a b=>Op.bytesLess a b=true
theorem OO(a:za):Op.bytesLess a a=false:=by
 cases h:Op.bytesLess a a with
 |false=>rfl
 |true=>have b:=(K8 a a).2 h;have c:=(xl a a).2 rfl;omega
theorem uA:∀a b:za,iv a b=yW a b
 |[],[]=>by simp[iv,yW,Lib.compareBytes,Op.bytesLess]
 |[],_::_=>by simp[iv,yW,Lib.compareBytes,Op.bytesLess]
 |_::_,[]=>by simp[iv,yW,Lib.compareBytes,Op.bytesLess]
 |a::x,b::y=>by
  have d:=uA x y;unfold iv yW at d⊢;rcases uz a b with h|rfl|h
  ·simp[Lib.compareBytes,Op.bytesLess,h]
  ·simpa[Lib.compareBytes,Op.bytesLess,bR]using d
  ·have c:¬a=b:=fun e=>bR b (e ▸ h)
   simp[Lib.compareBytes,Op.bytesLess,h,ng h,c]
theorem Yq{a b:Int}(h:wI a b=0):a=b:=by
 unfold wI at h;split at h
 ·cases h
 ·split at h
  ·cases h
  ·omega
theorem ni{α:Type}(c:α->α->Int){a b:List α}{m:Nat}(f:m<=a.length)(g:m<=b.length)(h:m=a.length\/m=b.length):yl c (a.drop m) (b.drop m)=wI a.length b.length:=by
 unfold wI;by_cases e:m<a.length
 ·have d:m=b.length:=by omega
  rw[zl e,vj (l:=b) (by omega),zf (by omega),zg (by omega)];rfl
 ·rw[vj (l:=a) (by omega)];by_cases d:m<b.length
  ·rw[zl d,zg (by omega)];rfl
  ·rw[vj (l:=b) (by omega),zf (by omega),zf (by omega)];rfl
theorem uB(a b:Nat):∃m:Nat,(if b<a then(b:Int)else a)=m/\m<=a/\m<=b/\(m=a\/m=b):=by
 by_cases h:b<a
 ·exact⟨b,by rw[zg h],by omega,zk _,.inr rfl⟩
 ·exact⟨a,by rw[zf h],zk _,by omega,.inl rfl⟩
theorem fk(f g:za×Val):jN f g=if yW f.1 g.1=0 then qG f.2 g.2 else yW f.1 g.1:=by
 unfold jN;simp only[KE];split
 ·split
  ·rename_i h;rw[h]
  ·rfl
 ·rfl
noncomputable abbrev Crcm (n:Nat):Ctx:=qj prog [(15,zn false [] (OJ n)),(32,zn false [] (On wI)),(33,zn false [] (M1 iv))]
theorem pw(n:Nat)(a b:Val)(h:a.vb<=qg/\a.vb<=n+1/\b.vb<=qg):zG (Crcm n) f15 [.agg a.V,.agg b.V]=some (int (qG a b)):=by
 obtain⟨N,p,o⟩:=h;have X:=kv a;have vb:=kv b;have la:=yT a.items;have lb:=yT b.items;have fa:=kC a.fields;have fb:=kC b.fields;unfold qg at N o;refine zu rfl ?_;have c:=xk a b;by_cases A:a.kind=b.kind
 case neg=>
  rw[zf A]at c;have F:(wI a.kind b.kind != 0)=true:=by rw[bne_iff_ne];exact fun e=>A (Yq e)
  simp[F,c,f15]
 rw[zg A]at c;by_cases G:a.kind=1
 ·rw[zg (.inl G)]at c;have q:b.kind=1:=by omega
  simp[G,q,c,f15]
 by_cases H:a.kind=2
 ·rw[zg (.inr H)]at c;have q:b.kind=2:=by omega
  simp[H,q,c,f15]
 rw[zf (by omega)]at c;by_cases C:a.kind=3
 ·rw[zg C]at c;have q:b.kind=3:=by omega
  have hs:=uA a.s b.s;simp[C,q,c,hs,f15]
 rw[zf C]at c;by_cases D:a.kind=4
 ·rw[zg D]at c;have q:b.kind=4:=by omega
  obtain⟨m,I,v,w,x⟩:=uB a.items.length b.items.length;rw[c];simp[D,q,I];refine ql (fun k M Y Z=>M 2=.ref 0 0 0/\M 3=.ref 1 0 0/\M 43=int m/\M 44=int k/\Y 0=some ⟨43,5,false,[a.V]⟩/\Y 1=some ⟨43,5,false,[b.V]⟩/\yl qG a.items b.items=yl qG (a.items.drop k) (b.items.drop k)) m
   ⟨by simp,by simp,by simp,by simp,by simp,by simp,by simp⟩ ?_
  rintro k M Y Z A ⟨p,o,i,j,t,u,d⟩;by_cases l:k<m
  ·have f:k<a.items.length:=by omega
   have g:k<b.items.length:=by omega
   have P:=jZ (zw f);have Q:=jZ (zw g);have B:=fun Y Z=>Qv n a.items[k] b.items[k] Y Z ⟨by unfold qg;omega,by omega,by unfold qg;omega⟩
   have J:=wv k;rw[zl f,zl g]at d;simp only[yl]at d;by_cases r:qG a.items[k] b.items[k]=0
   ·rw[zg r]at d;simp[p,o,i,j,t,u,l,f,g,B,r,J];exact⟨l,d⟩
   ·rw[zf r]at d;have y:=VF r;simp[p,o,i,j,t,u,l,f,g,B,y,d,f15]
  ·obtain rfl:k=m:=by omega
   rw[ni qG v w x]at d;simp[p,o,i,j,t,u,d,f15]
 rw[zf D]at c;by_cases E:a.kind=5
 ·rw[zg E]at c;have q:b.kind=5:=by omega
  obtain⟨m,I,v,w,x⟩:=uB a.fields.length b.fields.length;rw[c];simp[E,q,I];refine ql (fun k M Y Z=>M 2=.ref 0 0 0/\M 3=.ref 1 0 0/\M 77=int m/\M 78=int k/\Y 0=some ⟨43,5,false,[a.V]⟩/\Y 1=some ⟨43,5,false,[b.V]⟩/\yl jN a.fields b.fields=yl jN (a.fields.drop k) (b.fields.drop k)) m
   ⟨by simp,by simp,by simp,by simp,by simp,by simp,by simp⟩ ?_
  rintro k M Y Z A ⟨p,o,i,j,t,u,d⟩;by_cases l:k<m
  ·have f:k<a.fields.length:=by omega
   have g:k<b.fields.length:=by omega
   have P:=Zb (zw f);have Q:=Zb (zw g);have B:=fun Y Z=>Qv n a.fields[k].2 b.fields[k].2 Y Z ⟨by unfold qg;omega,by omega,by unfold qg;omega⟩
   have hs:=uA a.fields[k].1 b.fields[k].1;have J:=wv k;rw[zl f,zl g]at d;simp only[yl]at d;rw[fk]at d;by_cases z:yW a.fields[k].1 b.fields[k].1=0
   ·rw[zg z]at d;by_cases r:qG a.fields[k].2 b.fields[k].2=0
    ·rw[zg r]at d;simp[p,o,i,j,t,u,l,f,g,B,hs,z,r,J];exact⟨l,d⟩
    ·rw[zf r]at d;have y:=VF r;simp[p,o,i,j,t,u,l,f,g,B,hs,z,y,d,f15]
   ·rw[zf z,zf z]at d;have K:=jl z;have L:=VF z;simp[p,o,i,j,t,u,l,f,g,B,hs,K,L,d,f15]
  ·obtain rfl:k=m:=by omega
   rw[ni jN v w x]at d;simp[p,o,i,j,t,u,d,f15]
 rw[zf E]at c;have R:=jl G;have S:=jl H;have T:=jl C;have U:=jl D;have W:=jl E;have F:wI a.kind b.kind=0:=by rw[A];simp
 simp[F,R,S,T,U,W,c,f15]
theorem Xq:∀n,zi prog 15 (zn false [] (OJ n)):=by
 intro n
 induction n with
 |zero=>
  exact Kk ⟨_,func15,by kernel_rfl,by kernel_rfl⟩ fun args r h=>by obtain⟨a,b,_,f,_⟩:=lj h;have:=WO a;omega
 |succ n c=>
  have d:Gd (Crcm n):=qQ mixed ⟨c,Z3,bK,trivial⟩;exact y3 (fn:=f15) d (wc func15) false [] _ fun args r h=>by obtain⟨a,b,rfl,e,rfl⟩:=lj h;exact⟨z8 (zk 2) (by decide),_,pw n a b e,q9 _⟩
def iC(n:Int):Bool:=decide (48<=n)&&decide (n<=57)
theorem Fs(c:UInt8):iC c.toNat=Kc c:=by rw[q6];simp[iC,Kc,pr];omega
theorem xX:zi prog 102 (zn false [] (BE iC)):=
 y3 (fn:=f102) jj (wc func102) false [] _ fun args r h=>by obtain⟨a,rfl,rfl⟩:=tN h;exact⟨by simp[f102],_,zu rfl (by simp[f102,iC]),q9 _⟩
noncomputable abbrev Crd:Ctx:=qj prog [(102,zn false [] (BE iC))]
theorem zdl:AM.Good Crd (fun g=>[102].contains g):=qx mixed ⟨xX,fun _=>zt _ _,trivial⟩
theorem iD(l:za)(h:l.length<=qg):zG Crd f319 [str l]=some (yh (xv l)):=by
 refine zu rfl ?_;unfold qg at h;simp;refine ql (fun k M Y Z=>M 0=str l/\M 5=int l.length/\M 6=int k/\kg l=kg (l.drop k)) l.length ⟨by simp,by simp,by simp,by simp⟩ ?_;rintro k M Y Z j ⟨e,f,g,b⟩;by_cases a:k<l.length
 ·have i:=wv k;rw[eU a]at b;have c:=Fs l[k];cases d:Kc l[k]
  ·have b:kg l=false:=by rw[b,d];rfl
   rw[d]at c;simp[e,f,g,a,b,c,xv,f319]
  ·rw[d]at c;simp[e,f,g,a,c,i];exact⟨a,by rw[b,d];rfl⟩
 ·obtain rfl:k=l.length:=by omega
  have b:kg l=true:=by rw[b,zA];rfl
  simp[e,f,g,b,xv,f319]
theorem fl:zi prog 319 (zn false [] (FS xv)):=
 VG zdl func319 false [] fun l Y=>⟨by simp[f319],_,iD l Y,q9 _⟩
def Jv(l:za):Bool:=l.isEmpty||(l.headD 0==48&&!(l==[48]))
theorem Lr(l:za):(!Jv l&&kg l)=yS l:=by
 cases l with
 |nil=>rfl
 |cons c l=>
  cases l with
  |nil=>
   by_cases h:c=48
   ·subst h;rfl
   ·simp[Jv,yS,h]
  |cons d l=>simp[Jv,yS]
theorem uD(l:za)(t:l.length<=qg):zG C0 f268 [str l]=some (yh (yS l)):=by
 refine zu rfl ?_;unfold qg at t;rw[<-Lr];cases j:Jv l
 case true=>
  cases l with
  |nil=>simp[Jv,f268]
  |cons c l=>
   simp only[Jv,List.isEmpty_cons,List.headD_cons,Zp,zD,yI,QF,w8]at j;obtain⟨rfl,j⟩:=j;have o:l.isEmpty=false:=by cases l with
    |nil=>exact absurd rfl j
    |cons d l=>rfl
   simp[o,f268]
 case false=>
  have a:l≠[]:=fun e=>by subst e;simp[Jv]at j
  have u:0<l.length:=kc.2 a;have m:=jl a;have s:((l[0].toNat:Int)==48&&!(l==[48]))=false:=by
   cases l with
   |nil=>exact absurd rfl a
   |cons c l=>
    have v:((c.toNat:Int)==48)=(c==48):=by rw[q6];simp[<-yU];omega
    simp only[yY,v];simpa[Jv]using j
  have p:((l[0].toNat:Int)==48&&l != [48])=false:=s;simp[m,a,u,s,p];refine ql (fun k M Y Z=>M 0=str l/\M 16=int l.length/\M 17=int k/\kg l=kg (l.drop k)) l.length ⟨by simp,by simp,by simp,by simp⟩ ?_;rintro k M Y Z x ⟨q,g,h,f⟩;by_cases b:k<l.length
  ·have w:=wv k;rw[eU b]at f;have r:=eP 48 57 l[k];simp only[qu]at r;cases n:Kc l[k]
   ·have f:kg l=false:=by rw[f,n];rfl
    have i:pr 48 57 l[k]=false:=n;simp[q,g,h,b,f,r,i,f268]
   ·have i:pr 48 57 l[k]=true:=n;simp[q,g,h,b,r,i,w];exact⟨b,by rw[f,n];rfl⟩
  ·obtain rfl:k=l.length:=by omega
   have f:kg l=true:=by rw[f,zA];rfl
   simp[q,g,h,f,f268]
theorem bg:zi prog 268 (zn false [] (FS yS)):=
 VG jj func268 false [] fun l Y=>⟨by simp[f268],_,uD l Y,q9 _⟩
def aG(c:UInt8):Bool:=pr 97 122 c||pr 65 90 c||c==45
theorem rW(c:UInt8):Kd c=(aG c||Kc c):=by simp only[Kd,aG,Kc];cases pr 97 122 c<;>cases pr 65 90 c<;>cases pr 48 57 c<;>simp
theorem Ux(c:UInt8)(h:aG c=true):Kc c=false:=by
 cases hd:Kc c with
 |false=>rfl
 |true=>
  simp only[aG,Kc,pr,qT,zD,q5,yI]at h hd;rcases h with(h|h)|rfl
  ·omega
  ·omega
  ·simp at hd
theorem Ls(l:za)(h:l.all Kd=true):(v7 l.length 1 20&&(!(l.all fun c=>!aG c)||yS l))=!yA l:=by
 have e:(l.all fun c=>!aG c)=kg l:=by
  induction l with
  |nil=>rfl
  |cons c l d=>
   simp only[wZ,zD]at h;have a:=h.1;rw[rW]at a;rw[wZ,d h.2];show _=(Kc c&&kg l);cases b:aG c
   ·rw[b,Zp]at a;rw[a];rfl
   ·rw[Ux c b];rfl
 rw[e];unfold yA eT;rw[h];cases l with
 |nil=>rfl
 |cons c l=>rw[q6];simp[v7];omega
theorem Ft(l:za)(h:l.all Kd=false):yA l=true:=by unfold yA eT;rw[h];simp
noncomputable abbrev Crip:Ctx:=qj prog [(102,zn false [] (BE iC)),(161,zn false [] (F3 v7)),(268,zn false [] (FS yS))]
theorem Uy:AM.Good Crip (fun g=>[102,161,268].contains g):=qx mixed ⟨xX,fun _=>zt _ _,Zx,fun _=>zt _ _,bg,fun _=>zt _ _,trivial⟩
@[simp]theorem zfn:kY Crip 268:=jo (by rfl) (zt _ _)
theorem Cn(l:za)(q:l.length<=qg):zG Crip f221 [str l]=some (yh (!yA l)):=by
 refine zu rfl ?_;have f:=fun Y Z=>kK yS l Y Z q
 unfold qg at q;simp;refine ql (fun k M Y Z=>M 0=str l/\M 3=yh ((l.take k).all fun c=>!aG c)/\M 8=int l.length/\M 9=int k/\l.all Kd=(l.drop k).all Kd) l.length ⟨by simp,by simp,by simp,by simp,by simp⟩ ?_;rintro k M Y Z t ⟨i,d,j,m,b⟩;by_cases a:k<l.length
 ·have r:=wv k;rw[rQ a,rW]at b;have e:(decide ((97:Int)<=l[k].toNat)&&decide ((l[k].toNat:Int)<=122)||decide ((65:Int)<=l[k].toNat)&&decide ((l[k].toNat:Int)<=90)||((l[k].toNat:Int)==45))=aG l[k]:=by
   have s:((l[k].toNat:Int)==45)=(l[k]==45):=by rw[q6];simp[<-yU];omega
   rw[s,q6];simp[aG,pr,<-yU];omega
  have hd:=Fs l[k];have g:((l.take (k+1)).all fun c=>!aG c)=(((l.take k).all fun c=>!aG c)&&!aG l[k]):=by rw[qE a,List.all_append];simp
  obtain⟨T,p⟩:=wM ((l.take k).all fun c=>!aG c);rw[p]at d g;cases h:aG l[k]
  ·cases n:Kc l[k]
   ·rw[h,n]at b;have b:l.all Kd=false:=b;have o:=Ft l b;rw[h]at e;rw[n]at hd;simp[i,d,j,m,a,e,hd,o,-List.all_eq_true,-List.all_eq_false,f221]
   ·rw[h,n]at b;rw[h]at e g;rw[n]at hd;simp[i,d,j,m,a,e,hd,r,-List.all_eq_true,-List.all_eq_false];exact⟨a,by rw[g];simp,b⟩
  ·rw[h]at b e g;simp[i,d,j,m,a,e,r,-List.all_eq_true,-List.all_eq_false];exact⟨a,by rw[g];simp,b⟩
 ·obtain rfl:k=l.length:=by omega
  have b:l.all Kd=true:=by rw[b,zA];rfl
  have o:=Ls l b;rw[we]at d;obtain⟨T,p⟩:=wM (l.all fun c=>!aG c);rw[p]at d o;simp[i,d,j,m,f,o,-List.all_eq_true,-List.all_eq_false,f221]
theorem uE:zi prog 221 (zn false [] (FS fun l=>!yA l)):=
 VG Uy func221 false [] fun l Y=>⟨by simp[f221],_,Cn l Y,q9 _⟩
theorem uF(l:za):zG C0 f167 [str l]=some (yh (yD l)):=by
 refine zu rfl ?_;have e:yD l=(l==[42]||l==[120]||l==[88]):=by unfold yD;cases l==[42]<;>cases l==[120]<;>cases l==[88]<;>rfl
 rw[e];cases a:(l==[42])
 ·cases b:(l==[120])
  ·simp[a,b,f167]
  ·simp[a,b,f167]
 ·simp[a,f167]
theorem pz:zi prog 167 (zn false [] (FS yD)):=
 VG jj func167 false [] fun l Y=>⟨by simp[f167],_,uF l,q9 _⟩
noncomputable def FNm:zb->Option O:=qW (α:=za) (fun l=>[str l,int 6]) (fun l=>l.length<=qg) Jt
theorem OP(l:za)(Y:Hp)(Z:Nat)(h:l.length<=qg):zn false [] FNm [str l,int 6] Y Z=some (.wL [int ((xC l).getD 0),yh (xC l).isSome],Y,Z):=
 iX l _ _ rfl (fun a b e=>by simp only[zq,qh]at e;exact yp e) h (.inl rfl)
noncomputable abbrev Crnm:Ctx:=qj prog [(268,zn false [] (FS yS)),(157,zn false [] FAt)]
theorem Uz:AM.Good Crnm (fun g=>[268].contains g):=qx mixed ⟨bg,fun _=>zt _ _,mT,by simp,trivial⟩
theorem uG(l:za)(f:l.length<=qg):zG Crnm f220 [str l,int 6]=some (Jt l):=by
 refine zu rfl ?_;have b:=fun Y Z=>kK yS l Y Z f
 cases a:yS l
 ·simp[b,a,Jt,xC,yx,f220]
 ·by_cases e:l.length<=6
  ·have c:¬((6:Int)<l.length):=by omega
   have g:=fun Y Z=>rR l Y Z (by omega) a
   simp[b,a,e,c,g,Jt,xC,yx,f220]
  ·have c:(6:Int)<l.length:=by omega
   have d:6<l.length:=by omega
   simp[b,a,e,d,c,Jt,xC,yx,f220]
theorem pA:zi prog 220 (zn false [] FNm):=
 VG Uz func220 false [] fun l Y=>⟨by simp[f220],_,uG l Y,q9 _⟩
noncomputable abbrev Crcp:Ctx:=qj prog [(319,zn false [] (FS xv)),(215,zn false [] (WV tlP fun _ b=>uc b)),(32,zn false [] (On wI)),(33,zn false [] (M1 iv)),(129,zn false [] M3)]
theorem UA:Gd Crcp:=qQ mixed ⟨fl,YK,Z3,bK,Xm,trivial⟩
theorem fm(a b:za)(g:a.length<=qg)(h:b.length<=qg):zG Crcp f302 [str a,str b]=some (int (yb a b)):=by
 refine zu rfl ?_;have c:=fun Y Z=>kK xv a Y Z g
 have d:=fun Y Z=>kK xv b Y Z h
 have j:=fun Y Z=>iZ a Y Z g
 have tb:=fun Y Z=>iZ b Y Z h
 have i:=uA;cases e:xv a<;>cases f:xv b
 ·simp[c,d,e,f,yb,i,f302]
 ·simp[c,d,e,f,yb,f302]
 ·simp[c,d,e,f,yb,f302]
 ·have k:∀(Y:Hp) (Z id:Nat),Y id=some ⟨3,1,true,[[int (wI (Lib.trimLeftB a 48).length (Lib.trimLeftB b 48).length)],[int (yW (Lib.trimLeftB a 48) (Lib.trimLeftB b 48))]]⟩->zn false [] M3 [.own id 0 2] Y Z=some (int (KE [wI (Lib.trimLeftB a 48).length (Lib.trimLeftB b 48).length,yW (Lib.trimLeftB a 48) (Lib.trimLeftB b 48)]),Y,Z):=fun Y Z id l=>dd [_,_] Y Z id _ (by show 2<=qg;decide) l
  simp[c,d,j,tb,e,f,k,i,zs,zF,zr,yb,f302]
theorem dm:zi prog 302 (zn false [] (WV (fun a b=>int (yb a b)) fun _ _=>True)):=
 y3 (fn:=f302) UA (wc func302) false [] _ fun args r h=>by obtain⟨a,b,rfl,c,d,_,rfl⟩:=xr h;exact⟨by simp[f302],_,fm a b c d,q9 _⟩
def K9(s:za)(st:Rst)(c:UInt8):Bool×Rst:=if ka s (kO s st)=44 then(true,(kO s st).qH)else(false,Ja s (kO s st) c)
noncomputable abbrev Cmor:Ctx:=qj prog [(97,bG),(152,Le),(150,iu)]
theorem UC:AM.Good Cmor (fun g=>[97].contains g):=qx mixed ⟨xm,fun _=>ym _ _,fX,by simp,KC,by simp,trivial⟩
noncomputable abbrev Fu:AM.Spec:=mR aC (fun _ _ c=>c≠0) (fun s st c=>(K9 s st c).2) (fun s st c=>yh (K9 s st c).1)
theorem OQ{s:za}{st:Rst}(c:UInt8){Y:Hp}{id Z:Nat}(a:Y id=some (qL s st))(hs:s.length<=1048576)(b:st.p<=s.length)(d:c≠0):Fu [.ref id 0 0,Zu c] Y Z=some (yh (K9 s st c).1,qf Y id (some (qL s (K9 s st c).2)),Z):=ZP ue (fun _=>rfl) c a hs b d
theorem s8:zi prog 153 Fu:=
 wi (code:=_) UC ⟨func153,by kernel_rfl,rfl,by kernel_rfl⟩ TR _ fun cs n cs' r h=>by
  obtain⟨s,st,c,rfl,rfl,hs,Y,k,rfl,rfl⟩:=xt h;refine⟨by simp[aC,f153],?_⟩;clear h;have b:=vU (s:=s) Y;have f:Le [.ref 0 0 0] (zZ TR (qa s st)) 1=some (.wL [],qf (zZ TR (qa s st)) 0 (some (qL s (kO s st))),1):=YM rfl hs Y;unfold K9;obtain⟨a,l⟩:=wM (kO s st);rw[l]at f b⊢;have d:qf (zZ TR (qa s st)) 0 (some (qL s a)) 0=some (qL s a):=by simp
  have g:=YL (Z:=1) d hs b.2.1;have j:iu [.ref 0 0 0,.v (.int .u8 c.toNat)] (qf (zZ TR (qa s st)) 0 (some (qL s a))) 1=some (.wL [],qf (qf (zZ TR (qa s st)) 0 (some (qL s a))) 0 (some (qL s (Ja s a c))),1):=Kb c d hs b.2.1 k;simp only[zZ,zz,qa,Zu,zd,ze,zh,Nat.reduceAdd,qV]at f g j;by_cases e:ka s a=44
  ·rw[zg e];rw[e]at g;have o:=(xO e (by decide)).1;have m:=wj ((a.p:Int)+1);simp[aC,Zu,zZ,zz,qa,f,g,m,Rst.qH,f153];exact qR rfl (by first|rfl|simp[zz,qa,Rst.bad,Rst.QO])
  ·rw[zf e];have i:(((ka s a).toNat:Int)==44)=false:=WW 44 e;simp[aC,Zu,zZ,zz,qa,f,g,j,i,f153];exact qR rfl (by first|rfl|simp[zz,qa])
theorem zdm(l:za):∀k,k<=(l.takeWhile jg).length->jg ((l[k]?).getD 0)=decide (k<(l.takeWhile jg).length):=by
 induction l with
 |nil=>intro k a;simp at a;subst a;rfl
 |cons c l d=>
  intro k a;rw[yQ]at a⊢;cases b:jg c
  ·rw[b]at a;simp at a;subst a;simp[b]
  ·rw[b]at a;cases k with
   |zero=>simp[b]
   |succ k=>simp only[zK,zd]at a⊢;have:=d k (by omega);simpa using this
def A1(s:za)(st:Rst):za:=match st.b with
 |none=>(s.drop st.p).takeWhile jg
 |some _=>[]
theorem Fv{s:za}{st:Rst}(h:st.p<=s.length):st.p+(A1 s st).length<=s.length:=by
 unfold A1;split
 ·have:=(Yj jg (l:=s.drop st.p)).length_le;simp at this;omega
 ·simpa using h
theorem zdn{s:za}{st:Rst}{k:Nat}(h:k<=(A1 s st).length):jg (ka s ⟨st.p+k,st.b⟩)=decide (k<(A1 s st).length):=by
 obtain⟨p,b⟩:=st;cases b with
 |none=>have:=zdm (s.drop p) k h;rw[qI]at this;exact this
 |some q=>rfl
theorem OR(s:za)(st:Rst):(s.drop st.p).take (A1 s st).length=A1 s st:=by
 unfold A1;split
 ·exact(bq.1 (List.takeWhile_prefix _)).symm
 ·simp
def fo(s:za)(st:Rst)(most:Nat):za×Rst:=
 if most<(A1 s st).length then([],(⟨st.p+most,st.b⟩:Rst).fail (st.p+most) 10)
 else if A1 s st=[]then([],st.fail st.p 10)else(A1 s st,⟨st.p+(A1 s st).length,st.b⟩)
noncomputable abbrev Cdgr:Ctx:=qj prog [(97,bG),(102,zn false [] (BE iC)),(104,JL)]
theorem UD:AM.Good Cdgr (fun g=>[97].contains g):=qx mixed ⟨xm,fun _=>ym _ _,xX,by simp,xW,by simp,trivial⟩
noncomputable abbrev dgRS:AM.Spec:=mR aN (fun _ _ n=>n<=12) (fun s st n=>(fo s st n).2) (fun s st n=>str (fo s st n).1)
theorem Co{s:za}{st:Rst}(n:Nat){Y:Hp}{id Z:Nat}(a:Y id=some (qL s st))(hs:s.length<=1048576)(b:st.p<=s.length)(c:n<=12):dgRS [.ref id 0 0,int n] Y Z=some (str (fo s st n).1,qf Y id (some (qL s (fo s st n).2)),Z):=ZP Oe (fun _=>rfl) n a hs b c
theorem dq(c:UInt8):iC c.toNat=jg c:=by rw[Qr,q6];simp[iC];omega
theorem MQ:zi prog 156 dgRS:=
 wi (code:=_) UD ⟨func156,by kernel_rfl,rfl,by kernel_rfl⟩ TR _ fun cs Q cs' r h=>by
  obtain⟨s,st,most,rfl,rfl,hs,Y,R,rfl,rfl⟩:=xt h;refine⟨by simp[aN,f156],?_⟩;clear h;have q:=Fv (s:=s) Y;refine zM (fun M Y Z=>M 0=.ref 0 0 0/\M 1=int most/\Y=zZ TR (qa s st)/\Z=1) (by simp[aN]) ?_;rintro M _ _ ⟨d,f,rfl,rfl⟩;refine zM (fun j Y Z=>j 0=.ref 0 0 0/\j 1=int most/\j 5=int st.p/\Y=zZ TR (qa s st)/\Z=1) (by simp[d,f,zZ,zz,qa]) ?_;clear d f M;rintro M _ _ ⟨d,f,l,rfl,rfl⟩;obtain⟨b,S⟩:=wM st.b;obtain⟨w,m⟩:=wM (A1 s st);rw[m]at q;have A:(⟨st.p+0,st.b⟩:Rst)=st:=rfl;simp;refine ql (fun k M Y Z=>M 0=.ref 0 0 0/\M 1=int most/\M 5=int st.p/\Y=zZ TR (qa s ⟨st.p+k,st.b⟩)/\Z=1/\k<=w.length/\k<=most) w.length ⟨by simp[d],by simp[f],by simp[l],by rw[A],rfl,by omega,by omega⟩ ?_;clear d f l M;rintro k M _ _ J ⟨d,f,l,rfl,rfl,K,L⟩;have t:=YL (s:=s) (st:=⟨st.p+k,st.b⟩) (Y:=zZ TR (qa s ⟨st.p+k,st.b⟩)) (id:=0) (Z:=1) rfl hs (by simp only;omega);have G:=vq (s:=s) (st:=⟨st.p+k,st.b⟩) (Y:=zZ TR (qa s ⟨st.p+k,st.b⟩)) (id:=0) (Z:=1) (st.p+k) 10 rfl hs (by simp only;omega);obtain⟨c,B⟩:=wM (ka s ⟨st.p+k,st.b⟩);have hd:=zdn (s:=s) (st:=st) (k:=k) (by rw[m];exact K);rw[B,m,<-dq]at hd;rw[B]at t;simp only[zZ,zz,qa,Zu,zd,ze,zh,Nat.reduceAdd,qV,yk]at t G;have i:IntKind.i64.wrap ((st.p:Int)+k-st.p)=(k:Int):=by rw[wU (by omega) (by omega)];omega
  have u:=wj ((st.p:Int)+k+1);by_cases n:k<w.length
  ·rw[ep n]at hd;by_cases v:k=most
   ·subst v;have a:fo s st k=([],(⟨st.p+k,st.b⟩:Rst).fail (st.p+k) 10):=by unfold fo;rw[m,zg n]
    rw[a];simp[d,f,l,zZ,zz,qa,t,hd,i,G,f156];exact qR rfl (by first|rfl|simp[zz,qa])
   ·have x:((k:Int)==(most:Int))=false:=by simpa using(fun e:(k:Int)=most=>v (by omega))
    simp[d,f,l,zZ,zz,qa,t,hd,i,x,u];exact⟨by omega,by rw[Int.add_assoc];rfl,by omega,by omega⟩
  ·rw[decide_eq_false n]at hd;obtain rfl:k=w.length:=by omega
   have y:¬most<w.length:=by omega
   have C:(s.drop st.p).take w.length=w:=by rw[<-m];exact OR s st
   by_cases g:w=[]
   ·have a:fo s st most=([],st.fail st.p 10):=by unfold fo;rw[m,zf y,zg g]
    rw[a];subst g;obtain⟨o,z⟩:=st;have D:ka s ⟨o,z⟩=c:=B;have E:=YL (s:=s) (st:=⟨o,z⟩) (Y:=zZ TR (qa s ⟨o,z⟩)) (id:=0) (Z:=1) rfl hs Y;have H:=vq (s:=s) (st:=⟨o,z⟩) (Y:=zZ TR (qa s ⟨o,z⟩)) (id:=0) (Z:=1) o 10 rfl hs Y;rw[D]at E;simp only[zZ,zz,qa,Zu,zd,ze,zh,Nat.reduceAdd,qV]at E H;simp only at Y;simp[d,f,l,zZ,zz,qa,E,H,hd,Y,xu,f156];exact qR rfl (by first|rfl|simp[zz,qa,xu])
   ·have a:fo s st most=(w,⟨st.p+w.length,st.b⟩):=by unfold fo;rw[m,zf y,zf g]
    rw[a];have I:0<w.length:=kc.2 g;have F:(((st.p:Int)+(w.length:Int))==(st.p:Int))=false:=by simp;omega
    have N:(0:Int)<=(st.p:Int)+(w.length:Int):=by omega
    have P:((st.p:Int)+(w.length:Int)).toNat=st.p+w.length:=by omega
    simp[d,f,l,zZ,zz,qa,t,hd,F,N,P,q,C,f156];exact qR rfl (by first|rfl|simp[zz,qa])
theorem wu8m(n:Nat):IntKind.u8.wrap (n:Int)=((UInt8.ofNat n).toNat:Int):=by simp[IntKind.wrap,IntKind.bits,IntKind.signed]
theorem or8'(c:UInt8):IntKind.u8.wrap ((c.toNat % 2 ^ IntKind.u8.bits||| 32 % 2 ^ IntKind.u8.bits:Nat):Int)=((c||| 32).toNat:Int):=by
 have h:(c.toNat % 2 ^ IntKind.u8.bits||| 32 % 2 ^ IntKind.u8.bits:Nat)=(c||| 32).toNat:=by rw[UInt8.toNat_or,show(2 ^ IntKind.u8.bits:Nat)=256 from rfl,Nat.mod_eq_of_lt c.toNat_lt];rfl
 rw[h];exact wu8 _ (BW _)
def uH:za:=[48,49,50,51,52,53,54,55,56,57,97,98,99,100,101,102]
def dOf(c:UInt8):Int:=if jg c=true then(c.toNat-48:Nat)else if 97<=(c||| 32).toNat/\(c||| 32).toNat<=102 then Lib.indexByte uH (c||| 32)else -1
theorem UE(c:UInt8):dOf c=match KZ c with
  |some d=>(d:Int)
  |none=>-1:=by
 unfold dOf KZ;split
 ·rfl
 ·have e:(97<=(c||| 32)/\(c||| 32)<=102)↔(97<=(c||| 32).toNat/\(c||| 32).toNat<=102):=by rw[yv,yv];rfl
  by_cases h:97<=(c||| 32).toNat/\(c||| 32).toNat<=102
  ·rw[zg h,zg (e.2 h)];have a:∀x:UInt8,97<=x.toNat->x.toNat<=102->Lib.indexByte uH x=((x.toNat-87:Nat):Int):=fun x f g=>by
    have:x.toNat=97\/x.toNat=98\/x.toNat=99\/x.toNat=100\/x.toNat=101\/x.toNat=102:=by omega
    rcases this with h|h|h|h|h|h
    ·obtain rfl:x=97:=yU.1 h;decide
    ·obtain rfl:x=98:=yU.1 h;decide
    ·obtain rfl:x=99:=yU.1 h;decide
    ·obtain rfl:x=100:=yU.1 h;decide
    ·obtain rfl:x=101:=yU.1 h;decide
    ·obtain rfl:x=102:=yU.1 h;decide
   rw[a _ h.1 h.2]
  ·rw[zf h,zf fun b=>h (e.1 b)]
theorem Ht{c:UInt8}{d:Nat}(h:KZ c=some d):d<16:=by
 unfold KZ at h;rw[Qr]at h;split at h
 ·rename_i a;simp at a h;omega
 ·split at h
  ·rename_i a;rw[yv,yv]at a;have b:(102:UInt8).toNat=102:=rfl;have e:=Option.some.inj h;omega
  ·cases h
noncomputable abbrev Cej:Ctx:=qj prog [(112,Xf),(111,Xg),(61,zn false [] (MZ Et))]
theorem zdo:AM.Good Cej (fun g=>[111,61].contains g):=qx mixed ⟨xL,by simp,xM,fun _=>ym _ _,xf,fun _=>zt _ _,trivial⟩
noncomputable abbrev OS:AM.Spec:=mJ aU (fun _ _ _=>True) (fun s st _=>(WQ s st).2) (fun s st _=>Zu (WQ s st).1)
theorem Lt{s:za}{st:Jst}{Y:Hp}{id Z:Nat}(a:Y id=some (wH s st))(hs:s.length<=1048576)(b:st.p<=s.length):OS [.ref id 0 0] Y Z=some (Zu (WQ s st).1,qf Y id (some (wH s (WQ s st).2)),Z):=ZN y5 (fun _=>rfl) () a hs b trivial
theorem OT{s:za}{k n:Nat}{st:Jst}{c:UInt8}{d:Nat}(h:s[st.qH.p]?=some c)(hd:KZ c=some d):eB s (k+1) n st=eB s k (n*16+d) st.qH:=by simp[eB,h,hd]
theorem OU{s:za}{k n:Nat}{st:Jst}(h:(s[st.qH.p]?).bind KZ=none):eB s (k+1) n st=(none,st.qH.fail s.length st.qH.p 10):=by rw[eB,h]
theorem Fw:zi prog 175 OS:=
 wi (code:=_) zdo ⟨func175,by kernel_rfl,rfl,by kernel_rfl⟩ TJ _ fun cs az cs' r h=>by
  obtain⟨s,st,⟨⟩,rfl,rfl,hs,Y,_,rfl,rfl⟩:=Qp h;refine⟨by simp[aU,f175],?_⟩;clear h;obtain⟨c,W⟩:=wM (jq s st);have g0:=ZO (Y:=zZ TJ (zN s st)) (Z:=1) rfl hs Y;rw[W]at g0;have t:=vT (Y:=zZ TJ (zN s st)) (id:=0) (Z:=1) st.p 10 rfl hs Y (by omega);refine zM (fun M Y Z=>M 0=.ref 0 0 0/\Y=zZ TJ (zN s st)/\Z=1) (by simp[aU]) ?_;rintro M _ _ ⟨f,rfl,rfl⟩;refine zM (fun a Y Z=>a 0=.ref 0 0 0/\a 3=Zu c/\Y=zZ TJ (zN s st)/\Z=1) (by simp[f,g0,Zu]) ?_;clear f M;rintro M _ _ ⟨f,C,rfl,rfl⟩;simp only[zZ,zz,zN,Zu,zd,ze,zh,Nat.reduceAdd]at t C⊢;have X:=wj ((st.p:Int)+1);by_cases o:st.p<s.length
  case neg=>
   have u:s.length<=st.p:=by omega
   have H:WQ s st=(0,st.fail s.length st.p 10):=by rw[WQ,zf (fun h=>o h.1),zg (.inl u)]
   rw[H];simp[f,C,o,u,t,f175];exact qc rfl rfl .id rfl
  have u:¬s.length<=st.p:=by omega
  by_cases D:c=34\/c=92\/c=47
  ·have H:WQ s st=(c,st.qH):=by rw[WQ,W,zg ⟨o,D⟩]
   rw[H];rcases D with rfl|rfl|rfl
   ·simp[f,C,o,X,Jst.qH,f175];exact qc rfl rfl .id rfl
   ·simp[f,C,o,X,Jst.qH,f175];exact qc rfl rfl .id rfl
   ·simp[f,C,o,X,Jst.qH,f175];exact qc rfl rfl .id rfl
  simp only[not_or]at D;have q1:((c.toNat:Int)==34)=false:=WW 34 D.1;have q2:((c.toNat:Int)==92)=false:=WW 92 D.2.1;have q3:((c.toNat:Int)==47)=false:=WW 47 D.2.2;by_cases hu:c=117
  case neg=>
   have q4:((c.toNat:Int)==117)=false:=WW 117 hu;have H:WQ s st=(0,st.fail s.length st.p 10):=by rw[WQ,W,zf (by simp[D]),zg (.inr hu)]
   rw[H];simp[f,C,o,u,q1,q2,q3,q4,bne,t,f175];exact qc rfl rfl .id rfl
  have H:WQ s st=match(eB s 4 0 st).1 with
    |none=>(0,(eB s 4 0 st).2)
    |some n=>(UInt8.ofNat n,if n<32\/126<n then(eB s 4 0 st).2.fail s.length st.p 10 else(eB s 4 0 st).2):=by
   rw[WQ,W,zf (by simp[D]),zf (by simp[hu,u])];cases (eB s 4 0 st).1<;>rfl
  rw[H];subst hu;refine zM (fun a Y Z=>a 0=.ref 0 0 0/\Y=zZ TJ (zN s st)/\Z=1) (by simp[f,C,o,u,zZ,zz,zN]) ?_;clear f C M;rintro M _ _ ⟨f,rfl,rfl⟩;simp only[zZ,zz,zN,zd,ze,zh,Nat.reduceAdd];simp[f];refine ql (fun k a Y Z=>a 0=.ref 0 0 0/\Z=1/\∃n q,a 4=int st.p/\a 5=int (n:Nat)/\a 66=int k/\q=st.p+k/\q<s.length/\n<16 ^ k/\Y=zZ TJ (zN s ⟨q,st.e,st.i⟩)/\eB s (4-k) n ⟨q,st.e,st.i⟩=eB s 4 0 st) 4 ⟨by simp[f],by simp,0,st.p,by simp,by simp,by simp,rfl,o,by simp,by simp[zZ,zz,zN],rfl⟩ ?_;clear f g0 t X M;rintro k M _ _ hk ⟨f,rfl,n,q,l,m,b,hq',hql,hn,rfl,hx⟩;have hn16:n<65536:=yi hn (KB (by omega) hk);have w1:=wv q;by_cases hk4:k<4
  ·have L:(k:Int)<4:=by omega
   have w2:=wv k;obtain⟨c2,N⟩:=wM (jq s ⟨q+1,st.e,st.i⟩);have g:=ZO (st:=⟨q+1,st.e,st.i⟩) (Y:=zZ TJ (zN s ⟨q+1,st.e,st.i⟩)) (Z:=1) rfl hs (by simp only;omega);rw[N]at g;have t:=vT (st:=⟨q+1,st.e,st.i⟩) (Y:=zZ TJ (zN s ⟨q+1,st.e,st.i⟩)) (id:=0) (Z:=1) (q+1) 10 rfl hs (by simp only;omega) (by omega);have z:=or8' c2;have j:dOf c2=if jg c2=true then((c2.toNat-48:Nat):Int)else if 97<=(c2||| 32).toNat/\(c2||| 32).toNat<=102 then Lib.indexByte uH (c2||| 32)else -1:=rfl
   obtain⟨x,E⟩:=wM (c2||| 32);rw[E]at z j;have gi:∀(Y:Hp) (Z:Nat),zn false [] (MZ Et) [.v (.string ⟨#[48,49,50,51,52,53,54,55,56,57,97,98,99,100,101,102]⟩),.v (.int .u8 x.toNat)] Y Z=some (int (Lib.indexByte uH x),Y,Z):=fun Y Z=>Xe Et uH x Y Z (by decide) rfl
   refine zM (fun a Y Z=>(a 0=.ref 0 0 0/\a 4=int st.p/\a 5=int n/\a 66=int k)/\a 67=yh true/\Y=zZ TJ (zN s ⟨q,st.e,st.i⟩)/\Z=1) (by simp[f,l,m,b,L]) ?_;clear f l m b M;rintro M _ _ ⟨⟨f,l,m,b⟩,P,rfl,rfl⟩;refine zM (fun a Y Z=>(a 0=.ref 0 0 0/\a 4=int st.p/\a 5=int n/\a 66=int k)/\Y=zZ TJ (zN s ⟨q,st.e,st.i⟩)/\Z=1) (by simp[f,l,m,b,P]) ?_;clear f l m b P M;rintro M _ _ ⟨⟨f,l,m,b⟩,rfl,rfl⟩;rw[iW,ry];refine zM (fun a Y Z=>(a 0=.ref 0 0 0/\a 4=int st.p/\a 5=int n/\a 66=int k)/\Y=zZ TJ (zN s ⟨q+1,st.e,st.i⟩)/\Z=1) (by simp[f,l,m,b,w1,zZ,zz,zN]) ?_;clear f l m b M;rintro M _ _ ⟨⟨f,l,m,b⟩,rfl,rfl⟩;refine zM (fun a Y Z=>(a 0=.ref 0 0 0/\a 4=int st.p/\a 5=int n/\a 66=int k)/\a 6=int (Lib.indexByte uH x)/\Y=zZ TJ (zN s ⟨q+1,st.e,st.i⟩)/\Z=1) (by simp[f,l,m,b,g,gi,ib,z]) ?_;clear f l m b M;rintro M _ _ ⟨⟨f,l,m,b⟩,y,rfl,rfl⟩;refine zM (fun a Y Z=>(a 0=.ref 0 0 0/\a 4=int st.p/\a 5=int n/\a 66=int k)/\a 6=int (dOf c2)/\Y=zZ TJ (zN s ⟨q+1,st.e,st.i⟩)/\Z=1) ?_ ?_
   ·have hlt8:=BW c2;have hd:=Qr c2;by_cases c1:48<=c2.toNat
    ·have F:(48:Int)<=c2.toNat:=by omega
     by_cases c3:c2.toNat<=57
     ·have Q:(c2.toNat:Int)<=57:=by omega
      have w3:IntKind.u8.wrap ((c2.toNat:Int)-48)=((c2.toNat-48:Nat):Int):=by rw[show(c2.toNat:Int)-48=((c2.toNat-48:Nat):Int) by omega];exact wu8 _ (by omega)
      have w4:=wj ((c2.toNat-48:Nat):Int);simp[c1,c3]at hd;rw[hd,zg rfl]at j;simp[f,l,m,b,y,g,F,Q,w3,w4,j]
     ·have Q:¬(c2.toNat:Int)<=57:=by omega
      simp[c1,c3]at hd;rw[hd,zf (by decide)]at j;by_cases R:97<=x.toNat
      ·have A:¬(x.toNat:Int)<97:=by omega
       by_cases S:x.toNat<=102
       ·have I:¬(102:Int)<x.toNat:=by omega
        rw[zg ⟨R,S⟩]at j;simp[f,l,m,b,y,g,F,Q,A,I,ib,z,j]
       ·have I:(102:Int)<x.toNat:=by omega
        rw[zf (fun h=>S h.2)]at j;simp[f,l,m,b,y,g,F,Q,A,I,ib,z,j]
      ·have A:(x.toNat:Int)<97:=by omega
       rw[zf (fun h=>R h.1)]at j;simp[f,l,m,b,y,g,F,Q,A,ib,z,j]
    ·have F:¬(48:Int)<=c2.toNat:=by omega
     simp[c1]at hd;rw[hd,zf (by decide)]at j;by_cases R:97<=x.toNat
     ·have A:¬(x.toNat:Int)<97:=by omega
      by_cases S:x.toNat<=102
      ·have I:¬(102:Int)<x.toNat:=by omega
       rw[zg ⟨R,S⟩]at j;simp[f,l,m,b,y,g,F,A,I,ib,z,j]
      ·have I:(102:Int)<x.toNat:=by omega
       rw[zf (fun h=>S h.2)]at j;simp[f,l,m,b,y,g,F,A,I,ib,z,j]
     ·have A:(x.toNat:Int)<97:=by omega
      rw[zf (fun h=>R h.1)]at j;simp[f,l,m,b,y,g,F,A,ib,z,j]
   clear f l m b y M;rintro M _ _ ⟨⟨f,l,m,b⟩,y,rfl,rfl⟩;clear g gi z j E x;have w:=UE c2;have G:∀J,(s[(Jst.qH ⟨q,st.e,st.i⟩).p]?).bind KZ=none->J=(Jst.fail s.length ⟨q+1,st.e,st.i⟩ (q+1) 10)->eB s 4 0 st=(none,J):=fun J h1 h2=>by rw[<-hx,show 4-k=(3-k)+1 by omega,OU h1,h2];rfl
   by_cases hq1:q+1<s.length
   case neg=>
    have B:(s.length:Int)<=q+1:=by omega
    have K:=G _ (by rw[wq (by simp only[Jst.qH];omega)];rfl) rfl;rw[K];simp only[zZ,zz,zN,zd,ze,zh,Nat.reduceAdd,yk,qu]at t⊢;simp[f,l,m,b,y,B,t,f175];exact qc rfl rfl .id rfl
   have B:¬(s.length:Int)<=q+1:=by omega
   have T:s[q+1]?=some c2:=by rw[<-N,jq,zo hq1];rfl
   cases U:KZ c2 with
   |none=>rw[U]at w;simp only at w;have K:=G _ (by simp only[Jst.qH,T,zW,U]) rfl;rw[K];simp only[zZ,zz,zN,zd,ze,zh,Nat.reduceAdd,yk,qu]at t⊢;simp[f,l,m,b,y,B,w,t,f175];exact qc rfl rfl .id rfl
   |some d=>
    rw[U]at w;simp only at w;have hd16:=Ht U;have hd0:¬(d:Int)<0:=by omega
    have w3:=wj ((n:Int)*16);have w4:IntKind.i64.wrap ((n:Int)*16+d)=((n*16+d:Nat):Int):=by rw[wU (by omega) (by omega)];omega
    have hx2:=OT (s:=s) (k:=3-k) (n:=n) (st:=⟨q,st.e,st.i⟩) T U;simp only[zZ,zz,zN,zd,ze,zh,Nat.reduceAdd,yk,qu];simp[f,l,m,b,y,B,w,hd0,w2,w3,w4];refine⟨by omega,n*16+d,by omega,by omega,by rw[eu];omega,by rw[show(q:Int)+1=st.p+(k+1) by omega],?_⟩;rw[show st.p+(k+1)=q+1 by omega,<-hx,show 4-k=(3-k)+1 by omega,hx2];rfl
  ·obtain rfl:k=4:=by omega
   have hr:eB s 4 0 st=(some n,⟨q+1,st.e,st.i⟩):=hx.symm;rw[hr];have t:=vT (st:=⟨q+1,st.e,st.i⟩) (Y:=zZ TJ (zN s ⟨q+1,st.e,st.i⟩)) (id:=0) (Z:=1) st.p 10 rfl hs (by simp only;omega) (by omega);have wb:=wu8m n;simp only[zZ,zz,zN,zd,ze,zh,Nat.reduceAdd,yk,qu]at t⊢;by_cases n1:n<32
   ·have m1:(n:Int)<32:=by omega
    simp[f,l,m,b,w1,m1,n1,t,wb,f175];exact qc rfl rfl .id rfl
   ·have m1:¬(n:Int)<32:=by omega
    by_cases n2:126<n
    ·have m2:(126:Int)<n:=by omega
     simp[f,l,m,b,w1,m1,m2,n1,n2,t,wb,f175];exact qc rfl rfl .id rfl
    ·have m2:¬(126:Int)<n:=by omega
     simp[f,l,m,b,w1,m1,m2,n1,n2,wb,f175];exact qc rfl rfl .id rfl
end Go.Q
namespace Go.AM
variable{dr:Prop}
section
variable{C:Ctx}{pf:FuncId->Bool}{N:Nat}
@[simp]theorem ZQ(y:Code)(K:Exit->St->Prop)(st:St):Hd dr C N y K .normal st=Wp dr C N y st K:=rfl
@[simp]theorem zh9(y:Code)(K:Exit->St->Prop)(st:St):Hd dr C N y K .ret st=K .ret st:=rfl
@[simp]theorem zia(y:Code)(K:Exit->St->Prop)(i:Nat)(st:St):Hd dr C N y K (.exit i) st=K (.exit i) st:=rfl
@[simp]theorem zgI(I:Nat->St->Prop)(n:Nat)(K:Exit->St->Prop)(st:St):tK I n K .normal st=∃m,m<n/\I m st:=rfl
@[simp]theorem zgJ(I:Nat->St->Prop)(n:Nat)(K:Exit->St->Prop)(st:St):tK I n K .ret st=K .ret st:=rfl
@[simp]theorem zgK(I:Nat->St->Prop)(n i:Nat)(K:Exit->St->Prop)(st:St):tK I n K (.exit i) st=K (.exit i) st:=rfl
theorem Wp.cut(f:jH dr C pf){a b:Code}{st:St}{K:Exit->St->Prop}(Q:(Nat->O)->Hp->Nat->Prop)(c:vJ pf C.dyn C.M6 C.bk N a=true)(g:Zl C a st (Lc (fun st=>Q st.M st.Y st.Z) K))(h:∀M Y Z,Q M Y Z->Wp dr C N b ⟨M,Y,Z⟩ K):Wp dr C N (.seq a b) st K:=
 Wp.seq ((Wp.of f c g).mono fun e i d=>by
  cases e<;>first
   |exact h _ _ _ d
   |exact d)
theorem rX{a:Array Oper}{K:St->Prop}(g:jH dr C pf):∀{l:List Nat} {c:List Oper} {l2:List Nat} {st b:St},l.map (fun i=>a[i]?)=c.map some->(∀o∈c,∀d,o.dst=some d->d<N)->vZ C a c st=some b->Jd dr C N a l2 b K->Jd dr C N a (l++l2) st K
 |[],[],l2,st,b,_,_,h,e=>by simp only[vZ]at h;injection h with h;subst h;exact e
 |[],_::_,_,_,_,h,_,_,_=>by simp at h
 |_::_,[],_,_,_,h,_,_,_=>by simp at h
 |i::l,o::c,l2,st,b,f,hd,h,e=>by
  simp only[wK,zq]at f;simp only[vZ]at h;split at h
  ·rename_i s hs;exact Jd.cons g f.1 (hd o (by simp)) hs (rX g f.2 (fun o j=>hd o (by simp[j])) h e)
  ·cases h
theorem Jd.pre(f:jH dr C pf){a:Array Oper}{l l2:List Nat}{c:List Oper}{st:St}{K:St->Prop}(g:l.map (fun i=>a[i]?)=c.map some)(hd:c.all (fun o=>match o.dst with|some d=>decide (d<N)|none=>true)=true)(h:iV C a c st fun b=>Jd dr C N a l2 b K):Jd dr C N a (l++l2) st K:=by
 obtain⟨b,j,k⟩:=h;exact rX f g (fun o m d e=>by have:=qB.1 hd o m;rw[e]at this;simpa using this) j k
theorem Jd.pZ(j:jH dr C pf){c:Array Oper}{l2:List Nat}{st:St}{K:St->Prop}(a b:Nat)(l:a+b<=c.size)(hd:c.toList.all (fun o=>match o.dst with|some d=>decide (d<N)|none=>true)=true)(h:iV C c ((c.toList.drop a).take b) st fun f=>Jd dr C N c l2 f K):Jd dr C N c (List.range' a b++l2) st K:=by
 refine Jd.pre j ?_ ?_ h
 ·apply List.ext_getElem?;intro i;rw[qD,qD,zX];by_cases g:i<b
  ·have e:(List.range' a b)[i]?=some (a+i):=by rw[List.getElem?_range' g];simp
   rw[e,zg g,qI];have:a+i<c.size:=by omega
   simp[this]
  ·rw[zf g,wq (by simp;omega)];rfl
 ·exact qB.2 fun o k=>qB.1 hd o (iQ _ _ (Vo _ _ k))
@[simp]theorem ziB(P:Program)(t:TypeId)(a:Addr):JF P t (.v (.slice (some a) 0 0))=(y2 P t).map fun _=>.v (.int .i64 0):=rfl
end
end Go.AM
namespace Go.Q
open Classical in
noncomputable def OV (x y:zb):Int:=if h:∃a b:Cut,x=a.V/\y=b.V then wP (Classical.choose h) (Classical.choose (yK h))else 0
theorem Yg(a b:Cut):OV a.V b.V=wP a b:=by have h:∃c d:Cut,a.V=c.V/\b.V=d.V:=⟨a,b,rfl,rfl⟩;unfold OV;rw[dif_pos h];have e:=yK (yK h);exact congr (zp wP (Q0 e.1).symm) (Q0 e.2).symm
def wg(l:List Cut):List zb:=l.map Cut.V
theorem OW(l:List Cut):Y9 OV (wg l) where
 irrefl x hx:=by obtain⟨a,_,rfl⟩:=qq.1 hx;rw[Yg,wy.refl];exact zhj _
 trans x hx y d z e:=by obtain⟨a,_,rfl⟩:=qq.1 hx;obtain⟨b,_,rfl⟩:=qq.1 d;obtain⟨c,_,rfl⟩:=qq.1 e;rw[Yg,Yg,Yg];exact wy.trans
 ntrans x hx y d z e:=by obtain⟨a,_,rfl⟩:=qq.1 hx;obtain⟨b,_,rfl⟩:=qq.1 d;obtain⟨c,_,rfl⟩:=qq.1 e;rw[Yg,Yg,Yg];exact wy.ntrans
def UF(x:zb):Prop:=∃a:Cut,x=a.V/\a.v.small
theorem zdp:Hc prog 145 5 OV UF:=by
 refine⟨fun args w=>?_,_,Qt,fun x y _ _ c d=>?_⟩
 ·have h:prog.funcs[145]?=some f145:=func145;simp[callFunc,h,f145]
 ·obtain⟨a,rfl,e⟩:=c;obtain⟨b,rfl,f⟩:=d;rw[Yg];exact Kj a b _ _ e f
open Classical in
noncomputable def Fx (x:zb):Cut:=if h:∃a:Cut,x=a.V then Classical.choose h else q8
theorem OX(a:Cut):Fx a.V=a:=by have h:∃c:Cut,a.V=c.V:=⟨a,rfl⟩;unfold Fx;rw[dif_pos h];exact(Q0 (yK h)).symm
theorem Xr(l:List Cut):(wg l).map Fx=l:=by
 induction l with
 |nil=>rfl
 |cons a l b=>show Fx a.V::(wg l).map Fx=_;rw[OX,b]
theorem Xs(l:List Cut):∃s:List Cut,Zv OV (wg l)=wg s/\s.Perm l/\s.Pairwise fun a b=>wP a b<=0:=by
 have Y:=YD (OW l);have hs:=KT (OW l);have c:∀(r:List zb),(∀x∈r,∃a:Cut,x=a.V)->∃s:List Cut,r=wg s:=by
  intro r
  induction r with
  |nil=>intro _;exact⟨[],rfl⟩
  |cons x r d=>
   intro h;obtain⟨a,rfl⟩:=h x (by simp);obtain⟨s,rfl⟩:=d fun y f=>h y (by simp[f])
   exact⟨a::s,rfl⟩
 obtain⟨s,e⟩:=c (Zv OV (wg l)) fun x g=>by have:=Y.mem_iff.1 g;obtain⟨a,_,rfl⟩:=qq.1 this;exact⟨a,rfl⟩
 rw[e]at Y hs;refine⟨s,e,?_,?_⟩
 ·have:=Y.map Fx;rwa [Xr,Xr]at this
 ·rw[wg,Ih]at hs;refine hs.imp fun{a b} h=>?_
  rw[Yg]at h;exact(wy.le a b).2 h
end Go.Q
namespace Go.Q
def Qw(out:List wG)(c:Cut):List wG:=match out.getLast? with
 |some s=>out.dropLast++[⟨s.lo,c,false⟩]
 |none=>out
def bh(a:Cut->Bool)(st:Bool×List wG)(c:Cut):Bool×List wG:=(a c,if(a c&&!st.1)=true then st.2++[yt c]else if(!a c&&st.1)=true then Qw st.2 c else st.2)
theorem Lu(a:Cut->Bool)(st:Bool×List wG)(c:Cut):bh a (bh a st c) c=bh a st c:=by unfold bh;cases a c<;>simp
def Vz(a:Cut->Bool)(l:List Cut)(st:Bool×List wG):Bool×List wG:=l.foldl (bh a) st
open Classical in
noncomputable def dt:List Cut->List Cut
 |[]=>[]
 |a::l=>match dt l with
  |[]=>[a]
  |b::r=>if a=b then b::r else a::b::r
theorem nj(c:Cut->Bool):∀(l:List Cut) (st:Bool×List wG),Vz c l st=Vz c (dt l) st
 |[],st=>rfl
 |a::l,st=>by
  have d:=nj c l (bh c st a);show Vz c l (bh c st a)=_;rw[d];simp only[dt];split
  ·rename_i e;rw[e];rfl
  ·rename_i b r e;rw[e];split
   ·rename_i h;subst h;show Vz c r (bh c (bh c st a) a)=Vz c r (bh c st a);rw[Lu]
   ·rfl
theorem fp:∀(l:List Cut) (c:Cut),c∈dt l↔c∈l
 |[],c=>by simp[dt]
 |a::l,c=>by
  have d:=fp l c;simp only[dt];split
  ·rename_i e;rw[e]at d;simp only[zv,wu,or_false];rw[<-d];simp
  ·rename_i b r e;rw[e]at d;split
   ·rename_i h;subst h;rw[zv (b:=a) (l:=l),<-d];simp
   ·rw[zv,zv (b:=a) (l:=l),d]
theorem du:∀(l:List Cut) (_:∀a∈l,∀b∈l,wP a b=0->a=b),(l.Pairwise fun a b=>wP a b<=0)->(dt l).Pairwise fun a b=>wP a b<0
 |[],_,_=>.nil
 |a::l,j,hs=>by
  obtain⟨m,n⟩:=wB.1 hs;have f:=du l (fun x o y p=>j x (by simp[o]) y (by simp[p])) n;simp only[dt];split
  ·simp
  ·rename_i b r e;rw[e]at f;split
   ·exact f
   ·rename_i g;refine wB.2 ⟨fun c i=>?_,f⟩;have k:b∈l:=(fp l b).1 (by rw[e];simp);have d:wP a b<0:=by
     rcases aO (m b k)with h|h
     ·exact h
     ·exact absurd (j a (by simp) b (by simp[k]) h) g
    rcases zv.1 i with rfl|i
    ·exact d
    ·exact wy.trans d ((wB.1 f).1 c i)
theorem rY:∀(x y:List Cut),(x.Pairwise fun a b=>wP a b<0)->(y.Pairwise fun a b=>wP a b<0)->(∀c,c∈x↔c∈y)->x=y
 |[],[],_,_,_=>rfl
 |[],b::y,_,_,h=>absurd ((h b).2 (by simp)) (by simp)
 |a::x,[],_,_,h=>absurd ((h a).1 (by simp)) (by simp)
 |a::x,b::y,l,m,h=>by
  obtain⟨j,n⟩:=wB.1 l;obtain⟨k,o⟩:=wB.1 m;have d:∀c:Cut,¬wP c c<0:=fun c=>by rw[wy.refl];omega
  have i:a=b:=by
   rcases zv.1 ((h a).1 (by simp))with e|p
   ·exact e
   ·rcases zv.1 ((h b).2 (by simp))with e|q
    ·exact e.symm
    ·exact absurd (wy.trans (j b q) (k a p)) (d a)
  subst i;rw[rY x y n o fun c=>?_];constructor
  ·intro g;rcases zv.1 ((h c).1 (by simp[g]))with e|f
   ·subst e;exact absurd (j c g) (d c)
   ·exact f
  ·intro g;rcases zv.1 ((h c).2 (by simp[g]))with e|f
   ·subst e;exact absurd (k c g) (d c)
   ·exact f
def q7:List wG->List Cut
 |[]=>[]
 |s::l=>(if s.vm=true then[s.lo]else[s.lo,s.hi])++q7 l
theorem Wf(a b:List wG):q7 (a++b)=q7 a++q7 b:=by
 induction a with
 |nil=>rfl
 |cons s a c=>simp only[qU,q7,c,qP]
theorem Z5(a:List wG):(q7 a).length<=2*a.length:=by
 induction a with
 |nil=>simp[q7]
 |cons s a b=>simp only[q7,w7,zd];split<;>simp<;>omega
theorem YQ{Q:Cut->Prop}{a:List wG}(h:∀s∈a,Q s.lo/\Q s.hi):∀c∈q7 a,Q c:=by
 induction a with
 |nil=>intro c hc;cases hc
 |cons s a d=>
  intro c hc;obtain⟨b,e⟩:=h s (by simp);simp only[q7,qO]at hc;rcases hc with hc|hc
  ·split at hc
   ·rw[wA]at hc;rw[hc];exact b
   ·simp only[zv,wu,or_false]at hc;rcases hc with rfl|rfl
    ·exact b
    ·exact e
  ·exact d (fun x f=>h x (by simp[f])) c hc
noncomputable def Qx (l:List Cut):List Cut:=(Zv OV (wg l)).map Fx
theorem Fy(l:List Cut):Zv OV (wg l)=wg (Qx l):=by obtain⟨s,h,_⟩:=Xs l;unfold Qx;rw[h,Xr]
theorem xQ(l:List Cut):(Qx l).Perm l:=by obtain⟨s,h,a,_⟩:=Xs l;unfold Qx;rw[h,Xr];exact a
theorem pC(l:List Cut):(Qx l).Pairwise fun a b=>wP a b<=0:=by obtain⟨s,h,_,c⟩:=Xs l;unfold Qx;rw[h,Xr];exact c
noncomputable def kF (f:Bool->Bool->Bool) (a b:List wG):List wG:=(Vz (fun c=>f (yE a c) (yE b c)) (Qx (q7 a++q7 b)) (false,[])).2
theorem Cp(out:List wG)(c:Cut):(Qw out c).length=out.length:=by
 unfold Qw;split
 ·rename_i s h;have:out≠[]:=by rintro rfl;cases h
  have:=kc.2 this;simp;omega
 ·rfl
theorem Hu(a:Cut->Bool):∀(l:List Cut) (st:Bool×List wG),2*(Vz a l st).2.length+(if st.1=true then 1 else 0)<=2*st.2.length+l.length+(if(Vz a l st).1=true then 1 else 0)
 |[],st=>by show 2*st.2.length+(if st.1=true then 1 else 0)<=2*st.2.length+0+(if st.1=true then 1 else 0);omega
 |c::l,st=>by
  have b:=Hu a l (bh a st c);have e:Vz a (c::l) st=Vz a l (bh a st c):=rfl;rw[e];have hs:2*(bh a st c).2.length+(if st.1=true then 1 else 0)<=2*st.2.length+1+(if(bh a st c).1=true then 1 else 0):=by obtain⟨o,out⟩:=st;unfold bh;cases a c<;>cases o<;>simp[Cp]<;>omega
  simp only[zd];omega
theorem Kl(f:Bool->Bool->Bool)(a b:List wG):(kF f a b).length<=a.length+b.length:=by have h:=Hu (fun c=>f (yE a c) (yE b c)) (Qx (q7 a++q7 b)) (false,[]);have d:=(xQ (q7 a++q7 b)).length_eq;have e:=Z5 a;have g:=Z5 b;rw[w7]at d;unfold kF;simp only[zm,zQ,ze]at h;split at h<;>omega
theorem Cq{Q:Cut->Prop}{out:List wG}{c:Cut}(h:∀s∈out,Q s.lo/\Q s.hi)(a:Q c):∀s∈Qw out c,Q s.lo/\Q s.hi:=by
 unfold Qw;split
 ·rename_i s hs;intro x hx;rcases qO.1 hx with hx|hx
  ·exact h x (List.dropLast_subset _ hx)
  ·rw[wA]at hx;rw[hx];exact⟨(h s (List.mem_of_getLast? hs)).1,a⟩
 ·exact h
theorem Hv{Q:Cut->Prop}(b:Q QP)(a:Cut->Bool):∀(l:List Cut) (st:Bool×List wG),(∀c∈l,Q c)->(∀s∈st.2,Q s.lo/\Q s.hi)->∀s∈(Vz a l st).2,Q s.lo/\Q s.hi
 |[],st,_,h=>h
 |c::l,st,d,h=>by
  refine Hv b a l (bh a st c) (fun x f=>d x (by simp[f])) ?_;have e:=d c (by simp);unfold bh;dsimp only;split
  ·intro s hs;rcases qO.1 hs with hs|hs
   ·exact h s hs
   ·rw[wA]at hs;rw[hs];exact⟨e,b⟩
  ·split
   ·exact Cq h e
   ·exact h
theorem rZ{Q:Cut->Prop}(d:Q QP)(f:Bool->Bool->Bool){a b:List wG}(e:∀s∈a,Q s.lo/\Q s.hi)(g:∀s∈b,Q s.lo/\Q s.hi):∀s∈kF f a b,Q s.lo/\Q s.hi:=
 Hv d _ _ _ (fun c i=>by
  have:=(xQ _).mem_iff.1 i;rcases qO.1 this with h|h
  ·exact YQ e c h
  ·exact YQ g c h) (fun s hs=>by cases hs)
end Go.Q
namespace Go.AM
variable{dr:Prop}
def fq(p:List (Option Nat))(b:Blk):Blk:=⟨b.e,b.s,b.arr,b.es.map (QL p)⟩
theorem kr.fixed{P:Program}{w:World}{S:Nat->Prop}{G:Nat->GI}{Z:Nat}{k:GI}{b:Blk}(h:kr P w S G Z k b)(f:0<k.s)(q:b.arr=true)(p:List (Option Nat)):kr P w S G Z k (fq p b):=by
 refine kr.vk f h.bs ⟨h.size f,fun c r=>?_,by simpa[fq]using h.fit f,?_⟩
 ·obtain⟨a,d,rfl⟩:=qq.1 r;rw[vP];exact h.len f a d
 ·obtain⟨l,t,v,x⟩:=h.row f;refine⟨l,t,v,fun i j c B e m=>?_⟩;simp only[fq,qD]at e;obtain⟨a,d,rfl⟩:∃a,b.es[i]?=some a/\QL p a=c:=by
   cases n:b.es[i]? with
   |none=>rw[n]at e;cases e
   |some a=>rw[n]at e;injection e with e;exact⟨a,rfl,e⟩
  have g:j<a.length:=by have:=(zj.1 m).1;rwa [vP]at this
  obtain⟨u,y,z,_,A⟩:=x i j a a[j] d (zo g);have o:=(Zc p a).get (zo g) m _ _ _ (z q);exact⟨u,y,fun _=>o,.c o,A⟩
theorem kN.fixed{P:Program}{Y:Hp}{Z:Nat}{S:Nat->Prop}{G:Nat->GI}{w:World}{Y2:Hp}{g:Nat}{m:Nat->Prop}{j:Nat->GI}{n:World}(k:kN dr P Y Z S G w Y2 g m j n)
  {id:Nat} {b:Blk} (o:Y2 id=some b) (r:b.arr=true) (t:0<(j id).s) (p:List (Option Nat)):kN dr P Y Z S G w (qf Y2 id (some (fq p b))) g m j n:=by
 have d:∀k c,qf Y2 id (some (fq p b)) k=some c->∃f,Y2 k=some f:=fun k c q=>by
  by_cases e:k=id
  ·subst e;exact⟨b,o⟩
  ·rw[zc _ _ _ _ e]at q;exact⟨c,q⟩
 refine⟨⟨k.inv.st,fun i c a=>?_,fun i c a=>?_,fun i c a=>?_,fun i i' c u a l v=>?_,k.inv.eC⟩,k.up,k.loc,k.Ji,k.from_,fun i c a=>?_,k.fr⟩
 ·obtain⟨f,h⟩:=d i c a;exact k.inv.top i f h
 ·by_cases e:i=id
  ·subst e;rw[wR]at a;injection a with a
   subst a;exact(k.inv.live i b o).fixed t r p
  ·rw[zc _ _ _ _ e]at a;exact k.inv.live i c a
 ·obtain⟨f,h⟩:=d i c a;exact k.inv.apart i f h
 ·obtain⟨f,h⟩:=d i c a;obtain⟨x,y⟩:=d i' u l;exact k.inv.inj i i' f x h y v
 ·obtain⟨f,h⟩:=d i c a;exact k.own i f h
def vD(a:List Sh)(F:zb->Option (Option Blk)):AM.Spec:=jL [] fun args=>F (cX a args)
def Cr(p:List (Option Nat))(r:Option Blk)(x:O)(Y:Hp)(_:Nat):Prop:=match r with
 |none=>x=.nil
 |some b=>∃id a,x=.own id 0 a.es.length/\Y id=some a/\a.arr=true/\b=fq p a
section
variable{C:Ctx}{pf:FuncId->Bool}{f:FuncId}{fn:Func}{code:Code}
theorem JO(W:jH dr C pf)(l:bE C pf f fn)(z:List Sh)(p:List (Option Nat))(F:zb->Option (Option Blk))(X:∀args r,F args=some r->args.length<=fn.ntmps/\∃x Y Z,jr C fn args (fun _=>none) 0=some (x,Y,Z)/\Cr p r x Y Z) :
  wO dr C.P f (vD z F):=by
 obtain⟨_,l⟩:=l;refine⟨⟨fn,l.func,l.name,by rw[l.body];rfl⟩,?_⟩;intro args Y Z r Y' Z' h w S G vs hi hz;unfold vD jL at h;split at h
 ·rename_i aZ Y1 A;obtain⟨S1,g,t,_⟩:=js (dr:=dr) hi A hz;have j:∀id b,Y1 id=some b->Y1 id=some b/\¬False:=fun id b h=>⟨h,fun h=>h⟩
  split at h
  ·rename_i m;obtain⟨B,x,E,H,n,d⟩:=X _ none m;injection h with h
   injection h with I h;injection h with J K;subst I;subst J;subst K;simp only[Cr]at d;subst d;refine(Z1 W l n B g.inv.st g.inv.eC (J9 (Ql t))).mono fun e w' L=>?_
   obtain⟨v,S',G',N,Q,a,R,o,q,_⟩:=L;have T:=eN (dr:=dr) (D:=fun _=>False) (Y2:=Y1) g.inv j (fun _ h=>h.elim) Q a o (fun b U=>(q b U).imp (fun h=>h) .inr);have:=R.ZV;subst this;exact⟨_,_,_,N,g.trans T,.c .nil⟩
  ·rename_i b m;obtain⟨B,x,E,H,n,d⟩:=X _ (some b) m;injection h with h
   injection h with I h;injection h with J K;subst I;subst J;subst K;obtain⟨id,s,rfl,hid,k,rfl⟩:=d;refine(Z1 W l n B g.inv.st g.inv.eC (J9 (Ql t))).mono fun e w' L=>?_
   obtain⟨v,S',G',N,Q,a,R,o,q,u⟩:=L;have T:=Bu (dr:=dr) (D:=fun _=>False) (Y2:=Y1) g.inv j (fun _ h=>h.elim) Q a o (fun b U=>(q b U).imp (fun h=>h) .inr) hid k (.inr (u id s hid));have y:=Bv (Z:=Z) (G:=G) R;have k3:=T.fixed (id:=Z) (by simp) k y.ZW p;rw[show qf (qf Y1 Z (some s)) Z (some (fq p s))=qf Y1 Z (some (fq p s)) by funext i;unfold qf;split<;>rfl]at k3;refine⟨_,_,_,N,g.trans k3,?_⟩;rw[show(fq p s).es.length=s.es.length by simp[fq]];exact y
  ·cases h
 ·cases h
end
end Go.AM
namespace Go.Proofs
open Go.Shelf
def Tryz.MR:Go.Shelf.Ren:=⟨fun|6=>144|15=>81|14=>195|28=>126|29=>127|20=>234|21=>235|22=>236|23=>237|24=>238|25=>239|26=>240|27=>241|46=>286|47=>181|48=>182|49=>287|50=>288|57=>308|n=>n,fun|22=>148|24=>113|25=>151|3=>3|39=>88|0=>0|53=>131|55=>133|4=>4|46=>125|45=>124|50=>67|5=>5|9=>9|66=>183|70=>187|76=>225|77=>47|n=>n,fun|n=>n⟩
theorem Tryz.zci:Go.Proofs.SlLaysF0.n6 prog Tryz.MR:={
 mixed:=by kernel_rfl
 f6:=⟨f144.name,by decide,func144.trans (zp some (by kernel_rfl))⟩
 f14:=⟨f195.name,by decide,func195.trans (zp some (by kernel_rfl))⟩
 f15:=func81.trans (zp some (by kernel_rfl))
 f20:=⟨f234.name,by decide,func234.trans (zp some (by kernel_rfl))⟩
 f21:=⟨f235.name,by decide,func235.trans (zp some (by kernel_rfl))⟩
 f22:=⟨f236.name,by decide,func236.trans (zp some (by kernel_rfl))⟩
 f23:=⟨f237.name,by decide,func237.trans (zp some (by kernel_rfl))⟩
 f24:=⟨f238.name,by decide,func238.trans (zp some (by kernel_rfl))⟩
 f25:=⟨f239.name,by decide,func239.trans (zp some (by kernel_rfl))⟩
 f26:=⟨f240.name,by decide,func240.trans (zp some (by kernel_rfl))⟩
 f27:=⟨f241.name,by decide,func241.trans (zp some (by kernel_rfl))⟩
 f28:=func126.trans (zp some (by kernel_rfl))
 f29:=func127.trans (zp some (by kernel_rfl))
 f46:=⟨f286.name,by decide,func286.trans (zp some (by kernel_rfl))⟩
 f47:=func181.trans (zp some (by kernel_rfl))
 f48:=func182.trans (zp some (by kernel_rfl))
 f49:=⟨f287.name,by decide,func287.trans (zp some (by kernel_rfl))⟩
 f50:=⟨f288.name,by decide,func288.trans (zp some (by kernel_rfl))⟩
 f57:=⟨f308.name,by decide,func308.trans (zp some (by kernel_rfl))⟩
 t0:=underlying0
 a0:=isAgg0
 z0:=sizeOf0
 v0:=zeroValue0
 t3:=underlying3
 a3:=isAgg3
 z3:=sizeOf3
 v3:=zeroValue3
 t4:=underlying4
 a4:=isAgg4
 z4:=sizeOf4
 v4:=zeroValue4
 t5:=underlying5
 a5:=isAgg5
 z5:=sizeOf5
 v5:=zeroValue5
 t9:=underlying9
 a9:=isAgg9
 z9:=sizeOf9
 v9:=zeroValue9
 t22:=underlying148
 a22:=isAgg148
 z22:=sizeOf148
 v22:=zeroValue148
 t25:=underlying151
 a25:=isAgg151
 z25:=sizeOf151
 v25:=zeroValue151
 t39:=underlying88
 a39:=isAgg88
 z39:=sizeOf88
 v39:=zeroValue88
 t45:=underlying124
 a45:=isAgg124
 z45:=sizeOf124
 v45:=zeroValue124
 t46:=underlying125
 a46:=isAgg125
 z46:=sizeOf125
 v46:=zeroValue125
 t50:=underlying67
 a50:=isAgg67
 z50:=sizeOf67
 v50:=zeroValue67
 t53:=underlying131
 a53:=isAgg131
 z53:=sizeOf131
 v53:=zeroValue131
 t55:=underlying133
 a55:=isAgg133
 z55:=sizeOf133
 v55:=zeroValue133
 t66:=underlying183
 a66:=isAgg183
 z66:=sizeOf183
 v66:=zeroValue183
 t70:=underlying187
 a70:=isAgg187
 z70:=sizeOf187
 v70:=zeroValue187
 t76:=underlying225
 a76:=isAgg225
 z76:=sizeOf225
 v76:=zeroValue225
 t77:=underlying47
 a77:=isAgg47
 z77:=sizeOf47
 v77:=zeroValue47}
theorem Tryz.SM:tJ prog 144 5:=⟨fun _ _ V e f h i g blk off cap d w j a k b c=>AnyQ.slices_SortFunc_eq Tryz.zci 5 isAgg113 sizeOf113 V e f h i g #[] blk off cap d w j a k b c,
 fun p cap l w=>AnyF.slices_SortFunc_none Tryz.zci p cap l w⟩
end Go.Proofs
namespace Go.Q
theorem nk:zi prog 144 (J4 5 145 OV UF):=
 V4 (by decide) ⟨_,func144,by kernel_rfl,by kernel_rfl⟩ Tryz.SM zdp
noncomputable def FBB (f:Bool->Bool->Bool):zb->Option O:=qW (α:=Bool×Bool) (fun a=>[yh a.1,yh a.2]) (fun _=>True) (fun a=>yh (f a.1 a.2))
theorem Cs(f:Bool->Bool->Bool)(a b:Bool)(Y:Hp)(Z:Nat):zn false [] (FBB f) [yh a,yh b] Y Z=some (yh (f a b),Y,Z):=
 iX (a,b) _ _ rfl (fun x y e=>by obtain⟨c,d⟩:=x;obtain⟨g,h⟩:=y;simp only[zq,qh]at e;rw[Yl e.1,Yl e.2]) trivial (.inl rfl)
theorem Ct:zi prog 93 (zn false [] (FBB and)):=
 VG jj func93 false [] fun⟨a,b⟩ _=>⟨by simp[f93],_,zu rfl (by cases a<;>simp[yx,f93]),q9 _⟩
theorem Fz:zi prog 94 (zn false [] (FBB or)):=
 VG jj func94 false [] fun⟨a,b⟩ _=>⟨by simp[f94],_,zu rfl (by cases a<;>simp[yx,f94]),q9 _⟩
theorem pD{Y:Hp}{Z:Nat}{v:O}{l:List Cut}(h:qN Y Z 113 5 v (wg l))(hs:∀c∈l,c.v.small)(m:l.length<4611686018427387904) :
  ∃b,J4 5 145 OV UF [v,.fn (.func 145) [] []] Y Z=some (.wL [],b,Z)/\qN b Z 113 5 v (wg (Qx l))/\∀j,(∀n,v≠.own j 0 n)->b j=Y j:=by
 have a:(wg (Qx l)).length=(wg l).length:=by have:=(xQ l).length_eq;simpa[wg]using this
 rcases h with⟨rfl,o⟩|⟨id,g,rfl,d⟩
 ·refine⟨Y,rfl,.inl ⟨rfl,?_⟩,fun _ _=>rfl⟩;rw[o]at a;exact qM.1 a
 ·by_cases f:(wg l).length=0
  ·refine⟨Y,by simp only[J4,zg f],?_,fun _ _=>rfl⟩;have i:wg l=[]:=qM.1 f;rw[i]at a d;have p:=qM.1 a;rw[i,p];exact .inr ⟨id,g,rfl,d⟩
  ·refine⟨qf Y id (some ⟨113,5,true,wg (Qx l)⟩),?_,.inr ⟨id,g,by rw[a],by simp⟩,fun j q=>w5 _ _ _ _ fun e=>q (wg l).length (by subst e;rfl)⟩;unfold J4;simp only[zf f,d];rw[zg ⟨rfl,rfl,rfl,by simp,by simpa[wg]using m,by simpa using OW l,fun x k=>by simp only[ZK,we]at k;obtain⟨c,r,rfl⟩:=qq.1 k;exact⟨c,rfl,hs c r⟩⟩]
   simp[Fy]
theorem r8{c:zb}{s:wG}(h:QL jA c=s.V):∃d k l m n o e,c=[int s.lo.v.a,int s.lo.v.b,int s.lo.v.c,d,yh s.lo.after,k,l,m,n,o,e]/\n1 1 d=.sl 1 (qJ s.lo.v.pre)/\d.ye=true:=by
 have f:=vP jA c;rw[h]at f;simp[wG.V,Cut.V]at f
 match c,f with
 |[B,C,D,i,E,p,q,r,t,u,g],_=>simp[wG.V,Cut.V]at h;obtain⟨w,x,y,j,z,F,G,H,I,J,A⟩:=h;subst w;subst x;subst y;subst z;refine⟨i,p,q,r,t,u,g,rfl,j,?_⟩;cases i<;>first|rfl|(simp[n1]at j)
theorem gJ{out:List wG}{m:Nat}(b:m<out.length)(h:out.length=m+1)(c:Cut):Qw out c=out.set m ⟨out[m].lo,c,false⟩:=by
 unfold Qw;have a:out≠[]:=by rintro rfl;simp at b
 rw[List.getLast?_eq_some_getLast a];have d:out.getLast a=out[m]:=by rw[List.getLast_eq_getElem];congr 1;omega
 simp only[d];apply List.ext_getElem
 ·simp;omega
 ·intro i f g;rw[List.getElem_set];split
  ·rename_i e;subst e;rw[List.getElem_append_right (by simp;omega)];simp
  ·rw[List.getElem_append_left (by simp at f⊢;omega)];simp
theorem Cu(a:Cut->Bool)(st:Bool×List wG)(c:Cut)(h:st.1=true->st.2≠[]):(bh a st c).1=true->(bh a st c).2≠[]:=by obtain⟨o,out⟩:=st;unfold bh;cases a c<;>cases o<;>simp at h⊢<;>assumption
theorem dv(l:List wG)(c:Cut)(Y:Hp)(Z:Nat)(b:jU l)(d:c.v.small):qK [.s 11 jA,.g jQ] (FRC fun l c=>yh (yE l c)) [.sl 11 (qn l),.agg c.V] Y Z=some (yh (yE l c),Y,Z):=
 vL (show zH Y [.sl 11 (qn l),.agg c.V]=some ([.sl 11 (qn l),.agg c.V],Y) by simp[Cut.V]) (by
  have e:(Sh.s 11 jA).fix (.sl 11 (qn l))=.sl 11 (qn l):=by simp only[Sh.oR,qn,List.map_map];congr 1
  have f:(Sh.g jQ).fix (.agg c.V)=.agg c.V:=by simp[Cut.V]
  show FRC _ [(Sh.s 11 jA).fix (.sl 11 (qn l)),(Sh.g jQ).fix (.agg c.V)]=_;rw[e,f];exact qX (V:=fun a:List wG×Cut=>[O.sl 11 (qn a.1),.agg a.2.V]) (a:=(l,c)) zdk ⟨b,d⟩) (.inl rfl)
noncomputable abbrev Ccmb:Ctx:=qj prog [(144,J4 5 145 OV UF),(146,qK [.s 11 jA,.g jQ] (FRC fun l c=>yh (yE l c))),
 (93,zn false [] (FBB and)),(94,zn false [] (FBB or))]
theorem UG:AM.Good Ccmb (fun g=>[146].contains g):=qx mixed ⟨nk,by simp,uy,fun _=>jn _ _,Ct,by simp,Fz,by simp,trivial⟩
theorem r9{l:List wG}{k:Nat}(h:k<l.length):q7 (l.take (k+1))=q7 (l.take k)++(if l[k].vm=true then[l[k].lo]else[l[k].lo,l[k].hi]):=by rw[qE h,Wf];simp[q7]
theorem Cv(a:Cut->Bool){l:List Cut}{k:Nat}(h:k<l.length)(st:Bool×List wG):Vz a (l.take (k+1)) st=bh a (Vz a (l.take k) st) l[k]:=by unfold Vz;rw[qE h,Ii];rfl
theorem sa(a b:List Cut):wg (a++b)=wg a++wg b:=by simp[wg]
noncomputable def Wy (f:Bool->Bool->Bool) (a b:List wG):Option Blk:=if kF f a b=[]then none else some ⟨115,11,true,qn (kF f a b)⟩
theorem Lv(i o n:Nat)(Y:Hp):Ws (.own i o n) Y=qf Y i none:=rfl
theorem Cw{Y:Hp}{Z e s:Nat}{v:O}{xs:List zb}(h:qN Y Z e s v xs){j:Nat}(a:Z<=j):∀n,v≠.own j 0 n:=by
 rcases h with⟨rfl,_⟩|⟨id,b,rfl,_⟩
 ·intro n e;cases e
 ·intro n e;injection e with e;omega
theorem dw(f:Bool->Bool->Bool)(hv:O)(SD:∀x y Y Z,jO Ccmb Y Z (some hv) [yh x,yh y]=some (yh (f x y),Y,Z))(a b:List wG)(ha:jU a)(hb:jU b) :
  ∃x Y Z,jr Ccmb f92 [.sl 11 (qn a),.sl 11 (qn b),hv] (fun _=>none) 0=some (x,Y,Z)/\Cr jA (Wy f a b) x Y Z:=by
 refine w9 rfl ?_;have hsa:=ha;have hsb:=hb;obtain⟨ha1,ha2⟩:=ha;obtain⟨hb1,hb2⟩:=hb;unfold qg at ha1 hb1;obtain⟨ls,hls⟩:∃ls:List (List wG),[a,b]=ls:=⟨_,rfl⟩;obtain⟨rows,T⟩:∃rows:List zb,[[O.sl 11 (qn a)],[.sl 11 (qn b)]]=rows:=⟨_,rfl⟩;have K:∀i,i<2->∃l:List wG,(q7 (ls.take (i+1)).flatten=q7 (ls.take i).flatten++q7 l)/\rows[i]?=some [O.sl 11 (qn l)]/\l.length<=268435456/\(∀s∈l,s.small)/\(q7 (ls.take i).flatten).length<=536870912:=by
  intro i hi;rw[<-hls,<-T];rcases(by omega:i=0\/i=1)with rfl|rfl
  ·exact⟨a,by simp[q7],rfl,ha1,ha2,by simp[q7]⟩
  ·exact⟨b,by simp[Wf],rfl,hb1,hb2,by have:=Z5 a;simp;omega⟩
 simp[zs,zF,zr,T];refine ql (fun i M Y Z=>M 0=.sl 11 (qn a)/\M 1=.sl 11 (qn b)/\M 2=hv/\M 19=.own 0 0 2/\M 20=int 2/\M 21=int i/\1<=Z/\Y 0=some ⟨76,1,true,rows⟩/\(∀n,M 7≠.own 0 0 n)/\qN Y Z 113 5 (M 7) (wg (q7 (ls.take i).flatten))) 2
  ⟨by simp,by simp,by simp,by simp,by simp,by simp,by simp,by simp,by simp,.inl ⟨by simp,by simp[q7,wg]⟩⟩ ?_
 rintro i M Y Z hi ⟨E,F,G,u,w,z,U,b0,L,A⟩;by_cases hlt:i<2
 ·obtain⟨l,hl,hr,hll,hls2,hcl⟩:=K i hlt;obtain⟨hr1,hr2⟩:=zj.1 hr;have hw:=wv i;have p:(qn l).length=l.length:=by simp[qn]
  have hltI:(i:Int)<2:=by omega
  simp[E,F,G,u,w,z,hltI,hlt,b0,hr1,hr2,p];refine ql (fun k M Y Z=>M 0=.sl 11 (qn a)/\M 1=.sl 11 (qn b)/\M 2=hv/\M 19=.own 0 0 2/\M 20=int 2/\M 21=int i/\1<=Z/\Y 0=some ⟨76,1,true,rows⟩/\(∀n,M 7≠.own 0 0 n)/\qN Y Z 113 5 (M 7) (wg (q7 (ls.take i).flatten++q7 (l.take k))) /\
   M 25=.sl 11 (qn l)/\M 26=int l.length/\M 27=int k) l.length
   ⟨by simp[E],by simp[F],by simp[G],by simp[u],by simp[w],by simp[z],U,b0,by simpa using L,by simpa[q7]using A,by simp,by simp,by simp⟩ ?_
  clear E F G u w z U b0 L A hi M Y Z;rintro k M Y Z hk ⟨E,F,G,u,w,z,U,b0,L,A,h25,SN,h27⟩;by_cases j:k<l.length
  ·have H:=wv k;have r:∀h:k<(qn l).length,(qn l)[k]=l[k].V:=fun h=>by simp[qn]
   have hcn:=Z5 (l.take k);rw[yu]at hcn;have hct:=r9 j;obtain⟨xs,g⟩:=wM (wg (q7 (ls.take i).flatten++q7 (l.take k)));have B:xs.length<=1073741824+2:=by rw[<-g];simp[wg];omega
   rw[g]at A;have hE:wg (q7 (ls.take i).flatten++q7 (l.take (k+1)))=xs++(if l[k].vm=true then[l[k].lo]else[l[k].lo,l[k].hi]).map Cut.V:=by rw[hct,<-qP,sa,g];rfl
   have hkn:=fun Y'=>yr A Y' Z (Cw A (zk _))
   have hk0:=fun Y'=>yr A Y' 0 L
   obtain⟨s,hs⟩:=wM (l[k]);rw[hs]at hct r hE;have q:=qN.ji (P:=prog) (t:=148) (c:=s.lo.V) (A.more (some ⟨115,11,false,[s.V]⟩)) gA cR rE rF rfl (by omega) (by unfold maxLen;omega) (by omega);have W:=qN.after (Y:=qf Y Z (some ⟨115,11,false,[s.V]⟩)) (Z:=Z+1) (e:=113) (s:=5) (v:=M 7) (xs:=xs) (c:=s.lo.V) (tmp:=some ⟨113,5,true,[s.lo.V]⟩);have C:=qN.ji (P:=prog) (t:=148) (c:=s.hi.V) W gA cR rE rF rfl (by omega) (by simp;unfold maxLen;omega) (by simp;omega);rw[show(xs++[s.lo.V]).length=xs.length+1 by simp,qP,show[s.lo.V]++[s.hi.V]=[s.lo.V,s.hi.V]from rfl]at C;have X:=qN.after (Y:=qf (Ws (M 7) (qf (qf Y Z (some ⟨115,11,false,[s.V]⟩)) (Z+1) (some ⟨113,5,true,[s.lo.V]⟩))) (Z+1+1) (some ⟨113,5,true,xs++[s.lo.V]⟩)) (Z:=Z+1+2) (e:=113) (s:=5) (v:=.own (Z+1+1) 0 (xs.length+1)) (xs:=xs++[s.lo.V]) (c:=s.hi.V) (tmp:=some ⟨113,5,true,[s.hi.V]⟩);rw[show(xs++[s.lo.V]).length=xs.length+1 by simp,qP,show[s.lo.V]++[s.hi.V]=[s.lo.V,s.hi.V]from rfl]at X;simp only[wG.V,Cut.V,qU,xE]at q C W X r;have m1:¬Z=Z+1+1:=by omega
   have m2:¬Z=Z+1+2:=by omega
   have m3:¬Z=Z+1+2+1:=by omega
   have n1:¬0=Z:=by omega
   have n2:¬0=Z+1:=by omega
   have n3:¬0=Z+2:=by omega
   have n4:¬0=Z+3:=by omega
   have n5:¬0=Z+4:=by omega
   cases N:s.vm
   ·rw[N]at hct;rw[N]at q C W X r;simp[E,F,G,u,w,z,h25,SN,h27,j,p,r,q,C,hkn,H,m1,m2,m3,zs,zF,zr];refine⟨by omega,?_,?_⟩
    ·simp[Lv,hk0,b0,n1]
    ·rw[hE,N];simp only[zm,zQ,wK,QE,Cut.V];exact X
   ·rw[N]at hct;rw[N]at q C W X r;simp[E,F,G,u,w,z,h25,SN,h27,j,p,r,q,hkn,H,m1,m2,m3,zs,zF,zr];refine⟨by omega,?_,?_⟩
    ·simp[hk0,b0,n1]
    ·rw[hE,N];simp only[zK,wK,QE,Cut.V];exact W
  ·obtain rfl:k=l.length:=by omega
   rw[we,<-hl]at A;simp[E,F,G,u,w,z,h25,SN,h27,hw];exact⟨by omega,U,b0,L,A⟩
 ·obtain rfl:i=2:=by omega
  have hls3:(ls.take 2).flatten=a++b:=by rw[<-hls];simp
  rw[hls3]at A;have hsm:∀c∈q7 (a++b),c.v.small:=YQ (Q:=fun c=>c.v.small) fun s hs=>by
   rcases qO.1 hs with h|h
   ·exact ha2 s h
   ·exact hb2 s h
  have hcl:=Z5 (a++b);rw[w7]at hcl;obtain⟨Y',I,Tp,hfr'⟩:=pD A hsm (by omega);obtain⟨v,hv7⟩:=wM (M 7);obtain⟨cs,hcs⟩:=wM (Qx (q7 (a++b)));have hcsl:cs.length<=1073741824:=by rw[<-hcs,(xQ _).length_eq];omega
  have hcsm:∀c∈cs,c.v.small:=fun c hc=>hsm c ((xQ _).mem_iff.1 (by rw[hcs];exact hc))
  have hfin:kF f a b=(Vz (fun c=>f (yE a c) (yE b c)) cs (false,[])).2:=by rw[<-hcs,Wf];rfl
  obtain⟨is,his⟩:∃is:Cut->Bool,(fun c=>f (yE a c) (yE b c))=is:=⟨_,rfl⟩;have hisc:∀c,f (yE a c) (yE b c)=is c:=fun c=>by rw[<-his]
  rw[his]at hfin;rw[hv7]at I Tp;rw[hcs]at Tp;clear A hcs hsm K hls3;have hlen:=Tp.len gA;have p:(wg cs).length=cs.length:=by simp[wg]
  rw[p]at hlen;simp[E,F,G,u,w,z,hv7,I,hlen];refine ql (fun k M Y Z=>M 0=.sl 11 (qn a)/\M 1=.sl 11 (qn b)/\M 2=hv/\M 48=v/\M 49=int cs.length/\M 50=int k/\qN Y Z 113 5 v (wg cs)/\∃xs,qN Y Z 115 11 (M 12) xs/\xs.map (QL jA)=qn (Vz is (cs.take k) (false,[])).2 /\
    M 13=yh (Vz is (cs.take k) (false,[])).1/\(∀id n m,v=.own id 0 n->M 12≠.own id 0 m)/\((Vz is (cs.take k) (false,[])).1=true->(Vz is (cs.take k) (false,[])).2≠[])/\xs.length<=k/\(xs=[]->M 12=.nil)) cs.length
   ⟨by simp[E],by simp[F],by simp[G],by simp,by simp,by simp,Tp,[],.inl ⟨by simp,rfl⟩,by simp[Vz,qn],by simp[Vz],by simp,by simp[Vz],by simp,by simp⟩ ?_
  clear E F G u w z U b0 L Tp hi M Y Z hlt I hlen hfr' hv7 Y';rintro k M Y Z hk ⟨E,F,G,h48,h49,h50,A,xs,hX,g,R,sZ,hop,hxk,hxn⟩;by_cases j:k<cs.length
  ·have H:=wv k;obtain⟨id,hid,rfl,hh⟩:=A.at_ (by rw[p];omega);have o:=Cv is j (false,[]);obtain⟨st,Ei⟩:=wM (Vz is (cs.take k) (false,[]));obtain⟨c,hc⟩:=wM (cs[k]);rw[hc,Ei]at o;rw[Ei]at g R hop;have hopn:=Cu is st c hop;have D:c.v.small:=hcsm c (by rw[<-hc];exact zw j);have r:∀h:k<(wg cs).length,(wg cs)[k]=c.V:=fun h=>by simp[wg,hc]
   have hca:=fun Y Z=>dv a c Y Z hsa D
   have M9:=fun Y Z=>dv b c Y Z hsb D
   have d:=fun Y Z=>SD (yE a c) (yE b c) Y Z
   rw[hisc c]at d;simp only[Cut.V]at hca M9 r;have m0:¬id=Z:=by omega
   have m1:¬id=Z+1:=by omega
   have m2:¬id=Z+1+1:=by omega
   rw[p]at A;have hki:=fun Y'=>yr hX Y' id (fun n=>sZ id _ n rfl)
   have SO:bh is st c=(is c,if(is c&&!st.1)=true then st.2++[yt c]else if(!is c&&st.1)=true then Qw st.2 c else st.2):=rfl;rw[SO]at o;rw[SO]at hopn;simp only at hopn;obtain⟨op,out⟩:=st;simp only at g R hop hopn;cases hb:is c<;>cases op
   ·rw[hb]at d o;simp at o;simp[E,F,G,h48,h49,h50,p,j,hh,r,hca,M9,d,R,H,m0,o];exact⟨by omega,A.more _,xs,hX.more _,g,fun i n m e _=>sZ i _ m (by rw[e]),by omega,hxn⟩
   ·rw[hb]at d o;simp at o;have hne:=hop rfl;obtain⟨m,hm⟩:∃m,out.length=m+1:=⟨out.length-1,by have:=kc.2 hne;omega⟩;have B:xs.length=m+1:=by have:=zp List.length g;simp[qn]at this;omega
    obtain⟨S,hid2,J,Ir⟩:=hX.at_ (by omega);have Ej:¬S=id:=fun e=>sZ id _ _ rfl (by rw[J,e])
    have SP:¬id=S:=fun e=>Ej e.symm
    have p0:¬S=Z:=by omega
    rw[B]at J;have hlm:m<xs.length:=by omega
    have hlo:m<out.length:=by omega
    have hrm:QL jA xs[m]=out[m].V:=by
     have e1:(xs.map (QL jA))[m]?=(qn out)[m]?:=by rw[g]
     simp only[qD,zo hlm,qn,zo hlo,zE,zY]at e1;exact e1
    obtain⟨x3,x5,x6,x7,x8,x9,x10,K,AR,Ek⟩:=r8 hrm;have wm:=wj (m:Int);have wm1:IntKind.i64.wrap ((m:Int)+1-1)=(m:Int):=by rw[wU (by omega) (by omega)];omega
    simp[E,F,G,h48,h49,h50,p,j,hh,r,hca,M9,d,R,H,m0,o,J,Ir,p0,wm,wm1,hlm,K,Ek,yF];refine⟨by omega,.inr ⟨id,by omega,by rw[p],by simp[SP,m0,hh]⟩,xs.set m [int out[m].lo.v.a,int out[m].lo.v.b,int out[m].lo.v.c,x3,yh out[m].lo.after,int c.v.a,int c.v.b,int c.v.c,.sl 1 (qJ c.v.pre),yh c.after,yh false],.inr ⟨S,by omega,by simp[B],by simp⟩,?_,fun i n k' e _ e2=>absurd (e2.trans e.symm) Ej,by simp;omega,fun e=>by have:=zp List.length e;rw[List.length_set,B]at this;cases this⟩;rw[List.map_set,g,gJ hlo hm c,qn,qn,List.map_set];simp[AR,wG.V,Cut.V]
   ·rw[hb]at d o;simp at o;have q:=qN.ji (P:=prog) (t:=76) (c:=[int c.v.a,int c.v.b,int c.v.c,.sl 1 (qJ c.v.pre),yh c.after,int 0,int 0,int 0,.nil,yh false,yh true]) (hX.more (some ⟨113,5,false,[c.V]⟩)) T3 rG BC BD rfl (by omega) (by unfold maxLen;omega) (by omega);simp only[Cut.V]at q;simp[E,F,G,h48,h49,h50,p,j,hh,r,hca,M9,d,R,H,m0,o,q,zI,qe,zs,zF,zr];refine⟨by omega,.inr ⟨id,by omega,by rw[p],by simp[hki,hh,m0,m1,m2]⟩,xs++[[int c.v.a,int c.v.b,int c.v.c,.sl 1 (qJ c.v.pre),yh c.after,int 0,int 0,int 0,.nil,yh false,yh true]],by simpa using qN.after,?_,fun i n m e _ e2=>by omega,by simp;omega⟩;rw[kq,g];simp[qn,yt,wG.V,Cut.V,QP,qJ]
   ·rw[hb]at d o;simp at o;simp[E,F,G,h48,h49,h50,p,j,hh,r,hca,M9,d,R,H,m0,o];exact⟨by omega,A.more _,xs,hX.more _,g,fun i n m e _=>sZ i _ m (by rw[e]),hop rfl,by omega,hxn⟩
  ·obtain rfl:k=cs.length:=by omega
   rw[we]at g;rw[<-hfin]at g;have B:xs.length=(kF f a b).length:=by have:=zp List.length g;simpa[qn]using this
   simp[E,F,G,h48,h49,h50,f92];unfold Wy;rcases hX with⟨J,rfl⟩|⟨S,hid2,J,Ir⟩
   ·rw[zg (qM.1 B.symm)];exact J
   ·by_cases hz:kF f a b=[]
    ·rw[zg hz];rw[hz]at B;exact hxn (qM.1 B)
    ·rw[zf hz];refine⟨S,_,J,Ir,rfl,?_⟩;simp only[fq,g]
theorem Km(l:List wG):(Sh.s 11 jA).fix (.sl 11 (qn l))=.sl 11 (qn l):=by simp only[Sh.oR,qn,List.map_map];congr 1
noncomputable def Cx:zb->Option (Option Blk):=fun args=>
 match qW (α:=List wG×List wG) (fun a=>[.sl 11 (qn a.1),.sl 11 (qn a.2),.fn (.func 93) [] []]) (fun a=>jU a.1/\jU a.2) (fun a=>Wy and a.1 a.2) args with
 |some r=>some r
 |none=>qW (α:=List wG×List wG) (fun a=>[.sl 11 (qn a.1),.sl 11 (qn a.2),.fn (.func 94) [] []]) (fun a=>jU a.1/\jU a.2) (fun a=>Wy or a.1 a.2) args
theorem Hw(g:O):∀a b:List wG×List wG,[O.sl 11 (qn a.1),.sl 11 (qn a.2),g]=[.sl 11 (qn b.1),.sl 11 (qn b.2),g]->a=b:=by rintro⟨f,h⟩ ⟨i,j⟩ e;simp only[zq,qh]at e;obtain⟨c,d⟩:=e;injection c with _ c;injection d with _ d;rw[Z4 c,Z4 d]
theorem pE:zi prog 92 (vD [.s 11 jA,.s 11 jA] Cx):=
 JO (fn:=f92) UG (wc func92) _ jA _ fun args r h=>by
  unfold Cx at h;split at h
  ·rename_i r0 e;injection h with h;subst h
   obtain⟨⟨a,b⟩,rfl,⟨c,d⟩,rfl⟩:=zL e;exact⟨by simp[f92],dw and _ (fun x y Y Z=>by simp[Cs]) a b c d⟩
  ·obtain⟨⟨a,b⟩,rfl,⟨c,d⟩,rfl⟩:=zL h;exact⟨by simp[f92],dw or _ (fun x y Y Z=>by simp[Cs]) a b c d⟩
theorem Cy(args:zb)(r:Option Blk)(h:QX 9 1 args=some r):args.length<=f199.ntmps/\∃x Y Z,jr C0 f199 args (fun _=>none) 0=some (x,Y,Z)/\bD r x Y Z:=by
 unfold QX at h;split at h
 ·injection h with h;subst h;exact⟨by simp[f199],w9 rfl (by simp[Qi,KG,f199,bD])⟩
 ·injection h with h;subst h;exact⟨by simp[f199],w9 rfl (by simp[Qi,KG,f199,bD,zs,jF,AM.view,maxLen,zF,zr])⟩
 ·rename_i es;split at h
  ·rename_i d;obtain⟨rfl,a,b⟩:=d;injection h with h;subst h
   cases es with
   |nil=>exact absurd rfl a
   |cons c es=>
    unfold qg at b;simp at b;have e:es.length+1<=maxLen:=by unfold maxLen;omega
    have f:(es.length+1)*16<=140737488355328:=by omega
    refine⟨by simp[f199],w9 rfl ?_⟩;simp[Qi,KG,f199,bD,zs,jF,AM.view,zF,zr,e,f]
  ·cases h
 ·cases h
theorem uI:zi prog 199 (jL [] (QX 9 1)):=
 Yb (fn:=f199) (code:=_) jj ⟨func199,by kernel_rfl,rfl,by kernel_rfl⟩ [] _ Cy
def idV(v:yC):O:=.agg v.V
def idS(s:wG):O:=.agg s.V
noncomputable def FVe (f:yC->O):zb->Option O:=qW (α:=yC) (fun v=>[.agg v.V]) (fun v=>v.pre.length<=qg) f
theorem Cz(f:yC->O)(v:yC)(Y:Hp)(Z:Nat)(h:v.pre.length<=qg):qK [.g vd] (FVe f) [.agg v.V] Y Z=some (f v,Y,Z):=
 vL (show zH Y [.agg v.V]=some ([.agg v.V],Y) by simp[yC.V]) (by
  have c:(Sh.g vd).fix (.agg v.V)=.agg v.V:=by simp[yC.V]
  show FVe f [(Sh.g vd).fix (.agg v.V)]=_;rw[c];exact qX (V:=fun v:yC=>[O.agg v.V]) (a:=v) (fun a b e=>by simp only[zq,qh]at e;injection e with e;exact Ke e) h) (.inr (by simp[yC.V]))
noncomputable abbrev Ccpv:Ctx:=qj prog [(199,jL [] (QX 9 1))]
theorem UH:Gd Ccpv:=qQ mixed ⟨uI,trivial⟩
theorem ft(v:yC)(y:O)(f:iS 1 (qJ v.pre) y)(h:v.pre.length<=qg):∃r0,zG Ccpv f147 [.agg [int v.a,int v.b,int v.c,y]]=some r0/\wW r0 (.agg v.V):=by
 obtain⟨a,b,c,p⟩:=v;refine Ye (sh:=.g vd) rfl ?_;simp only at h f;generalize e:qJ p=T at f;have d:T.length<=qg:=by rw[<-e];simpa[qJ]using h
 cases f with
 |nil=>simp[jL,yR,QX,cY,yC.V,e,f147]
 |em=>simp[jL,yR,QX,cY,yC.V,e,f147]
 |sl=>rename_i i es;simp only[zd]at d;simp[jL,yR,QX,cY,yC.V,e,d,f147]
theorem dx:zi prog 147 (qK [.g vd] (FVe idV)):=
 Js (fn:=f147) UH (wc func147) false [] _ fun args r h w S vs c=>by obtain⟨v,e,d,rfl⟩:=zL h;have a:=J9 (hs:=[.g vd]) c;rw[e]at a;obtain⟨u,f,i⟩:=Jp a;subst f;obtain⟨y,k,b⟩:=gE i (j:=3) (s:=1) (es:=qJ v.pre) (by simp[yC.V]);obtain⟨r0,l,m⟩:=ft v y k d;exact⟨_,r0,.cons b .nil,by simp[f147],by simpa[yC.V]using l,m⟩
noncomputable def FSt (f:wG->O):zb->Option O:=qW (α:=wG) (fun s=>[.agg s.V]) wG.small f
theorem OY(f:wG->O)(s:wG)(u:O)(Y:Hp)(Z:Nat)(h:s.small)(c:(Sh.g jA).fix u=.agg s.V)(d:zO Y u=some (u,Y))(i:u.noOwn=true):qK [.g jA] (FSt f) [u] Y Z=some (f s,Y,Z):=
 vL (show zH Y [u]=some ([u],Y) by simp only[zH,d]) (by show FSt f [(Sh.g jA).fix u]=_;rw[c];exact qX (V:=fun v:wG=>[O.agg v.V]) (a:=s) (fun a b e=>by simp only[zq,qh]at e;injection e with e;exact nc e) h) (.inr (by rw[wZ,i];rfl))
noncomputable abbrev Ccps:Ctx:=qj prog [(147,qK [.g vd] (FVe idV))]
theorem UI:AM.Good Ccps (fun g=>[147].contains g):=qx mixed ⟨dx,fun _=>jn _ _,trivial⟩
theorem fu(s:wG)(hs:s.small):zG Ccps f95 [.agg s.V]=some (.agg s.V):=by
 refine zu rfl ?_;have d:∀Y Z,qK [.g vd] (FVe idV) [.agg [int s.lo.v.a,int s.lo.v.b,int s.lo.v.c,.sl 1 (qJ s.lo.v.pre)]] Y Z=some (.agg [int s.lo.v.a,int s.lo.v.b,int s.lo.v.c,.sl 1 (qJ s.lo.v.pre)],Y,Z):=fun Y Z=>Cz idV s.lo.v Y Z hs.1.1
 have e:∀Y Z,qK [.g vd] (FVe idV) [.agg [int s.hi.v.a,int s.hi.v.b,int s.hi.v.c,.sl 1 (qJ s.hi.v.pre)]] Y Z=some (.agg [int s.hi.v.a,int s.hi.v.b,int s.hi.v.c,.sl 1 (qJ s.hi.v.pre)],Y,Z):=fun Y Z=>Cz idV s.hi.v Y Z hs.2.1
 simp[wG.V,Cut.V,d,e,yx,f95,yF]
theorem dy:zi prog 95 (qK [.g jA] (FSt idS)):=
 yf (fn:=f95) UI (wc func95) _ _ fun args r h=>by obtain⟨s,rfl,a,rfl⟩:=zL h;exact⟨by simp[f95],_,fu s a,wW.refl _⟩
theorem Va{l:za}{n:Int}(h:xC l=some n):0<=n/\n<=999999:=by
 unfold xC at h;split at h
 ·rename_i a;injection h with h
  obtain⟨b,c⟩:=mS a.1;obtain⟨m,d,e⟩:=Qs l 0 c;have f:Lib.decNat l=some m:=by unfold Lib.decNat;rw[zf (by simpa using b)];exact d
  have g:m<10 ^ 6:=yi (by simpa using e) (KB (by omega) a.2);have i:n=(m:Int):=by rw[<-h];unfold QZ;rw[f];rfl
  omega
 ·cases h
theorem Lw{v:yC}(h:Jf v=0):(0<=v.a/\v.a<=999999)/\(0<=v.b/\v.b<=999999)/\(0<=v.c/\v.c<=999999)/\v.pre.length<=10/\∀p∈v.pre,yA p=false:=by
 unfold Jf at h;split at h
 ·rename_i d;simp only[v7,zD,q5]at d;split at h
  ·cases h
  ·rename_i g;split at h
   ·cases h
   ·rename_i e;refine⟨d.1,d.2.1,d.2.2,by omega,fun p Y=>?_⟩;cases f:yA p with
    |false=>rfl
    |true=>exact absurd (List.any_eq_true.2 ⟨p,Y,f⟩) e
 ·cases h
theorem UJ{t:za}{v:yC}(h:ug t=some v):Jf v=0:=by
 unfold ug at h;split at h
 ·split at h
  ·split at h
   ·rename_i a;injection h with h
    rw[<-h];exact a
   ·cases h
  ·cases h
 ·cases h
theorem FA{p:za}(h:yA p=false):p.length<=20:=by simp only[yA,wE,kH]at h;omega
theorem lk:∀(l:List za) (p q:Part) (i:Nat),yy p i l=some q->(0<=p.n0/\p.n0<=999999)/\(0<=p.n1/\p.n1<=999999)/\(0<=p.n2/\p.n2<=999999)/\0<=p.has/\p.has<=i/\(1<=i->1<=p.has)/\p.pre=[] ->
  (0<=q.n0/\q.n0<=999999)/\(0<=q.n1/\q.n1<=999999)/\(0<=q.n2/\q.n2<=999999)/\0<=q.has/\q.has<=i+l.length/\(1<=i+l.length->1<=q.has)/\q.pre=[]
 |[],p,q,i,h,Y=>by
  simp only[yy]at h;injection h with h
  subst h;simpa using Y
 |t::l,p,q,i,h,Y=>by
  simp only[yy]at h;split at h
  ·rename_i r hs;obtain⟨a,b,c,d,e,f,g⟩:=Y;have m:(0<=r.n0/\r.n0<=999999)/\(0<=r.n1/\r.n1<=999999)/\(0<=r.n2/\r.n2<=999999)/\0<=r.has/\r.has<=(i+1:Nat)/\(1<=i+1->1<=r.has)/\r.pre=[]:=by
    unfold w6 at hs;split at hs
    ·rename_i j;injection hs with hs
     obtain⟨n,k⟩:=Option.isSome_iff_exists.1 j.1;have o:=Va k;rw[k]at hs;simp only[WJ]at hs;subst hs;have s:=j.2;unfold Part.put;split<;>simp only<;>refine⟨?_,?_,?_,?_,?_,?_,g⟩<;>first|assumption|omega
    ·split at hs
     ·rename_i u;injection hs with hs
      subst hs;exact⟨a,b,c,d,by omega,fun _=>f (by omega),g⟩
     ·cases hs
   have:=lk l r q (i+1) h m;rw[zd];refine⟨this.1,this.2.1,this.2.2.1,this.2.2.2.1,?_,?_,this.2.2.2.2.2.2⟩
   ·have:=this.2.2.2.2.1;omega
   ·intro _;exact this.2.2.2.2.2.1 (by omega)
  ·cases h
def Qy(l:List za):Prop:=l.length<=10/\∀p∈l,yA p=false
theorem JP{l:List za}(h:Qy l):vr l:=⟨by have:=h.1;unfold qg;omega,fun p Y=>by have:=FA (h.2 p Y);unfold qg;omega⟩
theorem sb(s sep:za):qt s sep≠[]:=by
 unfold qt Lib.split;intro h;cases a:Lib.count s sep with
 |zero=>rw[a]at h;cases h
 |succ n=>rw[a]at h;simp only[Lib.splitK]at h;split at h<;>cases h
theorem Kn{t:za}(h:(zP t).2=true):(zP t).1.ok/\Qy (zP t).1.pre:=by
 unfold zP at h⊢;split at h
 ·rename_i a;rw[zg a];split at h
  ·rename_i v i;obtain⟨b,c,d,e,f⟩:=Lw (UJ i);exact⟨⟨b,c,d,⟨by simp,by simp⟩,JP ⟨e,f⟩⟩,e,f⟩
  ·cases h
 ·rename_i a;rw[zf a];split at h
  ·cases h
  ·rename_i j;rw[zf j];split at h
   ·rename_i p Y;have:=lk _ wz p 0 Y (by simp[wz]);obtain⟨b,c,d,e,f,k,l⟩:=this;have m:=kc.2 (sb t [46]);have g:Qy p.pre:=by rw[l];exact⟨by simp,by simp⟩
    exact⟨⟨b,c,d,⟨k (by omega),by show p.has<=3;omega⟩,JP g⟩,g⟩
   ·cases h
def xG.vY(c:xG):Prop:=c.sign.length<=3/\(c.sign=jy\/((c.p.ok/\Qy c.p.pre)/\(c.sign=[45]->c.tu.ok/\Qy c.tu.pre)))
theorem xG.vY.ok{c:xG}(h:c.vY):c.ok:=⟨by have:=h.1;unfold qg;omega,h.2.imp id fun⟨a,b⟩=>⟨a.1,fun e=>(b e).1⟩⟩
theorem Ko:∀(a:List za) (s:za),(wQ a s).1=[]\/(wQ a s).1∈a
 |[],s=>.inl rfl
 |g::l,s=>by
  simp only[wQ];split
  ·exact .inr (by simp)
  ·exact(Ko l s).imp id fun h=>by simp[h]
theorem CA{s:za}(h:s=[]\/s∈wx):s.length<=3/\s≠[45]:=by
 rcases h with rfl|h
 ·simp
 ·simp only[wx,zv,wu,or_false]at h;rcases h with rfl|rfl|rfl|rfl|rfl|rfl|rfl<;>simp
theorem Lx{w:za}{l l':List za}{c:xG}(h:kp w l=some (c,l')):c.vY/\l'.length<=l.length:=by
 refine⟨?_,OB h⟩;have a:=CA (Ko wx w);unfold kp at h;split at h
 ·injection h with h;injection h with h _;subst h;exact⟨by simp[ff,jy],.inl rfl⟩
 ·split at h
  ·split at h
   ·split at h
    ·rename_i b;injection h with h;injection h with h _;subst h
     exact⟨a.1,.inr ⟨Kn b,fun e=>absurd e a.2⟩⟩
    ·cases h
   ·cases h
  ·split at h
   ·rename_i b;injection h with h;injection h with h _;subst h
    exact⟨a.1,.inr ⟨Kn b,fun e=>absurd e a.2⟩⟩
   ·cases h
theorem sd:∀(n:Nat) (a:List za) (l:List xG),yH n a=some l->(∀c∈l,c.vY)/\l.length<=a.length
 | 0,a,l,h=>by
  simp only[yH]at h;injection h with h;subst h
  exact⟨by simp,by simp⟩
 |n+1,[],l,h=>by
  simp only[yH]at h;injection h with h;subst h
  exact⟨by simp,by simp⟩
 |n+1,w::a,l,h=>by
  simp only[yH]at h;split at h
  ·rename_i c l' hs;obtain⟨d,f⟩:=Lx hs;cases b:yH n l' with
   |none=>rw[b]at h;cases h
   |some r=>
    rw[b]at h;simp only[zE,zY]at h;subst h;obtain⟨e,g⟩:=sd n l' r b;refine⟨fun x hx=>?_,by simp;omega⟩;rcases zv.1 hx with rfl|hx
    ·exact d
    ·exact e x hx
  ·cases h
theorem Ly{t:za}(h:(QN t).2=true):(∀c∈(QN t).1,c.vY)/\(QN t).1.length<=t.length+1:=by
 have n:(wJ (qt t [32])).length<=t.length+1:=z8 (hU _ _) (xP (by simp));have f:∀d:List za,d=wJ (qt t [32])->((match yH d.length d with
   |some l=>(l,!l.isEmpty)
   |none=>([],false)):List xG×Bool).2=true->(∀c∈((match yH d.length d with
   |some l=>(l,!l.isEmpty)
   |none=>([],false)):List xG×Bool).1,c.vY)/\((match yH d.length d with
   |some l=>(l,!l.isEmpty)
   |none=>([],false)):List xG×Bool).1.length<=t.length+1:=by
  intro d e i;cases j:yH d.length d with
  |none=>rw[j]at i;cases i
  |some l=>obtain⟨o,k⟩:=sd _ _ _ j;exact⟨o,by rw[e]at k;exact z8 k n⟩
 unfold QN at h⊢;split at h
 ·rename_i a b c e;split at h
  ·rename_i g;simp only[zD]at h;rw[zg g];refine⟨fun x m=>?_,by simp⟩;simp only[wA]at m;subst m;exact⟨by simp,.inr ⟨Kn h.1,fun _=>Kn h.2⟩⟩
  ·rename_i g;rw[zf g];have:=f [a,b,c] (by rw[e]) h;exact this
 ·exact f _ rfl h
def Cut.vY(c:Cut):Prop:=Qy c.v.pre
theorem Cut.vY.small{c:Cut}(h:c.vY):c.v.small:=JP h
theorem se:QP.vY:=⟨by simp[QP],by simp[QP]⟩
theorem vQ:q8.vY:=⟨by simp[q8],by simp[q8,yA,eT,Kd,kg,yS,Kc,pr]⟩
theorem Xt(p:Part)(i:Nat):(jw p i).vY:=by
 have h:(jw p i).v.pre=[[48]]:=by unfold jw;split<;>rfl
 have:=vQ;unfold Cut.vY at this⊢;rw[h];exact this
theorem nm{p:Part}(h:Qy p.pre):(ZA p).vY:=h
theorem aa{p:Part}(h:Qy p.pre):(vw p).vY:=by
 unfold vw;split
 ·exact Xt _ _
 ·exact h
theorem Wz{a b:Cut}(c:a.vY)(d:b.vY):(eZ a b).length<=1/\∀s∈eZ a b,s.lo.vY/\s.hi.vY:=by
 unfold eZ;split
 ·exact⟨by simp,by simp⟩
 ·refine⟨by simp,fun s hs=>?_⟩;simp only[wA]at hs;subst hs;exact⟨c,d⟩
theorem Q3{a:Cut}(b:a.vY):([yt a]:List wG).length<=1/\∀s∈[yt a],s.lo.vY/\s.hi.vY:=by refine⟨by simp,fun s hs=>?_⟩;simp only[wA]at hs;subst hs;exact⟨b,se⟩
theorem ab{c:xG}(b:c.vY):(vy c).1.length<=1/\∀s∈(vy c).1,s.lo.vY/\s.hi.vY:=by
 obtain⟨_,b⟩:=b;unfold vy;by_cases d:c.sign=jy
 ·rw[zg d];exact Q3 vQ
 rw[zf d];obtain⟨⟨_,Y⟩,g⟩:=b.resolve_left d;have a:=nm Y;have f:=aa Y;split
 ·exact Q3 a
 split
 ·exact Wz vQ a
 split
 ·exact Q3 f
 split
 ·exact Wz vQ f
 split
 ·rename_i e;exact Wz a (aa (g e).2)
 split
 ·exact Wz a (Xt _ _)
 split
 ·exact Wz a (Xt _ _)
 ·exact Wz a f
def jI(l:List wG):Prop:=∀s∈l,s.lo.vY/\s.hi.vY
theorem jI.small{l:List wG}(h:jI l)(a:l.length<=qg):jU l:=⟨a,fun s hs=>⟨(h s hs).1.small,(h s hs).2.small⟩⟩
theorem vW(f:Bool->Bool->Bool){a b:List wG}(c:jI a)(d:jI b):jI (kF f a b):=rZ se f c d
def oU:List za->Option (List (List xG))
 |[]=>some []
 |s::l=>if(QN s).2=true then(oU l).map ((QN s).1::·)else none
noncomputable def VA:List xG->List wG->Option (List wG)
 |[],m=>some m
 |c::l,m=>if(vy c).2=true then VA l (kF and m (vy c).1)else none
noncomputable def dz:List (List xG)->List wG->Option (List wG)
 |[],o=>some o
 |l::a,o=>match VA l [yt q8]with
  |some m=>dz a (kF or o m)
  |none=>none
noncomputable def Qz (t:za):List wG×Int:=if(400:Int)<t.length then([],2)else match oU (qt t [124,124])with
 |none=>([],10)
 |some a=>match dz a []with
  |none=>([],1)
  |some o=>if(100:Int)<o.length then([],2)else(o,0)
theorem CB:∀(l:List za) (d:List (List xG)) (n:Nat),(∀s∈l,s.length<=n)->oU l=some d->(∀a∈d,(∀c∈a,c.vY)/\a.length<=n+1)/\d.length=l.length
 |[],d,n,_,h=>by
  simp only[oU]at h;injection h with h;subst h
  exact⟨by simp,rfl⟩
 |s::l,d,n,e,h=>by
  simp only[oU]at h;split at h
  ·rename_i hs;cases b:oU l with
   |none=>rw[b]at h;cases h
   |some r=>
    rw[b]at h;simp only[zE,zY]at h;subst h;obtain⟨f,g⟩:=CB l r n (fun x i=>e x (by simp[i])) b;obtain⟨j,k⟩:=Ly hs;have:=e s (by simp);refine⟨fun a b=>?_,by simp[g]⟩;rcases zv.1 b with rfl|b
    ·exact⟨j,by omega⟩
    ·exact f a b
  ·cases h
attribute [local go_sem] Oper.semAt_some
theorem FB{P:Program}{g:FuncId}{F:zb->Option O}{us:List Value}{v:Value}(h:wO True P g (zn false [] F))(d:zn false [] F (us.map O.v) (fun _=>none) 0=some (.v v,fun _=>none,0))(f:∀u∈us,lit u=true){W:World}(l:Ij P W fun b=>b<W.heap.size) :
  Calls P g us.toArray W fun e i=>e=.returned v/\Fr True W (fun _=>False) i:=by
 have m:Zip (qw W (fun b=>b<W.heap.size) (fun _=>⟨0,0,0⟩) 0) (us.map O.v) us:=by
  induction us with
  |nil=>exact .nil
  |cons u us j=>exact .cons (.c (.v (f u (by simp)))) (by
    clear d;have:∀us:List Value,(∀u∈us,lit u=true)->Zip (qw W (fun b=>b<W.heap.size) (fun _=>⟨0,0,0⟩) 0) (us.map O.v) us:=by
     intro us
     induction us with
     |nil=>intro _;exact .nil
     |cons u us j=>intro h;exact .cons (.c (.v (h u (by simp)))) (j fun x a=>h x (by simp[a]))
    exact this us fun x a=>f x (by simp[a]))
 refine(h.2 _ _ _ _ _ _ d W (fun b=>b<W.heap.size) (fun _=>⟨0,0,0⟩) us (X4 _ (fun b n=>n) l) m).mono fun e i o=>?_
 obtain⟨x,q,r,rfl,st,a⟩:=o;obtain⟨rfl,_⟩:=a.yn;exact⟨rfl,⟨st.fr.os,st.fr.tape,st.fr.output,st.fr.size,st.fr.drawn,fun k p _=>st.fr.block k p fun⟨_,_,h,_⟩=>by cases h⟩⟩
theorem ll{W b:World}{L:Nat->Prop}(h:Fr True W L b){a:Addr}{v:Value}(c:W.cell? a=some v)(d:¬L a.block):b.cell? a=some v:=by rw[<-c];exact XU (h.block _ (GW c) d)
def aH(l:List za):List Value:=l.map fun p=>.string ⟨p.toArray⟩
def OZ(w:World)(b:Nat):Nat:=match w.cell? ⟨b,0,none⟩with
 |some (.string s)=>s.size
 |_=>0
def vv(w:World)(b:Nat)(v:Value):Prop:=∃cs ty,w.heap[b]?=some (.cells cs ty (0,0))/\cs[0]?=some v
theorem vv.cell{w:World}{b:Nat}{v:Value}(h:vv w b v):w.cell? ⟨b,0,none⟩=some v:=by obtain⟨cs,ty,a,c⟩:=h;simp[World.cell?,a,c]
theorem vv.free{w:World}{b:Nat}{v:Value}(h:vv w b v):w.frozen? ⟨b,0,none⟩=false:=by obtain⟨cs,ty,a,c⟩:=h;simp[World.frozen?,a]
theorem vv.same{w a:World}{b:Nat}{v:Value}(h:vv w b v)(e:a.heap[b]?=w.heap[b]?):vv a b v:=by obtain⟨cs,ty,c,d⟩:=h;exact⟨cs,ty,e.trans c,d⟩
theorem vv.lt{w:World}{b:Nat}{v:Value}(h:vv w b v):b<w.heap.size:=by obtain⟨cs,ty,a,c⟩:=h;exact(z6.1 a).1
theorem vv.set{w:World}{b:Nat}{v:Value}(u:Value)(h:vv w b v):vv (w.setCell ⟨b,0,none⟩ u) b u:=by obtain⟨cs,ty,a,c⟩:=h;have d:=(z6.1 c).1;refine⟨cs.setIfInBounds 0 u,ty,?_,by simp[d]⟩;simp[World.setCell,ZT,a]
theorem vv.SQ{w:World}{b:Nat}(u:Value)(B:Nat->Prop)(a:B b):Fr True w B (w.setCell ⟨b,0,none⟩ u):=
 ⟨rfl,rfl,rfl,by simp[World.setCell],fun _=>zk _,fun k _ c=>by
  have:¬b=k:=fun e=>c (e ▸ a)
  simp[World.setCell,ZT,this]⟩
theorem vv.str{w:World}{b:Nat}{s:ByteArray}(h:vv w b (.string s)):OZ w b=s.size:=by unfold OZ;rw[h.cell]
theorem uJ(n l B1 B2 B3:Nat)(sep t:za)(hs1:1<=sep.length)(hs2:sep.length<=qg)(ht:t.length<=qg)(h12:B1≠B2)(h23:B3≠B2)(J Jx:List Value->World->Prop)
  (hJ:∀pre W W',J pre W->Fr True W (fun b=>b=B1\/b=B2\/b=B3) W'->J pre W') (hGl:∀pre W,J pre W->Ij prog W fun b=>b<W.heap.size)
  (hY:∀pre x W,J pre W->(aH (qt t sep))[pre.length]?=some x->YieldAt Fence.wide n prog l #[x] W fun e W'=>(e=.returned (.bool true)/\J (pre++[x]) W'/\(∀b,(b=B1\/b=B2\/b=B3)->W'.heap[b]?=W.heap[b]?)/\W.heap.size<=W'.heap.size)\/(e=.returned (.bool false)/\Jx (pre++[x]) W'))
  (W:World) (h0:J [] W) (h1:W.cell? ⟨B1,0,none⟩=some (.string ⟨sep.toArray⟩)) (h2:vv W B2 (.string ⟨t.toArray⟩)) (h3:W.cell? ⟨B3,0,none⟩=some (.int .i64 0)) :
  CallsIn Fence.wide (n+1) prog 186 #[.func (.yield l) #[] #[],.pointer (some ⟨B1,0,none⟩),.pointer (some ⟨B2,0,none⟩),.pointer (some ⟨B3,0,none⟩)] W fun e W'=>(∃v,e=.returned v)/\(J (aH (qt t sep)) W'\/∃pre,Jx pre W'):=by
 refine callsIn_of_wp func186 rfl trivial ?_ rfl;simp only[Tryz.ntmps186,wF,zd,ze,Nat.reduceAdd,Nat.reduceSub,Array.replicate_succ,Array.replicate_zero,List.push_toArray,List.append_toArray,xE,qU];have h2c:=h2.cell;have hse:((sep.length:Int)==0)=false:=w8.2 (by omega)
 gi_wp2
 try simp only[hse]
 have hx:∀cur:za,cur.length<=qg->∀wr:World,Ij prog wr (fun b=>b<wr.heap.size)->Calls prog 188 #[.string ⟨cur.toArray⟩,.string ⟨sep.toArray⟩] wr fun e w'=>e=.returned (.int .i64 (Lib.index cur sep))/\Fr True wr (fun _=>False) w':=fun cur hc wr hg=>by exact FB (us:=[.string ⟨cur.toArray⟩,.string ⟨sep.toArray⟩]) cZ (Ka cur sep _ _ hc hs2) (by simp[lit]) hg
 gi_loopw [] (fun wr=>∃(done:List za) (cur:za),qt t sep=done++qt cur sep/\cur.length<=t.length/\J (aH done) wr/\wr.cell? ⟨B1,0,none⟩=some (.string ⟨sep.toArray⟩)/\vv wr B2 (.string ⟨cur.toArray⟩)/\wr.cell? ⟨B3,0,none⟩=some (.int .i64 0))
  (fun wr=>OZ wr B2)
 case atStart=>exact⟨[],t,rfl,zk _,h0,h1,h2,h3⟩
 case round=>
  obtain⟨done,cur,hsp,hcl,hJs,c1,k2,c3⟩:=hrel;have c2:=k2.cell;have hg:=hGl _ _ hJs
  gi_wp2
  refine⟨trivial,oO.2 ((hx cur (z8 hcl ht) wr hg).mono ?_)⟩;rintro e w1 ⟨rfl,fr⟩;dsimp only;have d1:=ll fr c1 (fun h=>h);have m2:=k2.same (fr.block _ k2.lt fun h=>h);have d2:=m2.cell;have d3:=ll fr c3 (fun h=>h);have hJ1:=hJ _ _ _ hJs ⟨fr.os,fr.tape,fr.output,fr.size,fr.drawn,fun k hk _=>fr.block k hk fun h=>h⟩;have hel:(aH done).length=done.length:=by simp[aH]
  by_cases hneg:Lib.index cur sep<0
  ·have hsk:qt cur sep=[cur]:=by
    have hm:Lib.index cur sep=-1:=by
     rcases Lib.index_spec cur sep with⟨h,_⟩|⟨i,h,_⟩
     ·exact h
     ·omega
    unfold qt Lib.split;rw[Lib.count_miss hm];rfl
   have hu:(aH (qt t sep))[(aH done).length]?=some (.string ⟨cur.toArray⟩):=by rw[hsp,hsk,hel];simp[aH]
   obtain⟨fn,tmps,assign,body,hy,hR⟩:=hY _ _ w1 hJ1 hu
   gi_wp2
   refine hR.mono ?_;rintro e W3 (⟨rfl,hJ3,hk3,hz3⟩|⟨rfl,hJx3⟩)
   ·gi_wp2
    go_end0
    refine⟨⟨_,rfl⟩,.inl ?_⟩;rw[hsp,hsk];simpa[aH]using hJ3
   ·gi_wp2
    go_end0
    exact⟨⟨_,rfl⟩,.inr ⟨_,hJx3⟩⟩
  ·obtain⟨i,hi⟩:∃i:Nat,Lib.index cur sep=i:=⟨(Lib.index cur sep).toNat,by omega⟩;have hne:sep≠[]:=by rintro rfl;simp at hs1
   have hsk:qt cur sep=cur.take i::qt (cur.drop (i+sep.length)) sep:=by unfold qt Lib.split;rw[Lib.count_hit hne hi,ek 1,bH hi]
   have htk:(cur.drop (i+sep.length)).take (cur.length-(i+sep.length))=cur.drop (i+sep.length):=qi (by simp);have hroom:=Lib.index_room cur sep (by omega);rw[hi]at hroom;unfold qg at ht hs2;have hwi:wrap64 (i:Int)=(i:Int):=by unfold wrap64;omega
   have hu:(aH (qt t sep))[(aH done).length]?=some (.string ⟨(cur.take i).toArray⟩):=by rw[hsp,hsk,hel];simp[aH]
   obtain⟨fn,tmps,assign,body,hy,hR⟩:=hY _ _ w1 hJ1 hu;rw[hi]
   gi_wp2
   refine hR.mono ?_;rintro e W3 (⟨rfl,hJ3,hk3,hz3⟩|⟨rfl,hJx3⟩)
   ·have e1:W3.cell? ⟨B1,0,none⟩=some (.string ⟨sep.toArray⟩):=by rw[<-d1];exact XU (hk3 B1 (.inl rfl))
    have o2:=m2.same (hk3 B2 (.inr (.inl rfl)));have e2:=o2.cell;have e4:=o2.free;have e3:W3.cell? ⟨B3,0,none⟩=some (.int .i64 0):=by rw[<-d3];exact XU (hk3 B3 (.inr (.inr rfl)))
    gi_wp2
    go_roundw
    case rel=>
     refine⟨done++[cur.take i],cur.drop (i+sep.length),by rw[hsp,hsk];simp,by simp;omega,?_,?_,?_,?_⟩
     ·have:=hJ _ _ _ hJ3 (vv.SQ (w:=W3) (b:=B2) (.string ⟨(cur.drop (i+sep.length)).toArray⟩) (fun b=>b=B1\/b=B2\/b=B3) (.inr (.inl rfl)));simpa[aH]using this
     ·exact ll (vv.SQ (w:=W3) (b:=B2) _ (fun b=>b=B2) rfl) e1 h12
     ·exact o2.set (.string ⟨(cur.drop (i+sep.length)).toArray⟩)
     ·exact ll (vv.SQ (w:=W3) (b:=B2) _ (fun b=>b=B2) rfl) e3 h23
    case measure=>have:=o2.set (.string ⟨(cur.drop (i+sep.length)).toArray⟩);rw[this.str,k2.str];simp;omega
   ·gi_wp2
    refine bodyPost_ret (results_none rfl _ _ _) rfl ?_;exact⟨⟨_,rfl⟩,.inr ⟨_,hJx3⟩⟩
def dA:Qf:=fun cap Y=>match cap with
 |[.ref b 0 0,.ref a 0 0,.ref c 0 0]=>match Y b,Y a,Y c with
  |some ⟨_,1,false,[[.v (.string sep)]]⟩,some ⟨_,1,false,[[.v (.string t)]]⟩,some ⟨_,1,false,[[.v (.int .i64 0)]]⟩=>
   if b≠a/\c≠a/\1<=sep.data.toList.length/\sep.data.toList.length<=qg/\t.data.toList.length<=qg then some ((qt t.data.toList sep.data.toList).map str,qf (qf (qf Y b none) a none) c none)else none
  |_,_,_=>none
 |_=>none
theorem fv{P:Program}{w:World}{S:Nat->Prop}{G:Nat->GI}{Y:Hp}{Z id e:Nat}{u:Value}(c:Inv P w S G Y Z)(d:Y id=some ⟨e,1,false,[[.v u]]⟩):vv w (G id).g u:=by have b:=c.live id _ d;have hs:(G id).s=1:=b.bs.symm;obtain⟨a,f,k,h⟩:=b.row (by omega);obtain⟨x,i,j⟩:=h 0 0 [.v u] (.v u) rfl rfl;obtain⟨rfl,_⟩:=j.2.1.yn;exact⟨a,e,f,by simpa[hs]using i⟩
theorem FD:Bs True prog 186 dA:=by
 refine⟨⟨_,func186,by kernel_rfl,by kernel_rfl⟩,fun cap Y Z xs Y1 h=>?_⟩;unfold dA at h;split at h
 case h_2=>cases h
 rename_i d c i3;split at h
 case h_2=>cases h
 rename_i e1 sep e2 t e3 s r u;split at h
 case isFalse=>cases h
 rename_i F;obtain⟨v,x,y,z,H⟩:=F;injection h with h
 injection h with I a;subst I;subst a;have f:∀id b,qf (qf (qf Y d none) c none) i3 none id=some b->Y id=some b/\id≠d/\id≠c/\id≠i3:=fun id b a=>by
  by_cases o:id=i3
  ·subst o;rw[wR]at a;cases a
  rw[zc _ _ _ _ o]at a;by_cases p:id=c
  ·subst p;rw[wR]at a;cases a
  rw[zc _ _ _ _ p]at a;by_cases q:id=d
  ·subst q;rw[wR]at a;cases a
  rw[zc _ _ _ _ q]at a;exact⟨a,q,p,o⟩
 refine⟨aH (qt t.data.toList sep.data.toList),by simp[aH],by simp[aH,lit],fun id b a=>(f id b a).1,fun w S G vs j k=>?_⟩;obtain⟨v1,r1,rfl,K,k⟩:=k.jX;obtain⟨v2,r2,rfl,L,k⟩:=k.jX;obtain⟨v3,r3,rfl,N,k⟩:=k.jX;obtain rfl:=k.Y8;have P:=fv j s;have Q:=fv j r;have R:=fv j u;obtain⟨_,rfl⟩:=K.Wn;obtain⟨_,rfl⟩:=L.Wn;obtain⟨_,rfl⟩:=N.Wn;have A:(G d).g≠(G c).g:=fun e=>v (j.inj _ _ _ _ s r e)
 have B:(G i3).g≠(G c).g:=fun e=>x (j.inj _ _ _ _ u r e)
 refine⟨fun b=>b=(G d).g\/b=(G c).g\/b=(G i3).g,?_,?_⟩
 ·have m:∀i blk,Y i=some blk->(i=d\/i=c\/i=i3)->kn Y G (G i).g/\VO S G (qf (qf (qf Y d none) c none) i3 none) (G i).g:=fun i blk a C=>
   ⟨⟨i,blk,a,rfl⟩,j.apart i blk a,fun id T hid e=>by
     obtain⟨U,q,p,o⟩:=f id T hid;have:=j.inj _ _ _ _ U a e;subst this;rcases C with h|h|h
     ·exact q h
     ·exact p h
     ·exact o h⟩
  rintro b (rfl|rfl|rfl)
  ·exact m d _ s (.inl rfl)
  ·exact m c _ r (.inr (.inl rfl))
  ·exact m i3 _ u (.inr (.inr rfl))
 ·intro n l J X hJ hJx D hY W h0 E _;have:=uJ n l (G d).g (G c).g (G i3).g sep.data.toList t.data.toList y z H A B J X hJ D hY W h0 (P.same (E _ (.inl rfl))).cell (Q.same (E _ (.inr (.inl rfl)))) (R.same (E _ (.inr (.inr rfl)))).cell;simpa using this
end Go.Q
