/- Lemmas. -/
import Derived.Shelf.Spec.SlicesGrow
import Derived.Laws.CopyRow
import Derived.Lib.Overlaps
import Derived.Lib.AppendZerosOnto
import Derived.Laws.NewBlocks
import Derived.Shelf.Spec.SlicesInsert
import Derived.Test.YtgkaeihkflnckaaGreatDoorG9
set_option maxRecDepth 100000
set_option maxHeartbeats 4000000
open Go Proofs Proofs.YtgkaeihkflnckaaGreatDoor Proofs.Tryz RowKit AM SpanLaw Q Zz
open Go.IntKind renaming i64→i6
namespace Go.Q
theorem TO.ltle{α:Type}{c:α->α->Int}(h:TO c){x y z:α}(d:c x y<0)(a:c y z<=0):c x z<0:=by
 rcases ZM a with a|a
 ·exact h.trans d a
 ·have e:=h.tr x y z (by omega) (by omega);rcases ZM e with b|b
  ·exact b
  ·have f:=(h.eq y z).1 a;have g:=(h.eq x z).1 b;have:=h.tr y z x (by omega) (by omega);have:=(h.flip x y).1 d;omega
theorem TO.lelt{α:Type}{c:α->α->Int}(h:TO c){x y z:α}(b:c x y<=0)(d:c y z<0):c x z<0:=by
 have e:=h.tr x y z b (by omega);rcases ZM e with a|a
 ·exact a
 ·have f:=(h.eq x z).1 a;have:=h.tr z x y (by omega) b;have:=(h.flip y z).1 d;omega
theorem TO.irr{α:Type}{c:α->α->Int}(h:TO c)(x:α):¬c x x<0:=by rw[h.refl];omega
theorem TO.zbM{α:Type}{c:α->α->Int}(h:TO c){x y:α}(a:¬c x y<0):c y x<=0:=(h.le y x).2 (by omega)
theorem TO.IJ{α:Type}{c:α->α->Int}(h:TO c){x y:α}(a:¬c x y<=0):c y x<0:=(h.flip y x).2 (by omega)
theorem orL2{a b:Int}(h:KC [a,b]=0):a=0/\b=0:=by
 simp only[KC]at h;split at h
 ·rename_i e;split at h
  ·rename_i c;exact⟨e,c⟩
  ·rename_i c;exact absurd h c
 ·rename_i e;exact absurd h e
theorem orL3{a b c:Int}(h:KC [a,b,c]=0):a=0/\b=0/\c=0:=by
 simp only[KC]at h;split at h
 ·rename_i e;split at h
  ·rename_i d;split at h
   ·rename_i f;exact⟨e,d,f⟩
   ·rename_i f;exact absurd h f
  ·rename_i d;exact absurd h d
 ·rename_i e;exact absurd h e
theorem Gl{p q:za}(Y:yx p=true)(j:yx q=true)(h:Lib.trimLeftB p 48=Lib.trimLeftB q 48):p=q:=by
 have a:∀p:za,yx p=true->(p=[48]/\Lib.trimLeftB p 48=[])\/(Lib.trimLeftB p 48=p/\p≠[]):=by
  intro p Y;cases p with
  |nil=>simp[yx]at Y
  |cons c l=>
   by_cases i:c=48
   ·subst i;cases l with
    |nil=>exact .inl ⟨rfl,rfl⟩
    |cons d l=>simp[yx]at Y
   ·refine .inr ⟨?_,by simp⟩;unfold Lib.trimLeftB;rw[ZN (by simpa using i)]
 rcases a p Y with⟨b,f⟩|⟨b,f⟩<;>rcases a q j with⟨e,g⟩|⟨e,g⟩
 ·rw[b,e]
 ·rw[f,e]at h;exact absurd h.symm g
 ·rw[b,g]at h;exact absurd h f
 ·rw[b,e]at h;exact h
theorem sA{p:za}(h:wD p=false):p≠[]/\(kV p=true->yx p=true):=by simp only[wD,wE]at h;obtain⟨⟨_,b⟩,a⟩:=h;refine⟨fun e=>by subst e;simp[eJ]at b,fun hd=>?_⟩;rw[hd]at a;simpa using a
theorem L4{p q:za}(Y:wD p=false)(d:wD q=false)(h:wP p q=0):p=q:=by
 obtain⟨j,e⟩:=sA Y;obtain⟨k,f⟩:=sA d;have g:xA p=kV p:=by cases p<;>simp_all[xA]
 have c:xA q=kV q:=by cases q<;>simp_all[xA]
 unfold wP at h;rw[g,c]at h;cases a:kV p<;>cases b:kV q<;>simp only[a,b,qH,zF,qR]at h
 ·exact(kP p q).1 h
 ·cases h
 ·cases h
 ·obtain⟨_,i⟩:=orL2 h;exact Gl (e a) (f b) ((kP _ _).1 i)
theorem H4{α:Type}{c:α->α->Int}:∀{a b:List α},(∀x∈a,∀y∈b,c x y=0->x=y)->w9 c a b=0->a=b
 |[],[],_,_=>rfl
 |[],_::_,_,h=>by simp[w9]at h
 |_::_,[],_,h=>by simp[w9]at h
 |x::a,y::b,d,h=>by
  simp only[w9]at h;split at h
  ·rename_i e;rw[d x (by simp) y (by simp) e,H4 (fun u f v g=>d u (by simp[f]) v (by simp[g])) h]
  ·rename_i e;exact absurd h e
theorem lk{a b:Cut}(j:a.vU)(k:b.vU)(h:wb a b=0):a=b:=by
 obtain⟨⟨z,A,B,l⟩,m⟩:=a;obtain⟨⟨C,D,E,n⟩,o⟩:=b;unfold wb at h;split at h
 ·rename_i c;have p:m=o:=by
   split at h
   ·rename_i e;exact e
   ·split at h<;>cases h
  unfold xI at c;split at c
  ·rename_i d;obtain⟨q,r,s⟩:=orL3 d;have f:=XX q;have g:=XX r;have i:=XX s;have t:l=n:=by
    simp only at c;split at c
    ·rename_i u;split at c
     ·rename_i l2;rw[qy.1 u,qy.1 l2]
     ·cases c
    ·split at c
     ·cases c
     ·exact H4 (fun x v y w=>L4 (j.2 x v) (k.2 y w)) c
   simp only at f g i;rw[f,g,i,t,p]
  ·rename_i d;exact absurd c d
 ·rename_i c;exact absurd h c
mutual
def H5(a:Cut->Bool):List Cut->List qK
 |[]=>[]
 |c::l=>if a c=true then SJ a c l else H5 a l
def SJ(a:Cut->Bool)(s:Cut):List Cut->List qK
 |[]=>[w5 s]
 |c::l=>if a c=true then SJ a s l else bE s c::H5 a l
end
theorem uV(out:List qK)(s c:Cut):Qu (out++[w5 s]) c=out++[bE s c]:=by unfold Qu;rw[List.getLast?_append];simp[w5,bE]
theorem nC(a:Cut->Bool):∀(l:List Cut) (out:List qK),(Vo a l (false,out)).2=out++H5 a l/\∀s,(Vo a l (true,out++[w5 s])).2=out++SJ a s l
 |[],out=>⟨by simp[Vo,H5],fun s=>by simp[Vo,SJ]⟩
 |c::l,out=>by
  have b:∀st,Vo a (c::l) st=Vo a l (aU a st c):=fun _=>rfl
  constructor
  ·rw[b];cases h:a c
   ·have:aU a (false,out) c=(false,out):=by simp[aU,h]
    rw[this,(nC a l out).1,H5,h,zc (by simp)]
   ·have:aU a (false,out) c=(true,out++[w5 c]):=by simp[aU,h]
    rw[this,(nC a l out).2 c,H5,h,zd rfl]
  ·intro s;rw[b];cases h:a c
   ·have:aU a (true,out++[w5 s]) c=(false,out++[bE s c]):=by simp[aU,h,uV]
    rw[this,(nC a l (out++[bE s c])).1,SJ,h,zc (by simp),qM];rfl
   ·have:aU a (true,out++[w5 s]) c=(true,out++[w5 s]):=by simp[aU,h]
    rw[this,(nC a l out).2 s,SJ,h,zd rfl]
noncomputable def nD (a b:List qK):List Cut:=cV (Qv (qW a++qW b))
theorem CO(f:Bool->Bool->Bool)(a b:List qK):kB f a b=H5 (fun c=>f (yl a c) (yl b c)) (nD a b):=by unfold kB;rw[mV,(nC _ _ []).1];rfl
theorem J6(a b:List qK)(c:Cut):c∈nD a b↔c∈qW a\/c∈qW b:=by unfold nD;rw[fe,(xR _).mem_iff,zM]
theorem X0{l:List qK}(h:yW l):∀c∈qW l,c.vU:=YL h
theorem KP{a b:List qK}(c:yW a)(d:yW b):(nD a b).Pairwise fun x y=>wb x y<0:=by
 refine cW _ (fun x e y f h=>?_) (pz _);have g:∀z∈Qv (qW a++qW b),z.vU:=fun z i=>by
  rcases zM.1 ((xR _).mem_iff.1 i)with h|h
  ·exact X0 c z h
  ·exact X0 d z h
 exact lk (g x e) (g y f) h
def au:Option Cut->List qK->Prop
 |_,[]=>True
 |lo,s::l=>(∀q,lo=some q->wb q s.lo<0)/\if s.yv=true then l=[]/\s.hi=QM else wb s.lo s.hi<0/\au (some s.hi) l
theorem L5{lo:Option Cut}{l:List qK}(h:au lo l):au none l:=by
 cases l with
 |nil=>trivial
 |cons s l=>exact⟨fun q e=>(by cases e),h.2⟩
theorem Gm(f:Cut->Bool):∀(l:List Cut),l.Pairwise (fun x y=>wb x y<0)->(∀lo:Option Cut,(∀q,lo=some q->∀x∈l,wb q x<0)->au lo (H5 f l))/\∀(lo:Option Cut) (s:Cut),(∀q,lo=some q->wb q s<0)->(∀x∈l,wb s x<0)->au lo (SJ f s l)
 |[],_=>⟨fun _ _=>trivial,fun lo s h _=>⟨h,by simp[w5]⟩⟩
 |c::l,hs=>by
  obtain⟨g,k⟩:=wV.1 hs;obtain⟨i,j⟩:=Gm f l k;constructor
  ·intro lo a;rw[H5];split
   ·exact j lo c (fun q b=>a q b c (by simp)) g
   ·exact i lo fun q b x d=>a q b x (by simp[d])
  ·intro lo s a e;rw[SJ];split
   ·exact j lo s a fun x d=>e x (by simp[d])
   ·refine⟨a,?_⟩;simp only[bE,zF,qR];exact⟨e c (by simp),i (some c) fun q b x d=>by injection b with b;rw[<-b];exact g x d⟩
noncomputable def Q5 (a:Cut->Bool):Bool->List Cut->Cut->Bool
 |d,[],_=>d
 |d,x::l,c=>if wb x c<=0 then Q5 a (a x) l c else d
theorem WD:∀{l:List qK} {lo c:Cut},au (some lo) l->wb c lo<=0->yl l c=false
 |[],_,_,_,_=>rfl
 |s::l,lo,c,h,e=>by
  have f:wb lo s.lo<0:=h.1 lo rfl;have b:wb c s.lo<0:=wj.lelt e f;have g:kY s c=false:=by have:=(wj.flip c s.lo).1 b;simp[kY,show¬wb s.lo c<=0 by omega]
  have d:yl l c=false:=by
   have a:=h.2;split at a
   ·rw[a.1];rfl
   ·exact WD a.2 (Zi (wj.trans b a.1))
  unfold yl at d⊢;rw[y9,g,d];rfl
theorem PB(b:Cut->Bool)(c:Cut):∀(l:List Cut),l.Pairwise (fun x y=>wb x y<0)->yl (H5 b l) c=Q5 b false l c/\∀s,(∀x∈l,wb s x<0)->yl (SJ b s l) c=if wb s c<=0 then Q5 b true l c else false
 |[],_=>⟨rfl,fun s _=>by simp[SJ,yl,kY,w5,Q5]⟩
 |x::l,hs=>by
  obtain⟨k,r⟩:=wV.1 hs;obtain⟨t,u⟩:=PB b c l r;have h:=Gm b l r;constructor
  ·rw[H5,Q5];cases v:b x
   ·rw[zc (by simp),t];split
    ·rfl
    ·rename_i w;cases l with
     |nil=>rfl
     |cons y l=>have d:=wj.trans (wj.IJ w) (k y (by simp));have:=(wj.flip c y).1 d;simp only[Q5];rw[zc (by omega)]
   ·rw[zd rfl,u x k]
  ·intro s i;have m:=i x (by simp);rw[SJ,Q5];cases v:b x
   ·rw[zc (by simp)];have n:=(h.1 (some x) fun q o y p=>by injection o with o;rw[<-o];exact k y p);have e:yl (bE s x::H5 b l) c=(kY (bE s x) c||yl (H5 b l) c):=rfl;rw[e];by_cases a:wb x c<=0
    ·have f:wb s c<=0:=Zi (wj.ltle m a);have z:kY (bE s x) c=false:=by have:=(wj.le x c).1 a;simp[kY,bE,show¬wb c x<0 by omega]
     rw[z,zd f,zd a,kQ,t]
    ·have j:=wj.IJ a;have A:yl (H5 b l) c=false:=WD n (Zi j);rw[A,Bool.or_false,zc a];simp only[kY,bE,j,kQ,decide_true,zhY];by_cases f:wb s c<=0<;>simp[f]
   ·rw[zd rfl,u s fun y p=>i y (by simp[p])];by_cases a:wb x c<=0
    ·rw[zd a]
    ·rw[zc a];have g:Q5 b true l c=true:=by
      cases l with
      |nil=>rfl
      |cons y l=>have d:=wj.trans (wj.IJ a) (k y (by simp));have:=(wj.flip c y).1 d;simp only[Q5];rw[zc (by omega)]
     rw[g]
theorem CP{a:List qK}{x c:Cut}(b:wb x c<=0)(h:∀y∈qW a,wb y c<=0->wb y x<=0):yl a c=yl a x:=by
 induction a with
 |nil=>rfl
 |cons s a j=>
  have e:∀c,yl (s::a) c=(kY s c||yl a c):=fun _=>rfl
  rw[e,e,j fun y k=>h y (by rw[qW];exact List.mem_append_right _ k)];congr 1;have d:s.lo∈qW (s::a):=by rw[qW];apply List.mem_append_left;split<;>simp
  have i:wb s.lo c<=0↔wb s.lo x<=0:=⟨h _ d,fun g=>wj.tr _ _ _ g b⟩;unfold kY;cases l:s.yv
  ·have f:s.hi∈qW (s::a):=by rw[qW,l];simp
   have m:wb c s.hi<0↔wb x s.hi<0:=by
    constructor
    ·exact fun g=>wj.lelt b g
    ·intro g;refine yC fun n=>?_
     have o:=h _ f (wj.zbM n);exact wj.irr x (wj.ltle g o)
   simp only[i,m]
  ·simp only[i,dU]
theorem sB{a:List qK}{c:Cut}(h:∀y∈qW a,¬wb y c<=0):yl a c=false:=by
 induction a with
 |nil=>rfl
 |cons s a d=>
  have e:yl (s::a) c=(kY s c||yl a c):=rfl;have b:s.lo∈qW (s::a):=by rw[qW];apply List.mem_append_left;split<;>simp
  rw[e,d fun y f=>h y (by rw[qW];exact List.mem_append_right _ f)];simp[kY,h _ b]
theorem gO(f:Cut->Bool)(c:Cut):∀(l:List Cut) (d:Bool),l.Pairwise (fun x y=>wb x y<0)->(Q5 f d l c=d/\∀y∈l,¬wb y c<=0)\/∃x∈l,wb x c<=0/\Q5 f d l c=f x/\∀y∈l,wb y c<=0->wb y x<=0
 |[],d,_=>.inl ⟨rfl,fun y a=>by cases a⟩
 |x::l,d,hs=>by
  obtain⟨j,m⟩:=wV.1 hs;by_cases g:wb x c<=0
  ·right;simp only[Q5,zd g];rcases gO f c l (f x) m with⟨e,h⟩|⟨z,k,i,e,h⟩
   ·refine⟨x,by simp,g,e,fun y a b=>?_⟩;rcases zv.1 a with rfl|a
    ·rw[wj.refl];exact zgg _
    ·exact absurd b (h y a)
   ·refine⟨z,by simp[k],i,e,fun y a b=>?_⟩;rcases zv.1 a with rfl|a
    ·exact Zi (j z k)
    ·exact h y a b
  ·left;simp only[Q5,zc g];refine⟨trivial,fun y a b=>?_⟩;rcases zv.1 a with rfl|a
   ·exact g b
   ·exact g (Zi (wj.ltle (j y a) b))
theorem nE{f:Bool->Bool->Bool}(i:f false false=false){a b:List qK}(j:yW a)(k:yW b)(c:Cut):yl (kB f a b) c=f (yl a c) (yl b c):=by
 have hs:=KP j k;rw[CO,(PB _ c _ hs).1];rcases gO (fun c=>f (yl a c) (yl b c)) c (nD a b) false hs with⟨e,g⟩|⟨x,l,h,e,g⟩
 ·rw[e,sB fun y d=>g y ((J6 a b y).2 (.inl d)),sB fun y d=>g y ((J6 a b y).2 (.inr d)),i]
 ·rw[e,CP h fun y d=>g y ((J6 a b y).2 (.inl d)),CP h fun y d=>g y ((J6 a b y).2 (.inr d))]
theorem du{f:Bool->Bool->Bool}{a b:List qK}(c:yW a)(d:yW b):au none (kB f a b):=by rw[CO];exact(Gm _ _ (KP c d)).1 none fun q e=>by cases e
theorem uW:∀{l m:List qK} {lo w:Option Cut},au lo l->au w m->yW l->yW m->(∀c,c.vU->yl l c=yl m c)->l=m
 |[],[],_,_,_,_,_,_,_=>rfl
 |[],t::m,_,w,_,u,_,G,h=>by
  have:=h t.lo (G t (by simp)).1;have r:yl (t::m) t.lo=true:=by
   have A:kY t t.lo=true:=by
    have k:=u.2;unfold kY;rw[wj.refl];split at k
    ·rename_i e;simp[e]
    ·simp[k.1]
   unfold yl;rw[y9,A];rfl
  rw[r]at this;cases this
 |s::l,[],lo,_,n,_,H,_,h=>by
  have:=h s.lo (H s (by simp)).1;have r:yl (s::l) s.lo=true:=by
   have A:kY s s.lo=true:=by
    have k:=n.2;unfold kY;rw[wj.refl];split at k
    ·rename_i e;simp[e]
    ·simp[k.1]
   unfold yl;rw[y9,A];rfl
  rw[r]at this;cases this
 |s::l,t::m,lo,w,n,u,H,G,h=>by
  have v:∀{s:qK} {l:List qK} {lo:Option Cut},au lo (s::l)->kY s s.lo=true:=fun{s l lo} n=>by
   have k:=n.2;unfold kY;rw[wj.refl];split at k
   ·rename_i e;simp[e]
   ·simp[k.1]
  have d:∀{s:qK} {l:List qK} {lo:Option Cut} {c:Cut},au lo (s::l)->(s.yv=false->wb c s.hi<=0)->yl (s::l) c=kY s c:=fun{s l lo c} n r=>by
   have k:=n.2;have e:yl (s::l) c=(kY s c||yl l c):=rfl;rw[e];cases B:s.yv
   ·rw[B,zc (by simp)]at k;rw[WD k.2 (r B),Bool.or_false]
   ·rw[B,zd rfl]at k;rw[k.1];simp[yl]
  have o:∀{s:qK} {l:List qK} {lo:Option Cut} {c:Cut},au lo (s::l)->wb c s.lo<0->yl (s::l) c=false:=fun{s l lo c} n r=>by
   have k:=n.2;rw[d n fun B=>?_]
   ·have:=(wj.flip c s.lo).1 r;simp[kY,show¬wb s.lo c<=0 by omega]
   ·rw[B,zc (by simp)]at k;exact Zi (wj.trans r k.1)
  have C:=H s (by simp);have D:=G t (by simp);have I:yl (s::l) s.lo=true:=by unfold yl;rw[y9,v n];rfl
  have J:yl (t::m) t.lo=true:=by unfold yl;rw[y9,v u];rfl
  have j:s.lo=t.lo:=by
   refine lk C.1 D.1 ?_;have n1:¬wb s.lo t.lo<0:=fun i=>by have:=h s.lo C.1;rw[I,o u i]at this;cases this
   have M:¬wb t.lo s.lo<0:=fun i=>by have:=h t.lo D.1;rw[J,o n i]at this;cases this
   have:=(wj.flip s.lo t.lo);have:=(wj.flip t.lo s.lo);omega
  have f:=n.2;have g:=u.2;cases p:s.yv<;>cases q:t.yv
  ·rw[p,zc (by simp)]at f;rw[q,zc (by simp)]at g;have E:yl (s::l) s.hi=false:=by rw[d n fun _=>by rw[wj.refl];exact zgg _];simp[kY,p,wj.refl]
   have N:yl (t::m) t.hi=false:=by rw[d u fun _=>by rw[wj.refl];exact zgg _];simp[kY,q,wj.refl]
   have F:s.hi=t.hi:=by
    refine lk C.2 D.2 ?_;have n1:¬wb s.hi t.hi<0:=fun i=>by
     have:=h s.hi C.2;rw[E,d u fun _=>Zi i]at this;have y:wb t.lo s.hi<=0:=by rw[<-j];exact Zi f.1
     simp[kY,i,y]at this
    have M:¬wb t.hi s.hi<0:=fun i=>by
     have:=h t.hi D.2;rw[N,d n fun _=>Zi i]at this;have y:wb s.lo t.hi<=0:=by rw[j];exact Zi g.1
     simp[kY,i,y]at this
    have:=(wj.flip s.hi t.hi);have:=(wj.flip t.hi s.hi);omega
   have K:s=t:=by obtain⟨a,b,c⟩:=s;obtain⟨P,Q,R⟩:=t;simp only at j F p q;rw[j,F,p,q]
   subst K;rw[uW f.2 g.2 (fun x L=>H x (by simp[L])) (fun x L=>G x (by simp[L])) fun c r=>?_];by_cases z:wb c s.hi<=0
   ·rw[WD f.2 z,WD g.2 z]
   ·have:=h c r;have A:kY s c=false:=by have:=wj.IJ z;simp[kY,p,show¬wb c s.hi<0 by omega]
    unfold yl at this⊢;rw[y9,y9,A]at this;exact this
  ·rw[p,zc (by simp)]at f;have:=h s.hi C.2;have E:yl (s::l) s.hi=false:=by rw[d n fun _=>by rw[wj.refl];exact zgg _];simp[kY,p,wj.refl]
   have y:wb t.lo s.hi<=0:=by rw[<-j];exact Zi f.1
   rw[E,d u fun e=>by rw[q]at e;cases e]at this;simp[kY,q,y]at this
  ·rw[q,zc (by simp)]at g;have:=h t.hi D.2;have E:yl (t::m) t.hi=false:=by rw[d u fun _=>by rw[wj.refl];exact zgg _];simp[kY,q,wj.refl]
   have y:wb s.lo t.hi<=0:=by rw[j];exact Zi g.1
   rw[E,d n fun e=>by rw[p]at e;cases e]at this;simp[kY,p,y]at this
  ·rw[p,zd rfl]at f;rw[q,zd rfl]at g;obtain⟨a,b,c⟩:=s;obtain⟨P,Q,R⟩:=t;simp only at j p q f g;rw[f.1,g.1,j,p,q,f.2,g.2]
theorem PC{c:Cut}(Y:0<=c.v.a/\0<=c.v.b/\0<=c.v.c):wb qU c<=0:=by
 obtain⟨⟨a,b,d,p⟩,f⟩:=c;obtain⟨k,l,m⟩:=Y;simp only at k l m;have g:∀x:Int,0<=x->wx 0 x=0/\x=0\/wx 0 x<0:=by
  intro x u;unfold wx;split
  ·right;omega
  ·split
   ·omega
   ·left;omega
 have j:wP [48] (p.headD [48])<=0:=by
  have o:xA [48]=true:=by decide
  unfold wP;rw[o];have r:Lib.trimLeftB [48] 48=[]:=by decide
  simp only[qH,r];split
  ·obtain⟨q,s⟩:=jc (Lib.trimLeftB (p.headD [48]) 48);rw[s];cases q with
   |nil=>decide
   |cons x q=>
    have:wx (([]:za).length) ((x::q).length)<0:=by
     rcases g ((x::q).length) (by omega)with⟨_,h⟩|h
     ·simp at h;omega
     ·exact h
    simp only[KC];rw[zc (by omega)];omega
  ·omega
 have t:xI ⟨0,0,0,[[48]]⟩ ⟨a,b,d,p⟩<=0:=by
  unfold xI;simp only;rcases g a k with⟨e1,_⟩|e1
  ·rcases g b l with⟨e2,_⟩|e2
   ·rcases g d m with⟨e3,_⟩|e3
    ·have i:KC [wx 0 a,wx 0 b,wx 0 d]=0:=by simp[KC,e1,e2,e3]
     rw[zd i,zc (by simp)];split
     ·omega
     ·cases p with
      |nil=>rename_i h;exact absurd rfl h
      |cons q p=>
       simp only[w9];split
       ·cases p<;>simp[w9]
       ·simpa using j
    ·have i:KC [wx 0 a,wx 0 b,wx 0 d]=wx 0 d:=by simp only[KC,e1,e2,qH];rw[zc (by omega)]
     rw[i,zc (by omega)];omega
   ·have i:KC [wx 0 a,wx 0 b,wx 0 d]=wx 0 b:=by simp only[KC,e1,qH];rw[zc (by omega)]
    rw[i,zc (by omega)];omega
  ·have i:KC [wx 0 a,wx 0 b,wx 0 d]=wx 0 a:=by simp only[KC];rw[zc (by omega)]
   rw[i,zc (by omega)];omega
 have e:wb qU ⟨⟨a,b,d,p⟩,f⟩=if xI ⟨0,0,0,[[48]]⟩ ⟨a,b,d,p⟩=0 then(if false=f then 0 else if f=true then -1 else 1)else xI ⟨0,0,0,[[48]]⟩ ⟨a,b,d,p⟩:=rfl
 rw[e];by_cases n:xI ⟨0,0,0,[[48]]⟩ ⟨a,b,d,p⟩=0
 ·rw[zd n];cases f<;>simp
 ·rw[zc n];exact t
def bN(c:Cut):Prop:=0<=c.v.a/\0<=c.v.b/\0<=c.v.c
def CQ(l:List qK):Prop:=∀s∈l,bN s.lo/\bN s.hi
theorem Xg:yW [w5 qU]:=(Qa kZ).2
theorem CR{m:List qK}{lo:Option Cut}(e:au lo m)(a:yW m)(Y:CQ m):kB and m [w5 qU]=m:=by
 refine uW (du a Xg) (L5 e) (kC _ a Xg) a fun c _=>?_
 rw[nE rfl a Xg];cases b:yl m c
 ·rfl
 ·have:wb qU c<=0:=by unfold yl at b;rw[WN]at b;obtain⟨s,hs,d⟩:=b;simp only[kY,zz,zT]at d;exact wj.tr _ _ _ (PC (Y s hs).1) d.1
  simp[yl,kY,w5,this]
theorem L6{f:Bool->Bool->Bool}(h:f false false=false)(g:∀x y,f x y=f y x){a b:List qK}(d:yW a)(e:yW b):kB f a b=kB f b a:=by
 refine uW (du d e) (du e d) (kC _ d e) (kC _ e d) fun c _=>?_
 rw[nE h d e,nE h e d,g]
theorem Uu(a b:Cut):au none (eU a b):=by
 unfold eU;split
 ·trivial
 ·exact⟨fun q e=>(by cases e),by simp only[bE,zF,qR];exact⟨by omega,trivial⟩⟩
theorem PD(a:Cut):au none [w5 a]:=⟨fun q e=>(by cases e),by simp[w5]⟩
theorem L7(f:Bool->Bool->Bool){a b:List qK}(c:CQ a)(d:CQ b):CQ (kB f a b):=sf (Q:=bN) (by simp[bN,QM]) f c d
noncomputable def bO (o:za) (p:Part):List qK×Bool:=if(vu (JW o p)).2=true then((vu (JW o p)).1,true)else([],false)
noncomputable def ZF:List qK->Bool->List ba->Option (List qK×Bool)
 |out,b,[]=>some (out,b)
 |out,b,a::l=>if a.1=[]/\yh a.2=true then ZF out b l else match Qe a.2 with
  |none=>none
  |some p=>ZF (kB and out (bO a.1 p).1) (b&&(bO a.1 p).2) l
def Xh:List ba->Option (za×za)
 |[a,b,c]=>if b=([],[45])/\a.1=[]/\c.1=[]then some (a.2,c.2)else none
 |_=>none
noncomputable def dv (p q:Part):List qK×Bool:=if Qt q=true then(eU (ZA p) (vy q),true)else([],false)
noncomputable def Vx (t:za):Option (List qK×Bool):=match jO (yO t)with
 |none=>none
 |some l=>if l=[]then none else match Xh l with
  |some a=>match Qe a.1,Qe a.2 with
   |some p,some q=>some (dv p q)
   |_,_=>none
  |none=>ZF [w5 qU] true l
noncomputable def WE:List qK->Bool->List za->Option (List qK×Bool)
 |out,a,[]=>some (out,a)
 |out,a,s::l=>match Vx s with
  |none=>none
  |some m=>WE (kB or out m.1) (a&&m.2) l
noncomputable def WG (t:za):List qK×Int:=if(400:Int)<t.length then([],2)else match WE [] true (qc t [124,124])with
 |none=>([],10)
 |some o=>if o.2=false then([],1)else if(100:Int)<o.1.length then([],2)else(o.1,0)
def xE(a:ba):Option xH:=if a.1=[]/\yh a.2=true then some eZ else if(zQ a.2).2=true then some (JW a.1 (zQ a.2).1)else none
def KQ:List ba->Option (List xH)
 |[]=>some []
 |a::l=>match xE a with
  |none=>none
  |some c=>(KQ l).map (c::·)
theorem uX{w:za}(a:w≠[])(h:(wB wo w).2=[]):(wB wo w).1≠[]:=fun e=>by have:=Qz wo w;rw[h,e]at this;exact a (by simpa using this.symm)
theorem PE:(zQ []).2=false:=by decide
theorem Uv:zQ [45]=(⟨0,0,0,3,[]⟩,false):=by rfl
theorem nF:∀(n:Nat) (a:List za),a.length<=n->(∀w∈a,w≠[])->yu n a=(jO a).bind KQ
 |n,[],_,_=>by cases n<;>rfl
 | 0,w::a,h,_=>by simp at h
 |n+1,[w],_,g=>by
  have f:=g w (by simp);simp only[yu,jO];by_cases b:(wB wo w).2=[]
  ·have i:=uX f b;have:km w []=none:=by unfold km;rw[zc (fun h=>i h.1),zc (fun h=>h.2.2 rfl),b,PE];simp
   rw[this,zd b];rfl
  ·rw[zc b];have:km w []=(xE (wB wo w)).map fun c=>(c,[]):=by
    unfold km xE;by_cases d:(wB wo w).1=[]/\yh (wB wo w).2=true
    ·rw[zd d,zd d];rfl
    ·rw[zc d,zc d,zc (fun h=>h.2.2 rfl)];split<;>rfl
   rw[this];simp only[z7,KQ];cases xE (wB wo w)with
   |none=>rfl
   |some c=>cases n<;>rfl
 |n+1,w::x::a,m,g=>by
  have f:=g w (by simp);simp only[zO]at m;simp only[yu,jO];by_cases b:(wB wo w).2=[]
  ·have i:=uX f b;rw[zd b];have:km w (x::a)=(xE ((wB wo w).1,x)).map fun c=>(c,a):=by unfold km xE;rw[zc (fun h=>i h.1),zd ⟨i,b,by simp⟩,zc (fun h=>i h.1)];simp only;split<;>rfl
   rw[this];have e:=nF n a (by omega) (fun y k=>g y (by simp[k]));cases j:jO a with
   |none=>
    rw[j]at e;simp only[xL,iO];cases xE ((wB wo w).1,x)with
    |none=>rfl
    |some c=>simp only[zC,e];rfl
   |some l=>
    rw[j]at e;simp only[zC,z7,KQ];cases xE ((wB wo w).1,x)with
    |none=>rfl
    |some c=>simp only[zC,e];rfl
  ·rw[zc b];have:km w (x::a)=(xE (wB wo w)).map fun c=>(c,x::a):=by
    unfold km xE;by_cases d:(wB wo w).1=[]/\yh (wB wo w).2=true
    ·rw[zd d,zd d];rfl
    ·rw[zc d,zc d,zc (fun h=>b h.2.1)];split<;>rfl
   rw[this];have e:=nF n (x::a) (by simp only[zO];omega) (fun y k=>g y (by simp[zv.1 k]));cases j:jO (x::a)with
   |none=>
    rw[j]at e;simp only[xL,iO];cases xE (wB wo w)with
    |none=>rfl
    |some c=>simp only[zC,e];rfl
   |some l=>
    rw[j]at e;simp only[zC,z7,KQ];cases xE (wB wo w)with
    |none=>rfl
    |some c=>simp only[zC,e];rfl
theorem sC:∀(b:List za) (l:List ba),(∀w∈b,w≠[])->jO b=some l->(∀a∈l,a.1=[])->b=l.map (·.2)
 |[],l,_,h,_=>by simp only[jO]at h;injection h with h;subst h;rfl
 |[w],l,d,h,c=>by
  simp only[jO]at h;split at h
  ·cases h
  ·injection h with h;subst h;have:=c (wB wo w) (by simp);have hd:=Qz wo w;rw[this]at hd;simp only[we,K7,hd,yV,ke]
 |w::x::b,l,d,h,c=>by
  simp only[jO]at h;split at h
  ·rename_i f;cases e:jO b with
   |none=>rw[e]at h;cases h
   |some l'=>rw[e]at h;simp only[zC,z6]at h;subst h;exact absurd (c ((wB wo w).1,x) (by simp)) (uX (d w (by simp)) f)
  ·cases e:jO (x::b)with
   |none=>rw[e]at h;cases h
   |some l'=>rw[e]at h;simp only[zC,z6]at h;subst h;have g:=c (wB wo w) (by simp);have hd:=Qz wo w;rw[g]at hd;rw[sC (x::b) l' (fun y i=>d y (by simp[zv.1 i])) e fun a j=>c a (by simp[j])];simp only[we,hd,yV,ke]
theorem sD{c:UInt8}{l:za}(h:KA c=false):jW (c::l)=none:=by unfold jW;rw[zc];rintro⟨a,_⟩;have:=(mz a).2;simp only[kV,wI,h,ZL]at this;cases this
theorem nG{c d:UInt8}(h:c≠d)(l:za):∃p a,qc (c::l) [d]=(c::p)::a:=by obtain⟨p,a,e⟩:=Ps d l;rw[bM];exact⟨p,a,by simp[oY,h,e]⟩
theorem Uw{c:UInt8}{l:za}(f:KA c=false)(j:c≠45)(g:c≠46):(zQ (c::l)).2=false:=by
 unfold zQ;split
 ·have b:∃q,(Lib.cut (c::l) [45]).1=c::q:=by
   unfold Lib.cut;split
   ·rename_i hi;have d:¬(45:UInt8)=c:=fun e=>j e.symm
    rcases Lib.index_spec l [45]with⟨e,_⟩|⟨i,e,_⟩
    ·simp[Lib.index,d,e]at hi
    ·have k:Lib.index (c::l) [45]=((i+1:Nat):Int):=by
      have:¬((i:Int)=-1):=by omega
      simp[Lib.index,d,e,this]
     rw[k];exact⟨l.take i,by simp⟩
   ·exact⟨l,rfl⟩
  obtain⟨q,m⟩:=b;obtain⟨p,h,e⟩:=nG g q;have:cK (c::l)=none:=by
   unfold cK;rw[m,e];split
   ·rename_i a;injection a with a _
    subst a;rw[sD f]
   ·rfl
  rw[this]
 ·split
  ·rfl
  ·obtain⟨p,h,e⟩:=nG g l;rw[e];have:yi q9 0 ((c::p)::h)=none:=by simp[yi,wK,sD f]
   rw[this]
theorem nH:∀(a:List za) (w:za),(wB a w).1≠[]->(wB a w).1∈a/\(wB a w).1 <+: w
 |[],w,h=>by simp[wB]at h
 |g::a,w,h=>by
  simp only[wB]at h⊢;split
  ·rename_i Y;exact⟨by simp,El.1 Y⟩
  ·rename_i Y;rw[zc Y]at h;have:=nH a w h;exact⟨by simp[this.1],this.2⟩
theorem H6{w:za}(h:(wB wo w).1≠[]):(zQ w).2=false:=by obtain⟨a,r,b⟩:=nH wo w h;obtain⟨g,c⟩:=jc ((wB wo w).1);rw[c]at a b;rw[<-b];simp only[wo,zv,K9,or_false]at a;rcases a with rfl|rfl|rfl|rfl|rfl|rfl|rfl<;>exact Uw (by decide) (by decide) (by decide)
theorem H7(a:ba):xE a=none↔¬(a.1=[]/\yh a.2=true)/\Qe a.2=none:=by
 unfold xE;rw[lj];by_cases h:a.1=[]/\yh a.2=true
 ·simp[h]
 ·rw[zc h];cases (zQ a.2).2<;>simp[h]
theorem Yz:∀(l:List ba) (out:List qK) (b:Bool),ZF out b l=none↔KQ l=none
 |[],out,b=>by simp[ZF,KQ]
 |a::l,out,b=>by
  simp only[ZF,KQ];by_cases h:a.1=[]/\yh a.2=true
  ·have:xE a=some eZ:=by unfold xE;rw[zd h]
   rw[zd h,this,Yz l out b];simp
  ·rw[zc h];cases d:Qe a.2 with
   |none=>rw[(H7 a).2 ⟨h,d⟩];simp
   |some p=>
    cases e:xE a with
    |none=>rw[((H7 a).1 e).2]at d;cases d
    |some c=>simp only[Yz l];simp
theorem nI:∀(l:List ba) (out:List qK) (m:List qK×Bool),ZF out false l=some m->m.2=false
 |[],out,m,h=>by simp only[ZF]at h;injection h with h;rw[<-h]
 |a::l,out,m,h=>by
  simp only[ZF]at h;split at h
  ·exact nI l out m h
  ·split at h
   ·cases h
   ·exact nI l _ m (by simpa using h)
theorem PF:vu eZ=([w5 qU],true):=by simp[vu,eZ]
theorem uY{p:Part}(h:p.ok):bN (ZA p):=⟨h.1.1,h.2.1.1,h.2.2.1.1⟩
theorem bP{p:Part}(h:p.ok)(i:Nat):bN (jk p i):=by have a:=h.1.1;have b:=h.2.1.1;have c:=h.2.2.1.1;unfold jk bN;split<;>simp only<;>omega
theorem nJ{p:Part}(h:p.ok):bN (vy p):=by
 unfold vy;split
 ·exact bP h _
 ·exact uY h
theorem X1:bN qU:=by simp[bN,qU]
theorem PG:bN QM:=by simp[bN,QM]
theorem KR{a b:Cut}(c:bN a)(d:bN b):CQ (eU a b):=by
 unfold eU;split
 ·intro s hs;cases hs
 ·intro s hs;rw[wM]at hs;rw[hs];exact⟨c,d⟩
theorem dw{a:Cut}(b:bN a):CQ [w5 a]:=fun s hs=>by rw[wM]at hs;rw[hs];exact⟨b,PG⟩
theorem PH{c:xH}(b:c.vU):CQ (vu c).1:=by
 obtain⟨_,b⟩:=b;unfold vu;by_cases d:c.sign=jq
 ·rw[zd d];exact dw X1
 rw[zc d];obtain⟨⟨Y,_⟩,g⟩:=b.resolve_left d;have a:=uY Y;have f:=nJ Y;split
 ·exact dw a
 split
 ·exact KR X1 a
 split
 ·exact dw f
 split
 ·exact KR X1 f
 split
 ·rename_i e;exact KR a (nJ (g e).1)
 split
 ·exact KR a (bP Y _)
 split
 ·exact KR a (bP Y _)
 ·exact KR a f
def pJ(o:za):Prop:=o=[]\/o∈wo
theorem nK:∀(c:List za) (l:List ba),jO c=some l->∀a∈l,pJ a.1
 |[],l,h,a,b=>by simp only[jO]at h;injection h with h;subst h;cases b
 |[w],l,h,a,b=>by
  simp only[jO]at h;split at h
  ·cases h
  ·injection h with h;subst h;rw[wM]at b;rw[b];exact J0 wo w
 |w::x::c,l,h,a,b=>by
  simp only[jO]at h;split at h
  ·cases e:jO c with
   |none=>rw[e]at h;cases h
   |some l'=>
    rw[e]at h;simp only[zC,z6]at h;subst h;rcases zv.1 b with rfl|b
    ·exact J0 wo w
    ·exact nK c l' e a b
  ·cases e:jO (x::c)with
   |none=>rw[e]at h;cases h
   |some l'=>
    rw[e]at h;simp only[zC,z6]at h;subst h;rcases zv.1 b with rfl|b
    ·exact J0 wo w
    ·exact nK (x::c) l' e a b
theorem Qb{s:za}{p:Part}(h:Qe s=some p):(zQ s).2=true/\(zQ s).1=p/\p.ok/\Qw p.pre:=by
 rw[lj]at h;split at h
 ·rename_i e;injection h with h
  have:=JZ e;rw[h]at this;exact⟨e,h,this⟩
 ·cases h
theorem CS{o:za}{p:Part}(a:pJ o)(Y:p.ok)(b:Qw p.pre):(JW o p).vU:=by have:=Cs a;exact⟨this.1,.inr ⟨⟨Y,b⟩,fun e=>absurd e this.2⟩⟩
theorem fD:∀(l:List ba) (out:List qK) (cs:List xH) (m:List qK×Bool),(∀a∈l,pJ a.1)->au none out->yW out->CQ out->KQ l=some cs->ZF out true l=some m->YM cs out=if m.2=true then some m.1 else none
 |[],out,cs,m,_,_,_,_,c,d=>by
  simp only[KQ]at c;simp only[ZF]at d;injection c with c
  injection d with d;subst c;subst d;rfl
 |a::l,out,cs,m,hs,q,i,j,c,d=>by
  simp only[KQ]at c;simp only[ZF]at d;have g:∀b∈l,pJ b.1:=fun b s=>hs b (by simp[s])
  by_cases h:a.1=[]/\yh a.2=true
  ·have k:xE a=some eZ:=by unfold xE;rw[zd h]
   rw[zd h]at d;rw[k]at c;simp only at c;cases e:KQ l with
   |none=>rw[e]at c;cases c
   |some f=>rw[e]at c;simp only[zC,z6]at c;subst c;simp only[YM,PF,qH];rw[CR q i j];exact fD l out f m g q i j e d
  ·rw[zc h]at d;cases n:Qe a.2 with
   |none=>rw[n]at d;cases d
   |some p=>
    rw[n]at d;simp only at d;obtain⟨t,u,v,w⟩:=Qb n;have k:xE a=some (JW a.1 p):=by unfold xE;rw[zc h,zd t,u]
    rw[k]at c;simp only at c;cases e:KQ l with
    |none=>rw[e]at c;cases c
    |some f=>
     rw[e]at c;simp only[zC,z6]at c;subst c;have o:=CS (hs a (by simp)) v w;simp only[YM];unfold bO at d;cases r:(vu (JW a.1 p)).2
     ·rw[r]at d;simp only[zF,qR,Bool.and_false]at d⊢;rw[nI l _ m d];simp
     ·rw[r]at d;simp only[qH,zhY]at d⊢;exact fD l _ f m g (du i (J1 o).2) (kC and i (J1 o).2) (L7 and j (PH o)) e d
theorem X2:∀(l:List ba),(∃a∈l,a.2=[45])->KQ l=none
 |[],h=>by obtain⟨a,d,_⟩:=h;cases d
 |a::l,h=>by
  simp only[KQ];obtain⟨b,c,e⟩:=h;rcases zv.1 c with rfl|c
  ·have:xE b=none:=by unfold xE;rw[e,Uv];simp[yh]
   rw[this]
  ·rw[X2 l ⟨b,c,e⟩];cases xE a<;>rfl
theorem zcO(t:za):∀w∈yO t,w≠[]:=fun w a=>by unfold yO wq at a;have:=(ah.1 a).2;simpa[oV]using this
theorem L8{l:List ba}{a:za×za}(h:Xh l=some a):l=[([],a.1),([],[45]),([],a.2)]:=by
 unfold Xh at h;split at h
 ·rename_i x y z;split at h
  ·rename_i d;injection h with h
   obtain⟨e,b,c⟩:=d;obtain⟨f,g⟩:=x;obtain⟨i,j⟩:=z;simp only at b c h;rw[<-h,e,b,c]
  ·cases h
 ·cases h
theorem Xi:wB wo [45]=([],[45]):=by decide
theorem CT(t:za):((QK t).2=false->Vx t=none)/\((QK t).2=true->∃m,Vx t=some m/\YM (QK t).1 [w5 qU]=if m.2=true then some m.1 else none):=by
 have A:=zcO t;have J:∀n,yO t=n->QK t=(match yu n.length n with
   |some l=>(l,!l.isEmpty)
   |none=>([],false))->(∀l,jO n=some l->Xh l=none)->((QK t).2=false->Vx t=none)/\((QK t).2=true->∃m,Vx t=some m/\YM (QK t).1 [w5 qU]=if m.2=true then some m.1 else none):=by
  intro n o C hd;rw[o]at A;rw[nF n.length n (zf _) A]at C;rw[C];unfold Vx;rw[o];cases D:jO n with
  |none=>exact⟨fun _=>rfl,fun h=>by cases h⟩
  |some l=>
   have K:=hd l D;simp only[z7];by_cases f:l=[]
   ·subst f;simp[KQ]
   ·rw[zc f,K];simp only;have E:=Yz l [w5 qU] true;cases u:KQ l with
    |none=>exact⟨fun _=>E.2 u,fun h=>by cases h⟩
    |some cs=>
     have R:cs≠[]:=by
      cases l with
      |nil=>exact absurd rfl f
      |cons a l=>
       simp only[KQ]at u;split at u
       ·cases u
       ·cases h:KQ l<;>rw[h]at u<;>simp at u;rw[<-u];simp
     have F:cs.isEmpty=false:=by cases cs<;>simp_all
     cases I:ZF [w5 qU] true l with
     |none=>rw[E.1 I]at u;cases u
     |some m=>exact⟨fun h=>by simp[F]at h,fun _=>⟨m,rfl,fD l _ cs m (nK n l D) (PD _) Xg (dw X1) u I⟩⟩
 obtain⟨n,o⟩:=jc (yO t);by_cases g:∃a c,n=[a,[45],c]
 ·obtain⟨a,c,rfl⟩:=g;have C:QK t=([⟨[45],(zQ a).1,(zQ c).1⟩],(zQ a).2&&(zQ c).2):=by unfold QK;rw[fC,o];simp
  rw[o]at A;have G:a≠[]:=A a (by simp);have L:c≠[]:=A c (by simp);by_cases i:(wB wo a).1=[]
  ·by_cases v:(wB wo c).1=[]
   ·have H:wB wo a=([],a):=by have:=Qz wo a;rw[i]at this;exact Prod.ext i (by simpa using this)
    have N:wB wo c=([],c):=by have:=Qz wo c;rw[v]at this;exact Prod.ext v (by simpa using this)
    have D:jO [a,[45],c]=some [([],a),([],[45]),([],c)]:=by rw[Yy _ _ (by rw[H];exact G),Yy _ _ (by rw[Xi];simp),Yy _ _ (by rw[N];exact L),H,N,Xi];rfl
    have I:Vx t=match Qe a,Qe c with
      |some p,some q=>some (dv p q)
      |_,_=>none:=by
     unfold Vx;rw[o,D];simp only[Si,qR,reduceCtorEq];rfl
    rw[I,C];cases j:Qe a with
    |none=>
     rw[lj]at j;have:(zQ a).2=false:=by
      cases h:(zQ a).2 with
      |false=>rfl
      |true=>rw[h]at j;simp at j
     rw[this];exact⟨fun _=>rfl,fun h=>by cases h⟩
    |some p=>
     obtain⟨S,T,W,X⟩:=Qb j;cases w:Qe c with
     |none=>
      rw[lj]at w;have:(zQ c).2=false:=by
       cases h:(zQ c).2 with
       |false=>rfl
       |true=>rw[h]at w;simp at w
      rw[this,Bool.and_false];exact⟨fun _=>rfl,fun h=>by cases h⟩
     |some q=>
      obtain⟨q1,q2,q3,q4⟩:=Qb w;rw[S,q1,T,q2];refine⟨fun h=>(by cases h),fun _=>⟨dv p q,rfl,?_⟩⟩;have hs:vu ⟨[45],p,q⟩=(eU (ZA p) (vy q),Qt q):=by simp[vu,jq]
      simp only[YM,hs];unfold dv;have P:yW (eU (ZA p) (vy q)):=(WB (mX X) (XQ q4)).2;cases Q:Qt q
      ·simp
      ·simp only[qH];rw[L6 rfl Bool.and_comm Xg P,CR (Uu _ _) P (KR (uY W) (nJ q3))]
   ·have r:(QK t).2=false:=by rw[C,H6 v,Bool.and_false]
    refine⟨fun _=>?_,fun h=>by rw[r]at h;cases h⟩;have H:wB wo a=([],a):=by have:=Qz wo a;rw[i]at this;exact Prod.ext i (by simpa using this)
    unfold Vx;rw[o,Yy _ _ (by rw[H];exact G),Yy _ _ (by rw[Xi];simp)];simp only[jO];split
    ·rfl
    ·rename_i l f;cases d:(if(wB wo c).2=[]then none else some [wB wo c]:Option (List ba))with
     |none=>rw[d]at f;cases f
     |some k=>
      have Q:k=[wB wo c]:=by
       split at d
       ·cases d
       ·injection d with d;exact d.symm
      rw[d]at f;simp only[zC,z6,H,Xi]at f;subst f;subst Q;simp only[Si,qR,reduceCtorEq];have s:Xh [(([]:za),a),([],[45]),wB wo c]=none:=by simp[Xh,v]
      rw[s];simp only;rw[Yz];exact X2 _ ⟨([],[45]),by simp,rfl⟩
  ·have r:(QK t).2=false:=by rw[C,H6 i];rfl
   refine⟨fun _=>?_,fun h=>by rw[r]at h;cases h⟩;unfold Vx;rw[o];simp only[jO];by_cases j:(wB wo a).2=[]
   ·rw[zd j];split
    ·rfl
    ·rename_i l f;cases d:(if(wB wo c).2=[]then none else some [wB wo c]:Option (List ba))with
     |none=>rw[d]at f;cases f
     |some k=>
      rw[d]at f;simp only[zC,z6]at f;subst f;simp only[Si,qR,reduceCtorEq];have s:Xh (((wB wo a).1,[45])::k)=none:=by
       unfold Xh;split
       ·rename_i x y z B;injection B with M _
        rw[<-M];simp[i]
       ·rfl
      rw[s];simp only;rw[Yz];exact X2 _ ⟨((wB wo a).1,[45]),by simp,rfl⟩
   ·rw[zc j];simp only[Xi,Si,qR,reduceCtorEq];split
    ·rfl
    ·rename_i l f;cases d:(if(wB wo c).2=[]then none else some [wB wo c]:Option (List ba))with
     |none=>rw[d]at f;cases f
     |some k=>
      rw[d]at f;simp only[zC,z6]at f;subst f;simp only[Si,qR,reduceCtorEq];have s:Xh (wB wo a::([],[45])::k)=none:=by
       unfold Xh;split
       ·rename_i x y z B;injection B with M _
        rw[<-M];simp[i]
       ·rfl
      rw[s];simp only;rw[Yz];exact X2 _ ⟨([],[45]),by simp,rfl⟩
 ·refine J n o ?_ ?_
  ·unfold QK;rw[fC,o];split
   ·rename_i a b c;rw[zc (fun e=>g ⟨a,c,by rw[e]⟩)];rfl
   ·rfl
  ·intro l D;cases hd:Xh l with
   |none=>rfl
   |some a=>have f:=L8 hd;rw[o]at A;have:=sC n l A D (by rw[f];simp);rw[f]at this;exact absurd ⟨a.1,a.2,this⟩ g
theorem bQ:∀(l:List za) (out:List qK) (a:Bool),WE out a l=none↔oW l=none
 |[],out,a=>by simp[WE,oW]
 |s::l,out,a=>by
  obtain⟨b,c⟩:=CT s;simp only[WE,oW];cases h:(QK s).2
  ·rw[b h];simp
  ·obtain⟨m,e,_⟩:=c h;rw[e];simp only[bQ l,qH];cases oW l<;>simp
theorem sE:∀(l:List za) (out:List qK) (m:List qK×Bool),WE out false l=some m->m.2=false
 |[],out,m,h=>by simp only[WE]at h;injection h with h;rw[<-h]
 |a::l,out,m,h=>by
  simp only[WE]at h;split at h
  ·cases h
  ·exact sE l _ m (by simpa using h)
theorem nL:∀(l:List za) (out:List qK) (d:List (List xH)) (m:List qK×Bool),oW l=some d->WE out true l=some m->Vp d out=if m.2=true then some m.1 else none
 |[],out,d,m,a,b=>by
  simp only[oW]at a;simp only[WE]at b;injection a with a
  injection b with b;subst a;subst b;rfl
 |s::l,out,d,m,a,b=>by
  obtain⟨n,i⟩:=CT s;simp only[oW]at a;simp only[WE]at b;cases h:(QK s).2
  ·rw[h]at a;simp at a
  ·rw[h]at a;simp only[qH]at a;obtain⟨k,e,j⟩:=i h;rw[e]at b;simp only[jK]at b;cases f:oW l with
   |none=>rw[f]at a;cases a
   |some g=>
    rw[f]at a;simp only[zC,z6]at a;subst a;simp only[Vp,j];cases c:k.2
    ·rw[c]at b;rw[sE l _ m b];simp
    ·rw[c]at b;simp only[qH];exact nL l _ g m f b
theorem uZ(t:za):WG t=vF t:=by
 unfold WG vF;split
 ·rfl
 ·cases a:oW (qc t [124,124])with
  |none=>rw[(bQ _ [] true).2 a]
  |some c=>
   cases b:WE [] true (qc t [124,124])with
   |none=>rw[(bQ _ _ _).1 b]at a;cases a
   |some m=>
    have:=nL _ _ c m a b;simp only[this];cases d:m.2
    ·simp
    ·simp
noncomputable def W9 (o:za) (v:wy) (m:Int):O:=.wG [.sl 11 (zW (bO o (v.part m)).1),int (if(bO o (v.part m)).2=true then 0 else 1)]
noncomputable def Ux:zb->Option O:=ql (α:=za×wy×Int) (fun a=>[str a.1,.agg a.2.1.V,int a.2.2]) (fun a=>pJ a.1/\a.2.1.ok/\1<=a.2.2/\a.2.2<=3) (fun a=>W9 a.1 a.2.1 a.2.2)
theorem L9(o:za)(v:wy)(m:Int)(Y:Hp)(Z:Nat)(c:pJ o)(d:v.ok)(f:1<=m/\m<=3):qn [.a,.g jY] Ux [str o,.agg v.V,int m] Y Z=some (W9 o v m,Y,Z):=
 vN (show zD Y [str o,.agg v.V,int m]=some ([str o,.agg v.V,int m],Y) by simp[wy.V]) (by
  show Ux [str o,(Sh.g jY).fix (.agg v.V),int m]=_;rw[J5];exact qF (V:=fun a:List UInt8×wy×Int=>[str a.1,O.agg a.2.1.V,int a.2.2]) (a:=(o,v,m)) (fun x y e=>by obtain⟨j,k,l⟩:=x;obtain⟨n,p,q⟩:=y;simp only[zk,zI]at e;obtain⟨h,b,i⟩:=e;injection b with b;rw[wR h,Wx b,qV i]) ⟨c,d,f⟩) (.inr (by simp[wy.V]))
abbrev qst:List Nat:=[226,259,260,261]
noncomputable abbrev Crst:Ctx:=zR prog [(258,qn [.g jY] (SY Wm fun m=>1<=m/\m<=3)),(226,qn [] (YK eV)),(259,qn [.g jm,.g jm] (um KE)),(260,qn [.g jY] (SY xX fun i=>0<=i/\i<3)),(261,qn [.g jY] (SY xD fun m=>1<=m/\m<=3))]
theorem Uy:AM.Good Crst (fun g=>qst.contains g):=qw mixed ⟨dt,by simp,dq,fun _=>yG _ _,gM,fun _=>yG _ _,a6,fun _=>yG _ _,uQ,fun _=>yG _ _,trivial⟩
theorem wy.ok.small{v:wy}(h:v.ok):vt v.pre:=h.2.2.2
theorem pK(o:za)(v:wy)(m:Int)(t:pJ o)(H:v.ok)(S:1<=m/\m<=3):∃T,zq Crst f228 [str o,.agg v.V,int m]=some T/\qX T (W9 o v m):=by
 refine yB (sh:=.s 11 jn) rfl ?_;have J:=H.small;have g:=fun Y Z=>Xb Wm (fun m=>1<=m/\m<=3) v m (.agg v.V) Y Z H S (J5 v) (Xc v Y) (Xd v)
 have r:=fun Y Z=>Xb xD (fun m=>1<=m/\m<=3) v m (.agg v.V) Y Z H S (J5 v) (Xc v Y) (Xd v)
 have w:=fun(i:Int) (hi:0<=i/\i<3) Y Z=>Xb xX (fun i=>0<=i/\i<3) v i (.agg v.V) Y Z H hi (J5 v) (Xc v Y) (Xd v)
 have x:∀(Y:Hp) (Z:Nat),qn [] (YK eV) [] Y Z=some (.agg [int qU.v.a,int qU.v.b,int qU.v.c,.sl 1 (zy qU.v.pre),qS qU.after],Y,Z):=fun Y Z=>Q3 _ Y Z
 have k:ZA (v.part m)=⟨v,false⟩:=rfl;have l:vt (v.part m).pre:=J;have C:=fun Y Z=>Wi qU (ZA (v.part m)) Y Z uv (Z9 l)
 have y:=fun Y Z=>Wi qU (vy (v.part m)) Y Z uv (Q4 l)
 have z:=fun Y Z=>Wi (ZA (v.part m)) (vy (v.part m)) Y Z (Z9 l) (Q4 l)
 have A:=fun i Y Z=>Wi (ZA (v.part m)) (jk (v.part m) i) Y Z (Z9 l) (KF _ i)
 have D:=fun i=>gL v 3 m i
 simp only[KE,k,wy.V,Cut.V,Wm,Je,xD,xX,kX,(D _).1,(D _).2]at g r w C y z A;have W:=wz (m-1);have E:(v.part m).has=m:=rfl;have F:∀o':za,o'=o->o'≠jq:=fun o' e=>by
  subst e;rcases t with rfl|t
  ·decide
  ·intro e;rw[e]at t;revert t;decide
 have K:o≠[45]:=by
  rcases t with rfl|t
  ·decide
  ·intro e;rw[e]at t;revert t;decide
 have n0:=F o rfl;have one:∀(X:List qK) (b:Bool),vu (JW o (v.part m))=(X,b)->bO o (v.part m)=if b=true then(X,true)else([],false):=fun X b h=>by unfold bO;rw[h]
 by_cases L:o=[62,61]
 ·subst L;have d:=one [w5 (ZA (v.part m))] true (by simp[vu,JW,jq]);simp at d;simp[wy.V,Cut.V,g,z8,qB,zp,zE,zo,qi,W9,d,k,zW,w5,qK.V,QM,f228]
 have n:=wU L;by_cases M:o=[60]
 ·subst M;have d:=one (eU qU (ZA (v.part m))) true (by simp[vu,JW,jq]);simp at d;simp[wy.V,Cut.V,g,x,C,n,z8,qB,zp,zE,zo,qi,W9,d,k,zW,qK.V,f228]
 have q:=wU M;by_cases N:o=[62]
 ·subst N;have d:=one [w5 (vy (v.part m))] (Qt (v.part m)) (by simp[vu,JW,jq]);cases j:Qt (v.part m)
  ·rw[j]at d g;simp at d;simp[wy.V,Cut.V,g,n,q,z8,qB,zp,zE,zo,qi,W9,d,zW,f228]
  ·rw[j]at d g;simp at d;simp[wy.V,Cut.V,g,n,q,z8,qB,zp,zE,zo,qi,W9,d,zW,w5,qK.V,QM,f228]
 have u:=wU N;by_cases P:o=[60,61]
 ·subst P;have d:=one (eU qU (vy (v.part m))) (Qt (v.part m)) (by simp[vu,JW,jq]);cases j:Qt (v.part m)
  ·rw[j]at d g;simp at d;simp[wy.V,Cut.V,g,x,y,n,q,u,z8,qB,qi,W9,d,zW,f228]
  ·rw[j]at d g;simp at d;simp[wy.V,Cut.V,g,x,y,n,q,u,z8,qB,qi,W9,d,zW,qK.V,Cut.V,f228]
 have B:=wU P;by_cases Q:o=[126]
 ·subst Q;have d:=one (eU (ZA (v.part m)) (jk (v.part m) (min (m-1) 1).toNat)) (vD (v.part m) (min (m-1) 1).toNat) (by simp[vu,JW,jq,E]);have G:(if 1<m-1 then 1 else m-1)=(((min (m-1) 1).toNat:Nat):Int):=by split<;>omega
  have hmn:(min (m-1) 1).toNat<3:=by omega
  have f:=w (((min (m-1) 1).toNat:Nat):Int) (by omega);simp only[Int.toNat_natCast]at f;rw[<-G]at f;obtain⟨i,hi⟩:=jc ((min (m-1) 1).toNat);rw[hi]at d f;have p:=fun Y Z=>A i Y Z
  cases j:vD (v.part m) i
  ·rw[j]at d f;simp at d;simp[wy.V,Cut.V,g,W,f,p,n,q,u,B,z8,qB,qi,W9,d,zW,f228]
  ·rw[j]at d f;simp at d;simp[wy.V,Cut.V,g,W,f,p,n,q,u,B,z8,qB,qi,W9,d,k,zW,qK.V,f228]
 have I:=wU Q;by_cases R:o=[94]
 ·subst R;have d:=one (eU (ZA (v.part m)) (jk (v.part m) (jB (v.part m)))) (vD (v.part m) (jB (v.part m))) (by simp[vu,JW,jq]);have hci:=LF (v.part m);have f:=w ((jB (v.part m):Nat):Int) (by omega);simp only[Int.toNat_natCast]at f;obtain⟨i,hi⟩:=jc (jB (v.part m));rw[hi]at d f r;have p:=fun Y Z=>A i Y Z
  cases j:vD (v.part m) i
  ·rw[j]at d f;simp at d;simp[wy.V,Cut.V,g,r,f,p,n,q,u,B,I,z8,qB,qi,W9,d,zW,f228]
  ·rw[j]at d f;simp at d;simp[wy.V,Cut.V,g,r,f,p,n,q,u,B,I,z8,qB,qi,W9,d,k,zW,qK.V,f228]
 have e7:=wU R;have d:=one (eU (ZA (v.part m)) (vy (v.part m))) (Qt (v.part m)) (by simp[vu,JW,n0,L,M,N,P,K,Q,R]);cases j:Qt (v.part m)
 ·rw[j]at d g;simp at d;simp[wy.V,Cut.V,g,z,n,q,u,B,I,e7,z8,qB,qi,W9,d,zW,f228]
 ·rw[j]at d g;simp at d;simp[wy.V,Cut.V,g,z,n,q,u,B,I,e7,z8,qB,qi,W9,d,k,zW,qK.V,f228]
theorem nM:zg prog 228 (qn [.a,.g jY] Ux):=
 wO (fn:=f228) Uy (qD func228) _ _ fun args r h=>by obtain⟨⟨o,v,m⟩,rfl,⟨b,c,d⟩,rfl⟩:=zN h;obtain⟨e,f,i⟩:=pK o v m b c d;exact⟨by simp[f228],e,f,i⟩
def Q6(l:List ba):List zb:=l.map fun a=>[str a.1,str a.2]
def iI(s:za):List ba×Bool:=match jO (yO s)with
 |some l=>(l,!l.isEmpty)
 |none=>([],false)
def pL(s:za):O:=.wG [.sl 2 (Q6 (iI s).1),qS (iI s).2]
noncomputable abbrev Crwo:Ctx:=zR prog [(160,zh false [] (Zr tbP fun _ b=>mv b)),(256,zh false [] (Nn Gj)),(255,zh false [] (Zr tlP fun _ b=>mv b)),(257,zh false [] (FSB ibP))]
theorem Uz:Gd Crwo:=zU mixed ⟨gy,iH,YI,iq,trivial⟩
theorem sF(a:za)(Y:Hp)(Z:Nat)(h:a.length<=zu):zh false [] (Zr tlP fun _ b=>mv b) [str a,str [32]] Y Z=some (str (Lib.trimLeftB a 32),Y,Z):=jV _ _ a [32] Y Z h (by decide) ⟨32,rfl,by decide⟩ rfl
theorem Ma(a:za)(Y:Hp)(Z:Nat)(h:a.length<=zu):zh false [] (Zr tbP fun _ b=>mv b) [str a,str [32]] Y Z=some (str (Lib.trimB a 32),Y,Z):=jV _ _ a [32] Y Z h (by decide) ⟨32,rfl,by decide⟩ rfl
theorem PI:∀s:za,(Lib.indexByte s 32=((hd s).length:Int)/\(hd s).length<s.length)\/(Lib.indexByte s 32=-1/\hd s=s)
 |[]=>.inr ⟨rfl,rfl⟩
 |c::s=>by
  by_cases a:c=32
  ·subst a;exact .inl ⟨by simp[Lib.indexByte,hd],by simp[hd]⟩
  ·have b:hd (c::s)=c::hd s:=by simp[hd,a]
   rcases PI s with⟨d,e⟩|⟨d,e⟩
   ·refine .inl ⟨?_,by rw[b];simpa using e⟩;rw[b];have:¬Lib.indexByte s 32=-1:=by omega
    simp[Lib.indexByte,a,d]
    try omega
   ·refine .inr ⟨?_,by rw[b,e]⟩;simp[Lib.indexByte,a,d]
theorem UA(s:za):s.take (hd s).length=hd s/\s.drop (hd s).length=tl s:=by have h:=gN s;exact⟨(List.prefix_iff_eq_take.1 ⟨tl s,h⟩).symm,by have:=zr (List.drop (hd s).length) h;simpa using this.symm⟩
def Mb:O->Nat
 | .v (.string s)=>s.size
 |_=>0
theorem nO(l:List ba):(Q6 l).length=l.length:=by simp[Q6]
theorem PJ(l:List ba):(Q6 l).map (QJ [none,none])=Q6 l:=by simp[Q6]
def WoI(a:za)(st:St):Prop:=∃(s:za) (l:List ba),st.U 0=str s/\H3 s/\s.length+l.length<=a.length/\qT st.Y st.Z 232 2 (st.U 4) (Q6 l)/\jO (yO a)=(jO (yO s)).map (l++·)
theorem PK{b s:za}{l:List ba}{a:ba}{st:St}(c:st.U 0=str (Lib.trimLeftB s 32))(hs:(Lib.trimLeftB s 32).length+(l.length+1)<=b.length)(d:qT st.Y st.Z 232 2 (st.U 4) (Q6 l++[[str a.1,str a.2]]))(e:jO (yO b)=(jO (yO s)).map (fun x=>l++[a]++x)):WoI b st:=
 ⟨Lib.trimLeftB s 32,l++[a],c,Jj s,by simpa using hs,by simpa[Q6]using d,by rw[e,XY]⟩
theorem CU(t:za)(ht:t.length<=zu):∃r0,zq Crwo f224 [str t]=some r0/\qX r0 (pL t):=by
 refine yB (sh:=.s 2 [none,none]) rfl ?_;have W:=fun Y Z=>Ma t Y Z ht
 have G:(Lib.trimB t 32).length<=t.length:=by
  have h1:=XZ (Lib.trimRightB t 32);have h2:(Lib.trimRightB t 32).length<=t.length:=by unfold Lib.trimRightB;rw[List.length_reverse];exact zw (List.dropWhile_sublist _).length_le (by simp)
  exact zw h1 h2
 have hR:∀l:List ba,jO (yO t)=some l->iI t=(l,!l.isEmpty):=fun l h=>by unfold iI;rw[h]
 have hN:jO (yO t)=none->iI t=([],false):=fun h=>by unfold iI;rw[h]
 simp[W];refine Wu (WoI t) (fun st=>Mb (st.U 0)) ⟨Lib.trimB t 32,[],by simp,Jj _,by simpa using G,.inl ⟨by simp,rfl⟩,by rw[Pv];cases jO (yO t)<;>rfl⟩ ?_;rintro⟨U,Y,Z⟩ ⟨s,l,u,X,hsl,hO,H⟩;simp only at u hO;by_cases hs:s=[]
 ·subst hs;have he':jO (yO t)=some l:=by rw[H,uR];simp[jO]
  have I:=hR l he';have hfx:=PJ l;have j:=nO l;have hb1:(decide (0<l.length))=!l.isEmpty:=by cases l<;>simp
  rcases hO with⟨S,hn⟩|⟨id,hid,S,hb⟩
  ·have hl:l=[]:=by simpa[Q6]using hn
   subst hl;simp[u,S,qi,pL,I,Q6,f224]
  ·rw[j]at S;have f:(Q6 l).take l.length=Q6 l:=qx (by omega);simp[u,S,hb,j,f,hfx,hb1,qi,pL,I,f224]
 ·have hh:hd s≠[]:=X.resolve_left hs;have k:s.isEmpty=false:=by cases s with
   |nil=>exact absurd rfl hs
   |cons c s=>rfl
  have b:=Pz hh;have g:=fun h=>PA (s:=s) h
  unfold zu at ht;have B:s.length<=zu:=by unfold zu;omega
  have d:=fun Y Z=>cI Gj s Y Z B rfl
  have C:=Qz wo s;have i:(wB wo s).1.length<=s.length:=by
   rcases J0 wo s with h|h
   ·rw[h];simp
   ·by_cases m:(wB wo s).1=[]
    ·rw[m];simp
    ·exact(nH wo s m).2.length_le
  have D:=KH wo s;simp only[Gj]at d;unfold uU at b g;simp only at b g;obtain⟨o,r,hor⟩:∃o r,wB wo s=(o,r):=⟨_,_,rfl⟩;rw[hor]at d C i D b g;simp only at d C i D b g;have n:=fun Y Z=>sF r Y Z (by unfold zu;omega)
  have f:(s.drop o.length).take (s.length-o.length)=r:=by rw[C];exact qx (by simp)
  obtain⟨s1,J⟩:=jc (Lib.trimLeftB r 32);have hs1l:s1.length<=s.length:=by rw[<-J];exact zw (XZ r) D
  rw[J]at n b g;have w:∀Y Z,zh false [] (FSB ibP) [str s1,.v (.int .u8 32)] Y Z=some (int (Lib.indexByte s1 32),Y,Z):=fun Y Z=>Of ibP s1 32 Y Z (by unfold zu;omega) rfl
  obtain⟨K,L⟩:=UA s1;have A:(s1.drop (hd s1).length).take (s1.length-(hd s1).length)=tl s1:=by rw[L];exact qx (by rw[<-L];simp)
  have M:(hd s1).length<=s1.length:=by have:=zr List.length (gN s1);rw[zL]at this;omega
  have p:=fun Y Z=>sF (tl s1) Y Z (by have:=zr List.length (gN s1);rw[zL]at this;unfold zu;omega)
  have j:=nO l;have E:=qT.jd (P:=prog) (t:=228) (c:=[str o,str (hd s1)]) hO zfi zfj zfk zfl rfl (by omega) (by rw[j];unfold maxLen;omega) (by rw[j];omega);have hoe:(s.isEmpty)=false:=k;by_cases m:hd s1=[]
  ·rw[zd m]at b;rw[b]at H;have I:=hN H;rcases PI s1 with⟨hi,Sn⟩|⟨hi,q⟩
   ·rw[m]at hi;simp at hi;simp[u,hs,k,d,i,f,n,w,hi,qi,pL,I,Q6,f224]
   ·have N:s1=[]:=by rw[<-q];exact m
    subst N;simp[u,hs,k,d,i,f,n,w,hi,qi,pL,I,Q6,f224]
  ·have hlt':=g m;rw[zc m]at b;rw[b]at H;have y:¬(hd s1).length=0:=fun e=>m (qy.1 e)
   have Q:=XZ (tl s1);have z:jO (yO t)=(jO (yO (tl s1))).map (fun x=>l++[((o,hd s1):ba)]++x):=by rw[H];cases jO (yO (tl s1))<;>simp
   have T:Mb (str (Lib.trimLeftB (tl s1) 32))<Mb (U 0):=by rw[u];simp[Mb];omega
   rw[u]at T;have hnn:¬((hd s1).length:Int)<0:=by omega
   have F:(((hd s1).length:Int)==0)=false:=by simpa using m
   rcases PI s1 with⟨hi,Sn⟩|⟨hi,q⟩
   ·simp[u,hs,k,d,i,f,n,w,hi,hnn,F,m,y,M,K,A,p,E,z8,qB,zp,zE,zo];exact⟨PK (s:=tl s1) (l:=l) (a:=(o,hd s1)) (by simp) (by omega) (by simpa using qT.after) z,by simpa[Mb]using T⟩
   ·rw[q]at y K A M E z;have R:s1≠[]:=fun e=>y (by rw[e];rfl)
    rw[q]at F;have hte:tl s1=[]:=by have:=zr List.length (gN s1);rw[zL,q]at this;exact qy.1 (by omega)
    rw[hte]at p z Q T;simp[u,hs,k,d,i,f,n,w,hi,F,y,R,p,E,z8,qB,zp,zE,zo];exact⟨PK (s:=[]) (l:=l) (a:=(o,s1)) (by simp) (by have h9:=vm.2 hs;rw[show Lib.trimLeftB [] 32=[]from rfl,yV];omega) (by simpa using qT.after) z,by simpa[Mb]using T⟩
theorem u5:zg prog 224 (zh false [] (Nn pL)):=
 Qq (fn:=f224) Uz (qD func224) false [] _ fun args r h w S vs a=>by obtain⟨l,rfl,Y,rfl⟩:=zN h;obtain⟨b,c,d⟩:=CU l Y;exact⟨_,b,a,by simp[f224],c,d⟩
theorem nQ{s:za}{p:Part}(h:Qe s=some p):(WC s).2.2=true/\(WC s).2.1=p.has/\(WC s).2.1≠0/\p=(WC s).1.part (WC s).2.1/\(WC s).1.ok/\1<=p.has/\p.has<=3:=by
 have f:=h;rw[H2]at h;split at h
 ·rename_i d;injection h with h
  obtain⟨_,_,Y,j⟩:=Qb f;subst h;obtain⟨a,b,c,⟨g,i⟩,e⟩:=Y;exact⟨d.1,rfl,d.2,rfl,⟨a,b,c,e⟩,g,i⟩
 ·cases h
theorem nR{s:za}(h:Qe s=none):(WC s).2.2=false\/(WC s).2.1=0:=by
 rw[H2]at h;split at h
 ·cases h
 ·rename_i b;by_cases a:(WC s).2.1=0
  ·exact .inr a
  ·left;cases c:(WC s).2.2
   ·rfl
   ·exact absurd ⟨c,a⟩ b
noncomputable def nS (a b:za):List qK×Int:=match Qe a,Qe b with
 |some p,some q=>((dv p q).1,if(dv p q).2=true then 0 else 1)
 |_,_=>([],10)
noncomputable def Xj (a b:za):O:=.wG [.sl 11 (zW (nS a b).1),int (nS a b).2]
def UB(a b:za):Prop:=a.length+1<=zu/\b.length+1<=zu
noncomputable abbrev Crbt:Ctx:=zR prog [(180,zh false [] (YY A3)),(258,qn [.g jY] (SY Wm fun m=>1<=m/\m<=3)),(259,qn [.g jm,.g jm] (um KE))]
theorem UC:Gd Crbt:=zU mixed ⟨Z2,dt,gM,trivial⟩
theorem pM(a b:za)(t:UB a b):∃y,zq Crbt f225 [str a,str b]=some y/\qX y (Xj a b):=by
 obtain⟨F,G⟩:=t;refine yB (sh:=.s 11 jn) rfl ?_;have f:=fun Y Z=>j6 A3 a Y Z F
 have g:=fun Y Z=>j6 A3 b Y Z G
 simp only[A3,wy.V]at f g;cases i:Qe a with
 |none=>
  have d:nS a b=([],10):=by unfold nS;rw[i]
  rcases nR i with h|h
  ·simp[f,g,h,qi,Xj,d,zW,f225]
  ·cases H:(WC a).2.2<;>cases u:(WC b).2.2<;>simp[f,g,h,H,u,qi,Xj,d,zW,f225]
 |some p=>
  obtain⟨n,M,I,z,J,N,P⟩:=nQ i;have e:=wU I;cases o:Qe b with
  |none=>
   have d:nS a b=([],10):=by unfold nS;rw[i,o]
   rcases nR o with h|h
   ·simp[f,g,n,e,h,qi,Xj,d,zW,f225]
   ·cases u:(WC b).2.2<;>simp[f,g,n,e,h,u,qi,Xj,d,zW,f225]
  |some q=>
   obtain⟨A,K,L,B,C,D,E⟩:=nQ o;have j:=wU L;have d:nS a b=((dv p q).1,if(dv p q).2=true then 0 else 1):=by unfold nS;rw[i,o]
   rw[<-K]at D E;have c:=fun Y Z=>Xb Wm (fun m=>1<=m/\m<=3) (WC b).1 (WC b).2.1 (.agg (WC b).1.V) Y Z C ⟨D,E⟩ (J5 _) (Xc _ Y) (Xd _)
   have k:ZA p=⟨(WC a).1,false⟩:=by rw[z];rfl
   have v:vt p.pre:=by rw[z];exact J.small
   have w:vt q.pre:=by rw[B];exact C.small
   have l:=fun Y Z=>Wi (ZA p) (vy q) Y Z (Z9 v) (Q4 w)
   simp only[KE,k,wy.V,Cut.V,Wm,Je,<-B]at c l;cases r:Qt q
   ·rw[r]at c;have x:dv p q=([],false):=by unfold dv;rw[r];rfl
    rw[x]at d;simp[f,g,n,e,A,j,c,qi,Xj,d,zW,f225]
   ·rw[r]at c;have x:dv p q=(eU (ZA p) (vy q),true):=by unfold dv;rw[r];rfl
    rw[x]at d;simp[f,g,n,e,A,j,c,l,z8,qB,qi,Xj,d,k,zW,qK.V,Cut.V,f225]
theorem nT:zg prog 225 (zh false [] (ql (α:=za×za) (fun a=>[str a.1,str a.2]) (fun a=>UB a.1 a.2) fun a=>Xj a.1 a.2)):=
 Qq (fn:=f225) UC (qD func225) false [] _ fun args r h w S vs c=>by obtain⟨⟨a,b⟩,rfl,Y,rfl⟩:=zN h;obtain⟨d,e,f⟩:=pM a b Y;exact⟨_,d,c,by simp[f225],e,f⟩
noncomputable def FBt2:zb->Option O:=ql (α:=za×za) (fun a=>[str a.1,str a.2]) (fun a=>UB a.1 a.2) fun a=>Xj a.1 a.2
theorem Mc(a b:za)(Y:Hp)(Z:Nat)(h:UB a b):zh false [] FBt2 [str a,str b] Y Z=some (Xj a b,Y,Z):=
 Ja (a,b) _ _ rfl Fu h (.inr (by simp))
end Go.Q
namespace Go.AM
variable{dr:Prop}
def AY(P:Program)(f e s by_:Nat):Prop:=
 (∀w,Calls P f #[.slice none 0 0,.int .i64 0] w fun r w'=>r=.returned (.slice none 0 0)/\w'=w) /\
 ∀(n:Nat) (w:World),0<n->n*by_<=140737488355328->n<=4611686018427387904->Calls P f #[.slice none 0 0,.int .i64 n] w fun r w'=>
  ∃cap a,cap<=maxLen/\a.size=cap*s/\r=.returned (.slice (some ⟨w.heap.size,0,none⟩) 0 cap)/\w'=w.drew.alloc (.cells a e)
theorem AY.of{P:Program}{c:Go.Shelf.Ren}(L:Lays8.n4 P c){s by_:Nat}{z:zb}(hs:qz P (c.t 25)=some s)(d:js P (c.t 25)=some by_)(j:yL P (c.t 25)=some z)(k:z.length=s)(u:0<s):AY P (c.f 4) (c.t 25) s by_:=by
 obtain⟨i,v,hi,l,m⟩:=Qk j;obtain⟨i',b,o⟩:=Yh hs;rw[hi]at b;injection b with b;subst b;have e:i.bytes=by_:=by unfold js at d;rw[hi]at d;simpa using d
 have g:v.cells.size=s:=by have:=(jg (w:=default) (S:=fun _=>False) m).1;rw[k]at this;simpa using this.symm
 refine⟨fun w=>Any8.slices_Grow_room L none 0 0 0 w (by omega) (by omega) (by omega) (by omega),fun n w x d y=>?_⟩;refine(Any8.slices_Grow_grow L i v hi l (by omega) none 0 0 n [] w (by omega) (by omega) (by rw[e];simpa using d) (by omega) (by simp) (fun _=>rfl) (fun a h=>(nomatch h))).mono fun r w' p=>?_
 obtain⟨rfl,rfl⟩:=p;rw[ym]at *;have q:n<=grownCap w n 0 (c.t 25):=grownCap_ge _ _ _ _;refine⟨_,_,grownCap_le_maxLen w n 0 (c.t 25) (by unfold maxLen;omega),?_,rfl,rfl⟩;rw[QF,QF,Sj,Sj,g];simp only[jv,yV,ym,Nat.sub_zero];rw[<-qI];congr 1;omega
def sG(e s by_:Nat):AM.Spec:=fun args Y Z=>match args with
 |[.nil,.v (.int .i64 n)]=>if n=0 then some (.nil,Y,Z)else if 0<n/\n*by_<=140737488355328/\n<=4611686018427387904 then some (.own Z 0 0,qv Y Z (some ⟨e,s,true,[]⟩),Z+1)else none
 |_=>none
theorem CV{P:Program}{f e s by_:Nat}(k:∃fn,P.funcs[f]?=some fn/\(fn.name== "runtime.NumGoroutine")=false/\fn.body.isNone=false)(l:qz P e=some s)(g:0<s)(h:AY P f e s by_):kq dr P f (sG e s by_):=by
 refine⟨k,?_⟩;intro args Y Z r K L a w S G vs hi A;unfold sG at a;split at a
 ·rename_i n;obtain⟨u,us,rfl,B,d⟩:=A.jC;obtain⟨v,us,rfl,C,d⟩:=d.jC;obtain rfl:=d.WO;obtain rfl:=B.Zj;obtain⟨rfl,_⟩:=C.w8;split at a
  ·rename_i D;subst D;injection a with a
   injection a with o a;injection a with p q;subst o;subst p;subst q;refine(h.1 w).mono fun r w' t=>?_
   obtain⟨rfl,rfl⟩:=t;exact⟨_,_,_,rfl,.refl hi,.c .nil⟩
  ·split at a
   ·rename_i E y;injection a with a
    injection a with o a;injection a with p q;subst o;subst p;subst q;obtain⟨m,rfl⟩:∃m:Nat,n=m:=⟨n.toNat,by omega⟩;refine(h.2 m w (by omega) (Int.ofNat_le.1 (by rw[Int.natCast_mul];exact y.2.1)) (by have:=y.2.2;omega)).mono fun r w' t=>?_
    obtain⟨cap,b,F,H,rfl,rfl⟩:=t;have z:=kx.drew (dr:=dr) hi;obtain⟨i,x,j⟩:=Yh l;have I:=kx.alloc (dr:=dr) z.inv b e true [] s g (by rw[x];simp[j]) (by simp) (by simp) (by simp);refine⟨_,_,_,rfl,z.trans I,?_⟩;have:=qf.own (w:=w.drew.alloc (.cells b e)) (S:=S) (G:=qv G Z ⟨w.drew.heap.size,b.size,s⟩) (Z:=Z+1) (id:=Z) (off:=0) (n:=0) (cap:=cap) (by omega) (by omega) F (by rw[wQ];show(0+cap)*s=b.size;rw[H,ym]) (by rw[wQ];exact g);rw[wQ]at this;have J:0*s=0:=zaF s;simp only[J]at this;exact this
   ·cases a
 ·cases a
theorem qT.Jo{P:Program}{Y:Hp}{Z e s by_:Nat}{v:O}{xs:List zb}{ys:List zb}{z:zb}{t:TypeId}(h:qT Y Z e s v xs)(b:yf P t=some e)(hs:qz P e=some s)(c:js P e=some by_)(d:yL P e=some z)
  (a:z.length=s) (f:0<s) (g:xs.length+ys.length<=maxLen) (i:(xs.length+ys.length)*by_<=140737488355328) :
  ∃k l j,yK P Y Z t t v (.sl s ys)=some (k,l,j)/\qT l j e s k (xs++ys)/\Z<=j:=by
 rcases h with⟨rfl,rfl⟩|⟨id,hid,rfl,n⟩
 ·simp at g i;by_cases m:ys=[]
  ·subst m;exact⟨.nil,Y,Z,by simp[yK,b,hs,c,d,a,f,AM.view,maxLen],.inl ⟨rfl,rfl⟩,zf _⟩
  ·exact⟨.own Z 0 ys.length,_,Z+1,by simp[yK,b,hs,c,d,a,f,g,i,AM.view,m];rfl,.inr ⟨Z,by omega,by simp,by simp⟩,by omega⟩
 ·exact⟨.own Z 0 (xs.length+ys.length),_,Z+1,by simp[yK,b,hs,c,d,a,f,g,i,AM.view,n];rfl,.inr ⟨Z,by omega,by simp,by simp⟩,by omega⟩
end Go.AM
namespace Go.Proofs
open Go.Shelf
def Tryz.Ni:Go.Shelf.Ren:=⟨fun|4=>262|n=>n,fun|22=>138|25=>181|0=>0|3=>3|4=>4|9=>9|20=>20|n=>n,fun|n=>n⟩
theorem Tryz.zgl:Go.Proofs.Lays8.n4 prog Tryz.Ni:={
 mixed:=by kernel_rfl
 f4:=⟨f262.name,by decide,func262.trans (zr some (by kernel_rfl))⟩
 t0:=underlying0
 a0:=isAgg0
 z0:=sizeOf0
 v0:=zeroValue0
 t3:=underlying3
 a3:=isAgg3
 z3:=sizeOf3
 v3:=zeroValue3
 t4:=underlying4
 a4:=isAgg4
 z4:=sizeOf4
 v4:=zeroValue4
 t9:=underlying9
 a9:=isAgg9
 z9:=sizeOf9
 v9:=zeroValue9
 t20:=underlying20
 a20:=isAgg20
 z20:=sizeOf20
 v20:=zeroValue20
 t22:=underlying138
 a22:=isAgg138
 z22:=sizeOf138
 v22:=zeroValue138}
end Go.Proofs
namespace Go.Q
theorem CW:zg prog 262 (sG 181 11 120):=
 CV ⟨_,func262,by decide,by kernel_rfl⟩ rP (by decide) (AY.of Tryz.zgl rP BC BD rfl (by omega))
noncomputable def PL (out:List qK->List qK->O) (pre:List qK->List qK->Prop):zb->Option O:=ql (α:=List qK×List qK) (fun a=>[.sl 1 [[.sl 11 (a.1.map qK.V)],[.sl 11 (a.2.map qK.V)]]]) (fun a=>pre a.1 a.2) (fun a=>out a.1 a.2)
noncomputable abbrev EG:Ctx:=zR prog [(262,sG 181 11 120)]
theorem u6(a b:List qK)(E:a.length<=zu)(x:b.length<=zu):∃f,zq EG f229 [.sl 1 [[.sl 11 (a.map qK.V)],[.sl 11 (b.map qK.V)]]]=some f/\qX f (.sl 11 ((a++b).map qK.V)):=by
 have q:∀{code},f229.body=some code->Zy EG code ⟨j9 [.sl 1 [[.sl 11 (a.map qK.V)],[.sl 11 (b.map qK.V)]]],fun _=>none,0⟩ (Jt EG.P f229 (xx (.sl 11 ((a++b).map qK.V))))->∃f,zq EG f229 [.sl 1 [[.sl 11 (a.map qK.V)],[.sl 11 (b.map qK.V)]]]=some f/\qX f (.sl 11 ((a++b).map qK.V)):=by intro code x h;obtain⟨f,F,G⟩:=kh x h;exact⟨f,F,fun w S u H=>tK H G⟩
 refine q rfl ?_;unfold zu at E x;let cs:List (List qK):=[a,b];have c:cs=[a,b]:=rfl;simp;refine zP (fun k U Y Z=>U 0=.sl 1 [[.sl 11 (a.map qK.V)],[.sl 11 (b.map qK.V)]]/\U 9=.sl 1 [[.sl 11 (a.map qK.V)],[.sl 11 (b.map qK.V)]]/\U 10=int 2/\U 11=int k/\U 3=int (((cs.take k).map List.length).sum:Nat)) 2
  ⟨by simp,by simp,by simp,by simp,by simp⟩ ?_
 rintro k U Y Z I ⟨y,z,g,i,p⟩;obtain rfl|rfl|rfl:k=0\/k=1\/k=2:=by omega
 ·simp[c]at p;have A:=wz (a.length:Int);have j:=wz 1;have B:¬(a.length:Int)<0:=by omega
  simp[y,z,g,i,p,A,j,B,c]
 ·simp[c]at p;have A:=wz ((a.length:Int)+b.length);have j:=wz 2;have B:¬(a.length:Int)+b.length<0:=by omega
  simp[y,z,g,i,p,A,j,B,c]
 ·simp[c]at p;have J:∀Y Z,∃v r s,sG 181 11 120 [.nil,int ((a.length:Int)+b.length)] Y Z=some (v,r,s)/\qT r s 181 11 v []:=fun Y Z=>by
   by_cases D:(a.length:Int)+b.length=0
   ·exact⟨.nil,Y,Z,by simp[sG,D],.inl ⟨rfl,rfl⟩⟩
   ·exact⟨.own Z 0 0,qv Y Z (some ⟨181,11,true,[]⟩),Z+1,by show(if(a.length:Int)+b.length=0 then _ else _)=_;rw[zc D,zd ⟨by omega,by omega,by omega⟩],.inr ⟨Z,by omega,rfl,by simp⟩⟩
  obtain⟨v,r,s,C,e⟩:=J Y Z;simp[y,z,g,i,p,C];refine zP (fun k U Y Z=>U 25=.sl 1 [[.sl 11 (a.map qK.V)],[.sl 11 (b.map qK.V)]]/\U 26=int 2/\U 27=int k/\qT Y Z 181 11 (U 6) (((cs.take k).flatten).map qK.V)) 2
   ⟨by simp,by simp,by simp,by simpa using e⟩ ?_
  rintro k U Y Z I ⟨l,m,n,e⟩;obtain rfl|rfl|rfl:k=0\/k=1\/k=2:=by omega
  ·simp[c]at e;obtain⟨K,r,s,o,d,_⟩:=e.Jo (P:=prog) (t:=138) (ys:=a.map qK.V) HI rP BC BD rfl (by omega) (by simp[maxLen];omega) (by simp;omega);have j:=wz 1;simp at d;simp[l,m,n,o,j,c];exact d
  ·simp[c]at e;obtain⟨K,r,s,o,d,_⟩:=e.Jo (P:=prog) (t:=138) (ys:=b.map qK.V) HI rP BC BD rfl (by omega) (by simp[maxLen];omega) (by simp;omega);have j:=wz 2;simp[l,m,n,o,j,c];simpa using d
  ·simp[c]at e;have:=e.freeze Z;simp[l,m,n,f229];exact this
noncomputable def sH:zb->Option O:=PL (fun a b=>.sl 11 ((a++b).map qK.V)) fun a b=>a.length<=zu/\b.length<=zu
theorem pN:zg prog 229 (zh true [] sH):=
 Qq (fn:=f229) (zU mixed ⟨CW,trivial⟩:AM.Good EG _) (qD func229) true [] _ fun args r h w S vs d=>by unfold sH PL at h;obtain⟨⟨a,b⟩,rfl,c,rfl⟩:=zN h;obtain⟨e,f,g⟩:=u6 a b c.1 c.2;exact⟨_,e,d,zw (zf 1) (by decide),f,g⟩
end Go.Q
namespace Go.AM
variable{dr:Prop}
section
variable{P:Program}{Y:Hp}{Z:Nat}
def zbg(P:Program)(f e s by_:Nat):Prop:=
 ∀(w:World) (g m n i cap l:Nat) (d a:Array Value) (o:TypeId),i<n->n<=cap->cap<=maxLen->n+1<=maxLen->(n+1)*by_<=140737488355328->g≠m->1<=l->l<=maxLen ->
  w.heap[g]?=some (.cells d e (0,0))->d.size=cap*s->w.heap[m]?=some (.cells a o (0,0))->a.size=l*s->(∀j v,j<n*s->d[j]?=some v->v.oneCell'=true)->(∀j v,j<s->a[j]?=some v->v.oneCell'=true) ->
  Calls P f #[.slice (some ⟨g,0,none⟩) n cap,.int .i64 i,.slice (some ⟨m,0,none⟩) 1 l] w fun r w'=>∃(k c:Nat) (h:Array Value),n+1<=c/\c<=maxLen/\r=.returned (.slice (some ⟨k,0,none⟩) ((n+1:Nat)) c) /\
   (k=g\/w.heap.size<=k)/\w'.heap[k]?=some (.cells h e (0,0))/\h.size=c*s/\Fr True w (fun b=>b=k) w' /\
   ∀j,j<(n+1)*s->h[j]?=(d.toList.take (i*s)++a.toList.take s++(d.toList.take (n*s)).drop (i*s))[j]?
def gP(e s by_:Nat):AM.Spec:=fun args Y Z=>match args with
 |[.own id 0 n,.v (.int .i64 i),.own a 0 1]=>match Y id,Y a with
  |some b,some d=>match d.es with
   |[c]=>if id≠a/\b.arr=true/\d.arr=true/\b.e=e/\b.s=s/\d.s=s/\b.es.length=n/\0<=i/\i<n/\(n+1)*by_<=140737488355328/\n+1<=maxLen then
     some (.own Z 0 (n+1),qv (qv Y id none) Z (some ⟨e,s,true,b.es.take i.toNat++c::b.es.drop i.toNat⟩),Z+1)else none
   |_=>none
  |_,_=>none
 |_=>none
theorem zcP{es:List zb}{s i j:Nat}(d:∀c∈es,c.length=s){c:zb}{e:O}(hi:es[i]?=some c)(f:c[j]?=some e):j<s/\i<es.length/\i*s+j<es.length*s:=by
 have a:j<s:=by rw[<-d c (zG hi)];exact(zi.1 f).1
 have b:i<es.length:=(zi.1 hi).1;exact⟨a,b,kR b a⟩
theorem CX{f e s by_:Nat}(hfn:∃fn,P.funcs[f]?=some fn/\(fn.name== "runtime.NumGoroutine")=false/\fn.body.isNone=false)(hsz:qz P e=some s)(E:0<s)(h:zbg P f e s by_):kq dr P f (gP e s by_):=by
 refine⟨hfn,?_⟩;intro args Y Z r Y' Z' t w S G vs hi hz;unfold gP at t;split at t
 case h_2=>cases t
 rename_i id n i x;split at t
 case h_2=>cases t
 rename_i b b2 hb hb2;split at t
 case h_2=>cases t
 rename_i c hc;split at t
 case isFalse=>cases t
 rename_i hk;obtain⟨k1,k2,k3,k4,k5,k6,k7,k8,k9,k10,k11⟩:=hk;injection t with t
 injection t with e1 t;injection t with e2 e3;subst e1;subst e2;subst e3;obtain⟨u0,us,rfl,hu0,y⟩:=hz.jC;obtain⟨u1,us,rfl,hu1,y⟩:=y.jC;obtain⟨u2,us,rfl,hu2,y⟩:=y.jC;obtain rfl:=y.WO;obtain⟨rfl,_⟩:=hu1.w8;have EM:=hu0.xh;have I:=hu2.xh;obtain⟨cap,g1,g2,g3,g4,rfl⟩:=hu0.vK;obtain⟨vc,v1,v2,v3,v4,rfl⟩:=hu2.vK;have R:=hi.live id b hb;have z:=hi.live x b2 hb2;have hgs:(G id).s=s:=by rw[<-R.bs];exact k5
 have J:(G x).s=s:=by rw[<-z.bs];exact k6
 obtain⟨F,q1,q2,q3⟩:=R.row EM;obtain⟨A,r1,r2,r3⟩:=z.row I;rw[hgs]at q3 g4;rw[J]at r3 v4;rw[k4]at q1;have z0:0*(G id).s=0:=zaF _;have z1:0*(G x).s=0:=zaF _;rw[z0,z1];have hne:(G id).g≠(G x).g:=fun e=>k1 (hi.inj id x b b2 hb hb2 e)
 have B:∀c∈b.es,c.length=s:=fun c hc=>by rw[<-hgs];exact R.len EM c hc
 have hlc:c.length=s:=by rw[<-J];exact z.len I c (by rw[hc];simp)
 obtain⟨m,rfl⟩:∃m:Nat,i=m:=⟨i.toNat,by omega⟩;have hmn:m<n:=by omega
 have key:=h w (G id).g (G x).g n m cap vc F A b2.e hmn g2 g3 k11 k10 hne v2 v3 q1 (by rw[q2,<-g4,ym]) r1 (by rw[r2,<-v4,ym])
  (fun j v T hv=>by
   have hd:=Nat.div_add_mod j s;have hm:=Nat.mod_lt j E;have W:j/s<b.es.length:=by rw[k7];exact(Nat.div_lt_iff_lt_mul E).2 T
   obtain⟨row,K⟩:∃row,b.es[j/s]?=some row:=⟨_,zl W⟩;have X:=B row (zG K);obtain⟨q,hpv⟩:∃q,row[j % s]?=some q:=⟨_,zl (by omega)⟩;obtain⟨u,p,H⟩:=q3 (j/s) (j % s) row q K hpv;rw[zaB,hd,hv]at p;injection p with p;rw[p];exact H.2.2)
  (fun j v T hv=>by obtain⟨q,hpv⟩:∃q,c[j]?=some q:=⟨_,zl (by omega)⟩;obtain⟨u,p,H⟩:=r3 0 j c q (by rw[hc];rfl) hpv;rw[zaF,ym,hv]at p;injection p with p;rw[p];exact H.2.2)
 refine key.mono fun e w' hr=>?_
 obtain⟨g',L,l,p1,p2,rfl,p4,p5,p6,p7,p8⟩:=hr;have M:∀id' C,qv Y id none id'=some C->Y id'=some C:=fun id' C h=>xk h
 have SK:∀id' C,qv Y id none id'=some C->(G id').g≠g':=fun id' C D e=>by
  have hb0:=M id' C D;rcases p4 with rfl|p4
  ·have:=hi.inj id' id C b hb0 hb e;subst this;rw[wQ]at D;cases D
  ·have:=(hi.live id' C hb0).lt;omega
 have hnS:¬S g':=fun hS=>by
  rcases p4 with rfl|p4
  ·exact hi.apart id b hb hS
  ·have:=hi.st _ hS;omega
 have htl:(b.es.take m++c::b.es.drop m).length=n+1:=by simp;omega
 have X:∀c'∈b.es.take m++c::b.es.drop m,c'.length=s:=fun c' hc'=>by
  rcases zM.1 hc' with h|h
  ·exact B c' (zgf h)
  ·rcases zv.1 h with rfl|h
   ·exact hlc
   ·exact B c' (List.mem_of_mem_drop h)
 have hcl:(F.toList.take (n*s)).length=n*s:=by have:n*s<=cap*s:=zK _ g2;simp only[yF,wC];rw[q2,<-g4,ym];exact Nat.min_eq_left this
 have hms:m*s<=n*s:=zK _ (by omega);have o:(F.toList.take (m*s)).length=m*s:=by
  have:F.toList.length=cap*s:=by rw[wC,q2,<-g4,ym]
  have h2:n*s<=cap*s:=zK _ g2;simp only[yF,this];omega
 have hvl:(A.toList.take s).length=s:=by
  have:A.toList.length=vc*s:=by rw[wC,r2,<-v4,ym]
  have h2:1*s<=vc*s:=zK _ v2;simp only[yF,this];omega
 have k:=kx.tj (dr:=dr) (Y1:=qv Y id none) hi M ⟨g',l.size,s⟩ e true (b.es.take m++c::b.es.drop m) l p7.os p7.tape p7.output p7.size (p7.drawn trivial) (fun _=>False) (fun _ h=>h.elim)
  (fun C D hne' _=>p7.block C D hne') SK hnS (by
   rcases p4 with rfl|p4
   ·exact .inl ⟨id,b,hb,rfl⟩
   ·exact .inr p4) E (by simpa[qz]using hsz) X (by rw[htl,p6];exact zK _ p1) p5 rfl
  (fun i' j c' q a T=>by
   obtain⟨b1,b2',b3⟩:=zcP X a T;rw[htl]at b2' b3;have EE:=p8 (i'*s+j) b3;show∃u,l[i'*s+j]?=some u/\_;rw[EE];have N:∀u,jl w S G Z b.arr q u->jl w S G Z true q u:=fun u hu=>by rw[k2]at hu;exact hu
   have zgm:∀u,jl w S G Z b2.arr q u->jl w S G Z true q u:=fun u hu=>by rw[k3]at hu;exact hu
   rcases Nat.lt_trichotomy i' m with hlt|heq|hgt
   ·rw[zY (by rw[yF,k7];omega),qu,zd hlt]at a;obtain⟨u,p,H⟩:=q3 i' j c' q a T;have Q:i'*s+j<m*s:=kR hlt b1;refine⟨u,?_,N u H⟩;rw[qM,zY (by rw[o];exact Q),qu,zd Q];simpa using p
   ·subst heq;rw[zS (by rw[yF,k7];omega)]at a;rw[yF,k7,Nat.min_eq_left (by omega),Nat.sub_self]at a;simp only[List.getElem?_cons_zero,z6]at a;subst a;obtain⟨u,p,H⟩:=r3 0 j c q (by rw[hc];rfl) T;rw[zaF,ym]at p;refine⟨u,?_,zgm u H⟩;rw[qM,zS (by rw[o];omega),o,Nat.add_sub_cancel_left,zY (by rw[hvl];exact b1),qu,zd b1];simpa using p
   ·obtain⟨d,rfl⟩:∃d,i'=d+1:=⟨i'-1,by omega⟩;rw[zS (by rw[yF,k7];omega)]at a;rw[yF,k7,Nat.min_eq_left (by omega),show d+1-m=(d-m)+1 by omega,List.getElem?_cons_succ,qN,show m+(d-m)=d by omega]at a;obtain⟨u,p,H⟩:=q3 d j c' q a T;have hdn:d<n:=by omega
    have W:=kR (s:=s) hdn b1;have hmd:m*s<=d*s:=zK _ (by omega);refine⟨u,?_,N u H⟩;rw[zS (by rw[zL,o,hvl,qI,zgh];omega),zL,o,hvl,qN,
     show m*s+((d+1)*s+j-(m*s+s))=d*s+j by rw[qI,zgh];omega,qu,zd W]
    simpa using p)
 refine⟨_,_,_,rfl,k,?_⟩;have:=qf.own (w:=w') (S:=S) (G:=qv G Z ⟨g',l.size,s⟩) (Z:=Z+1) (id:=Z) (off:=0) (n:=n+1) (cap:=L) (by omega) p1 p2 (by rw[wQ];show(0+L)*s=l.size;rw[p6,ym]) (by rw[wQ];exact E);rw[wQ]at this;simpa using this
noncomputable def UD (C:Ctx) (fn:Func) (e s by_:Nat):AM.Spec:=fun args Y Z=>match gP e s by_ args Y Z with
 |some r=>some r
 |none=>yr C fn args Y Z
theorem Gn{C:Ctx}{fn:Func}{f e s by_:Nat}(a:kq dr P f (gP e s by_))(d:kq dr P f (yr C fn)):kq dr P f (UD C fn e s by_):=by
 refine⟨a.1,fun args Y Z r b c h=>?_⟩;unfold UD at h;split at h
 ·rename_i q g;injection h with h
  subst h;exact a.2 args Y Z r b c g
 ·exact d.2 args Y Z r b c h
end
end Go.AM
namespace Go.AM
open Go.RowKit Go.Proofs Go.Lib
variable{dr:Prop}
variable{P:Program}
theorem Wn(w:World)(r s ty b:TypeId)(k m g o d f:Nat)(a:Addr)(e h:Nat)(c:Array Value)(t:TypeId)(cs:List Value)
  (u:P.underlying r=some (.slice b)) (hs:qz P b=some k)
  (x:w.heap[g]?=some (.cells c t (0,0))) (y:Nat.min e d=m) (z:cs.length=m*k)
  (l:∀j v,cs[j]?=some v->w.cell? (a.add j)=some v) (n:o+cs.length<=c.size) (A:∀v∈cs,v.oneCell'=true) :
  (Builtin.copy_ #[r,s] ty #[.slice (some ⟨g,o,none⟩) d f,.slice (some a) e h]).run P w =
   .ok (goInt m) (w.setRow g (c.toList.take o++cs++c.toList.drop (o+cs.length)).toArray):=by
 have B:=run_loadCells_list (P:=P) w a cs l;have p:=run_storeCells_at P g o t cs 0 c w x (by simpa using n) A;unfold qz at hs;cases q:P.info? b with
 |none=>simp[q]at hs
 |some i=>
  have hi:i.size=k:=by simpa[q]using hs
  simp[Builtin.copy_,zA u,Builtin.lenOf,Builtin.firstCells,sizeOf,typeInfo,q,hi,y,<-z,B,p]
theorem Xk{w:World}{g e:Nat}{a:Array Value}(h:w.heap[g]?=some (.cells a e (0,0)))(j:Nat):w.cell? ⟨g,j,none⟩=a[j]?:=by simp[World.cell?,h]
theorem CY{w:World}{g e:Nat}{a:Array Value}(h:w.heap[g]?=some (.cells a e (0,0)))(j:Nat):w.frozen? ⟨g,j,none⟩=false:=by simp[World.frozen?,h]
theorem sI{w:World}{g e:Nat}{a:Array Value}(h:w.heap[g]?=some (.cells a e (0,0))):w.shape? g=some (e,a.size):=by simp[World.shape?,h]
theorem YO{w:World}{g k:Nat}(cs:Array Value)(h:k≠g):(w.setRow g cs).heap[k]?=w.heap[k]?:=by
 have:¬g=k:=fun e=>h e.symm
 simp[World.setRow,vR,this]
theorem sJ(w:World)(g:Nat)(cs:Array Value):Fr dr w (fun b=>b=g) (w.setRow g cs):=
 ⟨rfl,rfl,rfl,by simp[World.setRow],fun _=>zf _,fun k _ a=>YO cs a⟩
def jo(l:List Value)(o:Nat)(cs:List Value):List Value:=l.take o++cs++l.drop (o+cs.length)
theorem vw{l cs:List Value}{o:Nat}(h:o+cs.length<=l.length):(jo l o cs).length=l.length:=by unfold jo;simp;omega
theorem Md{l vs:List Value}{n i s:Nat}(hi:i<=n)(c:(n+1)*s<=l.length)(d:vs.length=s)(j:Nat)(e:j<(n+1)*s) :
  (jo (jo l ((i+1)*s) ((l.take (n*s)).drop (i*s))) (i*s) vs)[j]?=(l.take (i*s)++vs++(l.take (n*s)).drop (i*s))[j]?:=by
 have f:(i+1)*s=i*s+s:=by rw[qI,zgh]
 have g:(n+1)*s=n*s+s:=by rw[qI,zgh]
 have t:i*s<=n*s:=zK _ hi;rw[g]at c e;rw[f];generalize n*s=N at *;generalize i*s=I at *;subst d;have h:((l.take N).drop I).length=N-I:=by simp;omega
 have b:I+vs.length+((l.take N).drop I).length<=l.length:=by rw[h];omega
 have a:(jo l (I+vs.length) ((l.take N).drop I)).length=l.length:=vw b;have k:=vo (jo l (I+vs.length) ((l.take N).drop I)) vs I j (by rw[a];omega);have m:=vo l ((l.take N).drop I) (I+vs.length) j b;have o:(jo (jo l (I+vs.length) ((l.take N).drop I)) I vs)[j]?=if I<=j/\j<I+vs.length then vs[j-I]? else(jo l (I+vs.length) ((l.take N).drop I))[j]?:=k
 have p:(jo l (I+vs.length) ((l.take N).drop I))[j]?=if I+vs.length<=j/\j<I+vs.length+((l.take N).drop I).length then((l.take N).drop I)[j-(I+vs.length)]? else l[j]?:=m
 have q:(l.take I).length=I:=by simp;omega
 rw[o,p,qM];by_cases r:j<I
 ·rw[zc (by omega),zc (by omega),zY (by omega),qu,zd r]
 ·rw[zS (by omega),q];by_cases u:j<I+vs.length
  ·rw[zd (by omega),zY (by omega)]
  ·rw[zc (by omega),zd (by omega),zS (by omega)];congr 1;omega
theorem PM{R olds vs cs:List Value}{I:Nat}(b:olds.length=I)(c:∀j,j<I->R[j]?=olds[j]?)(i:I+vs.length+cs.length<=R.length)(j:Nat)(k:j<I+vs.length+cs.length) :
  (jo (jo R I vs) (I+vs.length) cs)[j]?=(olds++vs++cs)[j]?:=by
 have a:(jo R I vs).length=R.length:=vw (by omega);have d:=vo (jo R I vs) cs (I+vs.length) j (by rw[a];omega);have e:=vo R vs I j (by omega);have f:(jo (jo R I vs) (I+vs.length) cs)[j]?=if I+vs.length<=j/\j<I+vs.length+cs.length then cs[j-(I+vs.length)]? else(jo R I vs)[j]?:=d
 have g:(jo R I vs)[j]?=if I<=j/\j<I+vs.length then vs[j-I]? else R[j]?:=e
 rw[f,g,qM];by_cases h:j<I
 ·rw[zc (by omega),zc (by omega),zY (by omega),c j h]
 ·rw[zS (by omega),b];by_cases l:j<I+vs.length
  ·rw[zc (by omega),zd (by omega),zY (by omega)]
  ·rw[zd (by omega),zS (by omega)];congr 1;omega
theorem PN{e s by_:Nat}{z:zb}(hs:qz P e=some s)(b:js P e=some by_)(d:yL P e=some z)(f:z.length=s):∃i v,P.info? e=some i/\i.zero=some v/\i.size=s/\i.bytes=by_/\v.cells.size=s:=by
 obtain⟨i,v,hi,g,h⟩:=Qk d;obtain⟨i',a,c⟩:=Yh hs;rw[hi]at a;injection a with a;subst a;refine⟨i,v,hi,g,c,?_,?_⟩
 ·unfold js at b;rw[hi]at b;simpa using b
 ·have:=(jg (w:=default) (S:=fun _=>False) h).1;rw[f]at this;simpa using this.symm
theorem u7{w:World}(o:Obj):(w.alloc o).heap[w.heap.size]?=some o:=by show(w.heap.push o)[w.heap.size]?=some o;simp
theorem fE{w:World}(o:Obj){k:Nat}(h:k<w.heap.size):(w.alloc o).heap[k]?=w.heap[k]?:=by
 have:¬k=w.heap.size:=by omega
 show(w.heap.push o)[k]?=_;simp[Array.getElem?_push,this]
theorem setRow_size{w:World}{g:Nat}(cs:Array Value):(w.setRow g cs).heap.size=w.heap.size:=by simp[World.setRow]
theorem Gp{w:World}(o:Obj):(w.alloc o).heap.size=w.heap.size+1:=by show(w.heap.push o).size=_;simp
end Go.AM
namespace Go.Q
open Go.RowKit Go.Lib Go.AM
attribute [local go_sem] Oper.semAt_some
theorem Gq(w:World)(g vb n i cap vc:Nat)(cur vcur:Array Value)(tv:TypeId)(hi:i<n)(hroom:n+1<=cap)(hc63:cap<=9223372036854775807)(hne:g≠vb)(hv1:1<=vc)
  (hg:w.heap[g]?=some (.cells cur 179 (0,0))) (hcs:cur.size=cap*5) (hv:w.heap[vb]?=some (.cells vcur tv (0,0))) (hvs:vcur.size=vc*5)
  (h1c:∀j v,j<n*5->cur[j]?=some v->v.oneCell'=true) (h1v:∀j v,j<5->vcur[j]?=some v->v.oneCell'=true) :
  Calls prog 263 #[.slice (some ⟨g,0,none⟩) n cap,.int .i64 i,.slice (some ⟨vb,0,none⟩) 1 vc] w fun e w'=>
   e=.returned (.slice (some ⟨g,0,none⟩) (n+1) cap)/\w'.heap[g]?=some (.cells (jo (jo cur.toList ((i+1)*5) ((cur.toList.take (n*5)).drop (i*5))) (i*5) (vcur.toList.take 5)).toArray 179 (0,0))/\Fr True w (fun b=>b=g) w':=by
 have t3:=underlying3;have a3:=isAgg3;have z3:=sizeOf3;have v3:=zeroValue3;have t4:=underlying4;have a4:=isAgg4;have z4:=sizeOf4;have v4:=zeroValue4;have t24:=underlying219;have a24:=isAgg219;have z24:=sizeOf219;have v24:=zeroValue219;have t9:=underlying179;have a9:=isAgg179;have z9:=sizeOf179;have u3:=zA t3;have u4:=zA t4;have u24:=zA t24;have hz2:¬((i:Int)=(n:Int)):=by omega
 have hov:∀o lb cb,(callFunc 286 #[.slice (some ⟨vb,0,none⟩) 1 vc,.slice (some ⟨g,o,none⟩) lb cb]).run prog w=.ok (.value (.bool false)) w:=fun o lb cb=>by
  rw[run_callFunc_extern func286 (by kernel_rfl) (by kernel_rfl) (by kernel_rfl) (e:=Extern.SlicesOverlaps.overlaps #[219,219] #[4]) (by kernel_rfl),
   Lib.run_overlaps_apart w 219 4 179 t24 5 z9 ⟨vb,0,none⟩ ⟨g,o,none⟩ 1 vc lb cb (fun e=>hne e.symm) _ _ _ _ (sI hv) (sI hg) (by rw[hcs];omega) (CY hv 0) (CY hv _)]
  rfl
 have mixed:prog.follows .mixedOrders=true:=by kernel_rfl
 have hw1:i6.wrap ((i:Int)+1)=(i:Int)+1:=by rw[AP];omega
 have hw2:i6.wrap ((n:Int)+1)=(n:Int)+1:=by rw[AP];omega
 have hb1:(0:Int)<=(i:Int)+1:=by omega
 have hb5:(0:Int)<=(n:Int)+1:=by omega
 have hin:i<=n:=by omega
 have htn:((i:Int)+1).toNat=i+1:=by omega
 have htn2:((n:Int)+1).toNat=n+1:=by omega
 have hb2:¬(cap=i+1):=by omega
 have hb3:(i:Int)<=(n:Int)+1:=by omega
 have hb4:¬(cap=i):=by omega
 have hb6:¬((cap:Int)<(n:Int)+1):=by omega
 have hs5:qz prog 179=some 5:=cy;obtain⟨cs,hcsd⟩:=jc ((cur.toList.take (n*5)).drop (i*5));obtain⟨vs,hvsd⟩:=jc (vcur.toList.take 5);have hcl:cs.length=(n-i)*5:=by rw[<-hcsd];simp;omega
 have hvl:vs.length=1*5:=by rw[<-hvsd];simp;omega
 have hcget:∀j v,cs[j]?=some v->cur[i*5+j]?=some v/\i*5+j<n*5:=fun j v hj=>by
  rw[<-hcsd,qN,qu]at hj;split at hj
  ·exact⟨by simpa using hj,by assumption⟩
  ·cases hj
 have hvget:∀j v,vs[j]?=some v->vcur[j]?=some v/\j<5:=fun j v hj=>by
  rw[<-hvsd,qu]at hj;split at hj
  ·exact⟨by simpa using hj,by assumption⟩
  ·cases hj
 have hc1:∀v∈cs,v.oneCell'=true:=fun v hv=>by obtain⟨j,hj⟩:=zdg.1 hv;obtain⟨a,b⟩:=hcget j v hj;exact h1c _ v b a
 have hv1':∀v∈vs,v.oneCell'=true:=fun v hv=>by obtain⟨j,hj⟩:=zdg.1 hv;obtain⟨a,b⟩:=hvget j v hj;exact h1v _ v b a
 obtain⟨row1,hrow1⟩:=jc (jo cur.toList ((i+1)*5) cs);have hr1l:row1.length=cap*5:=by rw[<-hrow1,vw (by rw[hcl,wC,hcs];omega),wC,hcs]
 have hcp1:∀ty dc sc,(Builtin.copy_ #[219,219] ty #[.slice (some ⟨g,(i+1)*5,none⟩) (n-i) dc,.slice (some ⟨g,i*5,none⟩) (n+1-i) sc]).run prog w.drew=.ok (goInt ((n-i:Nat):Int)) (w.drew.setRow g row1.toArray):=fun ty dc sc=>by
  rw[<-hrow1];exact Wn w.drew _ _ ty 179 5 (n-i) g ((i+1)*5) (n-i) dc ⟨g,i*5,none⟩ (n+1-i) sc cur 179 cs t24 hs5 hg (by simp only[Nat.min_def];split<;>omega) hcl
   (fun j v hj=>by rw[ka];exact(Xk hg _).trans (hcget j v hj).1) (by rw[hcl,hcs];omega) hc1
 have hcp2:∀(W:World),W.heap[g]?=some (.cells row1.toArray 179 (0,0))->W.heap[vb]?=some (.cells vcur tv (0,0))->∀ty dc,(Builtin.copy_ #[219,219] ty #[.slice (some ⟨g,i*5,none⟩) (n+1-i) dc,.slice (some ⟨vb,0,none⟩) 1 vc]).run prog W=.ok (goInt ((1:Nat):Int)) (W.setRow g (jo row1 (i*5) vs).toArray):=fun W hWg hWv ty dc=>by
  have:=Wn W 219 219 ty 179 5 1 g (i*5) (n+1-i) dc ⟨vb,0,none⟩ 1 vc row1.toArray 179 vs t24 hs5 hWg (by simp only[Nat.min_def];split<;>omega) hvl
   (fun j v hj=>by rw[ka,ym];exact(Xk hWv _).trans (hvget j v hj).1) (by rw[hvl,jv,hr1l];omega) hv1'
  exact this
 have hWg:(w.drew.setRow g row1.toArray).heap[g]?=some (.cells row1.toArray 179 (0,0)):=setRow_heap _ _ _ _ _ _ hg;have hWv:(w.drew.setRow g row1.toArray).heap[vb]?=some (.cells vcur tv (0,0)):=(YO _ (fun e=>hne e.symm)).trans hv;have hfin:∀W,W=(w.drew.setRow g row1.toArray).setRow g (jo row1 (i*5) vs).toArray->W.heap[g]?=some (.cells (jo row1 (i*5) vs).toArray 179 (0,0))/\Fr True w (fun b=>b=g) W:=fun W e=>by subst e;refine⟨setRow_heap _ _ _ _ _ _ hWg,?_⟩;exact((Fr.drew w (fun b=>b=g)).trans (sJ w.drew g _) fun _ _ h=>h).trans (sJ _ g _) fun _ _ h=>h
 rw[hcsd,hvsd,hrow1];clear hcsd hvsd hcl hvl hcget hvget hc1 hv1' hrow1 hr1l
 go_enter func263,Tryz.ntmps263
 go_wp2_with (simp only[hov])
 go_region_law_o (refine step_copy_runI rfl _ _ 219 219 rfl _ _ (by simp[Act.eval,Act.put]) (by simp[Act.eval,Act.put]) (hcp1 _ _ _) ?_)
 go_wp2_with (at_builtin;refine wpList_copy_runI _ rfl _ _ 219 219 rfl _ _ rfl rfl (hcp2 _ hWg hWv _ _) ?_)
 go_ret
 exact⟨rfl,hfin _ rfl⟩
theorem Me(w:World)(g vb n i cap vc:Nat)(cur vcur:Array Value)(tv:TypeId)(hi:i<n)(hnc:n<=cap)(hroom:cap<n+1)(hbig:(n+1)*56<=140737488355328)(hv1:1<=vc)
  (hg:w.heap[g]?=some (.cells cur 179 (0,0))) (hcs:cur.size=cap*5) (hv:w.heap[vb]?=some (.cells vcur tv (0,0))) (hvs:vcur.size=vc*5)
  (h1c:∀j v,j<n*5->cur[j]?=some v->v.oneCell'=true) (h1v:∀j v,j<5->vcur[j]?=some v->v.oneCell'=true) :
  Calls prog 263 #[.slice (some ⟨g,0,none⟩) n cap,.int .i64 i,.slice (some ⟨vb,0,none⟩) 1 vc] w fun e w'=>
   ∃(G:Nat) (R:List Value),n+1<=G/\G<=maxLen/\R.length=G*5/\(∀j,j<i*5->R[j]?=(cur.toList.take (i*5))[j]?)/\e=.returned (.slice (some ⟨w.heap.size,0,none⟩) (n+1) G) /\
    w'.heap[w.heap.size]?=some (.cells (jo (jo R (i*5) (vcur.toList.take 5)) ((i+1)*5) ((cur.toList.take (n*5)).drop (i*5))).toArray 179 (0,0))/\Fr True w (fun b=>b=w.heap.size) w':=by
 have t3:=underlying3;have a3:=isAgg3;have z3:=sizeOf3;have v3:=zeroValue3;have t4:=underlying4;have a4:=isAgg4;have z4:=sizeOf4;have v4:=zeroValue4;have t24:=underlying219;have a24:=isAgg219;have z24:=sizeOf219;have v24:=zeroValue219;have t9:=underlying179;have a9:=isAgg179;have z9:=sizeOf179;have u3:=zA t3;have u4:=zA t4;have u24:=zA t24;obtain⟨i0,z0,hi0,hz0,his,hib,hzc⟩:=PN (P:=prog) cy rN rO rfl;have hz2:¬((i:Int)=(n:Int)):=by omega
 have hz3:(cap:Int)<(n:Int)+1:=by omega
 have mixed:prog.follows .mixedOrders=true:=by kernel_rfl
 have hw1:i6.wrap ((i:Int)+1)=(i:Int)+1:=by rw[AP];omega
 have hw2:i6.wrap ((n:Int)+1)=(n:Int)+1:=by rw[AP];omega
 have hw3:i6.wrap ((n:Int)+1-i)=(n:Int)+1-i:=by rw[AP];omega
 have hb1:(0:Int)<=(i:Int)+1:=by omega
 have hin:i<=n:=by omega
 have htn:((i:Int)+1).toNat=i+1:=by omega
 have hkk:(n:Int)+1-(i:Int)=((n+1-i:Nat):Int):=by omega
 have hik:i+(n+1-i)=n+1:=by omega
 have hb3:(i:Int)<=(n:Int):=by omega
 have hbw:g<w.heap.size:=(qg.1 hg).1;have hvw:vb<w.heap.size:=(qg.1 hv).1;have hs5:qz prog 179=some 5:=cy;obtain⟨olds,hod⟩:=jc (cur.toList.take (i*5));obtain⟨cs,hcsd⟩:=jc ((cur.toList.take (n*5)).drop (i*5));obtain⟨vs,hvsd⟩:=jc (vcur.toList.take 5);have hol:olds.length=i*5:=by rw[<-hod];simp;omega
 have hcl:cs.length=(n-i)*5:=by rw[<-hcsd];simp;omega
 have hvl:vs.length=1*5:=by rw[<-hvsd];simp;omega
 have hoget:∀j v,olds[j]?=some v->cur[j]?=some v:=fun j v hj=>by
  rw[<-hod,qu]at hj;split at hj
  ·simpa using hj
  ·cases hj
 have hcget:∀j v,cs[j]?=some v->cur[i*5+j]?=some v/\i*5+j<n*5:=fun j v hj=>by
  rw[<-hcsd,qN,qu]at hj;split at hj
  ·exact⟨by simpa using hj,by assumption⟩
  ·cases hj
 have hvget:∀j v,vs[j]?=some v->vcur[j]?=some v/\j<5:=fun j v hj=>by
  rw[<-hvsd,qu]at hj;split at hj
  ·exact⟨by simpa using hj,by assumption⟩
  ·cases hj
 have hc1:∀v∈cs,v.oneCell'=true:=fun v hv=>by obtain⟨j,hj⟩:=zdg.1 hv;obtain⟨a,b⟩:=hcget j v hj;exact h1c _ v b a
 have hv1':∀v∈vs,v.oneCell'=true:=fun v hv=>by obtain⟨j,hj⟩:=zdg.1 hv;obtain⟨a,b⟩:=hvget j v hj;exact h1v _ v b a
 have hold:(Builtin.firstCells i0.size i (.slice (some ⟨g,0,none⟩) i cap)).run prog w.drew=.ok olds.toArray w.drew:=by
  rw[his];exact run_firstCells_some w.drew 5 i ⟨g,0,none⟩ i cap olds hol (fun j v hj=>by rw[ka,ym];exact(Xk hg j).trans (hoget j v hj))
 obtain⟨G,hG⟩:=jc (grownCap w (n+1) cap 179);obtain⟨ROW,hROW⟩:=jc (olds.toArray++Builtin.zeroCells z0.cells (n+1-i)++Builtin.zeroCells z0.cells (G-(n+1)));have hGn:n+1<=G:=by rw[<-hG];exact grownCap_ge w _ _ _
 have hGm:G<=maxLen:=by rw[<-hG];exact grownCap_le_maxLen w (n+1) cap 179 (by unfold maxLen;omega)
 have hrz:∀ty,(Builtin.append_ #[219,3] ty #[.slice (some ⟨g,0,none⟩) i cap,.int .i64 ((n:Int)+1-(i:Int))]).run prog w =
   .ok (.slice (some ⟨w.heap.size,0,none⟩) (n+1) G) (w.drew.alloc (.cells ROW 179)):=fun ty=>by
  have h:=Lib.run_append_grow_zeros w 219 3 ty 179 i0 z0 .i64 .i64 t24 t3 hi0 hz0 (some ⟨g,0,none⟩) i cap olds hold (n+1-i) (by omega) (by omega) (by omega) (by omega) (by rw[hib];omega) (by rw[hib,hik];exact growslice_fits hroom hbig);rw[hik,hG,hROW]at h;rw[hkk];exact h
 have hRl:ROW.size=G*5:=by rw[<-hROW,QF,QF,Sj,Sj,hzc,jv,hol];omega
 have hRo:∀j,j<i*5->ROW.toList[j]?=olds[j]?:=fun j hj=>by rw[<-hROW,Array.toList_append,Array.toList_append,qM];exact zY (show j<olds.length by omega)
 obtain⟨N,hN⟩:=jc w.heap.size;obtain⟨W1,hW1⟩:=jc (w.drew.alloc (.cells ROW 179));have hW1N:W1.heap[N]?=some (.cells ROW 179 (0,0)):=by rw[<-hW1,<-hN];exact u7 (w:=w.drew) _
 have hW1g:W1.heap[g]?=some (.cells cur 179 (0,0)):=by rw[<-hW1];exact(fE (w:=w.drew) _ hbw).trans hg
 have hW1v:W1.heap[vb]?=some (.cells vcur tv (0,0)):=by rw[<-hW1];exact(fE (w:=w.drew) _ hvw).trans hv
 obtain⟨row1,hrow1⟩:=jc (jo ROW.toList (i*5) vs);have hr1l:row1.length=G*5:=by rw[<-hrow1,vw (by rw[hvl,wC,hRl];omega),wC,hRl]
 have hcpA:∀(W:World),W.heap[N]?=some (.cells ROW 179 (0,0))->W.heap[vb]?=some (.cells vcur tv (0,0))->∀ty dc,(Builtin.copy_ #[219,219] ty #[.slice (some ⟨N,i*5,none⟩) (n+1-i) dc,.slice (some ⟨vb,0,none⟩) 1 vc]).run prog W=.ok (goInt ((1:Nat):Int)) (W.setRow N row1.toArray):=fun W hWg hWv ty dc=>by
  rw[<-hrow1];have:=Wn W 219 219 ty 179 5 1 N (i*5) (n+1-i) dc ⟨vb,0,none⟩ 1 vc ROW 179 vs t24 hs5 hWg (by simp only[Nat.min_def];split<;>omega) hvl
   (fun j v hj=>by rw[ka,ym];exact(Xk hWv _).trans (hvget j v hj).1) (by rw[hvl,hRl];omega) hv1'
  exact this
 have hcpB:∀(W:World),W.heap[N]?=some (.cells row1.toArray 179 (0,0))->W.heap[g]?=some (.cells cur 179 (0,0))->∀ty dc sc,(Builtin.copy_ #[219,219] ty #[.slice (some ⟨N,(i+1)*5,none⟩) (n-i) dc,.slice (some ⟨g,i*5,none⟩) (n-i) sc]).run prog W=.ok (goInt ((n-i:Nat):Int)) (W.setRow N (jo row1 ((i+1)*5) cs).toArray):=fun W hWg hWv ty dc sc=>by
  have:=Wn W 219 219 ty 179 5 (n-i) N ((i+1)*5) (n-i) dc ⟨g,i*5,none⟩ (n-i) sc row1.toArray 179 cs t24 hs5 hWg (by simp only[Nat.min_def];split<;>omega) hcl
   (fun j v hj=>by rw[ka];exact(Xk hWv _).trans (hcget j v hj).1) (by rw[hcl,jv,hr1l];omega) hc1
  exact this
 have hgN:g≠N:=by omega
 have hvN:vb≠N:=by omega
 have hW2N:(W1.setRow N row1.toArray).heap[N]?=some (.cells row1.toArray 179 (0,0)):=setRow_heap _ _ _ _ _ _ hW1N;have hW2g:(W1.setRow N row1.toArray).heap[g]?=some (.cells cur 179 (0,0)):=(YO _ hgN).trans hW1g;have hfin:∀W:World,W.heap=((W1.setRow N row1.toArray).setRow N (jo row1 ((i+1)*5) cs).toArray).heap->W.os=w.os->W.tape=w.tape->W.output=w.output->w.drawn<=W.drawn->W.heap[N]?=some (.cells (jo row1 ((i+1)*5) cs).toArray 179 (0,0))/\Fr True w (fun b=>b=N) W:=fun W e1 e2 e3 e4 e5=>by
  refine⟨by rw[e1];exact setRow_heap _ _ _ _ _ _ hW2N,e2,e3,e4,?_,fun _=>e5,fun k hk hn=>?_⟩
  ·rw[e1,<-hW1,setRow_size,setRow_size,Gp];exact Zp _
  ·rw[e1,YO _ hn,YO _ hn,<-hW1];exact fE (w:=w.drew) _ hk
 have hm1:G<=9223372036854775807:=by unfold maxLen at hGm;omega
 have hGi:¬(G=i):=by omega
 have hGim:¬(G=i+1):=by omega
 have hci:¬(cap=i):=by omega
 rw[hN,hcsd,hvsd,hod];rw[hN,hW1]at hrz;clear hcsd hvsd hod hcl hvl hol hcget hvget hoget hc1 hv1' hold hG hROW hkk hik hi0 hz0 his hib hzc hr1l
 go_enter func263,Tryz.ntmps263
 go_wp2_with (first
  |(at_builtin;refine Lib.wpList_append_run _ rfl _ _ _ _ rfl _ _ rfl rfl _ _ (hrz _) ?_)
  |(at_builtin;refine wpList_copy_runI _ rfl _ _ 219 219 rfl _ _ rfl rfl (hcpA _ hW1N hW1v _ _) ?_)
  |(at_builtin;refine wpList_copy_runI _ rfl _ _ 219 219 rfl _ _ rfl rfl (hcpB _ hW2N hW2g _ _ _) ?_))
 go_region_law_o (refine step_copy_runI rfl _ _ 219 219 rfl (.slice (some ⟨N,(i+1)*5,none⟩) (n-i) (G-(i+1))) (.slice (some ⟨g,i*5,none⟩) (n-i) (cap-i)) (by simp[Act.eval,Act.put]) (by simp[Act.eval,Act.put]) (hcpB (W1.setRow N row1.toArray).drew hW2N hW2g 3 (G-(i+1)) (cap-i)) ?_)
 go_wp2
 go_ret
 subst hW1;subst hrow1;refine⟨G,ROW.toList,hGn,hGm,by simpa using hRl,hRo,rfl,?_⟩;refine hfin _ ?_ ?_ ?_ ?_ ?_
 ·rfl
 ·rfl
 ·rfl
 ·rfl
 ·first|exact Zp _|exact zw (Zp _) (Zp _)
theorem UE:zbg prog 263 179 5 56:=by
 intro w g A n i cap B c a C hi u k J m v o K D d E p q r;have b:(a.toList.take 5).length=5:=by simp;omega
 have f:((c.toList.take (n*5)).drop (i*5)).length=(n-i)*5:=by simp;omega
 unfold maxLen at k;by_cases h:n+1<=cap
 ·refine(Gq w g A n i cap B c a C hi h k v o D d E p q r).mono fun e w' x=>?_
  obtain⟨rfl,t,y⟩:=x;refine⟨g,cap,_,h,by unfold maxLen;exact k,rfl,.inl rfl,t,?_,y,fun j F=>?_⟩
  ·rw[jv,vw (by rw[vw (by rw[f,wC,d];omega),b,wC,d];omega),vw (by rw[f,wC,d];omega),wC,d]
  ·have:=Md (l:=c.toList) (vs:=a.toList.take 5) (n:=n) (i:=i) (s:=5) (by omega) (by rw[wC,d];omega) b j F;simpa using this
 ·refine(Me w g A n i cap B c a C hi u (by omega) m o D d E p q r).mono fun e w' x=>?_
  obtain⟨G,R,L,M,H,N,rfl,t,y⟩:=x;have z:(c.toList.take (i*5)).length=i*5:=by simp;omega
  have P:(i+1)*5=i*5+(a.toList.take 5).length:=by rw[b];omega
  rw[P]at t;refine⟨w.heap.size,G,_,L,M,rfl,.inr (zf _),t,?_,y,fun j F=>?_⟩
  ·rw[jv,vw (by rw[vw (by rw[b];omega),f,b];omega),vw (by rw[b];omega),H]
  ·have:=PM (R:=R) (olds:=c.toList.take (i*5)) (vs:=a.toList.take 5) (cs:=(c.toList.take (n*5)).drop (i*5)) (I:=i*5) z N (by rw[b,f,H];omega) j (by rw[b,f];omega);simpa using this
end Go.Q
namespace Go.Q
noncomputable def Z3 (c:Cut):List Cut->List Cut
 |[]=>[c]
 |a::l=>if wb a c<0 then a::Z3 c l else if wb a c=0 then a::l else c::a::l
theorem u9(c:Cut):∀(l:List Cut) (i:Nat),i<=l.length->(∀j (h:j<l.length),j<i->wb l[j] c<0)->(∀h:i<l.length,¬wb l[i] c<0)->((∃h:i<l.length,wb l[i] c=0)->Z3 c l=l)/\((∀h:i<l.length,wb l[i] c≠0)->Z3 c l=l.take i++c::l.drop i)
 |[],i,hi,_,_=>by
  obtain rfl:i=0:=by simpa using hi
  exact⟨fun⟨h,_⟩=>absurd h (by simp),fun _=>rfl⟩
 |a::l,0,_,_,b=>by
  have h:=b (by simp);simp only[dV]at h;refine⟨fun⟨_,e⟩=>?_,fun d=>?_⟩
  ·simp only[dV]at e;simp only[Z3];rw[zc h,zd e]
  ·have:=d (by simp);simp only[dV]at this;simp only[Z3];rw[zc h,zc this];rfl
 |a::l,i+1,hi,f,b=>by
  have g:=f 0 (by simp) (by omega);simp only[dV]at g;obtain⟨k,m⟩:=u9 c l i (by simpa using hi) (fun j n o=>f (j+1) (by simpa using n) (by omega)) (fun h=>b (by simpa using h));simp only[Z3];rw[zd g];refine⟨fun⟨h,e⟩=>?_,fun d=>?_⟩
  ·rw[k ⟨by simpa using h,e⟩]
  ·rw[m fun h=>d (by simpa using h)];rfl
theorem nU{c:Cut}:∀{l:List Cut},(∀a∈l,wb a c=0->a=c)->∀x,x∈Z3 c l↔x=c\/x∈l
 |[],_,x=>by simp[Z3]
 |a::l,h,x=>by
  simp only[Z3];split
  ·rw[zv,nU (fun b d=>h b (by simp[d])) x,zv];constructor
   ·rintro (h|h|h)
    ·exact .inr (.inl h)
    ·exact .inl h
    ·exact .inr (.inr h)
   ·rintro (h|h|h)
    ·exact .inr (.inl h)
    ·exact .inl h
    ·exact .inr (.inr h)
  ·split
   ·rename_i e;have:=h a (by simp) e;subst this;simp
   ·simp
theorem gQ{c:Cut}:∀{l:List Cut},(l.Pairwise fun a b=>wb a b<0)->(∀a∈l,wb a c=0->a=c)->(Z3 c l).Pairwise fun a b=>wb a b<0
 |[],_,_=>by simp[Z3]
 |a::l,h,j=>by
  obtain⟨k,m⟩:=wV.1 h;simp only[Z3];split
  ·rename_i d;refine wV.2 ⟨fun x e=>?_,gQ m fun b g=>j b (by simp[g])⟩;rcases(nU (fun b g=>j b (by simp[g])) x).1 e with rfl|e
   ·exact d
   ·exact k x e
  ·rename_i d;split
   ·exact h
   ·rename_i i;have f:wb c a<0:=by
     have:=wj.zbM d;rcases ZM this with h|h
     ·exact h
     ·exact absurd ((wj.eq a c).2 h) i
    refine wV.2 ⟨fun x e=>?_,h⟩;rcases zv.1 e with rfl|e
    ·exact f
    ·exact wj.trans f (k x e)
noncomputable def kK (l:List Cut):List Cut:=l.foldl (fun o c=>Z3 c o) []
theorem gR:∀(l o:List Cut),(∀a∈l,a.vU)->(∀a∈o,a.vU)->(o.Pairwise fun a b=>wb a b<0)->((l.foldl (fun o c=>Z3 c o) o).Pairwise fun a b=>wb a b<0)/\∀x,x∈l.foldl (fun o c=>Z3 c o) o↔x∈l\/x∈o
 |[],o,_,_,e=>⟨e,fun x=>by simp⟩
 |c::l,o,f,g,e=>by
  have i:=f c (by simp);have j:∀a∈o,wb a c=0->a=c:=fun a d h=>lk (g a d) i h
  have k:=nU (l:=o) j;obtain⟨m,n⟩:=gR l (Z3 c o) (fun a d=>f a (by simp[d])) (fun a d=>by
   rcases(k a).1 d with rfl|h
   ·exact i
   ·exact g a h) (gQ e j)
  simp only[xK];refine⟨m,fun x=>?_⟩;rw[n x,k x,zv];constructor
  ·rintro (h|h|h)
   ·exact .inl (.inr h)
   ·exact .inl (.inl h)
   ·exact .inr h
  ·rintro ((h|h)|h)
   ·exact .inr (.inl h)
   ·exact .inl h
   ·exact .inr (.inr h)
theorem bR:∀(l o:List Cut),(l.foldl (fun o c=>Z3 c o) o).length<=o.length+l.length
 |[],o=>by simp
 |c::l,o=>by
  have b:∀o:List Cut,(Z3 c o).length<=o.length+1:=by
   intro o
   induction o with
   |nil=>simp[Z3]
   |cons a o d=>
    simp only[Z3];split
    ·simp only[zO];omega
    ·split<;>simp
  have:=bR l (Z3 c o);have:=b o;simp only[xK,zO];omega
theorem Mf{a b:List qK}(d:yW a)(e:yW b):kK (qW (a++b))=nD a b:=by
 rw[Wk];have f:∀c∈qW a++qW b,c.vU:=fun c g=>by
  rcases zM.1 g with h|h
  ·exact X0 d c h
  ·exact X0 e c h
 obtain⟨i,j⟩:=gR (qW a++qW b) [] f (fun a d=>by cases d) .nil;refine se _ _ i (KP d e) fun c=>?_
 unfold kK;rw[j c,J6,zM];simp
theorem PO(f:Bool->Bool->Bool){a b:List qK}(d:yW a)(e:yW b):kB f a b=(Vo (fun c=>f (yl a c) (yl b c)) (kK (qW (a++b))) (false,[])).2:=by rw[Mf d e];unfold kB nD;rw[mV]
theorem Mg{Y:Hp}{Z e s by_ i:Nat}{v:O}{xs:List zb}{c:zb}(h:qT Y Z e s v xs)(hi:i<xs.length)(d:(xs.length+1)*by_<=140737488355328)(f:xs.length+1<=maxLen) :
  gP e s by_ [v,int i,.own Z 0 1] (qv Y Z (some ⟨e,s,true,[c]⟩)) (Z+1)=some (.own (Z+1) 0 (xs.length+1),qv (Zl v (qv Y Z (some ⟨e,s,true,[c]⟩))) (Z+1) (some ⟨e,s,true,xs.take i++c::xs.drop i⟩),Z+2):=by
 obtain⟨id,hid,rfl,g⟩:=h.at_ (by omega);have n1:id≠Z:=by omega
 have a:qv Y Z (some ⟨e,s,true,[c]⟩) id=some ⟨e,s,true,xs⟩:=by rw[zx _ _ _ _ n1];exact g
 have b:(i:Int)<xs.length:=by omega
 unfold gP;simp only[a,wQ];rw[zd (by refine⟨n1,?_,?_,?_,?_,?_,?_,?_,b,d,f⟩<;>first|trivial|rfl|omega)];simp[Zl]
theorem PQ{Y:Hp}{Z e s by_:Nat}{v:O}{xs:List zb}{b:Option kv}(h:qT Y Z e s v xs):gP e s by_ [v,int (xs.length:Nat),.own Z 0 1] (qv Y Z b) (Z+1)=none:=by
 rcases h with⟨rfl,rfl⟩|⟨id,hid,rfl,c⟩
 ·rfl
 ·unfold gP;simp only;split
  ·split
   ·rw[zc (fun a=>by have:=a.2.2.2.2.2.2.2.2.1;omega)]
   ·rfl
  ·rfl
theorem PR{Y:Hp}{Z:Nat}{v:O}{xs:List zb}{c:zb}(h:qT Y Z 179 5 v xs)(d:xs.length<=8388608) :
  yr C0 f263 [v,int (xs.length:Nat),.own Z 0 1] (qv Y Z (some ⟨179,5,true,[c]⟩)) (Z+1)=some (.own (Z+1) 0 (xs.length+1),qv (Zl v (qv Y Z (some ⟨179,5,true,[c]⟩))) (Z+1) (some ⟨179,5,true,xs++[c]⟩),Z+2):=by
 unfold yr;rw[zd (by simp[f263])];refine y0 rfl ?_;have a:=qT.jd (P:=prog) (t:=219) (c:=c) h gp cy rN rO rfl (by omega) (by unfold maxLen;omega) (by omega);rcases h with⟨rfl,rfl⟩|⟨id,hid,rfl,b⟩
 ·simp at a;simp[jy,a,f263]
 ·have n1:¬id=Z:=by omega
  simp[jy,a,b,n1,f263]
noncomputable abbrev H8:AM.Spec:=UD C0 f263 179 5 56
theorem CZ:zg prog 263 H8:=
 Gn (CX ⟨_,func263,by decide,by kernel_rfl⟩ cy (by decide) UE) (ky jG func263)
theorem Gr{Y:Hp}{Z i:Nat}{v:O}{xs:List zb}{c:zb}(h:qT Y Z 179 5 v xs)(hi:i<=xs.length)(b:xs.length<=8388608) :
  H8 [v,int i,.own Z 0 1] (qv Y Z (some ⟨179,5,true,[c]⟩)) (Z+1)=some (.own (Z+1) 0 (xs.length+1),qv (Zl v (qv Y Z (some ⟨179,5,true,[c]⟩))) (Z+1) (some ⟨179,5,true,xs.take i++c::xs.drop i⟩),Z+2):=by
 unfold H8 UD;by_cases a:i<xs.length
 ·rw[Mg h a (by omega) (by unfold maxLen;omega)]
 ·obtain rfl:i=xs.length:=by omega
  rw[PQ h];simp only;rw[PR h b,wF,zn]
noncomputable def PS (l:List Cut):Option kv:=if kK l=[]then none else some ⟨179,5,true,wc (kK l)⟩
noncomputable abbrev Crsc:Ctx:=zR prog [(233,qn [.g jm,.g jm] (um fun v w=>int (wb v w))),(263,H8)]
theorem UF:AM.Good Crsc (fun g=>[233].contains g):=qw mixed ⟨xf,fun _=>yG _ _,CZ,by simp,trivial⟩
theorem gS{l:List Cut}{k:Nat}(h:k<l.length):kK (l.take (k+1))=Z3 l[k] (kK (l.take k)):=by unfold kK;rw[qq h,List.foldl_append];rfl
theorem C2{c:Cut}:∀{l:List Cut} {x:Cut},x∈Z3 c l->x=c\/x∈l
 |[],x,h=>by simp only[Z3,wM]at h;exact .inl h
 |a::l,x,h=>by
  simp only[Z3]at h;split at h
  ·rcases zv.1 h with rfl|h
   ·exact .inr (by simp)
   ·exact(C2 h).imp id fun h=>by simp[h]
  ·split at h
   ·exact .inr h
   ·rcases zv.1 h with rfl|h
    ·exact .inl rfl
    ·exact .inr h
theorem bS:∀{l o:List Cut} {x:Cut},x∈l.foldl (fun o c=>Z3 c o) o->x∈l\/x∈o
 |[],o,x,h=>.inr h
 |c::l,o,x,h=>by
  rw[xK]at h;rcases bS h with h|h
  ·exact .inl (by simp[h])
  ·rcases C2 h with rfl|h
   ·exact .inl (by simp)
   ·exact .inr h
theorem UG(c:Cut)(l:List Cut):Z3 c l≠[]:=by
 cases l with
 |nil=>simp[Z3]
 |cons a l=>simp only[Z3];split<;>(try split)<;>simp
theorem Mh{l:List Cut}(h:kK l=[]):l.length=0:=by
 cases b:l.length with
 |zero=>rfl
 |succ k=>
  have a:k<l.length:=by omega
  have:=gS a;rw[qx (by omega),h]at this;exact absurd this.symm (UG _ _)
theorem X3(l:List Cut):(wc l).length=l.length:=by simp[wc]
theorem Mi(o:List Cut)(i:Nat)(c:Cut):(wc o).take i++c.V::(wc o).drop i=wc (o.take i++c::o.drop i):=by simp[wc]
theorem Aa(l:List Cut)(hs:∀c∈l,c.v.small)(hl:l.length<=8388608):∃x Y Z,jF Crsc f230 [.sl 5 (wc l)] (fun _=>none) 0=some (x,Y,Z)/\Ch jm (PS l) x Y Z:=by
 refine qE rfl ?_;have N:=X3 l;simp[N];refine zP (fun k U Y Z=>U 7=.sl 5 (wc l)/\U 8=int l.length/\U 9=int k/\qT Y Z 179 5 (U 3) (wc (kK (l.take k)))/\(k=0->U 3=.nil)) l.length
  ⟨by simp,by simp,by simp,.inl ⟨by simp,by simp[kK,wc]⟩,by simp⟩ ?_
 rintro k U Y Z hk ⟨u,w,y,n,h0⟩;have Q:=bR (l.take k) [];have C:kK (l.take k)=(l.take k).foldl (fun o c=>Z3 c o) []:=rfl;rw[<-C,yV,yF]at Q;have D:∀x∈kK (l.take k),x.v.small:=fun x hx=>by
  rw[C]at hx;rcases bS hx with h|h
  ·exact hs x (zgf h)
  ·cases h
 by_cases r:k<l.length
 ·obtain⟨c,hc⟩:=jc (l[k]);have hcs:c.v.small:=hs c (by rw[<-hc];exact zj r);have R:∀h:k<(wc l).length,(wc l)[k]=c.V:=fun h=>by simp[wc,hc]
  have G:=qG k;have H:=gS r;rw[hc]at H;obtain⟨o,ho⟩:=jc (kK (l.take k));rw[ho]at n Q D H;have d:=X3 o;obtain⟨P,hP⟩:=jc Z;obtain⟨v,hv⟩:=jc (U 3);rw[hv]at n;simp only[Cut.V]at R;simp[u,w,y,r,N,R];rw[hP]at n⊢;refine zP (fun i U Y Z=>U 7=.sl 5 (wc l)/\U 8=int l.length/\U 9=int k/\U 3=v/\U 5=.ref P 0 0/\U 6=int i/\P<Z/\Y P=some ⟨179,5,false,[c.V]⟩/\qT Y Z 179 5 v (wc o)/\∀j (h:j<o.length),j<i->wb o[j] c<0) o.length
   ⟨by simp[u],by simp[w],by simp[y],by simp[hv],by simp,by simp,(by show P<P+1;omega),by simp[Cut.V],n.more _,fun j _ h=>absurd h (by omega)⟩ ?_
  clear u w y h0 hv n U Y hP Z;rintro i U Y Z hi ⟨u,w,y,T,W,X,hPn,S,n,s⟩;have hwi:=qG i;have g:=n.len gp;rw[d]at g;simp only[Cut.V]at S;have nP:¬P=Z:=by omega
  have p:=fun(hi:i<=o.length)=>Gr (i:=i) (c:=[int c.v.a,int c.v.b,int c.v.c,.sl 1 (zy c.v.pre),qS c.after]) n (by rw[d];exact hi) (by rw[d];omega)
  rw[d]at p;have E:=Mi o i c;simp only[Cut.V]at E;rw[E]at p;have t:∀o',Z3 c o=o'->kK (l.take (k+1))=o':=fun o' e=>by rw[H,e]
  by_cases hit:i<o.length
  ·obtain⟨id,hid,I,hb⟩:=n.at_ (by rw[d];omega);obtain⟨q,M⟩:=jc (o[i]);have hqs:q.v.small:=D q (by rw[<-M];exact zj hit);have z:∀h:i<(wc o).length,(wc o)[i]=q.V:=fun h=>by simp[wc,M]
   have A:=fun Y Z=>ZD q c Y Z hqs hcs
   simp only[Cut.V]at z A;have hat:=u9 c o i (by omega) s;by_cases m:wb q c<0
   ·subst I;simp[u,w,y,T,W,X,g,d,hit,hb,z,S,A,m,hwi];have J:∀j (h:j<o.length),j<i+1->wb o[j] c<0:=fun j h hj=>by
     rcases Nat.lt_or_ge j i with h1|h1
     ·exact s j h h1
     ·obtain rfl:j=i:=by omega
      rw[M];exact m
    exact⟨by omega,hPn,rfl,(by rw[d]at n;exact n),J⟩
   ·have F:=hat fun _=>by rw[M];exact m
    by_cases B:wb q c=0
    ·have h1:=F.1 ⟨hit,by rw[M];exact B⟩;have K:((i:Int)==o.length)=false:=by rw[wN];omega
     subst I;simp[u,w,y,T,W,X,g,d,hit,hb,z,S,A,m,B,K,G];exact⟨r,by rw[t _ h1];rw[d]at n;exact n⟩
    ·have h1:=F.2 fun _=>by rw[M];exact B
     have hz':=Za B;have K:((i:Int)==o.length)=false:=by rw[wN];omega
     have f:=p (by omega);subst I;rw[d]at f;have L:(wc (o.take i++c::o.drop i)).length=o.length+1:=by rw[X3];simp;omega
     simp[u,w,y,T,W,X,g,d,hit,hb,z,S,A,m,B,hz',K,f,nP,G,zp,zE,zo];exact⟨r,by rw[t _ h1];exact .inr ⟨Z+1,by omega,by rw[L],by simp⟩⟩
  ·obtain rfl:i=o.length:=by omega
   have h1:=(u9 c o o.length (zf _) s (fun h=>absurd h (by omega))).2 (fun h=>absurd h (by omega));have f:=p (zf _);simp[u,w,y,T,W,X,g,d,S,f,nP,G,zp,zE,zo];rw[wF,zn]at h1;have L:(wc (o++[c])).length=o.length+1:=by rw[X3];simp
   exact⟨r,by rw[t _ h1];exact .inr ⟨Z+1,by omega,by rw[L],by simp⟩⟩
 ·obtain rfl:k=l.length:=by omega
  rw[wF]at n;simp[u,w,y,f230];unfold PS;rcases n with⟨e1,e2⟩|⟨id,hid,e1,e2⟩
  ·have:kK l=[]:=by simpa[wc]using e2
   rw[zd this];exact e1
  ·by_cases B:kK l=[]
   ·rw[zd B];exact h0 (Mh B)
   ·rw[zc B];exact⟨id,_,e1,e2,rfl,by simp[ff,wc,Cut.V]⟩
noncomputable def FSc:zb->Option (Option kv):=ql (α:=List Cut) (fun l=>[.sl 5 (wc l)]) (fun l=>(∀c∈l,c.v.small)/\l.length<=8388608) PS
theorem Mj{a b:List Cut}(h:wc a=wc b):a=b:=kS (fun _ _ e=>Zf e) h
theorem zcQ:∀a b:List Cut,[O.sl 5 (wc a)]=[O.sl 5 (wc b)]->a=b:=fun a b e=>by
 simp only[zk,zI]at e;injection e with _ e
 exact Mj e
theorem pO:zg prog 230 (vE [.s 5 jm] FSc):=
 Jz (fn:=f230) UF (qD func230) _ jm _ fun args r h=>by obtain⟨l,rfl,⟨a,b⟩,rfl⟩:=zN h;exact⟨by simp[f230],Aa l a b⟩
theorem PT(l:List Cut):(wc l).map (QJ jm)=wc l:=by simp[wc,Cut.V]
theorem Ab{Y:Hp}{Z:Nat}{v:O}{l:List Cut}(h:qT Y Z 179 5 v (wc l))(hs:∀c∈l,c.v.small)(g:l.length<=8388608) :
  ∃x d b,vE [.s 5 jm] FSc [v] Y Z=some (x,d,b)/\qT d b 179 5 x (wc (kK l))/\Z<=b:=by
 have hF:∀y Y1,qA Y v=some (y,Y1)->(Sh.s 5 jm).fix y=.sl 5 (wc l)->∃x d b,vE [.s 5 jm] FSc [v] Y Z=some (x,d,b)/\qT d b 179 5 x (wc (kK l))/\Z<=b:=by
  intro y Y1 i j;have e:zD Y [v]=some ([y],Y1):=by simp only[zD,i]
  have k:FSc (cF [.s 5 jm] (yg [] [y]))=some (PS l):=by show FSc [(Sh.s 5 jm).fix y]=_;rw[j];exact qF (V:=fun l:List Cut=>[O.sl 5 (wc l)]) (a:=l) zcQ ⟨hs,g⟩
  unfold vE yR;simp only[e,k];unfold PS;by_cases f:kK l=[]
  ·rw[zd f];exact⟨.nil,Y1,Z,rfl,.inl ⟨rfl,by rw[f];rfl⟩,zf _⟩
  ·rw[zc f];exact⟨_,_,_,rfl,.inr ⟨Z,by omega,rfl,by simp⟩,by omega⟩
 rcases h with⟨rfl,m⟩|⟨id,o,rfl,n⟩
 ·exact hF .nil Y rfl (by rw[m];rfl)
 ·exact hF (.sl 5 (wc l)) (qv Y id none) (by simp[n]) (by rw[Sh.oU,PT])
theorem Mk{a b:List qK}(f:a.length<=zu)(g:b.length<=zu){Y:Hp}{Z id e:Nat}(h:Y id=some ⟨e,1,true,[[.sl 11 (zW a)],[.sl 11 (zW b)]]⟩) :
  zh true [] sH [.own id 0 2] Y Z=some (.sl 11 (zW (a++b)),qv Y id none,Z):=by
 have hF:sH [.sl 1 [[.sl 11 (zW a)],[.sl 11 (zW b)]]]=some (.sl 11 (zW (a++b))):=by
  unfold sH PL;exact qF (V:=fun a:List qK×List qK=>[O.sl 1 [[.sl 11 (a.1.map qK.V)],[.sl 11 (a.2.map qK.V)]]]) (a:=(a,b)) (fun x y e=>by obtain⟨i,j⟩:=x;obtain⟨k,l⟩:=y;simp only[zk,zI]at e;injection e with _ e;simp only[zk,zI]at e;obtain⟨c,d⟩:=e;injection c with _ c;injection d with _ d;rw[xd c,xd d]) ⟨f,g⟩
 simp[zh,zD,qA,wY,h,yg,hF,O.flat,O.noOwn]
noncomputable abbrev Ctog:Ctx:=zR prog [(229,zh true [] sH),(230,vE [.s 5 jm] FSc),(185,qn [.s 11 jn,.g jm] (FRC fun l c=>qS (yl l c))),(231,zh false [] FTk)]
theorem UH:AM.Good Ctog (fun g=>[185,231].contains g):=qw mixed ⟨pN,by simp,pO,by simp,aY,fun _=>yG _ _,CH,fun _=>zt _ _,trivial⟩
theorem Ml(w:Int)(a b:List qK)(ha:yE a)(hb:yE b)(hga:yW a)(hgb:yW b) :
  ∃x Y Z,jF Ctog f183 [int w,.sl 11 (zW a),.sl 11 (zW b)] (fun _=>none) 0=some (x,Y,Z)/\Ch jn (WA (QP w) a b) x Y Z:=by
 refine qE rfl ?_;have hsa:=ha;have hsb:=hb;obtain⟨ha1,ha2⟩:=ha;obtain⟨hb1,hb2⟩:=hb;have hcat:=fun Y Z id e h=>Mk ha1 hb1 (Y:=Y) (Z:=Z) (id:=id) (e:=e) h
 unfold zu at ha1 hb1;have B:=PO (QP w) hga hgb;obtain⟨l,hl⟩:=jc (a++b);rw[hl]at B hcat;have hll:l.length<=4194304:=by rw[<-hl];simp;omega
 have hlsm:∀s∈l,s.small:=fun s hs=>by
  rw[<-hl]at hs;rcases zM.1 hs with h|h
  ·exact ha2 s h
  ·exact hb2 s h
 have hel:(zW l).length=l.length:=by simp[zW]
 have zgn:=hcat (qv (fun _=>none) 0 (some ⟨138,1,true,[[.sl 11 (zW a)],[.sl 11 (zW b)]]⟩)) 1 0 138 (by simp);simp[zp,zE,zo,zgn,hel];refine zP (fun k U Y Z=>U 0=int w/\U 1=.sl 11 (zW a)/\U 2=.sl 11 (zW b)/\qT Y Z 179 5 (U 7) (wc (qW (l.take k))) /\
   U 18=.sl 11 (zW l)/\U 19=int l.length/\U 20=int k) l.length
   ⟨by simp,by simp,by simp,.inl ⟨by simp,by simp[qW,wc]⟩,by simp,by simp,by simp⟩ ?_
 rintro k U Y Z hk ⟨G,H,I,F,h25,h26,h27⟩;by_cases f:k<l.length
 ·have z:=qG k;have q:∀h:k<(zW l).length,(zW l)[k]=l[k].V:=fun h=>by simp[zW]
  have hcn:=ZY (l.take k);rw[yF]at hcn;have hct:=si f;obtain⟨xs,g⟩:=jc (wc (qW (l.take k)));have r:xs.length<=8388608:=by rw[<-g];simp[wc];omega
  rw[g]at F;have hE:wc (qW (l.take (k+1)))=xs++(if l[k].yv=true then[l[k].lo]else[l[k].lo,l[k].hi]).map Cut.V:=by rw[hct,sj,g];rfl
  have hkn:=fun Y'=>yM F Y' Z (Co F (zf _))
  obtain⟨s,hs⟩:=jc (l[k]);rw[hs]at hct q hE;have p:=qT.jd (P:=prog) (t:=219) (c:=s.lo.V) (F.more (some ⟨181,11,false,[s.V]⟩)) gp cy rN rO rfl (by omega) (by unfold maxLen;omega) (by omega);have J:=qT.after (Y:=qv Y Z (some ⟨181,11,false,[s.V]⟩)) (Z:=Z+1) (e:=179) (s:=5) (v:=U 7) (xs:=xs) (c:=s.lo.V) (tmp:=some ⟨179,5,true,[s.lo.V]⟩);have u:=qT.jd (P:=prog) (t:=219) (c:=s.hi.V) J gp cy rN rO rfl (by omega) (by simp;unfold maxLen;omega) (by simp;omega);rw[show(xs++[s.lo.V]).length=xs.length+1 by simp,qM,show[s.lo.V]++[s.hi.V]=[s.lo.V,s.hi.V]from rfl]at u;have K:=qT.after (Y:=qv (Zl (U 7) (qv (qv Y Z (some ⟨181,11,false,[s.V]⟩)) (Z+1) (some ⟨179,5,true,[s.lo.V]⟩))) (Z+1+1) (some ⟨179,5,true,xs++[s.lo.V]⟩)) (Z:=Z+1+2) (e:=179) (s:=5) (v:=.own (Z+1+1) 0 (xs.length+1)) (xs:=xs++[s.lo.V]) (c:=s.hi.V) (tmp:=some ⟨179,5,true,[s.hi.V]⟩);rw[show(xs++[s.lo.V]).length=xs.length+1 by simp,qM,show[s.lo.V]++[s.hi.V]=[s.lo.V,s.hi.V]from rfl]at K;simp only[qK.V,Cut.V,q6,jJ]at p u J K q;have m1:¬Z=Z+1+1:=by omega
  have m2:¬Z=Z+1+2:=by omega
  have m3:¬Z=Z+1+2+1:=by omega
  cases C:s.yv
  ·rw[C]at hct;rw[C]at p u J K q;simp[G,H,I,h25,h26,h27,f,hel,q,p,u,hkn,z,m1,m2,m3,zp,zE,zo];refine⟨by omega,?_⟩;rw[hE,C];simp only[zF,qR,we,K7,Cut.V];exact K
  ·rw[C]at hct;rw[C]at p u J K q;simp[G,H,I,h25,h26,h27,f,hel,q,p,hkn,z,m1,m2,m3,zp,zE,zo];refine⟨by omega,?_⟩;rw[hE,C];simp only[qH,we,K7,Cut.V];exact J
 ·obtain rfl:k=l.length:=by omega
  rw[wF]at F;have Ng:∀c∈qW l,c.v.small:=YL (Q:=fun c=>c.v.small) hlsm;have hcl:=ZY l;obtain⟨v,Y',Z',L,S6,hnx'⟩:=Ab F Ng (by omega);obtain⟨cs,hcs⟩:=jc (kK (qW l));have hcsl:cs.length<=8388608:=by have:=bR (qW l) [];rw[<-hcs];unfold kK;simp at this;omega
  have hcsm:∀c∈cs,c.v.small:=fun c hc=>by
   rw[<-hcs]at hc;rcases bS hc with h|h
   ·exact Ng c h
   ·cases h
  rw[hcs]at B S6;have hfin:=B;obtain⟨is,his⟩:∃is:Cut->Bool,(fun c=>QP w (yl a c) (yl b c))=is:=⟨_,rfl⟩;have hisc:∀c,QP w (yl a c) (yl b c)=is c:=fun c=>by rw[<-his]
  rw[his]at hfin;clear F hcs Ng B;have M:=S6.len gp;have j:(wc cs).length=cs.length:=by simp[wc]
  rw[j]at M;simp[G,H,I,h25,h26,h27,L,M];refine zP (fun k U Y Z=>U 0=int w/\U 1=.sl 11 (zW a)/\U 2=.sl 11 (zW b)/\U 40=v/\U 41=int cs.length/\U 42=int k/\qT Y Z 179 5 v (wc cs)/\∃xs,qT Y Z 181 11 (U 10) xs/\xs.map (QJ jn)=zW (Vo is (cs.take k) (false,[])).2 /\
    U 11=qS (Vo is (cs.take k) (false,[])).1/\(∀id n m,v=.own id 0 n->U 10≠.own id 0 m)/\((Vo is (cs.take k) (false,[])).1=true->(Vo is (cs.take k) (false,[])).2≠[])/\xs.length<=k/\(xs=[]->U 10=.nil)) cs.length
   ⟨by simp[G],by simp[H],by simp[I],by simp,by simp,by simp,S6,[],.inl ⟨by simp,rfl⟩,by simp[Vo,zW],by simp[Vo],by simp,by simp[Vo],by simp,by simp⟩ ?_
  clear G H I h25 h26 h27 S6 hk f U Y Z L M hnx' Y' Z';rintro k U Y Z hk ⟨G,H,I,N,R,S,F,xs,hX,g,D,rn,T,hxk,hxn⟩;by_cases f:k<cs.length
  ·have z:=qG k;obtain⟨id,hid,rfl,hh⟩:=F.at_ (by rw[j];omega);have o:=Cn is f (false,[]);obtain⟨st,SE⟩:=jc (Vo is (cs.take k) (false,[]));obtain⟨c,hc⟩:=jc (cs[k]);rw[hc,SE]at o;rw[SE]at g D T;have W:=Cm is st c T;have y:c.v.small:=hcsm c (by rw[<-hc];exact zj f);have q:∀h:k<(wc cs).length,(wc cs)[k]=c.V:=fun h=>by simp[wc,hc]
   have X:=fun Y Z=>V2 a c Y Z hsa y
   have A4:=fun Y Z=>V2 b c Y Z hsb y
   have d:=fun Y Z=>Xa w (yl a c) (yl b c) Y Z
   rw[hisc c]at d;simp only[Cut.V]at X A4 q;have m0:¬id=Z:=by omega
   have m1:¬id=Z+1:=by omega
   have m2:¬id=Z+1+1:=by omega
   rw[j]at F;have hki:=fun Y'=>yM hX Y' id (fun n=>rn id _ n rfl)
   have SF:aU is st c=(is c,if(is c&&!st.1)=true then st.2++[w5 c]else if(!is c&&st.1)=true then Qu st.2 c else st.2):=rfl;rw[SF]at o;rw[SF]at W;simp only at W;obtain⟨op,out⟩:=st;simp only at g D T W;cases hb:is c<;>cases op
   ·rw[hb]at d o;simp at o;simp[G,H,I,N,R,S,j,f,hh,q,X,A4,d,-Xa,D,z,m0,o];exact⟨by omega,F.more _,xs,hX.more _,g,fun i n m e _=>rn i _ m (by rw[e]),by omega,hxn⟩
   ·rw[hb]at d o;simp at o;have hne:=T rfl;obtain⟨m,hm⟩:∃m,out.length=m+1:=⟨out.length-1,by have:=vm.2 hne;omega⟩;have r:xs.length=m+1:=by have:=zr List.length g;simp[zW]at this;omega
    obtain⟨E,hid2,A,hh2⟩:=hX.at_ (by omega);have ED:¬E=id:=fun e=>rn id _ _ rfl (by rw[A,e])
    have SG:¬id=E:=fun e=>ED e.symm
    have p0:¬E=Z:=by omega
    rw[r]at A;have hlm:m<xs.length:=by omega
    have hlo:m<out.length:=by omega
    have hrm:QJ jn xs[m]=out[m].V:=by
     have e1:(xs.map (QJ jn))[m]?=(zW out)[m]?:=by rw[g]
     simp only[qo,zl hlm,zW,zl hlo,zC,z6]at e1;exact e1
    obtain⟨x3,x5,x6,x7,x8,x9,x10,Nf,hn3,EE⟩:=sg hrm;have wm:=wz (m:Int);have wm1:i6.wrap ((m:Int)+1-1)=(m:Int):=by rw[wu (by omega) (by omega)];omega
    simp[G,H,I,N,R,S,j,f,hh,q,X,A4,d,-Xa,D,z,m0,o,A,hh2,p0,wm,wm1,hlm,Nf,EE,ja];refine⟨by omega,.inr ⟨id,by omega,by rw[j],by simp[SG,m0,hh]⟩,xs.set m [int out[m].lo.v.a,int out[m].lo.v.b,int out[m].lo.v.c,x3,qS out[m].lo.after,int c.v.a,int c.v.b,int c.v.c,.sl 1 (zy c.v.pre),qS c.after,qS false],.inr ⟨E,by omega,by simp[r],by simp⟩,?_,fun i n k' e _ e2=>absurd (e2.trans e.symm) ED,by simp;omega,fun e=>by have:=zr List.length e;rw[aj,r]at this;cases this⟩;rw[zaE,g,gD hlo hm c,zW,zW,zaE];simp[hn3,qK.V,Cut.V]
   ·rw[hb]at d o;simp at o;have p:=qT.jd (P:=prog) (t:=138) (c:=[int c.v.a,int c.v.b,int c.v.c,.sl 1 (zy c.v.pre),qS c.after,int 0,int 0,int 0,.nil,qS false,qS true]) (hX.more (some ⟨179,5,false,[c.V]⟩)) HI rP BC BD rfl (by omega) (by unfold maxLen;omega) (by omega);simp only[Cut.V]at p;simp[G,H,I,N,R,S,j,f,hh,q,X,A4,d,-Xa,D,z,m0,o,p,z8,qB,zp,zE,zo];refine⟨by omega,.inr ⟨id,by omega,by rw[j],by simp[hki,hh,m0,m1,m2]⟩,xs++[[int c.v.a,int c.v.b,int c.v.c,.sl 1 (zy c.v.pre),qS c.after,int 0,int 0,int 0,.nil,qS false,qS true]],by simpa using qT.after,?_,fun i n m e _ e2=>by omega,by simp;omega⟩;rw[zbJ,g];simp[zW,w5,qK.V,Cut.V,QM,zy]
   ·rw[hb]at d o;simp at o;simp[G,H,I,N,R,S,j,f,hh,q,X,A4,d,-Xa,D,z,m0,o];exact⟨by omega,F.more _,xs,hX.more _,g,fun i n m e _=>rn i _ m (by rw[e]),T rfl,by omega,hxn⟩
  ·obtain rfl:k=cs.length:=by omega
   rw[wF]at g;rw[<-hfin]at g;have r:xs.length=(kB (QP w) a b).length:=by have:=zr List.length g;simpa[zW]using this
   simp[G,H,I,N,R,S,f183];unfold WA;rcases hX with⟨A,rfl⟩|⟨E,hid2,A,hh2⟩
   ·rw[zd (qy.1 r.symm)];exact A
   ·by_cases hz:kB (QP w) a b=[]
    ·rw[zd hz];rw[hz]at r;exact hxn (qy.1 r)
    ·rw[zc hz];refine⟨E,_,A,hh2,rfl,?_⟩;simp only[ff,g]
noncomputable def Mm:zb->Option (Option kv):=ql (α:=Int×List qK×List qK) (fun a=>[int a.1,.sl 11 (zW a.2.1),.sl 11 (zW a.2.2)]) (fun a=>(yE a.2.1/\yE a.2.2)/\yW a.2.1/\yW a.2.2) (fun a=>WA (QP a.1) a.2.1 a.2.2)
theorem UI:∀a b:Int×List qK×List qK,[int a.1,O.sl 11 (zW a.2.1),.sl 11 (zW a.2.2)]=[int b.1,.sl 11 (zW b.2.1),.sl 11 (zW b.2.2)]->a=b:=by rintro⟨g,h,i⟩ ⟨j,k,l⟩ e;simp only[zk,zI]at e;obtain⟨c,d,f⟩:=e;injection c with c;injection c with _ c;injection d with _ d;injection f with _ f;rw[c,xd d,xd f]
theorem nV:zg prog 183 (vE [.a,.s 11 jn,.s 11 jn] Mm):=
 Jz (fn:=f183) UH (qD func183) _ jn _ fun args r h=>by obtain⟨⟨w,a,b⟩,rfl,⟨⟨c,d⟩,e,f⟩,rfl⟩:=zN h;exact⟨by simp[f183],Ml w a b c d e f⟩
def dZ(Y:Hp)(Z:Nat)(v:O)(m:List qK):Prop:=(v=.nil/\m=[])\/∃id xs,id<Z/\v=.own id 0 xs.length/\Y id=some ⟨181,11,true,xs⟩/\xs.map (QJ jn)=zW m
theorem dZ.frz{Y:Hp}{Z:Nat}{v:O}{m:List qK}(h:dZ Y Z v m):∃y Y1,qA Y v=some (y,Y1)/\(Sh.s 11 jn).fix y=.sl 11 (zW m)/\(∀j,(∀n,v≠.own j 0 n)->Y1 j=Y j):=by
 rcases h with⟨rfl,rfl⟩|⟨id,xs,d,rfl,a,b⟩
 ·exact⟨_,Y,rfl,rfl,fun _ _=>rfl⟩
 ·exact⟨.sl 11 xs,qv Y id none,by simp[a],by rw[Sh.oU,b],fun j c=>zx _ _ _ _ fun e=>c _ (by subst e;rfl)⟩
theorem dZ.keep{Y a:Hp}{Z b:Nat}{v:O}{m:List qK}(h:dZ Y Z v m)(g:Z<=b)(c:∀id,id<Z->(∀n,v=.own id 0 n->a id=Y id)):dZ a b v m:=by
 rcases h with⟨rfl,rfl⟩|⟨id,xs,d,rfl,e,f⟩
 ·exact .inl ⟨rfl,rfl⟩
 ·exact .inr ⟨id,xs,by omega,rfl,by rw[c id d _ rfl];exact e,f⟩
theorem dZ.len{Y:Hp}{Z:Nat}{v:O}{m:List qK}(h:dZ Y Z v m):Ki prog 138 v=some (int m.length):=by
 rcases h with⟨rfl,rfl⟩|⟨id,xs,b,rfl,c,a⟩
 ·simp
 ·have:=zr List.length a;simp[zW]at this;simp[this]
theorem dZ.box{Y:Hp}{Z:Nat}{v:O}{m:List qK}(h:dZ Y Z v m){j:Nat}{b:kv}(a:Y j=some b)(c:b.e≠181):∀n,v≠.own j 0 n:=by
 rcases h with⟨rfl,rfl⟩|⟨id,xs,f,rfl,d,g⟩
 ·intro n e;cases e
 ·intro n e;injection e with e
  subst e;rw[d]at a;injection a with a
  subst a;exact c rfl
theorem C3(c:Int)(f:Bool->Bool->Bool)(m:QP c=f){Y:Hp}{Z:Nat}{v:O}{a b:List qK}(o:dZ Y Z v a)(p:yE a)(q:yE b)(r:yW a)(t:yW b) :
  ∃x g h,vE [.a,.s 11 jn,.s 11 jn] Mm [int c,v,.sl 11 (zW b)] Y Z=some (x,g,h)/\dZ g h x (kB f a b)/\Z<=h/\∀j,j<Z->(∀n,v≠.own j 0 n)->g j=Y j:=by
 obtain⟨y,Y1,u,w,l⟩:=o.frz;have e:zD Y [int c,v,.sl 11 (zW b)]=some ([int c,y,.sl 11 (zW b)],Y1):=by have z:qA Y (int c)=some (int c,Y):=rfl;have A:qA Y1 (.sl 11 (zW b))=some (.sl 11 (zW b),Y1):=rfl;simp only[zD,z,u,A]
 have hF:Mm (cF [.a,.s 11 jn,.s 11 jn] (yg [] [int c,y,.sl 11 (zW b)]))=some (WA f a b):=by show Mm [Sh.a.fix (int c),(Sh.s 11 jn).fix y,(Sh.s 11 jn).fix (.sl 11 (zW b))]=_;rw[w,JY,<-m];exact qF (V:=fun a:Int×List qK×List qK=>[int a.1,O.sl 11 (zW a.2.1),.sl 11 (zW a.2.2)]) (a:=(c,a,b)) UI ⟨⟨p,q⟩,r,t⟩
 unfold vE yR;by_cases i:kB f a b=[]
 ·have d:=hF;unfold WA at d;rw[zd i]at d;simp only[e,d];exact⟨_,_,_,rfl,.inl ⟨rfl,i⟩,zf _,fun j _ k=>l j k⟩
 ·have d:=hF;unfold WA at d;rw[zc i]at d;simp only[e,d];exact⟨_,_,_,rfl,.inr ⟨Z,zW (kB f a b),by omega,rfl,by simp,by have:=JY (kB f a b);simpa[Sh.oU]using this⟩,by omega,fun j B k=>by rw[zx _ _ _ _ (by omega)];exact l j k⟩
theorem zfM:QP 1=and:=by funext a b;simp[QP]
theorem zfN:QP 0=or:=by funext a b;simp[QP]
end Go.Q
namespace Go.AM
def Mn(Q:St->Prop)(K:Exit->St->Prop)(e:Exit)(st:St):Prop:=match e with
 | .normal=>Q st
 |e=>K e st
@[simp]theorem zhz(Q:St->Prop)(K:Exit->St->Prop)(st:St):Mn Q K .normal st=Q st:=rfl
@[simp]theorem zhA(Q:St->Prop)(K:Exit->St->Prop)(st:St):Mn Q K .ret st=K .ret st:=rfl
@[simp]theorem zhB(Q:St->Prop)(K:Exit->St->Prop)(i:Nat)(st:St):Mn Q K (.exit i) st=K (.exit i) st:=rfl
theorem QA{C:Ctx}{a b:Code}{st:St}{K:Exit->St->Prop}(Q:St->Prop)(d:Zy C a st (Mn Q K))(f:∀st,Q st->Zy C b st K):Zy C (.seq a b) st K:=by
 rw[tH];refine d.mono fun e st c=>?_
 cases e
 case normal=>exact f _ c
 all_goals exact c
theorem jI{C:Ctx}{a b:Code}{st:St}{K:Exit->St->Prop}(Q:(Nat->O)->Hp->Nat->Prop)(c:Zy C a st (Mn (fun st=>Q st.U st.Y st.Z) K))(d:∀U Y Z,Q U Y Z->Zy C b ⟨U,Y,Z⟩ K):Zy C (.seq a b) st K:=
 QA _ c fun st h=>d st.U st.Y st.Z h
end Go.AM
