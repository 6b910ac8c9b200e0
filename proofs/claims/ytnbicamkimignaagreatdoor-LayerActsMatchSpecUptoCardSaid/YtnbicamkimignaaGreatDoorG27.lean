/- Lemmas. -/
import Derived.Test.YtnbicamkimignaaGreatDoorG26
set_option maxRecDepth 8000
set_option maxHeartbeats 4000000
open Go Proofs Proofs.YtnbicamkimignaaGreatDoor Proofs.Tryz RowKit AM SpanLaw Q Zz
namespace Go.Q
theorem TO.ltle{α:Type}{c:α→α→Int}(h:TO c){x y z:α}(d:c x y<0)(a:c y z≤0):c x z<0:=by
 rcases aX a with a|a
 ·exact h.trans d a
 ·have e:=h.tr x y z (by omega) (by omega);rcases aX e with b|b
  ·exact b
  ·have f:=(h.eq y z).1 a;have g:=(h.eq x z).1 b;have:=h.tr y z x (by omega) (by omega);have:=(h.flip x y).1 d;omega
theorem TO.lelt{α:Type}{c:α→α→Int}(h:TO c){x y z:α}(b:c x y≤0)(d:c y z<0):c x z<0:=by
 have e:=h.tr x y z b (by omega);rcases aX e with a|a
 ·exact a
 ·have f:=(h.eq x z).1 a;have:=h.tr z x y (by omega) b;have:=(h.flip y z).1 d;omega
theorem TO.irr{α:Type}{c:α→α→Int}(h:TO c)(x:α):¬c x x<0:=by rw[h.refl];omega
theorem TO.zdd{α:Type}{c:α→α→Int}(h:TO c){x y:α}(a:¬c x y<0):c y x≤0:=(h.le y x).2 (by omega)
theorem TO.Lu{α:Type}{c:α→α→Int}(h:TO c){x y:α}(a:¬c x y≤0):c y x<0:=(h.flip y x).2 (by omega)
theorem orL2{a b:Int}(h:V4 [a,b]=0):a=0∧b=0:=by
 simp only[V4]at h;split at h
 ·rename_i e;split at h
  ·rename_i c;exact⟨e,c⟩
  ·rename_i c;exact absurd h c
 ·rename_i e;exact absurd h e
theorem orL3{a b c:Int}(h:V4 [a,b,c]=0):a=0∧b=0∧c=0:=by
 simp only[V4]at h;split at h
 ·rename_i e;split at h
  ·rename_i d;split at h
   ·rename_i f;exact⟨e,d,f⟩
   ·rename_i f;exact absurd h f
  ·rename_i d;exact absurd h d
 ·rename_i e;exact absurd h e
theorem HO{p q:za}(Y:y0 p=true)(j:y0 q=true)(h:Lib.trimLeftB p 48=Lib.trimLeftB q 48):p=q:=by
 have a:∀p:za,y0 p=true→(p=[48]∧Lib.trimLeftB p 48=[])∨(Lib.trimLeftB p 48=p∧p≠[]):=by
  intro p Y;cases p with
  |nil=>simp[y0]at Y
  |cons c l=>
   by_cases i:c=48
   ·subst i;cases l with
    |nil=>exact .inl ⟨rfl,rfl⟩
    |cons d l=>simp[y0]at Y
   ·refine .inr ⟨?_,by simp⟩;unfold Lib.trimLeftB;rw[ZY (by simpa using i)]
 rcases a p Y with⟨b,f⟩|⟨b,f⟩<;>rcases a q j with⟨e,g⟩|⟨e,g⟩
 ·rw[b,e]
 ·rw[f,e]at h;exact absurd h.symm g
 ·rw[b,g]at h;exact absurd h f
 ·rw[b,e]at h;exact h
theorem tP{p:za}(h:yF p=false):p≠[]∧(vA p=true→y0 p=true):=by simp only[yF,w5]at h;obtain⟨⟨_,b⟩,a⟩:=h;refine⟨fun e=>by subst e;simp[fk]at b,fun hd=>?_⟩;rw[hd]at a;simpa using a
theorem Nj{p q:za}(Y:yF p=false)(d:yF q=false)(h:yc p q=0):p=q:=by
 obtain⟨j,e⟩:=tP Y;obtain⟨k,f⟩:=tP d;have g:xX p=vA p:=by cases p<;>simp_all[xX]
 have c:xX q=vA q:=by cases q<;>simp_all[xX]
 unfold yc at h;rw[g,c]at h;cases a:vA p<;>cases b:vA q<;>simp only[a,b,wi,zU,wK]at h
 ·exact(xN p q).1 h
 ·cases h
 ·cases h
 ·obtain⟨_,i⟩:=orL2 h;exact HO (e a) (f b) ((xN _ _).1 i)
theorem I3{α:Type}{c:α→α→Int}:∀{a b:List α},(∀x∈a,∀y∈b,c x y=0→x=y)→y1 c a b=0→a=b
 |[],[],_,_=>rfl
 |[],_::_,_,h=>by simp[y1]at h
 |_::_,[],_,h=>by simp[y1]at h
 |x::a,y::b,d,h=>by
  simp only[y1]at h;split at h
  ·rename_i e;rw[d x (by simp) y (by simp) e,I3 (fun u f v g=>d u (by simp[f]) v (by simp[g])) h]
  ·rename_i e;exact absurd h e
theorem lR{a b:Cut}(j:a.xz)(k:b.xz)(h:wX a b=0):a=b:=by
 obtain⟨⟨A,B,C,l⟩,m⟩:=a;obtain⟨⟨D,E,F,n⟩,o⟩:=b;unfold wX at h;split at h
 ·rename_i c;have p:m=o:=by
   split at h
   ·rename_i e;exact e
   ·split at h<;>cases h
  unfold Qn at c;split at c
  ·rename_i d;obtain⟨q,r,s⟩:=orL3 d;have f:=aA q;have g:=aA r;have i:=aA s;have t:l=n:=by
    simp only at c;split at c
    ·rename_i u;split at c
     ·rename_i v;rw[qo.1 u,qo.1 v]
     ·cases c
    ·split at c
     ·cases c
     ·exact I3 (fun x w y z=>Nj (j.2 x w) (k.2 y z)) c
   simp only at f g i;rw[f,g,i,t,p]
  ·rename_i d;exact absurd c d
 ·rename_i c;exact absurd h c
mutual
def I4(a:Cut→Bool):List Cut→List wR
 |[]=>[]
 |c::l=>if a c=true then TU a c l else I4 a l
def TU(a:Cut→Bool)(s:Cut):List Cut→List wR
 |[]=>[yw s]
 |c::l=>if a c=true then TU a s l else cc s c::I4 a l
end
theorem Bg(out:List wR)(s c:Cut):QG (out++[yw s]) c=out++[cc s c]:=by unfold QG;rw[List.getLast?_append];simp[yw,cc]
theorem oy(a:Cut→Bool):∀(l:List Cut) (out:List wR),(VY a l (false,out)).2=out++I4 a l∧∀s,(VY a l (true,out++[yw s])).2=out++TU a s l
 |[],out=>⟨by simp[VY,I4],fun s=>by simp[VY,TU]⟩
 |c::l,out=>by
  have b:∀d,VY a (c::l) d=VY a l (bu a d c):=fun _=>rfl
  constructor
  ·rw[b];cases h:a c
   ·have:bu a (false,out) c=(false,out):=by simp[bu,h]
    rw[this,(oy a l out).1,I4,h,zj (by simp)]
   ·have:bu a (false,out) c=(true,out++[yw c]):=by simp[bu,h]
    rw[this,(oy a l out).2 c,I4,h,zf rfl]
  ·intro s;rw[b];cases h:a c
   ·have:bu a (true,out++[yw s]) c=(false,out++[cc s c]):=by simp[bu,h,Bg]
    rw[this,(oy a l (out++[cc s c])).1,TU,h,zj (by simp),qj];rfl
   ·have:bu a (true,out++[yw s]) c=(true,out++[yw s]):=by simp[bu,h]
    rw[this,(oy a l out).2 s,TU,h,zf rfl]
noncomputable def oz (a b:List wR):List Cut:=dA (QH (wz a++wz b))
theorem EK(f:Bool→Bool→Bool)(a b:List wR):vj f a b=I4 (fun c=>f (yP a c) (yP b c)) (oz a b):=by unfold vj;rw[ny,(oy _ _ []).1];rfl
theorem KR(a b:List wR)(c:Cut):c∈oz a b↔c∈wz a∨c∈wz b:=by unfold oz;rw[fF,(Zp _).mem_iff,qP]
theorem aF{l:List wR}(h:jU l):∀c∈wz l,c.xz:=YX h
theorem VH{a b:List wR}(c:jU a)(d:jU b):(oz a b).Pairwise fun x y=>wX x y<0:=by
 refine dB _ (fun x e y f h=>?_) (pW _);have g:∀z∈QH (wz a++wz b),z.xz:=fun z i=>by
  rcases qP.1 ((Zp _).mem_iff.1 i)with h|h
  ·exact aF c z h
  ·exact aF d z h
 exact lR (g x e) (g y f) h
def aU:Option Cut→List wR→Prop
 |_,[]=>True
 |lo,s::l=>(∀q,lo=some q→wX q s.lo<0)∧if s.vL=true then l=[]∧s.hi=QV else wX s.lo s.hi<0∧aU (some s.hi) l
theorem Nk{lo:Option Cut}{l:List wR}(h:aU lo l):aU none l:=by
 cases l with
 |nil=>trivial
 |cons s l=>exact⟨fun q e=>(by cases e),h.2⟩
theorem HP(f:Cut→Bool):∀(l:List Cut),l.Pairwise (fun x y=>wX x y<0)→(∀lo:Option Cut,(∀q,lo=some q→∀x∈l,wX q x<0)→aU lo (I4 f l))∧∀(lo:Option Cut) (s:Cut),(∀q,lo=some q→wX q s<0)→(∀x∈l,wX s x<0)→aU lo (TU f s l)
 |[],_=>⟨fun _ _=>trivial,fun lo s h _=>⟨h,by simp[yw]⟩⟩
 |c::l,hs=>by
  obtain⟨g,k⟩:=wv.1 hs;obtain⟨i,j⟩:=HP f l k;constructor
  ·intro lo a;rw[I4];split
   ·exact j lo c (fun q b=>a q b c (by simp)) g
   ·exact i lo fun q b x d=>a q b x (by simp[d])
  ·intro lo s a e;rw[TU];split
   ·exact j lo s a fun x d=>e x (by simp[d])
   ·refine⟨a,?_⟩;simp only[cc,zU,wK];exact⟨e c (by simp),i (some c) fun q b x d=>by injection b with b;rw[←b];exact g x d⟩
noncomputable def Wp (a:Cut→Bool):Bool→List Cut→Cut→Bool
 |d,[],_=>d
 |d,x::l,c=>if wX x c≤0 then Wp a (a x) l c else d
theorem WM:∀{l:List wR} {lo c:Cut},aU (some lo) l→wX c lo≤0→yP l c=false
 |[],_,_,_,_=>rfl
 |s::l,lo,c,h,e=>by
  have f:wX lo s.lo<0:=h.1 lo rfl;have b:wX c s.lo<0:=wL.lelt e f;have g:vX s c=false:=by have:=(wL.flip c s.lo).1 b;simp[vX,show¬wX s.lo c≤0 by omega]
  have d:yP l c=false:=by
   have a:=h.2;split at a
   ·rw[a.1];rfl
   ·exact WM a.2 (ZB (wL.trans b a.1))
  unfold yP at d⊢;rw[yy,g,d];rfl
theorem R9(b:Cut→Bool)(c:Cut):∀(l:List Cut),l.Pairwise (fun x y=>wX x y<0)→yP (I4 b l) c=Wp b false l c∧∀s,(∀x∈l,wX s x<0)→yP (TU b s l) c=if wX s c≤0 then Wp b true l c else false
 |[],_=>⟨rfl,fun s _=>by simp[TU,yP,vX,yw,Wp]⟩
 |x::l,hs=>by
  obtain⟨k,r⟩:=wv.1 hs;obtain⟨t,u⟩:=R9 b c l r;have h:=HP b l r;constructor
  ·rw[I4,Wp];cases v:b x
   ·rw[zj (by simp),t];split
    ·rfl
    ·rename_i w;cases l with
     |nil=>rfl
     |cons y l=>have d:=wL.trans (wL.Lu w) (k y (by simp));have:=(wL.flip c y).1 d;simp only[Wp];rw[zj (by omega)]
   ·rw[zf rfl,u x k]
  ·intro s i;have m:=i x (by simp);rw[TU,Wp];cases v:b x
   ·rw[zj (by simp)];have n:=(h.1 (some x) fun q o y p=>by injection o with o;rw[←o];exact k y p);have e:yP (cc s x::I4 b l) c=(vX (cc s x) c||yP (I4 b l) c):=rfl;rw[e];by_cases a:wX x c≤0
    ·have f:wX s c≤0:=ZB (wL.ltle m a);have z:vX (cc s x) c=false:=by have:=(wL.le x c).1 a;simp[vX,cc,show¬wX c x<0 by omega]
     rw[z,zf f,zf a,jo,t]
    ·have j:=wL.Lu a;have A:yP (I4 b l) c=false:=WM n (ZB j);rw[A,Bool.or_false,zj a];simp only[vX,cc,j,jo,Lm,ae];by_cases f:wX s c≤0<;>simp[f]
   ·rw[zf rfl,u s fun y p=>i y (by simp[p])];by_cases a:wX x c≤0
    ·rw[zf a]
    ·rw[zj a];have g:Wp b true l c=true:=by
      cases l with
      |nil=>rfl
      |cons y l=>have d:=wL.trans (wL.Lu a) (k y (by simp));have:=(wL.flip c y).1 d;simp only[Wp];rw[zj (by omega)]
     rw[g]
theorem EL{a:List wR}{x c:Cut}(b:wX x c≤0)(h:∀y∈wz a,wX y c≤0→wX y x≤0):yP a c=yP a x:=by
 induction a with
 |nil=>rfl
 |cons s a j=>
  have e:∀c,yP (s::a) c=(vX s c||yP a c):=fun _=>rfl
  rw[e,e,j fun y k=>h y (by rw[wz];exact List.mem_append_right _ k)];congr 1;have d:s.lo∈wz (s::a):=by rw[wz];apply List.mem_append_left;split<;>simp
  have i:wX s.lo c≤0↔wX s.lo x≤0:=⟨h _ d,fun g=>wL.tr _ _ _ g b⟩;unfold vX;cases l:s.vL
  ·have f:s.hi∈wz (s::a):=by rw[wz,l];simp
   have m:wX c s.hi<0↔wX x s.hi<0:=by
    constructor
    ·exact fun g=>wL.lelt b g
    ·intro g;refine Decidable.byContradiction fun n=>?_
     have o:=h _ f (wL.zdd n);exact wL.irr x (wL.ltle g o)
   simp only[i,m]
  ·simp only[i,eM]
theorem tQ{a:List wR}{c:Cut}(h:∀y∈wz a,¬wX y c≤0):yP a c=false:=by
 induction a with
 |nil=>rfl
 |cons s a d=>
  have e:yP (s::a) c=(vX s c||yP a c):=rfl;have b:s.lo∈wz (s::a):=by rw[wz];apply List.mem_append_left;split<;>simp
  rw[e,d fun y f=>h y (by rw[wz];exact List.mem_append_right _ f)];simp[vX,h _ b]
theorem iu(f:Cut→Bool)(c:Cut):∀(l:List Cut) (d:Bool),l.Pairwise (fun x y=>wX x y<0)→(Wp f d l c=d∧∀y∈l,¬wX y c≤0)∨∃x∈l,wX x c≤0∧Wp f d l c=f x∧∀y∈l,wX y c≤0→wX y x≤0
 |[],d,_=>.inl ⟨rfl,fun y a=>by cases a⟩
 |x::l,d,hs=>by
  obtain⟨j,m⟩:=wv.1 hs;by_cases g:wX x c≤0
  ·right;simp only[Wp,zf g];rcases iu f c l (f x) m with⟨e,h⟩|⟨z,k,i,e,h⟩
   ·refine⟨x,by simp,g,e,fun y a b=>?_⟩;rcases zL.1 a with rfl|a
    ·rw[wL.refl];exact jb _
    ·exact absurd b (h y a)
   ·refine⟨z,by simp[k],i,e,fun y a b=>?_⟩;rcases zL.1 a with rfl|a
    ·exact ZB (j z k)
    ·exact h y a b
  ·left;simp only[Wp,zj g];refine⟨trivial,fun y a b=>?_⟩;rcases zL.1 a with rfl|a
   ·exact g b
   ·exact g (ZB (wL.ltle (j y a) b))
theorem oH{f:Bool→Bool→Bool}(i:f false false=false){a b:List wR}(j:jU a)(k:jU b)(c:Cut):yP (vj f a b) c=f (yP a c) (yP b c):=by
 have hs:=VH j k;rw[EK,(R9 _ c _ hs).1];rcases iu (fun c=>f (yP a c) (yP b c)) c (oz a b) false hs with⟨e,g⟩|⟨x,l,h,e,g⟩
 ·rw[e,tQ fun y d=>g y ((KR a b y).2 (.inl d)),tQ fun y d=>g y ((KR a b y).2 (.inr d)),i]
 ·rw[e,EL h fun y d=>g y ((KR a b y).2 (.inl d)),EL h fun y d=>g y ((KR a b y).2 (.inr d))]
theorem eA{f:Bool→Bool→Bool}{a b:List wR}(c:jU a)(d:jU b):aU none (vj f a b):=by rw[EK];exact(HP _ _ (VH c d)).1 none fun q e=>by cases e
theorem Bh:∀{l m:List wR} {lo w:Option Cut},aU lo l→aU w m→jU l→jU m→(∀c,c.xz→yP l c=yP m c)→l=m
 |[],[],_,_,_,_,_,_,_=>rfl
 |[],t::m,_,w,_,u,_,G,h=>by
  have:=h t.lo (G t (by simp)).1;have r:yP (t::m) t.lo=true:=by
   have A:vX t t.lo=true:=by
    have k:=u.2;unfold vX;rw[wL.refl];split at k
    ·rename_i e;simp[e]
    ·simp[k.1]
   unfold yP;rw[yy,A];rfl
  rw[r]at this;cases this
 |s::l,[],lo,_,n,_,H,_,h=>by
  have:=h s.lo (H s (by simp)).1;have r:yP (s::l) s.lo=true:=by
   have A:vX s s.lo=true:=by
    have k:=n.2;unfold vX;rw[wL.refl];split at k
    ·rename_i e;simp[e]
    ·simp[k.1]
   unfold yP;rw[yy,A];rfl
  rw[r]at this;cases this
 |s::l,t::m,lo,w,n,u,H,G,h=>by
  have v:∀{s:wR} {l:List wR} {lo:Option Cut},aU lo (s::l)→vX s s.lo=true:=fun{s l lo} n=>by
   have k:=n.2;unfold vX;rw[wL.refl];split at k
   ·rename_i e;simp[e]
   ·simp[k.1]
  have d:∀{s:wR} {l:List wR} {lo:Option Cut} {c:Cut},aU lo (s::l)→(s.vL=false→wX c s.hi≤0)→yP (s::l) c=vX s c:=fun{s l lo c} n r=>by
   have k:=n.2;have e:yP (s::l) c=(vX s c||yP l c):=rfl;rw[e];cases B:s.vL
   ·rw[B,zj (by simp)]at k;rw[WM k.2 (r B),Bool.or_false]
   ·rw[B,zf rfl]at k;rw[k.1];simp[yP]
  have o:∀{s:wR} {l:List wR} {lo:Option Cut} {c:Cut},aU lo (s::l)→wX c s.lo<0→yP (s::l) c=false:=fun{s l lo c} n r=>by
   have k:=n.2;rw[d n fun B=>?_]
   ·have:=(wL.flip c s.lo).1 r;simp[vX,show¬wX s.lo c≤0 by omega]
   ·rw[B,zj (by simp)]at k;exact ZB (wL.trans r k.1)
  have C:=H s (by simp);have D:=G t (by simp);have I:yP (s::l) s.lo=true:=by unfold yP;rw[yy,v n];rfl
  have J:yP (t::m) t.lo=true:=by unfold yP;rw[yy,v u];rfl
  have j:s.lo=t.lo:=by
   refine lR C.1 D.1 ?_;have n1:¬wX s.lo t.lo<0:=fun i=>by have:=h s.lo C.1;rw[I,o u i]at this;cases this
   have M:¬wX t.lo s.lo<0:=fun i=>by have:=h t.lo D.1;rw[J,o n i]at this;cases this
   have:=(wL.flip s.lo t.lo);have:=(wL.flip t.lo s.lo);omega
  have f:=n.2;have g:=u.2;cases p:s.vL<;>cases q:t.vL
  ·rw[p,zj (by simp)]at f;rw[q,zj (by simp)]at g;have E:yP (s::l) s.hi=false:=by rw[d n fun _=>by rw[wL.refl];exact jb _];simp[vX,p,wL.refl]
   have N:yP (t::m) t.hi=false:=by rw[d u fun _=>by rw[wL.refl];exact jb _];simp[vX,q,wL.refl]
   have F:s.hi=t.hi:=by
    refine lR C.2 D.2 ?_;have n1:¬wX s.hi t.hi<0:=fun i=>by
     have:=h s.hi C.2;rw[E,d u fun _=>ZB i]at this;have y:wX t.lo s.hi≤0:=by rw[←j];exact ZB f.1
     simp[vX,i,y]at this
    have M:¬wX t.hi s.hi<0:=fun i=>by
     have:=h t.hi D.2;rw[N,d n fun _=>ZB i]at this;have y:wX s.lo t.hi≤0:=by rw[j];exact ZB g.1
     simp[vX,i,y]at this
    have:=(wL.flip s.hi t.hi);have:=(wL.flip t.hi s.hi);omega
   have K:s=t:=by obtain⟨a,b,c⟩:=s;obtain⟨P,Q,R⟩:=t;simp only at j F p q;rw[j,F,p,q]
   subst K;rw[Bh f.2 g.2 (fun x L=>H x (by simp[L])) (fun x L=>G x (by simp[L])) fun c r=>?_];by_cases z:wX c s.hi≤0
   ·rw[WM f.2 z,WM g.2 z]
   ·have:=h c r;have A:vX s c=false:=by have:=wL.Lu z;simp[vX,p,show¬wX c s.hi<0 by omega]
    unfold yP at this⊢;rw[yy,yy,A]at this;exact this
  ·rw[p,zj (by simp)]at f;have:=h s.hi C.2;have E:yP (s::l) s.hi=false:=by rw[d n fun _=>by rw[wL.refl];exact jb _];simp[vX,p,wL.refl]
   have y:wX t.lo s.hi≤0:=by rw[←j];exact ZB f.1
   rw[E,d u fun e=>by rw[q]at e;cases e]at this;simp[vX,q,y]at this
  ·rw[q,zj (by simp)]at g;have:=h t.hi D.2;have E:yP (t::m) t.hi=false:=by rw[d u fun _=>by rw[wL.refl];exact jb _];simp[vX,q,wL.refl]
   have y:wX s.lo t.hi≤0:=by rw[j];exact ZB g.1
   rw[E,d n fun e=>by rw[p]at e;cases e]at this;simp[vX,p,y]at this
  ·rw[p,zf rfl]at f;rw[q,zf rfl]at g;obtain⟨a,b,c⟩:=s;obtain⟨P,Q,R⟩:=t;simp only at j p q f g;rw[f.1,g.1,j,p,q,f.2,g.2]
theorem Sa{c:Cut}(Y:0≤c.v.a∧0≤c.v.b∧0≤c.v.c):wX wA c≤0:=by
 obtain⟨⟨a,b,d,p⟩,f⟩:=c;obtain⟨k,l,m⟩:=Y;simp only at k l m;have g:∀x:Int,0≤x→ya 0 x=0∧x=0∨ya 0 x<0:=by
  intro x u;unfold ya;split
  ·right;omega
  ·split
   ·omega
   ·left;omega
 have j:yc [48] (p.headD [48])≤0:=by
  have o:xX [48]=true:=by decide
  unfold yc;rw[o];have r:Lib.trimLeftB [48] 48=[]:=by decide
  simp only[wi,r];split
  ·obtain⟨q,s⟩:∃q,Lib.trimLeftB (p.headD [48]) 48=q:=⟨_,rfl⟩;rw[s];cases q with
   |nil=>decide
   |cons x q=>
    have:ya (([]:za).length) ((x::q).length)<0:=by
     rcases g ((x::q).length) (by omega)with⟨_,h⟩|h
     ·simp at h;omega
     ·exact h
    simp only[V4];rw[zj (by omega)];omega
  ·omega
 have t:Qn ⟨0,0,0,[[48]]⟩ ⟨a,b,d,p⟩≤0:=by
  unfold Qn;simp only;rcases g a k with⟨e1,_⟩|e1
  ·rcases g b l with⟨e2,_⟩|e2
   ·rcases g d m with⟨e3,_⟩|e3
    ·have i:V4 [ya 0 a,ya 0 b,ya 0 d]=0:=by simp[V4,e1,e2,e3]
     rw[zf i,zj (by simp)];split
     ·omega
     ·cases p with
      |nil=>rename_i h;exact absurd rfl h
      |cons q p=>
       simp only[y1];split
       ·cases p<;>simp[y1]
       ·simpa using j
    ·have i:V4 [ya 0 a,ya 0 b,ya 0 d]=ya 0 d:=by simp only[V4,e1,e2,wi];rw[zj (by omega)]
     rw[i,zj (by omega)];omega
   ·have i:V4 [ya 0 a,ya 0 b,ya 0 d]=ya 0 b:=by simp only[V4,e1,wi];rw[zj (by omega)]
    rw[i,zj (by omega)];omega
  ·have i:V4 [ya 0 a,ya 0 b,ya 0 d]=ya 0 a:=by simp only[V4];rw[zj (by omega)]
   rw[i,zj (by omega)];omega
 have e:wX wA ⟨⟨a,b,d,p⟩,f⟩=if Qn ⟨0,0,0,[[48]]⟩ ⟨a,b,d,p⟩=0 then(if false=f then 0 else if f=true then -1 else 1)else Qn ⟨0,0,0,[[48]]⟩ ⟨a,b,d,p⟩:=rfl
 rw[e];by_cases n:Qn ⟨0,0,0,[[48]]⟩ ⟨a,b,d,p⟩=0
 ·rw[zf n];cases f<;>simp
 ·rw[zj n];exact t
def cC(c:Cut):Prop:=0≤c.v.a∧0≤c.v.b∧0≤c.v.c
def EM(l:List wR):Prop:=∀s∈l,cC s.lo∧cC s.hi
theorem X5:jU [yw wA]:=(Wg xm).2
theorem EN{m:List wR}{lo:Option Cut}(e:aU lo m)(a:jU m)(Y:EM m):vj and m [yw wA]=m:=by
 refine Bh (eA a X5) (Nk e) (xu _ a X5) a fun c _=>?_
 rw[oH rfl a X5];cases b:yP m c
 ·rfl
 ·have:wX wA c≤0:=by unfold yP at b;rw[lz]at b;obtain⟨s,hs,d⟩:=b;simp only[vX,zF,ql]at d;exact wL.tr _ _ _ (Sa (Y s hs).1) d.1
  simp[yP,vX,yw,this]
theorem Nl{f:Bool→Bool→Bool}(h:f false false=false)(g:∀x y,f x y=f y x){a b:List wR}(d:jU a)(e:jU b):vj f a b=vj f b a:=by
 refine Bh (eA d e) (eA e d) (xu _ d e) (xu _ e d) fun c _=>?_
 rw[oH h d e,oH h e d,g]
theorem za9(a b:Cut):aU none (fv a b):=by
 unfold fv;split
 ·trivial
 ·exact⟨fun q e=>(by cases e),by simp only[cc,zU,wK];exact⟨by omega,trivial⟩⟩
theorem Sb(a:Cut):aU none [yw a]:=⟨fun q e=>(by cases e),by simp[yw]⟩
theorem Nn(f:Bool→Bool→Bool){a b:List wR}(c:EM a)(d:EM b):EM (vj f a b):=sR (Q:=cC) (by simp[cC,QV]) f c d
noncomputable def cD (o:za) (p:Part):List wR×Bool:=if(vW (Kx o p)).2=true then((vW (Kx o p)).1,true)else([],false)
noncomputable def ZT:List wR→Bool→List bQ→Option (List wR×Bool)
 |out,b,[]=>some (out,b)
 |out,b,a::l=>if a.1=[]∧yq a.2=true then ZT out b l else match Qo a.2 with
  |none=>none
  |some p=>ZT (vj and out (cD a.1 p).1) (b&&(cD a.1 p).2) l
def X6:List bQ→Option (za×za)
 |[a,b,c]=>if b=([],[45])∧a.1=[]∧c.1=[]then some (a.2,c.2)else none
 |_=>none
noncomputable def eB (p q:Part):List wR×Bool:=if QF q=true then(fv (ZN p) (vS q),true)else([],false)
noncomputable def V8 (t:za):Option (List wR×Bool):=match kl (y9 t)with
 |none=>none
 |some l=>if l=[]then none else match X6 l with
  |some a=>match Qo a.1,Qo a.2 with
   |some p,some q=>some (eB p q)
   |_,_=>none
  |none=>ZT [yw wA] true l
noncomputable def WN:List wR→Bool→List za→Option (List wR×Bool)
 |out,a,[]=>some (out,a)
 |out,a,s::l=>match V8 s with
  |none=>none
  |some m=>WN (vj or out m.1) (a&&m.2) l
noncomputable def WO (t:za):List wR×Int:=if(400:Int)<t.length then([],2)else match WN [] true (qC t [124,124])with
 |none=>([],10)
 |some o=>if o.2=false then([],1)else if(100:Int)<o.1.length then([],2)else(o.1,0)
def Za(a:bQ):Option Zg:=if a.1=[]∧yq a.2=true then some fB else if(zY a.2).2=true then some (Kx a.1 (zY a.2).1)else none
def VI:List bQ→Option (List Zg)
 |[]=>some []
 |a::l=>match Za a with
  |none=>none
  |some c=>(VI l).map (c::·)
theorem Bi{w:za}(a:w≠[])(h:(wW wI w).2=[]):(wW wI w).1≠[]:=fun e=>by have:=QO wI w;rw[h,e]at this;exact a (by simpa using this.symm)
theorem Sc:(zY []).2=false:=by decide
theorem zba:zY [45]=(⟨0,0,0,3,[]⟩,false):=by rfl
theorem oI:∀(n:Nat) (a:List za),a.length≤n→(∀w∈a,w≠[])→yR n a=(kl a).bind VI
 |n,[],_,_=>by cases n<;>rfl
 | 0,w::a,h,_=>by simp at h
 |n+1,[w],_,g=>by
  have f:=g w (by simp);simp only[yR,kl];by_cases b:(wW wI w).2=[]
  ·have i:=Bi f b;have:kQ w []=none:=by unfold kQ;rw[zj (fun h=>i h.1),zj (fun h=>h.2.2 rfl),b,Sc];simp
   rw[this,zf b];rfl
  ·rw[zj b];have:kQ w []=(Za (wW wI w)).map fun c=>(c,[]):=by
    unfold kQ Za;by_cases d:(wW wI w).1=[]∧yq (wW wI w).2=true
    ·rw[zf d,zf d];rfl
    ·rw[zj d,zj d,zj (fun h=>h.2.2 rfl)];split<;>rfl
   rw[this];simp only[zS,VI];cases Za (wW wI w)with
   |none=>rfl
   |some c=>cases n<;>rfl
 |n+1,w::x::a,m,g=>by
  have f:=g w (by simp);simp only[qa]at m;simp only[yR,kl];by_cases b:(wW wI w).2=[]
  ·have i:=Bi f b;rw[zf b];have:kQ w (x::a)=(Za ((wW wI w).1,x)).map fun c=>(c,a):=by unfold kQ Za;rw[zj (fun h=>i h.1),zf ⟨i,b,by simp⟩,zj (fun h=>i h.1)];simp only;split<;>rfl
   rw[this];have e:=oI n a (by omega) (fun y k=>g y (by simp[k]));cases j:kl a with
   |none=>
    rw[j]at e;simp only[vU,lx];cases Za ((wW wI w).1,x)with
    |none=>rfl
    |some c=>simp only[zH,e];rfl
   |some l=>
    rw[j]at e;simp only[zH,zS,VI];cases Za ((wW wI w).1,x)with
    |none=>rfl
    |some c=>simp only[zH,e];rfl
  ·rw[zj b];have:kQ w (x::a)=(Za (wW wI w)).map fun c=>(c,x::a):=by
    unfold kQ Za;by_cases d:(wW wI w).1=[]∧yq (wW wI w).2=true
    ·rw[zf d,zf d];rfl
    ·rw[zj d,zj d,zj (fun h=>b h.2.1)];split<;>rfl
   rw[this];have e:=oI n (x::a) (by simp only[qa];omega) (fun y k=>g y (by simp[zL.1 k]));cases j:kl (x::a)with
   |none=>
    rw[j]at e;simp only[vU,lx];cases Za (wW wI w)with
    |none=>rfl
    |some c=>simp only[zH,e];rfl
   |some l=>
    rw[j]at e;simp only[zH,zS,VI];cases Za (wW wI w)with
    |none=>rfl
    |some c=>simp only[zH,e];rfl
theorem tR:∀(b:List za) (l:List bQ),(∀w∈b,w≠[])→kl b=some l→(∀a∈l,a.1=[])→b=l.map (·.2)
 |[],l,_,h,_=>by simp only[kl]at h;injection h with h;subst h;rfl
 |[w],l,d,h,c=>by
  simp only[kl]at h;split at h
  ·cases h
  ·injection h with h;subst h;have:=c (wW wI w) (by simp);have hd:=QO wI w;rw[this]at hd;simp only[qF,kp,hd,vV,yj]
 |w::x::b,l,d,h,c=>by
  simp only[kl]at h;split at h
  ·rename_i f;cases e:kl b with
   |none=>rw[e]at h;cases h
   |some l'=>rw[e]at h;simp only[zH,qw]at h;subst h;exact absurd (c ((wW wI w).1,x) (by simp)) (Bi (d w (by simp)) f)
  ·cases e:kl (x::b)with
   |none=>rw[e]at h;cases h
   |some l'=>rw[e]at h;simp only[zH,qw]at h;subst h;have g:=c (wW wI w) (by simp);have hd:=QO wI w;rw[g]at hd;rw[tR (x::b) l' (fun y i=>d y (by simp[zL.1 i])) e fun a j=>c a (by simp[j])];simp only[qF,hd,vV,yj]
theorem tS{c:UInt8}{l:za}(h:Vf c=false):Zc (c::l)=none:=by unfold Zc;rw[zj];rintro⟨a,_⟩;have:=(mY a).2;simp only[vA,qN,h,kM]at this;cases this
theorem oJ{c d:UInt8}(h:c≠d)(l:za):∃p ps,qC (c::l) [d]=(c::p)::ps:=by obtain⟨p,ps,e⟩:=R0 d l;rw[cB];exact⟨p,ps,by simp[pG,h,e]⟩
theorem zbb{c:UInt8}{l:za}(f:Vf c=false)(h:c≠45)(g:c≠46):(zY (c::l)).2=false:=by
 unfold zY;split
 ·have b:∃q,(Lib.cut (c::l) [45]).1=c::q:=by
   unfold Lib.cut;split
   ·rename_i j;have d:¬(45:UInt8)=c:=fun e=>h e.symm
    rcases Lib.index_spec l [45]with⟨e,_⟩|⟨i,e,_⟩
    ·simp[Lib.index,d,e]at j
    ·have k:Lib.index (c::l) [45]=((i+1:Nat):Int):=by
      have:¬((i:Int)=-1):=by omega
      simp[Lib.index,d,e,this]
     rw[k];exact⟨l.take i,by simp⟩
   ·exact⟨l,rfl⟩
  obtain⟨q,m⟩:=b;obtain⟨p,ps,e⟩:=oJ g q;have:uX (c::l)=none:=by
   unfold uX;rw[m,e];split
   ·rename_i a;injection a with a _
    subst a;rw[tS f]
   ·rfl
  rw[this]
 ·split
  ·rfl
  ·obtain⟨p,ps,e⟩:=oJ g l;rw[e];have:yC wO 0 ((c::p)::ps)=none:=by simp[yC,yd,tS f]
   rw[this]
theorem oK:∀(a:List za) (w:za),(wW a w).1≠[]→(wW a w).1∈a∧(wW a w).1 <+: w
 |[],w,h=>by simp[wW]at h
 |g::a,w,h=>by
  simp only[wW]at h⊢;split
  ·rename_i Y;exact⟨by simp,Fp.1 Y⟩
  ·rename_i Y;rw[zj Y]at h;have:=oK a w h;exact⟨by simp[this.1],this.2⟩
theorem I5{w:za}(h:(wW wI w).1≠[]):(zY w).2=false:=by obtain⟨a,r,b⟩:=oK wI w h;obtain⟨g,c⟩:∃g,(wW wI w).1=g:=⟨_,rfl⟩;rw[c]at a b;rw[←b];simp only[wI,zL,List.not_mem_nil,or_false]at a;rcases a with rfl|rfl|rfl|rfl|rfl|rfl|rfl<;>exact zbb (by decide) (by decide) (by decide)
theorem I6(a:bQ):Za a=none↔¬(a.1=[]∧yq a.2=true)∧Qo a.2=none:=by
 unfold Za;rw[lQ];by_cases h:a.1=[]∧yq a.2=true
 ·simp[h]
 ·rw[zj h];cases (zY a.2).2<;>simp[h]
theorem YL:∀(l:List bQ) (out:List wR) (b:Bool),ZT out b l=none↔VI l=none
 |[],out,b=>by simp[ZT,VI]
 |a::l,out,b=>by
  simp only[ZT,VI];by_cases h:a.1=[]∧yq a.2=true
  ·have:Za a=some fB:=by unfold Za;rw[zf h]
   rw[zf h,this,YL l out b];simp
  ·rw[zj h];cases d:Qo a.2 with
   |none=>rw[(I6 a).2 ⟨h,d⟩];simp
   |some p=>
    cases e:Za a with
    |none=>rw[((I6 a).1 e).2]at d;cases d
    |some c=>simp only[YL l];simp
theorem oL:∀(l:List bQ) (out:List wR) (m:List wR×Bool),ZT out false l=some m→m.2=false
 |[],out,m,h=>by simp only[ZT]at h;injection h with h;rw[←h]
 |a::l,out,m,h=>by
  simp only[ZT]at h;split at h
  ·exact oL l out m h
  ·split at h
   ·cases h
   ·exact oL l _ m (by simpa using h)
theorem Sd:vW fB=([yw wA],true):=by simp[vW,fB]
theorem Bj{p:Part}(h:p.ok):cC (ZN p):=⟨h.1.1,h.2.1.1,h.2.2.1.1⟩
theorem cE{p:Part}(h:p.ok)(i:Nat):cC (jF p i):=by have a:=h.1.1;have b:=h.2.1.1;have c:=h.2.2.1.1;unfold jF cC;split<;>simp only<;>omega
theorem oM{p:Part}(h:p.ok):cC (vS p):=by
 unfold vS;split
 ·exact cE h _
 ·exact Bj h
theorem aG:cC wA:=by simp[cC,wA]
theorem Se:cC QV:=by simp[cC,QV]
theorem VJ{a b:Cut}(c:cC a)(d:cC b):EM (fv a b):=by
 unfold fv;split
 ·intro s hs;cases hs
 ·intro s hs;rw[jy]at hs;rw[hs];exact⟨c,d⟩
theorem eC{a:Cut}(b:cC a):EM [yw a]:=fun s hs=>by rw[jy]at hs;rw[hs];exact⟨b,Se⟩
theorem Sf{c:Zg}(b:c.xz):EM (vW c).1:=by
 obtain⟨_,b⟩:=b;unfold vW;by_cases d:c.sign=jI
 ·rw[zf d];exact eC aG
 rw[zj d];obtain⟨⟨Y,_⟩,g⟩:=b.resolve_left d;have a:=Bj Y;have f:=oM Y;split
 ·exact eC a
 split
 ·exact VJ aG a
 split
 ·exact eC f
 split
 ·exact VJ aG f
 split
 ·rename_i e;exact VJ a (oM (g e).1)
 split
 ·exact VJ a (cE Y _)
 split
 ·exact VJ a (cE Y _)
 ·exact VJ a f
def rF(o:za):Prop:=o=[]∨o∈wI
theorem oN:∀(c:List za) (l:List bQ),kl c=some l→∀a∈l,rF a.1
 |[],l,h,a,b=>by simp only[kl]at h;injection h with h;subst h;cases b
 |[w],l,h,a,b=>by
  simp only[kl]at h;split at h
  ·cases h
  ·injection h with h;subst h;rw[jy]at b;rw[b];exact KE wI w
 |w::x::c,l,h,a,b=>by
  simp only[kl]at h;split at h
  ·cases e:kl c with
   |none=>rw[e]at h;cases h
   |some l'=>
    rw[e]at h;simp only[zH,qw]at h;subst h;rcases zL.1 b with rfl|b
    ·exact KE wI w
    ·exact oN c l' e a b
  ·cases e:kl (x::c)with
   |none=>rw[e]at h;cases h
   |some l'=>
    rw[e]at h;simp only[zH,qw]at h;subst h;rcases zL.1 b with rfl|b
    ·exact KE wI w
    ·exact oN (x::c) l' e a b
theorem Ql{s:za}{p:Part}(h:Qo s=some p):(zY s).2=true∧(zY s).1=p∧p.ok∧QI p.pre:=by
 rw[lQ]at h;split at h
 ·rename_i e;injection h with h
  have:=KD e;rw[h]at this;exact⟨e,h,this⟩
 ·cases h
theorem EO{o:za}{p:Part}(a:rF o)(Y:p.ok)(b:QI p.pre):(Kx o p).xz:=by have:=Dh a;exact⟨this.1,.inr ⟨⟨Y,b⟩,fun e=>absurd e this.2⟩⟩
theorem gr:∀(l:List bQ) (out:List wR) (cs:List Zg) (m:List wR×Bool),(∀a∈l,rF a.1)→aU none out→jU out→EM out→VI l=some cs→ZT out true l=some m→VZ cs out=if m.2=true then some m.1 else none
 |[],out,cs,m,_,_,_,_,c,d=>by
  simp only[VI]at c;simp only[ZT]at d;injection c with c
  injection d with d;subst c;subst d;rfl
 |a::l,out,cs,m,hs,q,i,j,c,d=>by
  simp only[VI]at c;simp only[ZT]at d;have g:∀b∈l,rF b.1:=fun b s=>hs b (by simp[s])
  by_cases h:a.1=[]∧yq a.2=true
  ·have k:Za a=some fB:=by unfold Za;rw[zf h]
   rw[zf h]at d;rw[k]at c;simp only at c;cases e:VI l with
   |none=>rw[e]at c;cases c
   |some f=>rw[e]at c;simp only[zH,qw]at c;subst c;simp only[VZ,Sd,wi];rw[EN q i j];exact gr l out f m g q i j e d
  ·rw[zj h]at d;cases n:Qo a.2 with
   |none=>rw[n]at d;cases d
   |some p=>
    rw[n]at d;simp only at d;obtain⟨t,u,v,w⟩:=Ql n;have k:Za a=some (Kx a.1 p):=by unfold Za;rw[zj h,zf t,u]
    rw[k]at c;simp only at c;cases e:VI l with
    |none=>rw[e]at c;cases c
    |some f=>
     rw[e]at c;simp only[zH,qw]at c;subst c;have o:=EO (hs a (by simp)) v w;simp only[VZ];unfold cD at d;cases r:(vW (Kx a.1 p)).2
     ·rw[r]at d;simp only[zU,wK,zh2]at d⊢;rw[oL l _ m d];simp
     ·rw[r]at d;simp only[wi,ae]at d⊢;exact gr l _ f m g (eA i (ax o).2) (xu and i (ax o).2) (Nn and j (Sf o)) e d
theorem aH:∀(l:List bQ),(∃a∈l,a.2=[45])→VI l=none
 |[],h=>by obtain⟨a,d,_⟩:=h;cases d
 |a::l,h=>by
  simp only[VI];obtain⟨b,c,e⟩:=h;rcases zL.1 c with rfl|c
  ·have:Za b=none:=by unfold Za;rw[e,zba];simp[yq]
   rw[this]
  ·rw[aH l ⟨b,c,e⟩];cases Za a<;>rfl
theorem zet(t:za):∀w∈y9 t,w≠[]:=fun w a=>by unfold y9 wQ at a;have:=(zc7.1 a).2;simpa[pD]using this
theorem Np{l:List bQ}{a:za×za}(h:X6 l=some a):l=[([],a.1),([],[45]),([],a.2)]:=by
 unfold X6 at h;split at h
 ·rename_i x y z;split at h
  ·rename_i d;injection h with h
   obtain⟨e,b,c⟩:=d;obtain⟨f,g⟩:=x;obtain⟨i,j⟩:=z;simp only at b c h;rw[←h,e,b,c]
  ·cases h
 ·cases h
theorem X7:wW wI [45]=([],[45]):=by decide
theorem EP(t:za):((QU t).2=false→V8 t=none)∧((QU t).2=true→∃m,V8 t=some m∧VZ (QU t).1 [yw wA]=if m.2=true then some m.1 else none):=by
 have w:=zet t;have I:∀ws,y9 t=ws→QU t=(match yR ws.length ws with
   |some l=>(l,!l.isEmpty)
   |none=>([],false))→(∀l,kl ws=some l→X6 l=none)→((QU t).2=false→V8 t=none)∧((QU t).2=true→∃m,V8 t=some m∧VZ (QU t).1 [yw wA]=if m.2=true then some m.1 else none):=by
  intro ws n B hd;rw[n]at w;rw[oI ws.length ws (ze _) w]at B;rw[B];unfold V8;rw[n];cases C:kl ws with
  |none=>exact⟨fun _=>rfl,fun h=>by cases h⟩
  |some l=>
   have J:=hd l C;simp only[zS];by_cases f:l=[]
   ·subst f;simp[VI]
   ·rw[zj f,J];simp only;have D:=YL l [yw wA] true;cases s:VI l with
    |none=>exact⟨fun _=>D.2 s,fun h=>by cases h⟩
    |some cs=>
     have Q:cs≠[]:=by
      cases l with
      |nil=>exact absurd rfl f
      |cons a l=>
       simp only[VI]at s;split at s
       ·cases s
       ·cases h:VI l<;>rw[h]at s<;>simp at s;rw[←s];simp
     have E:cs.isEmpty=false:=by cases cs<;>simp_all
     cases H:ZT [yw wA] true l with
     |none=>rw[D.1 H]at s;cases s
     |some m=>exact⟨fun h=>by simp[E]at h,fun _=>⟨m,rfl,gr l _ cs m (oN ws l C) (Sb _) X5 (eC aG) s H⟩⟩
 obtain⟨ws,n⟩:∃ws,y9 t=ws:=⟨_,rfl⟩;by_cases g:∃a c,ws=[a,[45],c]
 ·obtain⟨a,c,rfl⟩:=g;have B:QU t=([⟨[45],(zY a).1,(zY c).1⟩],(zY a).2&&(zY c).2):=by unfold QU;rw[gq,n];simp
  rw[n]at w;have F:a≠[]:=w a (by simp);have K:c≠[]:=w c (by simp);by_cases i:(wW wI a).1=[]
  ·by_cases u:(wW wI c).1=[]
   ·have G:wW wI a=([],a):=by have:=QO wI a;rw[i]at this;exact Th i (by simpa using this)
    have M:wW wI c=([],c):=by have:=QO wI c;rw[u]at this;exact Th u (by simpa using this)
    have C:kl [a,[45],c]=some [([],a),([],[45]),([],c)]:=by rw[YK _ _ (by rw[G];exact F),YK _ _ (by rw[X7];simp),YK _ _ (by rw[M];exact K),G,M,X7];rfl
    have H:V8 t=match Qo a,Qo c with
      |some p,some q=>some (eB p q)
      |_,_=>none:=by
     unfold V8;rw[n,C];simp only[Tj,wK,reduceCtorEq];rfl
    rw[H,B];cases j:Qo a with
    |none=>
     rw[lQ]at j;have:(zY a).2=false:=by
      cases h:(zY a).2 with
      |false=>rfl
      |true=>rw[h]at j;simp at j
     rw[this];exact⟨fun _=>rfl,fun h=>by cases h⟩
    |some p=>
     obtain⟨R,S,T,U⟩:=Ql j;cases v:Qo c with
     |none=>
      rw[lQ]at v;have:(zY c).2=false:=by
       cases h:(zY c).2 with
       |false=>rfl
       |true=>rw[h]at v;simp at v
      rw[this,zh2];exact⟨fun _=>rfl,fun h=>by cases h⟩
     |some q=>
      obtain⟨W,X,q3,q4⟩:=Ql v;rw[R,W,S,X];refine⟨fun h=>(by cases h),fun _=>⟨eB p q,rfl,?_⟩⟩;have hs:vW ⟨[45],p,q⟩=(fv (ZN p) (vS q),QF q):=by simp[vW,jI]
      simp only[VZ,hs];unfold eB;have N:jU (fv (ZN p) (vS q)):=(WG (nA U) (aw q4)).2;cases P:QF q
      ·simp
      ·simp only[wi];rw[Nl rfl Bool.and_comm X5 N,EN (za9 _ _) N (VJ (Bj T) (oM q3))]
   ·have o:(QU t).2=false:=by rw[B,I5 u,zh2]
    refine⟨fun _=>?_,fun h=>by rw[o]at h;cases h⟩;have G:wW wI a=([],a):=by have:=QO wI a;rw[i]at this;exact Th i (by simpa using this)
    unfold V8;rw[n,YK _ _ (by rw[G];exact F),YK _ _ (by rw[X7];simp)];simp only[kl];split
    ·rfl
    ·rename_i l f;cases d:(if(wW wI c).2=[]then none else some [wW wI c]:Option (List bQ))with
     |none=>rw[d]at f;cases f
     |some k=>
      have P:k=[wW wI c]:=by
       split at d
       ·cases d
       ·injection d with d;exact d.symm
      rw[d]at f;simp only[zH,qw,G,X7]at f;subst f;subst P;simp only[Tj,wK,reduceCtorEq];have r:X6 [(([]:za),a),([],[45]),wW wI c]=none:=by simp[X6,u]
      rw[r];simp only;rw[YL];exact aH _ ⟨([],[45]),by simp,rfl⟩
  ·have o:(QU t).2=false:=by rw[B,I5 i];rfl
   refine⟨fun _=>?_,fun h=>by rw[o]at h;cases h⟩;unfold V8;rw[n];simp only[kl];by_cases j:(wW wI a).2=[]
   ·rw[zf j];split
    ·rfl
    ·rename_i l f;cases d:(if(wW wI c).2=[]then none else some [wW wI c]:Option (List bQ))with
     |none=>rw[d]at f;cases f
     |some k=>
      rw[d]at f;simp only[zH,qw]at f;subst f;simp only[Tj,wK,reduceCtorEq];have r:X6 (((wW wI a).1,[45])::k)=none:=by
       unfold X6;split
       ·rename_i x y z A;injection A with L _
        rw[←L];simp[i]
       ·rfl
      rw[r];simp only;rw[YL];exact aH _ ⟨((wW wI a).1,[45]),by simp,rfl⟩
   ·rw[zj j];simp only[X7,Tj,wK,reduceCtorEq];split
    ·rfl
    ·rename_i l f;cases d:(if(wW wI c).2=[]then none else some [wW wI c]:Option (List bQ))with
     |none=>rw[d]at f;cases f
     |some k=>
      rw[d]at f;simp only[zH,qw]at f;subst f;simp only[Tj,wK,reduceCtorEq];have r:X6 (wW wI a::([],[45])::k)=none:=by
       unfold X6;split
       ·rename_i x y z A;injection A with L _
        rw[←L];simp[i]
       ·rfl
      rw[r];simp only;rw[YL];exact aH _ ⟨([],[45]),by simp,rfl⟩
 ·refine I ws n ?_ ?_
  ·unfold QU;rw[gq,n];split
   ·rename_i a b c;rw[zj (fun e=>g ⟨a,c,by rw[e]⟩)];rfl
   ·rfl
  ·intro l C;cases hd:X6 l with
   |none=>rfl
   |some a=>have f:=Np hd;rw[n]at w;have:=tR ws l w C (by rw[f];simp);rw[f]at this;exact absurd ⟨a.1,a.2,this⟩ g
theorem cF:∀(l:List za) (out:List wR) (a:Bool),WN out a l=none↔pE l=none
 |[],out,a=>by simp[WN,pE]
 |s::l,out,a=>by
  obtain⟨b,c⟩:=EP s;simp only[WN,pE];cases h:(QU s).2
  ·rw[b h];simp
  ·obtain⟨m,e,_⟩:=c h;rw[e];simp only[cF l,wi];cases pE l<;>simp
theorem tT:∀(l:List za) (out:List wR) (m:List wR×Bool),WN out false l=some m→m.2=false
 |[],out,m,h=>by simp only[WN]at h;injection h with h;rw[←h]
 |a::l,out,m,h=>by
  simp only[WN]at h;split at h
  ·cases h
  ·exact tT l _ m (by simpa using h)
theorem oO:∀(l:List za) (out:List wR) (d:List (List Zg)) (m:List wR×Bool),pE l=some d→WN out true l=some m→dH d out=if m.2=true then some m.1 else none
 |[],out,d,m,a,b=>by
  simp only[pE]at a;simp only[WN]at b;injection a with a
  injection b with b;subst a;subst b;rfl
 |s::l,out,d,m,a,b=>by
  obtain⟨n,i⟩:=EP s;simp only[pE]at a;simp only[WN]at b;cases h:(QU s).2
  ·rw[h]at a;simp at a
  ·rw[h]at a;simp only[wi]at a;obtain⟨k,e,j⟩:=i h;rw[e]at b;simp only[yZ]at b;cases f:pE l with
   |none=>rw[f]at a;cases a
   |some g=>
    rw[f]at a;simp only[zH,qw]at a;subst a;simp only[dH,j];cases c:k.2
    ·rw[c]at b;rw[tT l _ m b];simp
    ·rw[c]at b;simp only[wi];exact oO l _ g m f b
theorem Bm(t:za):WO t=QJ t:=by
 unfold WO QJ;split
 ·rfl
 ·cases a:pE (qC t [124,124])with
  |none=>rw[(cF _ [] true).2 a]
  |some c=>
   cases b:WN [] true (qC t [124,124])with
   |none=>rw[(cF _ _ _).1 b]at a;cases a
   |some m=>
    have:=oO _ _ c m a b;simp only[this];cases d:m.2
    ·simp
    ·simp
noncomputable def Yd (o:za) (v:yJ) (m:Int):O:=.yb [.sl 11 (qz (cD o (v.part m)).1),int (if(cD o (v.part m)).2=true then 0 else 1)]
noncomputable def FOVI:zc→Option O:=qv (α:=za×yJ×Int) (fun a=>[str a.1,.agg a.2.1.V,int a.2.2]) (fun a=>rF a.1∧a.2.1.ok∧1≤a.2.2∧a.2.2≤3) (fun a=>Yd a.1 a.2.1 a.2.2)
theorem Nq(o:za)(v:yJ)(m:Int)(Y:Hp)(Z:Nat)(c:rF o)(d:v.ok)(f:1≤m∧m≤3):qh [.a,.g vB] FOVI [str o,.agg v.V,int m] Y Z=some (Yd o v m,Y,Z):=
 ju (show zA Y [str o,.agg v.V,int m]=some ([str o,.agg v.V,int m],Y) by simp[yJ.V]) (by
  show FOVI [str o,(Sh.g vB).fix (.agg v.V),int m]=_;rw[KQ];exact zJ (V:=fun a:List UInt8×yJ×Int=>[str a.1,O.agg a.2.1.V,int a.2.2]) (a:=(o,v,m)) (fun x y e=>by obtain⟨j,k,l⟩:=x;obtain⟨n,p,q⟩:=y;simp only[zh,zK]at e;obtain⟨h,b,i⟩:=e;injection b with b;rw[wx h,Kp b,qn i]) ⟨c,d,f⟩) (.inr (by simp[yJ.V]))
abbrev qst:List Nat:=[250,278,282,283]
noncomputable abbrev Crst:Ctx:=qb prog [(277,qh [.g vB] (T8 Wz fun m=>1≤m∧m≤3)),(250,qh [] (YU fw)),(278,qh [.g ka,.g ka] (CU Vj)),(282,qh [.g vB] (T8 Zr fun i=>0≤i∧i<3)),(283,qh [.g vB] (T8 x0 fun m=>1≤m∧m≤3))]
theorem zbc:AM.Good Crst (fun g=>qst.contains g):=zI mixed ⟨ez,by simp,ew,fun _=>jx _ _,iq,fun _=>jx _ _,bO,fun _=>jx _ _,Ba,fun _=>jx _ _,trivial⟩
theorem yJ.ok.small{v:yJ}(h:v.ok):vP v.pre:=h.2.2.2
theorem rG(o:za)(v:yJ)(m:Int)(ho:rF o)(H:v.ok)(S:1≤m∧m≤3):∃T,zz Crst f253 [str o,.agg v.V,int m]=some T∧qM T (Yd o v m):=by
 refine y8 (sh:=.s 11 jM) rfl ?_;have J:=H.small;have g:=fun Y Z=>X0 Wz (fun m=>1≤m∧m≤3) v m (.agg v.V) Y Z H S (KQ v) (X1 v Y) (X2 v)
 have r:=fun Y Z=>X0 x0 (fun m=>1≤m∧m≤3) v m (.agg v.V) Y Z H S (KQ v) (X1 v Y) (X2 v)
 have u:=fun(i:Int) (B:0≤i∧i<3) Y Z=>X0 Zr (fun i=>0≤i∧i<3) v i (.agg v.V) Y Z H B (KQ v) (X1 v Y) (X2 v)
 have w:∀(Y:Hp) (Z:Nat),qh [] (YU fw) [] Y Z=some (.agg [int wA.v.a,int wA.v.b,int wA.v.c,.sl 1 (qd wA.v.pre),wq wA.after],Y,Z):=fun Y Z=>We _ Y Z
 have k:ZN (v.part m)=⟨v,false⟩:=rfl;have l:vP (v.part m).pre:=J;have C:=fun Y Z=>Ww wA (ZN (v.part m)) Y Z Ak (Qg l)
 have x:=fun Y Z=>Ww wA (vS (v.part m)) Y Z Ak (Wf l)
 have y:=fun Y Z=>Ww (ZN (v.part m)) (vS (v.part m)) Y Z (Qg l) (Wf l)
 have z:=fun i Y Z=>Ww (ZN (v.part m)) (jF (v.part m) i) Y Z (Qg l) (Vk _ i)
 have D:=fun i=>im v 3 m i
 simp only[Vj,k,yJ.V,Cut.V,Wz,Jz,x0,Zr,vE,(D _).1,(D _).2]at g r u C x y z;have U:IntKind.i64.wrap (m-1)=m-1:=zn (by omega) (by omega);have E:(v.part m).has=m:=rfl;have F:∀o':za,o'=o→o'≠jI:=fun o' e=>by
  subst e;rcases ho with rfl|ho
  ·decide
  ·intro e;rw[e]at ho;revert ho;decide
 have K:o≠[45]:=by
  rcases ho with rfl|ho
  ·decide
  ·intro e;rw[e]at ho;revert ho;decide
 have n0:=F o rfl;have one:∀(X:List wR) (b:Bool),vW (Kx o (v.part m))=(X,b)→cD o (v.part m)=if b=true then(X,true)else([],false):=fun X b h=>by unfold cD;rw[h]
 by_cases L:o=[62,61]
 ·subst L;have d:=one [yw (ZN (v.part m))] true (by simp[vW,Kx,jI]);simp at d;simp[yJ.V,Cut.V,g,zR,qc,zv,zN,zy,qL,Yd,d,k,qz,yw,wR.V,QV,f253]
 have n:(o==[62,61])=false:=by simpa using L
 by_cases M:o=[60]
 ·subst M;have d:=one (fv wA (ZN (v.part m))) true (by simp[vW,Kx,jI]);simp at d;simp[yJ.V,Cut.V,g,w,C,n,zR,qc,zv,zN,zy,qL,Yd,d,k,qz,wR.V,f253]
 have q:(o==[60])=false:=by simpa using M
 by_cases N:o=[62]
 ·subst N;have d:=one [yw (vS (v.part m))] (QF (v.part m)) (by simp[vW,Kx,jI]);cases j:QF (v.part m)
  ·rw[j]at d g;simp at d;simp[yJ.V,Cut.V,g,n,q,zR,qc,zv,zN,zy,qL,Yd,d,qz,f253]
  ·rw[j]at d g;simp at d;simp[yJ.V,Cut.V,g,n,q,zR,qc,zv,zN,zy,qL,Yd,d,qz,yw,wR.V,QV,f253]
 have t:(o==[62])=false:=by simpa using N
 by_cases P:o=[60,61]
 ·subst P;have d:=one (fv wA (vS (v.part m))) (QF (v.part m)) (by simp[vW,Kx,jI]);cases j:QF (v.part m)
  ·rw[j]at d g;simp at d;simp[yJ.V,Cut.V,g,w,x,n,q,t,zR,qc,qL,Yd,d,qz,f253]
  ·rw[j]at d g;simp at d;simp[yJ.V,Cut.V,g,w,x,n,q,t,zR,qc,qL,Yd,d,qz,wR.V,Cut.V,f253]
 have A:(o==[60,61])=false:=by simpa using P
 by_cases Q:o=[126]
 ·subst Q;have d:=one (fv (ZN (v.part m)) (jF (v.part m) (min (m-1) 1).toNat)) (v7 (v.part m) (min (m-1) 1).toNat) (by simp[vW,Kx,jI,E]);have G:(if 1<m-1 then 1 else m-1)=(((min (m-1) 1).toNat:Nat):Int):=by split<;>omega
  have hmn:(min (m-1) 1).toNat<3:=by omega
  have f:=u (((min (m-1) 1).toNat:Nat):Int) (by omega);simp only[Int.toNat_natCast]at f;rw[←G]at f;obtain⟨i,B⟩:∃i,(min (m-1) 1).toNat=i:=⟨_,rfl⟩;rw[B]at d f;have p:=fun Y Z=>z i Y Z
  cases j:v7 (v.part m) i
  ·rw[j]at d f;simp at d;simp[yJ.V,Cut.V,g,U,f,p,n,q,t,A,zR,qc,qL,Yd,d,qz,f253]
  ·rw[j]at d f;simp at d;simp[yJ.V,Cut.V,g,U,f,p,n,q,t,A,zR,qc,qL,Yd,d,k,qz,wR.V,f253]
 have I:(o==[126])=false:=by simpa using Q
 by_cases R:o=[94]
 ·subst R;have d:=one (fv (ZN (v.part m)) (jF (v.part m) (j6 (v.part m)))) (v7 (v.part m) (j6 (v.part m))) (by simp[vW,Kx,jI]);have hci:=Mi (v.part m);have f:=u ((j6 (v.part m):Nat):Int) (by omega);simp only[Int.toNat_natCast]at f;obtain⟨i,B⟩:∃i,j6 (v.part m)=i:=⟨_,rfl⟩;rw[B]at d f r;have p:=fun Y Z=>z i Y Z
  cases j:v7 (v.part m) i
  ·rw[j]at d f;simp at d;simp[yJ.V,Cut.V,g,r,f,p,n,q,t,A,I,zR,qc,qL,Yd,d,qz,f253]
  ·rw[j]at d f;simp at d;simp[yJ.V,Cut.V,g,r,f,p,n,q,t,A,I,zR,qc,qL,Yd,d,k,qz,wR.V,f253]
 have W:(o==[94])=false:=by simpa using R
 have d:=one (fv (ZN (v.part m)) (vS (v.part m))) (QF (v.part m)) (by simp[vW,Kx,n0,L,M,N,P,K,Q,R]);cases j:QF (v.part m)
 ·rw[j]at d g;simp at d;simp[yJ.V,Cut.V,g,y,n,q,t,A,I,W,zR,qc,qL,Yd,d,qz,f253]
 ·rw[j]at d g;simp at d;simp[yJ.V,Cut.V,g,y,n,q,t,A,I,W,zR,qc,qL,Yd,d,k,qz,wR.V,f253]
theorem oP:zg prog 253 (qh [.a,.g vB] FOVI):=
 wo (fn:=f253) zbc ⟨_,func253,by kernel_rfl,rfl,by kernel_rfl⟩ _ _ fun args r h=>by obtain⟨⟨o,v,m⟩,rfl,⟨b,c,d⟩,rfl⟩:=zr h;obtain⟨e,f,i⟩:=rG o v m b c d;exact⟨by simp[f253],e,f,i⟩
def Wq(l:List bQ):List zc:=l.map fun a=>[str a.1,str a.2]
def ll(s:za):List bQ×Bool:=match kl (y9 s)with
 |some l=>(l,!l.isEmpty)
 |none=>([],false)
def rH(s:za):O:=.yb [.sl 2 (Wq (ll s).1),wq (ll s).2]
noncomputable abbrev Crwo:Ctx:=qb prog [(273,zi false [] (Jv tbP fun _ b=>uU b)),(275,zi false [] (Oe HM)),(274,zi false [] (Jv tlP fun _ b=>uU b)),(276,zi false [] (FSB ibP))]
theorem zbd:AM.Good Crwo (fun g=>([]:List Nat).contains g):=zI mixed ⟨CJ,by simp,lk,by simp,YS,by simp,iQ,by simp,trivial⟩
theorem tU(a:za)(Y:Hp)(Z:Nat)(h:a.length≤zG):zi false [] (Jv tlP fun _ b=>uU b) [str a,str [32]] Y Z=some (str (Lib.trimLeftB a 32),Y,Z):=ZM _ _ a [32] Y Z h (by decide) ⟨32,rfl,by decide⟩ rfl
theorem Nr(a:za)(Y:Hp)(Z:Nat)(h:a.length≤zG):zi false [] (Jv tbP fun _ b=>uU b) [str a,str [32]] Y Z=some (str (Lib.trimB a 32),Y,Z):=ZM _ _ a [32] Y Z h (by decide) ⟨32,rfl,by decide⟩ rfl
theorem Sg:∀s:za,(Lib.indexByte s 32=((hd s).length:Int)∧(hd s).length<s.length)∨(Lib.indexByte s 32=-1∧hd s=s)
 |[]=>.inr ⟨rfl,rfl⟩
 |c::s=>by
  by_cases a:c=32
  ·subst a;exact .inl ⟨by simp[Lib.indexByte,hd],by simp[hd]⟩
  ·have b:hd (c::s)=c::hd s:=by simp[hd,a]
   rcases Sg s with⟨d,e⟩|⟨d,e⟩
   ·refine .inl ⟨?_,by rw[b];simpa using e⟩;rw[b];have:¬Lib.indexByte s 32=-1:=by omega
    simp[Lib.indexByte,a,d]
    try omega
   ·refine .inr ⟨?_,by rw[b,e]⟩;simp[Lib.indexByte,a,d]
theorem zbe(s:za):s.take (hd s).length=hd s∧s.drop (hd s).length=tl s:=by have h:=ir s;exact⟨(List.prefix_iff_eq_take.1 ⟨tl s,h⟩).symm,by have:=zD (List.drop (hd s).length) h;simpa using this.symm⟩
def Ns:O→Nat
 | .v (.string s)=>s.size
 |_=>0
theorem oQ(l:List bQ):(Wq l).length=l.length:=by simp[Wq]
theorem Si(l:List bQ):(Wq l).map (Z4 [none,none])=Wq l:=by simp[Wq]
def WoI(b:za)(a:St):Prop:=∃(s:za) (l:List bQ),a.σ 0=str s∧I2 s∧s.length+l.length≤b.length∧q6 a.Y a.Z 270 2 (a.σ 4) (Wq l)∧kl (y9 b)=(kl (y9 s)).map (l++·)
theorem Sj{b s:za}{l:List bQ}{a:bQ}{st:St}(c:st.σ 0=str (Lib.trimLeftB s 32))(hs:(Lib.trimLeftB s 32).length+(l.length+1)≤b.length)(d:q6 st.Y st.Z 270 2 (st.σ 4) (Wq l++[[str a.1,str a.2]]))(e:kl (y9 b)=(kl (y9 s)).map (fun x=>l++[a]++x)):WoI b st:=
 ⟨Lib.trimLeftB s 32,l++[a],c,JI s,by simpa using hs,by simpa[Wq]using d,by rw[e,aD]⟩
theorem ER(t:za)(ht:t.length≤zG):∃r0,zz Crwo f248 [str t]=some r0∧qM r0 (rH t):=by
 refine y8 (sh:=.s 2 [none,none]) rfl ?_;have W:=fun Y Z=>Nr t Y Z ht
 have H:(Lib.trimB t 32).length≤t.length:=by
  have h1:=aE (Lib.trimRightB t 32);have h2:(Lib.trimRightB t 32).length≤t.length:=by unfold Lib.trimRightB;rw[List.length_reverse];exact zC (List.dropWhile_sublist _).length_le (by simp)
  exact zC h1 h2
 have hR:∀l:List bQ,kl (y9 t)=some l→ll t=(l,!l.isEmpty):=fun l h=>by unfold ll;rw[h]
 have hN:kl (y9 t)=none→ll t=([],false):=fun h=>by unfold ll;rw[h]
 simp[W];refine Zi (WoI t) (fun st=>Ns (st.σ 0)) ⟨Lib.trimB t 32,[],by simp,JI _,by simpa using H,.inl ⟨by simp,rfl⟩,by rw[R3];cases kl (y9 t)<;>rfl⟩ ?_;rintro⟨σ,Y,Z⟩ ⟨s,l,u,X,N5,hO,I⟩;simp only at u hO;by_cases hs:s=[]
 ·subst hs;have he':kl (y9 t)=some l:=by rw[I,Bb];simp[kl]
  have J:=hR l he';have hfx:=Si l;have j:=oQ l;have hb1:(decide (0<l.length))=!l.isEmpty:=by cases l<;>simp
  rcases hO with⟨T,hn⟩|⟨id,hid,T,hb⟩
  ·have hl:l=[]:=by simpa[Wq]using hn
   subst hl;simp[u,T,qL,rH,J,Wq,f248]
  ·rw[j]at T;have f:(Wq l).take l.length=Wq l:=qp (by omega);simp[u,T,hb,j,f,hfx,hb1,qL,rH,J,f248]
 ·have hh:hd s≠[]:=X.resolve_left hs;have k:s.isEmpty=false:=by cases s with
   |nil=>exact absurd rfl hs
   |cons c s=>rfl
  have b:=R7 hh;have g:=fun h=>R8 (s:=s) h
  unfold zG at ht;have C:s.length≤zG:=by unfold zG;omega
  have d:=fun Y Z=>dj HM s Y Z C rfl
  have D:=QO wI s;have i:(wW wI s).1.length≤s.length:=by
   rcases KE wI s with h|h
   ·rw[h];simp
   ·by_cases m:(wW wI s).1=[]
    ·rw[m];simp
    ·exact(oK wI s m).2.length_le
  have E:=Vm wI s;simp only[HM]at d;unfold Bf at b g;simp only at b g;obtain⟨o,r,hor⟩:∃o r,wW wI s=(o,r):=⟨_,_,rfl⟩;rw[hor]at d D i E b g;simp only at d D i E b g;have n:=fun Y Z=>tU r Y Z (by unfold zG;omega)
  have f:(s.drop o.length).take (s.length-o.length)=r:=by rw[D];exact qp (by simp)
  obtain⟨s1,K⟩:∃s1,Lib.trimLeftB r 32=s1:=⟨_,rfl⟩;have hs1l:s1.length≤s.length:=by rw[←K];exact zC (aE r) E
  rw[K]at n b g;have w:∀Y Z,zi false [] (FSB ibP) [str s1,.v (.int .u8 32)] Y Z=some (int (Lib.indexByte s1 32),Y,Z):=fun Y Z=>Pg ibP s1 32 Y Z (by unfold zG;omega) rfl
  obtain⟨L,M⟩:=zbe s1;have B:(s1.drop (hd s1).length).take (s1.length-(hd s1).length)=tl s1:=by rw[M];exact qp (by rw[←M];simp)
  have N:(hd s1).length≤s1.length:=by have:=zD List.length (ir s1);rw[ye]at this;omega
  have p:=fun Y Z=>tU (tl s1) Y Z (by have:=zD List.length (ir s1);rw[ye]at this;unfold zG;omega)
  have j:=oQ l;have F:=q6.yx (P:=prog) (t:=266) (c:=[str o,str (hd s1)]) hO zhc zhd zhe zhf rfl (by omega) (by rw[j];unfold maxLen;omega) (by rw[j];omega);have hoe:(s.isEmpty)=false:=k;by_cases m:hd s1=[]
  ·rw[zf m]at b;rw[b]at I;have J:=hN I;rcases Sg s1 with⟨y,hil⟩|⟨y,q⟩
   ·rw[m]at y;simp at y;simp[u,hs,k,d,i,f,n,w,y,qL,rH,J,Wq,f248]
   ·have Q:s1=[]:=by rw[←q];exact m
    subst Q;simp[u,hs,k,d,i,f,n,w,y,qL,rH,J,Wq,f248]
  ·have hlt':=g m;rw[zj m]at b;rw[b]at I;have z:¬(hd s1).length=0:=fun e=>m (qo.1 e)
   have R:=aE (tl s1);have A:kl (y9 t)=(kl (y9 (tl s1))).map (fun x=>l++[((o,hd s1):bQ)]++x):=by rw[I];cases kl (y9 (tl s1))<;>simp
   have U:Ns (str (Lib.trimLeftB (tl s1) 32))<Ns (σ 0):=by rw[u];simp[Ns];omega
   rw[u]at U;have hnn:¬((hd s1).length:Int)<0:=by omega
   have G:(((hd s1).length:Int)==0)=false:=by simpa using m
   rcases Sg s1 with⟨y,hil⟩|⟨y,q⟩
   ·simp[u,hs,k,d,i,f,n,w,y,hnn,G,m,z,N,L,B,p,F,zR,qc,zv,zN,zy];exact⟨Sj (s:=tl s1) (l:=l) (a:=(o,hd s1)) (by simp) (by omega) (by simpa using q6.after) A,by simpa[Ns]using U⟩
   ·rw[q]at z L B N F A;have S:s1≠[]:=fun e=>z (by rw[e];rfl)
    rw[q]at G;have hte:tl s1=[]:=by have:=zD List.length (ir s1);rw[ye,q]at this;exact qo.1 (by omega)
    rw[hte]at p A R U;simp[u,hs,k,d,i,f,n,w,y,G,z,S,p,F,zR,qc,zv,zN,zy];exact⟨Sj (s:=[]) (l:=l) (a:=(o,s1)) (by simp) (by have h9:=kz.2 hs;rw[show Lib.trimLeftB [] 32=[]from rfl,vV];omega) (by simpa using q6.after) A,by simpa[Ns]using U⟩
theorem Bn:zg prog 248 (zi false [] (Oe rH)):=
 jD (fn:=f248) zbd ⟨_,func248,by kernel_rfl,rfl,by kernel_rfl⟩ false [] _ fun args r h w S vs a=>by obtain⟨l,rfl,Y,rfl⟩:=zr h;obtain⟨b,c,d⟩:=ER l Y;exact⟨_,b,a,by simp[f248],c,d⟩
end Go.Q
