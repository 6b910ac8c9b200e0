/- Lemmas. -/
import Derived.Laws.CopyRow
import Derived.Lib.Overlaps
import Derived.Lib.AppendZerosOnto
import Derived.Laws.NewBlocks
import Derived.Shelf.Spec.SlicesInsert
import Derived.Test.YtdlbkbojibiiaaaGreatDoorG8
set_option maxRecDepth 100000
set_option maxHeartbeats 4000000
open Go Proofs Proofs.YtdlbkbojibiiaaaGreatDoor Proofs.Tryz RowKit AM SpanLaw Q Zz
open Go.IntKind renaming i64→i6
namespace Go.Q
theorem TO.ltle{α:Type}{c:α->α->Int}(h:TO c){x y z:α}(d:c x y<0)(a:c y z<=0):c x z<0:=by
 rcases Qk a with a|a
 ·exact h.trans d a
 ·have e:=h.tr x y z (by omega) (by omega);rcases Qk e with b|b
  ·exact b
  ·have f:=(h.eq y z).1 a;have g:=(h.eq x z).1 b;have:=h.tr y z x (by omega) (by omega);have:=(h.flip x y).1 d;omega
theorem TO.lelt{α:Type}{c:α->α->Int}(h:TO c){x y z:α}(b:c x y<=0)(d:c y z<0):c x z<0:=by
 have e:=h.tr x y z b (by omega);rcases Qk e with a|a
 ·exact a
 ·have f:=(h.eq x z).1 a;have:=h.tr z x y (by omega) b;have:=(h.flip y z).1 d;omega
theorem TO.irr{α:Type}{c:α->α->Int}(h:TO c)(x:α):¬c x x<0:=by rw[h.refl];omega
theorem TO.zge{α:Type}{c:α->α->Int}(h:TO c){x y:α}(a:¬c x y<0):c y x<=0:=(h.le y x).2 (by omega)
theorem TO.OK{α:Type}{c:α->α->Int}(h:TO c){x y:α}(a:¬c x y<=0):c y x<0:=(h.flip y x).2 (by omega)
theorem orL2{a b:Int}(h:Xb [a,b]=0):a=0/\b=0:=by
 simp only[Xb]at h;split at h
 ·rename_i e;split at h
  ·rename_i c;exact⟨e,c⟩
  ·rename_i c;exact absurd h c
 ·rename_i e;exact absurd h e
theorem orL3{a b c:Int}(h:Xb [a,b,c]=0):a=0/\b=0/\c=0:=by
 simp only[Xb]at h;split at h
 ·rename_i e;split at h
  ·rename_i d;split at h
   ·rename_i f;exact⟨e,d,f⟩
   ·rename_i f;exact absurd h f
  ·rename_i d;exact absurd h d
 ·rename_i e;exact absurd h e
theorem Mj{p q:za}(Y:yS p=true)(j:yS q=true)(h:Lib.trimLeftB p 48=Lib.trimLeftB q 48):p=q:=by
 have a:∀p:za,yS p=true->(p=[48]/\Lib.trimLeftB p 48=[])\/(Lib.trimLeftB p 48=p/\p≠[]):=by
  intro p Y;cases p with
  |nil=>simp[yS]at Y
  |cons c l=>
   by_cases i:c=48
   ·subst i;cases l with
    |nil=>exact .inl ⟨rfl,rfl⟩
    |cons d l=>simp[yS]at Y
   ·refine .inr ⟨?_,by simp⟩;unfold Lib.trimLeftB;rw[Qm (by simpa using i)]
 rcases a p Y with⟨b,f⟩|⟨b,f⟩<;>rcases a q j with⟨e,g⟩|⟨e,g⟩
 ·rw[b,e]
 ·rw[f,e]at h;exact absurd h.symm g
 ·rw[b,g]at h;exact absurd h f
 ·rw[b,e]at h;exact h
theorem AK{p:za}(h:wX p=false):p≠[]/\(vR p=true->yS p=true):=by simp only[wX,wZ]at h;obtain⟨⟨_,b⟩,a⟩:=h;refine⟨fun e=>by subst e;simp[ia]at b,fun hd=>?_⟩;rw[hd]at a;simpa using a
theorem Ro{p q:za}(Y:wX p=false)(d:wX q=false)(h:w8 p q=0):p=q:=by
 obtain⟨j,e⟩:=AK Y;obtain⟨k,f⟩:=AK d;have g:Zq p=vR p:=by cases p<;>simp_all[Zq]
 have c:Zq q=vR q:=by cases q<;>simp_all[Zq]
 unfold w8 at h;rw[g,c]at h;cases a:vR p<;>cases b:vR q<;>simp only[a,b,qA,zF,qJ]at h
 ·exact(vN p q).1 h
 ·cases h
 ·cases h
 ·obtain⟨_,i⟩:=orL2 h;exact Mj (e a) (f b) ((vN _ _).1 i)
theorem N6{α:Type}{c:α->α->Int}:∀{a b:List α},(∀x∈a,∀y∈b,c x y=0->x=y)->yr c a b=0->a=b
 |[],[],_,_=>rfl
 |[],_::_,_,h=>by simp[yr]at h
 |_::_,[],_,h=>by simp[yr]at h
 |x::a,y::b,d,h=>by
  simp only[yr]at h;split at h
  ·rename_i e;rw[d x (by simp) y (by simp) e,N6 (fun u f v g=>d u (by simp[f]) v (by simp[g])) h]
  ·rename_i e;exact absurd h e
theorem nT{a b:Cut}(j:a.xP)(k:b.xP)(h:wz a b=0):a=b:=by
 obtain⟨⟨z,A,B,l⟩,m⟩:=a;obtain⟨⟨C,D,E,n⟩,o⟩:=b;unfold wz at h;split at h
 ·rename_i c;have p:m=o:=by
   split at h
   ·rename_i e;exact e
   ·split at h<;>cases h
  unfold xG at c;split at c
  ·rename_i d;obtain⟨q,r,s⟩:=orL3 d;have f:=bO q;have g:=bO r;have i:=bO s;have t:l=n:=by
    simp only at c;split at c
    ·rename_i u;split at c
     ·rename_i l2;rw[qv.1 u,qv.1 l2]
     ·cases c
    ·split at c
     ·cases c
     ·exact N6 (fun x v y w=>Ro (j.2 x v) (k.2 y w)) c
   simp only at f g i;rw[f,g,i,t,p]
  ·rename_i d;exact absurd c d
 ·rename_i c;exact absurd h c
mutual
def N7(a:Cut->Bool):List Cut->List qZ
 |[]=>[]
 |c::l=>if a c=true then rnO a c l else N7 a l
def rnO(a:Cut->Bool)(s:Cut):List Cut->List qZ
 |[]=>[yp s]
 |c::l=>if a c=true then rnO a s l else dt s c::N7 a l
end
theorem CY(out:List qZ)(s c:Cut):Wh (out++[yp s]) c=out++[dt s c]:=by unfold Wh;rw[List.getLast?_append];simp[yp,dt]
theorem rH(a:Cut->Bool):∀(l:List Cut) (out:List qZ),(XR a l (false,out)).2=out++N7 a l/\∀s,(XR a l (true,out++[yp s])).2=out++rnO a s l
 |[],out=>⟨by simp[XR,N7],fun s=>by simp[XR,rnO]⟩
 |c::l,out=>by
  have b:∀st,XR a (c::l) st=XR a l (cJ a st c):=fun _=>rfl
  constructor
  ·rw[b];cases h:a c
   ·have:cJ a (false,out) c=(false,out):=by simp[cJ,h]
    rw[this,(rH a l out).1,N7,h,ze (by simp)]
   ·have:cJ a (false,out) c=(true,out++[yp c]):=by simp[cJ,h]
    rw[this,(rH a l out).2 c,N7,h,zd rfl]
  ·intro s;rw[b];cases h:a c
   ·have:cJ a (true,out++[yp s]) c=(false,out++[dt s c]):=by simp[cJ,h,CY]
    rw[this,(rH a l (out++[dt s c])).1,rnO,h,ze (by simp),qT];rfl
   ·have:cJ a (true,out++[yp s]) c=(true,out++[yp s]):=by simp[cJ,h]
    rw[this,(rH a l out).2 s,rnO,h,zd rfl]
noncomputable def rI (a b:List qZ):List Cut:=fh (Wi (wv a++wv b))
theorem Gw(f:Bool->Bool->Bool)(a b:List qZ):vr f a b=N7 (fun c=>f (yH a c) (yH b c)) (rI a b):=by unfold vr;rw[pO,(rH _ _ []).1];rfl
theorem Vx(a b:List qZ)(c:Cut):c∈rI a b↔c∈wv a\/c∈wv b:=by unfold rI;rw[iE,(ZH _).mem_iff,qg]
theorem bS{l:List qZ}(h:js l):∀c∈wv l,c.xP:=JX h
theorem Xr{a b:List qZ}(c:js a)(d:js b):(rI a b).Pairwise fun x y=>wz x y<0:=by
 refine fj _ (fun x e y f h=>?_) (tp _);have g:∀z∈Wi (wv a++wv b),z.xP:=fun z i=>by
  rcases qg.1 ((ZH _).mem_iff.1 i)with h|h
  ·exact bS c z h
  ·exact bS d z h
 exact nT (g x e) (g y f) h
def b8:Option Cut->List qZ->Prop
 |_,[]=>True
 |lo,s::l=>(∀q,lo=some q->wz q s.lo<0)/\if s.yR=true then l=[]/\s.hi=Wy else wz s.lo s.hi<0/\b8 (some s.hi) l
theorem Rp{lo:Option Cut}{l:List qZ}(h:b8 lo l):b8 none l:=by
 cases l with
 |nil=>trivial
 |cons s l=>exact⟨fun q e=>(by cases e),h.2⟩
theorem Mk(f:Cut->Bool):∀(l:List Cut),l.Pairwise (fun x y=>wz x y<0)->(∀lo:Option Cut,(∀q,lo=some q->∀x∈l,wz q x<0)->b8 lo (N7 f l))/\∀(lo:Option Cut) (s:Cut),(∀q,lo=some q->wz q s<0)->(∀x∈l,wz s x<0)->b8 lo (rnO f s l)
 |[],_=>⟨fun _ _=>trivial,fun lo s h _=>⟨h,by simp[yp]⟩⟩
 |c::l,hs=>by
  obtain⟨g,k⟩:=wU.1 hs;obtain⟨i,j⟩:=Mk f l k;constructor
  ·intro lo a;rw[N7];split
   ·exact j lo c (fun q b=>a q b c (by simp)) g
   ·exact i lo fun q b x d=>a q b x (by simp[d])
  ·intro lo s a e;rw[rnO];split
   ·exact j lo s a fun x d=>e x (by simp[d])
   ·refine⟨a,?_⟩;simp only[dt,zF,qJ];exact⟨e c (by simp),i (some c) fun q b x d=>by injection b with b;rw[<-b];exact g x d⟩
noncomputable def W8 (a:Cut->Bool):Bool->List Cut->Cut->Bool
 |d,[],_=>d
 |d,x::l,c=>if wz x c<=0 then W8 a (a x) l c else d
theorem YL:∀{l:List qZ} {lo c:Cut},b8 (some lo) l->wz c lo<=0->yH l c=false
 |[],_,_,_,_=>rfl
 |s::l,lo,c,h,e=>by
  have f:wz lo s.lo<0:=h.1 lo rfl;have b:wz c s.lo<0:=wK.lelt e f;have g:vU s c=false:=by have:=(wK.flip c s.lo).1 b;simp[vU,show¬wz s.lo c<=0 by omega]
  have d:yH l c=false:=by
   have a:=h.2;split at a
   ·rw[a.1];rfl
   ·exact YL a.2 (ZU (wK.trans b a.1))
  unfold yH at d⊢;rw[wN,g,d];rfl
theorem zaA(b:Cut->Bool)(c:Cut):∀(l:List Cut),l.Pairwise (fun x y=>wz x y<0)->yH (N7 b l) c=W8 b false l c/\∀s,(∀x∈l,wz s x<0)->yH (rnO b s l) c=if wz s c<=0 then W8 b true l c else false
 |[],_=>⟨rfl,fun s _=>by simp[rnO,yH,vU,yp,W8]⟩
 |x::l,hs=>by
  obtain⟨k,r⟩:=wU.1 hs;obtain⟨t,u⟩:=zaA b c l r;have h:=Mk b l r;constructor
  ·rw[N7,W8];cases v:b x
   ·rw[ze (by simp),t];split
    ·rfl
    ·rename_i w;cases l with
     |nil=>rfl
     |cons y l=>have d:=wK.trans (wK.OK w) (k y (by simp));have:=(wK.flip c y).1 d;simp only[W8];rw[ze (by omega)]
   ·rw[zd rfl,u x k]
  ·intro s i;have m:=i x (by simp);rw[rnO,W8];cases v:b x
   ·rw[ze (by simp)];have n:=(h.1 (some x) fun q o y p=>by injection o with o;rw[<-o];exact k y p);have e:yH (dt s x::N7 b l) c=(vU (dt s x) c||yH (N7 b l) c):=rfl;rw[e];by_cases a:wz x c<=0
    ·have f:wz s c<=0:=ZU (wK.ltle m a);have z:vU (dt s x) c=false:=by have:=(wK.le x c).1 a;simp[vU,dt,show¬wz c x<0 by omega]
     rw[z,zd f,zd a,ye,t]
    ·have j:=wK.OK a;have A:yH (N7 b l) c=false:=YL n (ZU j);rw[A,SL,ze a];simp only[vU,dt,j,ye,cY,bg];by_cases f:wz s c<=0<;>simp[f]
   ·rw[zd rfl,u s fun y p=>i y (by simp[p])];by_cases a:wz x c<=0
    ·rw[zd a]
    ·rw[ze a];have g:W8 b true l c=true:=by
      cases l with
      |nil=>rfl
      |cons y l=>have d:=wK.trans (wK.OK a) (k y (by simp));have:=(wK.flip c y).1 d;simp only[W8];rw[ze (by omega)]
     rw[g]
theorem Gx{a:List qZ}{x c:Cut}(b:wz x c<=0)(h:∀y∈wv a,wz y c<=0->wz y x<=0):yH a c=yH a x:=by
 induction a with
 |nil=>rfl
 |cons s a j=>
  have e:∀c,yH (s::a) c=(vU s c||yH a c):=fun _=>rfl
  rw[e,e,j fun y k=>h y (by rw[wv];exact List.mem_append_right _ k)];congr 1;have d:s.lo∈wv (s::a):=by rw[wv];apply List.mem_append_left;split<;>simp
  have i:wz s.lo c<=0↔wz s.lo x<=0:=⟨h _ d,fun g=>wK.tr _ _ _ g b⟩;unfold vU;cases l:s.yR
  ·have f:s.hi∈wv (s::a):=by rw[wv,l];simp
   have m:wz c s.hi<0↔wz x s.hi<0:=by
    constructor
    ·exact fun g=>wK.lelt b g
    ·intro g;refine xy fun n=>?_
     have o:=h _ f (wK.zge n);exact wK.irr x (wK.ltle g o)
   simp only[i,m]
  ·simp only[i,Wu]
theorem AL{a:List qZ}{c:Cut}(h:∀y∈wv a,¬wz y c<=0):yH a c=false:=by
 induction a with
 |nil=>rfl
 |cons s a d=>
  have e:yH (s::a) c=(vU s c||yH a c):=rfl;have b:s.lo∈wv (s::a):=by rw[wv];apply List.mem_append_left;split<;>simp
  rw[e,d fun y f=>h y (by rw[wv];exact List.mem_append_right _ f)];simp[vU,h _ b]
theorem my(f:Cut->Bool)(c:Cut):∀(l:List Cut) (d:Bool),l.Pairwise (fun x y=>wz x y<0)->(W8 f d l c=d/\∀y∈l,¬wz y c<=0)\/∃x∈l,wz x c<=0/\W8 f d l c=f x/\∀y∈l,wz y c<=0->wz y x<=0
 |[],d,_=>.inl ⟨rfl,fun y a=>by cases a⟩
 |x::l,d,hs=>by
  obtain⟨j,m⟩:=wU.1 hs;by_cases g:wz x c<=0
  ·right;simp only[W8,zd g];rcases my f c l (f x) m with⟨e,h⟩|⟨z,k,i,e,h⟩
   ·refine⟨x,by simp,g,e,fun y a b=>?_⟩;rcases zA.1 a with rfl|a
    ·rw[wK.refl];exact zk4 _
    ·exact absurd b (h y a)
   ·refine⟨z,by simp[k],i,e,fun y a b=>?_⟩;rcases zA.1 a with rfl|a
    ·exact ZU (j z k)
    ·exact h y a b
  ·left;simp only[W8,ze g];refine⟨trivial,fun y a b=>?_⟩;rcases zA.1 a with rfl|a
   ·exact g b
   ·exact g (ZU (wK.ltle (j y a) b))
theorem rJ{f:Bool->Bool->Bool}(i:f false false=false){a b:List qZ}(j:js a)(k:js b)(c:Cut):yH (vr f a b) c=f (yH a c) (yH b c):=by
 have hs:=Xr j k;rw[Gw,(zaA _ c _ hs).1];rcases my (fun c=>f (yH a c) (yH b c)) c (rI a b) false hs with⟨e,g⟩|⟨x,l,h,e,g⟩
 ·rw[e,AL fun y d=>g y ((Vx a b y).2 (.inl d)),AL fun y d=>g y ((Vx a b y).2 (.inr d)),i]
 ·rw[e,Gx h fun y d=>g y ((Vx a b y).2 (.inl d)),Gx h fun y d=>g y ((Vx a b y).2 (.inr d))]
theorem fV{f:Bool->Bool->Bool}{a b:List qZ}(c:js a)(d:js b):b8 none (vr f a b):=by rw[Gw];exact(Mk _ _ (Xr c d)).1 none fun q e=>by cases e
theorem CZ:∀{l m:List qZ} {lo w:Option Cut},b8 lo l->b8 w m->js l->js m->(∀c,c.xP->yH l c=yH m c)->l=m
 |[],[],_,_,_,_,_,_,_=>rfl
 |[],t::m,_,w,_,u,_,F,h=>by
  have:=h t.lo (F t (by simp)).1;have r:yH (t::m) t.lo=true:=by
   have A:vU t t.lo=true:=by
    have k:=u.2;unfold vU;rw[wK.refl];split at k
    ·rename_i e;simp[e]
    ·simp[k.1]
   unfold yH;rw[wN,A];rfl
  rw[r]at this;cases this
 |s::l,[],lo,_,n,_,G,_,h=>by
  have:=h s.lo (G s (by simp)).1;have r:yH (s::l) s.lo=true:=by
   have A:vU s s.lo=true:=by
    have k:=n.2;unfold vU;rw[wK.refl];split at k
    ·rename_i e;simp[e]
    ·simp[k.1]
   unfold yH;rw[wN,A];rfl
  rw[r]at this;cases this
 |s::l,t::m,lo,w,n,u,G,F,h=>by
  have v:∀{s:qZ} {l:List qZ} {lo:Option Cut},b8 lo (s::l)->vU s s.lo=true:=fun{s l lo} n=>by
   have k:=n.2;unfold vU;rw[wK.refl];split at k
   ·rename_i e;simp[e]
   ·simp[k.1]
  have d:∀{s:qZ} {l:List qZ} {lo:Option Cut} {c:Cut},b8 lo (s::l)->(s.yR=false->wz c s.hi<=0)->yH (s::l) c=vU s c:=fun{s l lo c} n r=>by
   have k:=n.2;have e:yH (s::l) c=(vU s c||yH l c):=rfl;rw[e];cases B:s.yR
   ·rw[B,ze (by simp)]at k;rw[YL k.2 (r B),SL]
   ·rw[B,zd rfl]at k;rw[k.1];simp[yH]
  have o:∀{s:qZ} {l:List qZ} {lo:Option Cut} {c:Cut},b8 lo (s::l)->wz c s.lo<0->yH (s::l) c=false:=fun{s l lo c} n r=>by
   have k:=n.2;rw[d n fun B=>?_]
   ·have:=(wK.flip c s.lo).1 r;simp[vU,show¬wz s.lo c<=0 by omega]
   ·rw[B,ze (by simp)]at k;exact ZU (wK.trans r k.1)
  have gs:=G s (by simp);have C:=F t (by simp);have H:yH (s::l) s.lo=true:=by unfold yH;rw[wN,v n];rfl
  have I:yH (t::m) t.lo=true:=by unfold yH;rw[wN,v u];rfl
  have j:s.lo=t.lo:=by
   refine nT gs.1 C.1 ?_;have n1:¬wz s.lo t.lo<0:=fun i=>by have:=h s.lo gs.1;rw[H,o u i]at this;cases this
   have L:¬wz t.lo s.lo<0:=fun i=>by have:=h t.lo C.1;rw[I,o n i]at this;cases this
   have:=(wK.flip s.lo t.lo);have:=(wK.flip t.lo s.lo);omega
  have f:=n.2;have g:=u.2;cases p:s.yR<;>cases q:t.yR
  ·rw[p,ze (by simp)]at f;rw[q,ze (by simp)]at g;have D:yH (s::l) s.hi=false:=by rw[d n fun _=>by rw[wK.refl];exact zk4 _];simp[vU,p,wK.refl]
   have M:yH (t::m) t.hi=false:=by rw[d u fun _=>by rw[wK.refl];exact zk4 _];simp[vU,q,wK.refl]
   have E:s.hi=t.hi:=by
    refine nT gs.2 C.2 ?_;have n1:¬wz s.hi t.hi<0:=fun i=>by
     have:=h s.hi gs.2;rw[D,d u fun _=>ZU i]at this;have y:wz t.lo s.hi<=0:=by rw[<-j];exact ZU f.1
     simp[vU,i,y]at this
    have L:¬wz t.hi s.hi<0:=fun i=>by
     have:=h t.hi C.2;rw[M,d n fun _=>ZU i]at this;have y:wz s.lo t.hi<=0:=by rw[j];exact ZU g.1
     simp[vU,i,y]at this
    have:=(wK.flip s.hi t.hi);have:=(wK.flip t.hi s.hi);omega
   have J:s=t:=by obtain⟨a,b,c⟩:=s;obtain⟨N,P,Q⟩:=t;simp only at j E p q;rw[j,E,p,q]
   subst J;rw[CZ f.2 g.2 (fun x K=>G x (by simp[K])) (fun x K=>F x (by simp[K])) fun c r=>?_];by_cases z:wz c s.hi<=0
   ·rw[YL f.2 z,YL g.2 z]
   ·have:=h c r;have A:vU s c=false:=by have:=wK.OK z;simp[vU,p,show¬wz c s.hi<0 by omega]
    unfold yH at this⊢;rw[wN,wN,A]at this;exact this
  ·rw[p,ze (by simp)]at f;have:=h s.hi gs.2;have D:yH (s::l) s.hi=false:=by rw[d n fun _=>by rw[wK.refl];exact zk4 _];simp[vU,p,wK.refl]
   have y:wz t.lo s.hi<=0:=by rw[<-j];exact ZU f.1
   rw[D,d u fun e=>by rw[q]at e;cases e]at this;simp[vU,q,y]at this
  ·rw[q,ze (by simp)]at g;have:=h t.hi C.2;have D:yH (t::m) t.hi=false:=by rw[d u fun _=>by rw[wK.refl];exact zk4 _];simp[vU,q,wK.refl]
   have y:wz s.lo t.hi<=0:=by rw[j];exact ZU g.1
   rw[D,d n fun e=>by rw[p]at e;cases e]at this;simp[vU,p,y]at this
  ·rw[p,zd rfl]at f;rw[q,zd rfl]at g;obtain⟨a,b,c⟩:=s;obtain⟨N,P,Q⟩:=t;simp only at j p q f g;rw[f.1,g.1,j,p,q,f.2,g.2]
theorem zaB{c:Cut}(Y:0<=c.v.a/\0<=c.v.b/\0<=c.v.c):wz wu c<=0:=by
 obtain⟨⟨a,b,d,p⟩,f⟩:=c;obtain⟨k,l,m⟩:=Y;simp only at k l m;have g:∀x:Int,0<=x->wR 0 x=0/\x=0\/wR 0 x<0:=by
  intro x u;unfold wR;split
  ·right;omega
  ·split
   ·omega
   ·left;omega
 have j:w8 [48] (p.headD [48])<=0:=by
  have o:Zq [48]=true:=by decide
  unfold w8;rw[o];have r:Lib.trimLeftB [48] 48=[]:=by decide
  simp only[qA,r];split
  ·obtain⟨q,s⟩:=exI (Lib.trimLeftB (p.headD [48]) 48);rw[s];cases q with
   |nil=>decide
   |cons x q=>
    have:wR (([]:za).length) ((x::q).length)<0:=by
     rcases g ((x::q).length) (by omega)with⟨_,h⟩|h
     ·simp at h;omega
     ·exact h
    simp only[Xb];rw[ze (by omega)];omega
  ·omega
 have t:xG ⟨0,0,0,[[48]]⟩ ⟨a,b,d,p⟩<=0:=by
  unfold xG;simp only;rcases g a k with⟨e1,_⟩|e1
  ·rcases g b l with⟨e2,_⟩|e2
   ·rcases g d m with⟨e3,_⟩|e3
    ·have i:Xb [wR 0 a,wR 0 b,wR 0 d]=0:=by simp[Xb,e1,e2,e3]
     rw[zd i,ze (by simp)];split
     ·omega
     ·cases p with
      |nil=>rename_i h;exact absurd rfl h
      |cons q p=>
       simp only[yr];split
       ·cases p<;>simp[yr]
       ·simpa using j
    ·have i:Xb [wR 0 a,wR 0 b,wR 0 d]=wR 0 d:=by simp only[Xb,e1,e2,qA];rw[ze (by omega)]
     rw[i,ze (by omega)];omega
   ·have i:Xb [wR 0 a,wR 0 b,wR 0 d]=wR 0 b:=by simp only[Xb,e1,qA];rw[ze (by omega)]
    rw[i,ze (by omega)];omega
  ·have i:Xb [wR 0 a,wR 0 b,wR 0 d]=wR 0 a:=by simp only[Xb];rw[ze (by omega)]
   rw[i,ze (by omega)];omega
 have e:wz wu ⟨⟨a,b,d,p⟩,f⟩=if xG ⟨0,0,0,[[48]]⟩ ⟨a,b,d,p⟩=0 then(if false=f then 0 else if f=true then -1 else 1)else xG ⟨0,0,0,[[48]]⟩ ⟨a,b,d,p⟩:=rfl
 rw[e];by_cases n:xG ⟨0,0,0,[[48]]⟩ ⟨a,b,d,p⟩=0
 ·rw[zd n];cases f<;>simp
 ·rw[ze n];exact t
def dK(c:Cut):Prop:=0<=c.v.a/\0<=c.v.b/\0<=c.v.c
def Gy(l:List qZ):Prop:=∀s∈l,dK s.lo/\dK s.hi
theorem aS:js [yp wu]:=(QM vV).2
theorem Gz{m:List qZ}{lo:Option Cut}(e:b8 lo m)(a:js m)(Y:Gy m):vr and m [yp wu]=m:=by
 refine CZ (fV a aS) (Rp e) (vt _ a aS) a fun c _=>?_
 rw[rJ rfl a aS];cases b:yH m c
 ·rfl
 ·have:wz wu c<=0:=by unfold yH at b;rw[vy]at b;obtain⟨s,hs,d⟩:=b;simp only[vU,zH,zP]at d;exact wK.tr _ _ _ (zaB (Y s hs).1) d.1
  simp[yH,vU,yp,this]
theorem Rq{f:Bool->Bool->Bool}(h:f false false=false)(g:∀x y,f x y=f y x){a b:List qZ}(d:js a)(e:js b):vr f a b=vr f b a:=by
 refine CZ (fV d e) (fV e d) (vt _ d e) (vt _ e d) fun c _=>?_
 rw[rJ h d e,rJ h e d,g]
theorem zdQ(a b:Cut):b8 none (iu a b):=by
 unfold iu;split
 ·trivial
 ·exact⟨fun q e=>(by cases e),by simp only[dt,zF,qJ];exact⟨by omega,trivial⟩⟩
theorem zaC(a:Cut):b8 none [yp a]:=⟨fun q e=>(by cases e),by simp[yp]⟩
theorem Rr(f:Bool->Bool->Bool){a b:List qZ}(c:Gy a)(d:Gy b):Gy (vr f a b):=Ad (Q:=dK) (by simp[dK,Wy]) f c d
noncomputable def dL (o:za) (p:Part):List qZ×Bool:=if(xh (Vh o p)).2=true then((xh (Vh o p)).1,true)else([],false)
noncomputable def Qh:List qZ->Bool->List cU->Option (List qZ×Bool)
 |out,b,[]=>some (out,b)
 |out,b,a::l=>if a.1=[]/\yA a.2=true then Qh out b l else match QV a.2 with
  |none=>none
  |some p=>Qh (vr and out (dL a.1 p).1) (b&&(dL a.1 p).2) l
def aT:List cU->Option (za×za)
 |[a,b,c]=>if b=([],[45])/\a.1=[]/\c.1=[]then some (a.2,c.2)else none
 |_=>none
noncomputable def fW (p q:Part):List qZ×Bool:=if Wg q=true then(iu (Qc p) (xm q),true)else([],false)
noncomputable def X3 (t:za):Option (List qZ×Bool):=match kz (jh t)with
 |none=>none
 |some l=>if l=[]then none else match aT l with
  |some a=>match QV a.1,QV a.2 with
   |some p,some q=>some (fW p q)
   |_,_=>none
  |none=>Qh [yp wu] true l
noncomputable def YM:List qZ->Bool->List za->Option (List qZ×Bool)
 |out,a,[]=>some (out,a)
 |out,a,s::l=>match X3 s with
  |none=>none
  |some m=>YM (vr or out m.1) (a&&m.2) l
noncomputable def YN (t:za):List qZ×Int:=if(400:Int)<t.length then([],2)else match YM [] true (qu t [124,124])with
 |none=>([],10)
 |some o=>if o.2=false then([],1)else if(100:Int)<o.1.length then([],2)else(o.1,0)
def Zv(a:cU):Option Zw:=if a.1=[]/\yA a.2=true then some iA else if(z7 a.2).2=true then some (Vh a.1 (z7 a.2).1)else none
def Xs:List cU->Option (List Zw)
 |[]=>some []
 |a::l=>match Zv a with
  |none=>none
  |some c=>(Xs l).map (c::·)
theorem C2{w:za}(a:w≠[])(h:(wS wH w).2=[]):(wS wH w).1≠[]:=fun e=>by have:=Wq wH w;rw[h,e]at this;exact a (by simpa using this.symm)
theorem zaD:(z7 []).2=false:=by decide
theorem zdR:z7 [45]=(⟨0,0,0,3,[]⟩,false):=by rfl
theorem rK:∀(n:Nat) (a:List za),a.length<=n->(∀w∈a,w≠[])->yQ n a=(kz a).bind Xs
 |n,[],_,_=>by cases n<;>rfl
 | 0,w::a,h,_=>by simp at h
 |n+1,[w],_,g=>by
  have f:=g w (by simp);simp only[yQ,kz];by_cases b:(wS wH w).2=[]
  ·have i:=C2 f b;have:kZ w []=none:=by unfold kZ;rw[ze (fun h=>i h.1),ze (fun h=>h.2.2 rfl),b,zaD];simp
   rw[this,zd b];rfl
  ·rw[ze b];have:kZ w []=(Zv (wS wH w)).map fun c=>(c,[]):=by
    unfold kZ Zv;by_cases d:(wS wH w).1=[]/\yA (wS wH w).2=true
    ·rw[zd d,zd d];rfl
    ·rw[ze d,ze d,ze (fun h=>h.2.2 rfl)];split<;>rfl
   rw[this];simp only[qo,Xs];cases Zv (wS wH w)with
   |none=>rfl
   |some c=>cases n<;>rfl
 |n+1,w::x::a,m,g=>by
  have f:=g w (by simp);simp only[zV]at m;simp only[yQ,kz];by_cases b:(wS wH w).2=[]
  ·have i:=C2 f b;rw[zd b];have:kZ w (x::a)=(Zv ((wS wH w).1,x)).map fun c=>(c,a):=by unfold kZ Zv;rw[ze (fun h=>i h.1),zd ⟨i,b,by simp⟩,ze (fun h=>i h.1)];simp only;split<;>rfl
   rw[this];have e:=rK n a (by omega) (fun y k=>g y (by simp[k]));cases j:kz a with
   |none=>
    rw[j]at e;simp only[xp,nD];cases Zv ((wS wH w).1,x)with
    |none=>rfl
    |some c=>simp only[zK,e];rfl
   |some l=>
    rw[j]at e;simp only[zK,qo,Xs];cases Zv ((wS wH w).1,x)with
    |none=>rfl
    |some c=>simp only[zK,e];rfl
  ·rw[ze b];have:kZ w (x::a)=(Zv (wS wH w)).map fun c=>(c,x::a):=by
    unfold kZ Zv;by_cases d:(wS wH w).1=[]/\yA (wS wH w).2=true
    ·rw[zd d,zd d];rfl
    ·rw[ze d,ze d,ze (fun h=>b h.2.1)];split<;>rfl
   rw[this];have e:=rK n (x::a) (by simp only[zV];omega) (fun y k=>g y (by simp[zA.1 k]));cases j:kz (x::a)with
   |none=>
    rw[j]at e;simp only[xp,nD];cases Zv (wS wH w)with
    |none=>rfl
    |some c=>simp only[zK,e];rfl
   |some l=>
    rw[j]at e;simp only[zK,qo,Xs];cases Zv (wS wH w)with
    |none=>rfl
    |some c=>simp only[zK,e];rfl
theorem AN:∀(b:List za) (l:List cU),(∀w∈b,w≠[])->kz b=some l->(∀a∈l,a.1=[])->b=l.map (·.2)
 |[],l,_,h,_=>by simp only[kz]at h;injection h with h;subst h;rfl
 |[w],l,d,h,c=>by
  simp only[kz]at h;split at h
  ·cases h
  ·injection h with h;subst h;have:=c (wS wH w) (by simp);have hd:=Wq wH w;rw[this]at hd;simp only[wD,XD,hd,ku,ym]
 |w::x::b,l,d,h,c=>by
  simp only[kz]at h;split at h
  ·rename_i f;cases e:kz b with
   |none=>rw[e]at h;cases h
   |some l'=>rw[e]at h;simp only[zK,qj]at h;subst h;exact absurd (c ((wS wH w).1,x) (by simp)) (C2 (d w (by simp)) f)
  ·cases e:kz (x::b)with
   |none=>rw[e]at h;cases h
   |some l'=>rw[e]at h;simp only[zK,qj]at h;subst h;have g:=c (wS wH w) (by simp);have hd:=Wq wH w;rw[g]at hd;rw[AN (x::b) l' (fun y i=>d y (by simp[zA.1 i])) e fun a j=>c a (by simp[j])];simp only[wD,hd,ku,ym]
theorem AO{c:UInt8}{l:za}(h:V9 c=false):kG (c::l)=none:=by unfold kG;rw[ze];rintro⟨a,_⟩;have:=(pt a).2;simp only[vR,q8,h,kT]at this;cases this
theorem rL{c d:UInt8}(h:c≠d)(l:za):∃p a,qu (c::l) [d]=(c::p)::a:=by obtain⟨p,a,e⟩:=zar d l;rw[dJ];exact⟨p,a,by simp[sU,h,e]⟩
theorem zdS{c:UInt8}{l:za}(f:V9 c=false)(j:c≠45)(g:c≠46):(z7 (c::l)).2=false:=by
 unfold z7;split
 ·have b:∃q,(Lib.cut (c::l) [45]).1=c::q:=by
   unfold Lib.cut;split
   ·rename_i hi;have d:¬(45:UInt8)=c:=fun e=>j e.symm
    rcases Lib.index_spec l [45]with⟨e,_⟩|⟨i,e,_⟩
    ·simp[Lib.index,d,e]at hi
    ·have k:Lib.index (c::l) [45]=((i+1:Nat):Int):=by
      have:¬((i:Int)=-1):=by omega
      simp[Lib.index,d,e,this]
     rw[k];exact⟨l.take i,by simp⟩
   ·exact⟨l,rfl⟩
  obtain⟨q,m⟩:=b;obtain⟨p,h,e⟩:=rL g q;have:eU (c::l)=none:=by
   unfold eU;rw[m,e];split
   ·rename_i a;injection a with a _
    subst a;rw[AO f]
   ·rfl
  rw[this]
 ·split
  ·rfl
  ·obtain⟨p,h,e⟩:=rL g l;rw[e];have:yB wy 0 ((c::p)::h)=none:=by simp[yB,w9,AO f]
   rw[this]
theorem rM:∀(gs:List za) (w:za),(wS gs w).1≠[]->(wS gs w).1∈gs/\(wS gs w).1 <+: w
 |[],w,h=>by simp[wS]at h
 |g::gs,w,h=>by
  simp only[wS]at h⊢;split
  ·rename_i Y;exact⟨by simp,H4.1 Y⟩
  ·rename_i Y;rw[ze Y]at h;have:=rM gs w h;exact⟨by simp[this.1],this.2⟩
theorem N8{w:za}(h:(wS wH w).1≠[]):(z7 w).2=false:=by obtain⟨a,r,b⟩:=rM wH w h;obtain⟨g,c⟩:=exI ((wS wH w).1);rw[c]at a b;rw[<-b];simp only[wH,zA,zb4,or_false]at a;rcases a with rfl|rfl|rfl|rfl|rfl|rfl|rfl<;>exact zdS (by decide) (by decide) (by decide)
theorem N9(a:cU):Zv a=none↔¬(a.1=[]/\yA a.2=true)/\QV a.2=none:=by
 unfold Zv;rw[nS];by_cases h:a.1=[]/\yA a.2=true
 ·simp[h]
 ·rw[ze h];cases (z7 a.2).2<;>simp[h]
theorem JL:∀(l:List cU) (out:List qZ) (b:Bool),Qh out b l=none↔Xs l=none
 |[],out,b=>by simp[Qh,Xs]
 |a::l,out,b=>by
  simp only[Qh,Xs];by_cases h:a.1=[]/\yA a.2=true
  ·have:Zv a=some iA:=by unfold Zv;rw[zd h]
   rw[zd h,this,JL l out b];simp
  ·rw[ze h];cases d:QV a.2 with
   |none=>rw[(N9 a).2 ⟨h,d⟩];simp
   |some p=>
    cases e:Zv a with
    |none=>rw[((N9 a).1 e).2]at d;cases d
    |some c=>simp only[JL l];simp
theorem rN:∀(l:List cU) (out:List qZ) (m:List qZ×Bool),Qh out false l=some m->m.2=false
 |[],out,m,h=>by simp only[Qh]at h;injection h with h;rw[<-h]
 |a::l,out,m,h=>by
  simp only[Qh]at h;split at h
  ·exact rN l out m h
  ·split at h
   ·cases h
   ·exact rN l _ m (by simpa using h)
theorem zaE:xh iA=([yp wu],true):=by simp[xh,iA]
theorem C3{p:Part}(h:p.ok):dK (Qc p):=⟨h.1.1,h.2.1.1,h.2.2.1.1⟩
theorem dM{p:Part}(h:p.ok)(i:Nat):dK (jM p i):=by have a:=h.1.1;have b:=h.2.1.1;have c:=h.2.2.1.1;unfold jM dK;split<;>simp only<;>omega
theorem rO{p:Part}(h:p.ok):dK (xm p):=by
 unfold xm;split
 ·exact dM h _
 ·exact C3 h
theorem bT:dK wu:=by simp[dK,wu]
theorem zaF:dK Wy:=by simp[dK,Wy]
theorem Xt{a b:Cut}(c:dK a)(d:dK b):Gy (iu a b):=by
 unfold iu;split
 ·intro s hs;cases hs
 ·intro s hs;rw[jG]at hs;rw[hs];exact⟨c,d⟩
theorem fX{a:Cut}(b:dK a):Gy [yp a]:=fun s hs=>by rw[jG]at hs;rw[hs];exact⟨b,zaF⟩
theorem zaG{c:Zw}(b:c.xP):Gy (xh c).1:=by
 obtain⟨_,b⟩:=b;unfold xh;by_cases d:c.sign=jS
 ·rw[zd d];exact fX bT
 rw[ze d];obtain⟨⟨Y,_⟩,g⟩:=b.resolve_left d;have a:=C3 Y;have f:=rO Y;split
 ·exact fX a
 split
 ·exact Xt bT a
 split
 ·exact fX f
 split
 ·exact Xt bT f
 split
 ·rename_i e;exact Xt a (rO (g e).1)
 split
 ·exact Xt a (dM Y _)
 split
 ·exact Xt a (dM Y _)
 ·exact Xt a f
def tK(o:za):Prop:=o=[]\/o∈wH
theorem rP:∀(c:List za) (l:List cU),kz c=some l->∀a∈l,tK a.1
 |[],l,h,a,b=>by simp only[kz]at h;injection h with h;subst h;cases b
 |[w],l,h,a,b=>by
  simp only[kz]at h;split at h
  ·cases h
  ·injection h with h;subst h;rw[jG]at b;rw[b];exact Vl wH w
 |w::x::c,l,h,a,b=>by
  simp only[kz]at h;split at h
  ·cases e:kz c with
   |none=>rw[e]at h;cases h
   |some l'=>
    rw[e]at h;simp only[zK,qj]at h;subst h;rcases zA.1 b with rfl|b
    ·exact Vl wH w
    ·exact rP c l' e a b
  ·cases e:kz (x::c)with
   |none=>rw[e]at h;cases h
   |some l'=>
    rw[e]at h;simp only[zK,qj]at h;subst h;rcases zA.1 b with rfl|b
    ·exact Vl wH w
    ·exact rP (x::c) l' e a b
theorem QR{s:za}{p:Part}(h:QV s=some p):(z7 s).2=true/\(z7 s).1=p/\p.ok/\Wj p.pre:=by
 rw[nS]at h;split at h
 ·rename_i e;injection h with h
  have:=Vk e;rw[h]at this;exact⟨e,h,this⟩
 ·cases h
theorem GA{o:za}{p:Part}(a:tK o)(Y:p.ok)(b:Wj p.pre):(Vh o p).xP:=by have:=Fx a;exact⟨this.1,.inr ⟨⟨Y,b⟩,fun e=>absurd e this.2⟩⟩
theorem lf:∀(l:List cU) (out:List qZ) (cs:List Zw) (m:List qZ×Bool),(∀a∈l,tK a.1)->b8 none out->js out->Gy out->Xs l=some cs->Qh out true l=some m->JY cs out=if m.2=true then some m.1 else none
 |[],out,cs,m,_,_,_,_,c,d=>by
  simp only[Xs]at c;simp only[Qh]at d;injection c with c
  injection d with d;subst c;subst d;rfl
 |a::l,out,cs,m,hs,q,i,j,c,d=>by
  simp only[Xs]at c;simp only[Qh]at d;have g:∀b∈l,tK b.1:=fun b s=>hs b (by simp[s])
  by_cases h:a.1=[]/\yA a.2=true
  ·have k:Zv a=some iA:=by unfold Zv;rw[zd h]
   rw[zd h]at d;rw[k]at c;simp only at c;cases e:Xs l with
   |none=>rw[e]at c;cases c
   |some f=>rw[e]at c;simp only[zK,qj]at c;subst c;simp only[JY,zaE,qA];rw[Gz q i j];exact lf l out f m g q i j e d
  ·rw[ze h]at d;cases n:QV a.2 with
   |none=>rw[n]at d;cases d
   |some p=>
    rw[n]at d;simp only at d;obtain⟨t,u,v,w⟩:=QR n;have k:Zv a=some (Vh a.1 p):=by unfold Zv;rw[ze h,zd t,u]
    rw[k]at c;simp only at c;cases e:Xs l with
    |none=>rw[e]at c;cases c
    |some f=>
     rw[e]at c;simp only[zK,qj]at c;subst c;have o:=GA (hs a (by simp)) v w;simp only[JY];unfold dL at d;cases r:(xh (Vh a.1 p)).2
     ·rw[r]at d;simp only[zF,qJ,Bool.and_false]at d⊢;rw[rN l _ m d];simp
     ·rw[r]at d;simp only[qA,bg]at d⊢;exact lf l _ f m g (fV i (Vm o).2) (vt and i (Vm o).2) (Rr and j (zaG o)) e d
theorem bU:∀(l:List cU),(∃a∈l,a.2=[45])->Xs l=none
 |[],h=>by obtain⟨a,d,_⟩:=h;cases d
 |a::l,h=>by
  simp only[Xs];obtain⟨b,c,e⟩:=h;rcases zA.1 c with rfl|c
  ·have:Zv b=none:=by unfold Zv;rw[e,zdR];simp[yA]
   rw[this]
  ·rw[bU l ⟨b,c,e⟩];cases Zv a<;>rfl
theorem zhp(t:za):∀w∈jh t,w≠[]:=fun w a=>by unfold jh wO at a;have:=(zgb.1 a).2;simpa[sS]using this
theorem Rs{l:List cU}{a:za×za}(h:aT l=some a):l=[([],a.1),([],[45]),([],a.2)]:=by
 unfold aT at h;split at h
 ·rename_i x y z;split at h
  ·rename_i d;injection h with h
   obtain⟨e,b,c⟩:=d;obtain⟨f,g⟩:=x;obtain⟨i,j⟩:=z;simp only at b c h;rw[<-h,e,b,c]
  ·cases h
 ·cases h
theorem aU:wS wH [45]=([],[45]):=by decide
theorem GB(t:za):((Wx t).2=false->X3 t=none)/\((Wx t).2=true->∃m,X3 t=some m/\JY (Wx t).1 [yp wu]=if m.2=true then some m.1 else none):=by
 have A:=zhp t;have J:∀n,jh t=n->Wx t=(match yQ n.length n with
   |some l=>(l,!l.isEmpty)
   |none=>([],false))->(∀l,kz n=some l->aT l=none)->((Wx t).2=false->X3 t=none)/\((Wx t).2=true->∃m,X3 t=some m/\JY (Wx t).1 [yp wu]=if m.2=true then some m.1 else none):=by
  intro n o C hd;rw[o]at A;rw[rK n.length n (zl _) A]at C;rw[C];unfold X3;rw[o];cases D:kz n with
  |none=>exact⟨fun _=>rfl,fun h=>by cases h⟩
  |some l=>
   have K:=hd l D;simp only[qo];by_cases f:l=[]
   ·subst f;simp[Xs]
   ·rw[ze f,K];simp only;have E:=JL l [yp wu] true;cases u:Xs l with
    |none=>exact⟨fun _=>E.2 u,fun h=>by cases h⟩
    |some cs=>
     have R:cs≠[]:=by
      cases l with
      |nil=>exact absurd rfl f
      |cons a l=>
       simp only[Xs]at u;split at u
       ·cases u
       ·cases h:Xs l<;>rw[h]at u<;>simp at u;rw[<-u];simp
     have F:cs.isEmpty=false:=by cases cs<;>simp_all
     cases I:Qh [yp wu] true l with
     |none=>rw[E.1 I]at u;cases u
     |some m=>exact⟨fun h=>by simp[F]at h,fun _=>⟨m,rfl,lf l _ cs m (rP n l D) (zaC _) aS (fX bT) u I⟩⟩
 obtain⟨n,o⟩:=exI (jh t);by_cases g:∃a c,n=[a,[45],c]
 ·obtain⟨a,c,rfl⟩:=g;have C:Wx t=([⟨[45],(z7 a).1,(z7 c).1⟩],(z7 a).2&&(z7 c).2):=by unfold Wx;rw[iZ,o];simp
  rw[o]at A;have G:a≠[]:=A a (by simp);have L:c≠[]:=A c (by simp);by_cases i:(wS wH a).1=[]
  ·by_cases v:(wS wH c).1=[]
   ·have H:wS wH a=([],a):=by have:=Wq wH a;rw[i]at this;exact zk3 i (by simpa using this)
    have N:wS wH c=([],c):=by have:=Wq wH c;rw[v]at this;exact zk3 v (by simpa using this)
    have D:kz [a,[45],c]=some [([],a),([],[45]),([],c)]:=by rw[JK _ _ (by rw[H];exact G),JK _ _ (by rw[aU];simp),JK _ _ (by rw[N];exact L),H,N,aU];rfl
    have I:X3 t=match QV a,QV c with
      |some p,some q=>some (fW p q)
      |_,_=>none:=by
     unfold X3;rw[o,D];simp only[zb5,qJ,reduceCtorEq];rfl
    rw[I,C];cases j:QV a with
    |none=>
     rw[nS]at j;have:(z7 a).2=false:=by
      cases h:(z7 a).2 with
      |false=>rfl
      |true=>rw[h]at j;simp at j
     rw[this];exact⟨fun _=>rfl,fun h=>by cases h⟩
    |some p=>
     obtain⟨S,T,W,X⟩:=QR j;cases w:QV c with
     |none=>
      rw[nS]at w;have:(z7 c).2=false:=by
       cases h:(z7 c).2 with
       |false=>rfl
       |true=>rw[h]at w;simp at w
      rw[this,Bool.and_false];exact⟨fun _=>rfl,fun h=>by cases h⟩
     |some q=>
      obtain⟨q1,q2,q3,q4⟩:=QR w;rw[S,q1,T,q2];refine⟨fun h=>(by cases h),fun _=>⟨fW p q,rfl,?_⟩⟩;have hs:xh ⟨[45],p,q⟩=(iu (Qc p) (xm q),Wg q):=by simp[xh,jS]
      simp only[JY,hs];unfold fW;have P:js (iu (Qc p) (xm q)):=(YI (pQ X) (bD q4)).2;cases Q:Wg q
      ·simp
      ·simp only[qA];rw[Rq rfl Bool.and_comm aS P,Gz (zdQ _ _) P (Xt (C3 W) (rO q3))]
   ·have r:(Wx t).2=false:=by rw[C,N8 v,Bool.and_false]
    refine⟨fun _=>?_,fun h=>by rw[r]at h;cases h⟩;have H:wS wH a=([],a):=by have:=Wq wH a;rw[i]at this;exact zk3 i (by simpa using this)
    unfold X3;rw[o,JK _ _ (by rw[H];exact G),JK _ _ (by rw[aU];simp)];simp only[kz];split
    ·rfl
    ·rename_i l f;cases d:(if(wS wH c).2=[]then none else some [wS wH c]:Option (List cU))with
     |none=>rw[d]at f;cases f
     |some k=>
      have Q:k=[wS wH c]:=by
       split at d
       ·cases d
       ·injection d with d;exact d.symm
      rw[d]at f;simp only[zK,qj,H,aU]at f;subst f;subst Q;simp only[zb5,qJ,reduceCtorEq];have s:aT [(([]:za),a),([],[45]),wS wH c]=none:=by simp[aT,v]
      rw[s];simp only;rw[JL];exact bU _ ⟨([],[45]),by simp,rfl⟩
  ·have r:(Wx t).2=false:=by rw[C,N8 i];rfl
   refine⟨fun _=>?_,fun h=>by rw[r]at h;cases h⟩;unfold X3;rw[o];simp only[kz];by_cases j:(wS wH a).2=[]
   ·rw[zd j];split
    ·rfl
    ·rename_i l f;cases d:(if(wS wH c).2=[]then none else some [wS wH c]:Option (List cU))with
     |none=>rw[d]at f;cases f
     |some k=>
      rw[d]at f;simp only[zK,qj]at f;subst f;simp only[zb5,qJ,reduceCtorEq];have s:aT (((wS wH a).1,[45])::k)=none:=by
       unfold aT;split
       ·rename_i x y z B;injection B with M _
        rw[<-M];simp[i]
       ·rfl
      rw[s];simp only;rw[JL];exact bU _ ⟨((wS wH a).1,[45]),by simp,rfl⟩
   ·rw[ze j];simp only[aU,zb5,qJ,reduceCtorEq];split
    ·rfl
    ·rename_i l f;cases d:(if(wS wH c).2=[]then none else some [wS wH c]:Option (List cU))with
     |none=>rw[d]at f;cases f
     |some k=>
      rw[d]at f;simp only[zK,qj]at f;subst f;simp only[zb5,qJ,reduceCtorEq];have s:aT (wS wH a::([],[45])::k)=none:=by
       unfold aT;split
       ·rename_i x y z B;injection B with M _
        rw[<-M];simp[i]
       ·rfl
      rw[s];simp only;rw[JL];exact bU _ ⟨([],[45]),by simp,rfl⟩
 ·refine J n o ?_ ?_
  ·unfold Wx;rw[iZ,o];split
   ·rename_i a b c;rw[ze (fun e=>g ⟨a,c,by rw[e]⟩)];rfl
   ·rfl
  ·intro l D;cases hd:aT l with
   |none=>rfl
   |some a=>have f:=Rs hd;rw[o]at A;have:=AN n l A D (by rw[f];simp);rw[f]at this;exact absurd ⟨a.1,a.2,this⟩ g
theorem dN:∀(l:List za) (out:List qZ) (a:Bool),YM out a l=none↔sT l=none
 |[],out,a=>by simp[YM,sT]
 |s::l,out,a=>by
  obtain⟨b,c⟩:=GB s;simp only[YM,sT];cases h:(Wx s).2
  ·rw[b h];simp
  ·obtain⟨m,e,_⟩:=c h;rw[e];simp only[dN l,qA];cases sT l<;>simp
theorem AP:∀(l:List za) (out:List qZ) (m:List qZ×Bool),YM out false l=some m->m.2=false
 |[],out,m,h=>by simp only[YM]at h;injection h with h;rw[<-h]
 |a::l,out,m,h=>by
  simp only[YM]at h;split at h
  ·cases h
  ·exact AP l _ m (by simpa using h)
theorem rQ:∀(l:List za) (out:List qZ) (d:List (List Zw)) (m:List qZ×Bool),sT l=some d->YM out true l=some m->XT d out=if m.2=true then some m.1 else none
 |[],out,d,m,a,b=>by
  simp only[sT]at a;simp only[YM]at b;injection a with a
  injection b with b;subst a;subst b;rfl
 |s::l,out,d,m,a,b=>by
  obtain⟨n,i⟩:=GB s;simp only[sT]at a;simp only[YM]at b;cases h:(Wx s).2
  ·rw[h]at a;simp at a
  ·rw[h]at a;simp only[qA]at a;obtain⟨k,e,j⟩:=i h;rw[e]at b;simp only[jb]at b;cases f:sT l with
   |none=>rw[f]at a;cases a
   |some g=>
    rw[f]at a;simp only[zK,qj]at a;subst a;simp only[XT,j];cases c:k.2
    ·rw[c]at b;rw[AP l _ m b];simp
    ·rw[c]at b;simp only[qA];exact rQ l _ g m f b
theorem C4(t:za):YN t=xv t:=by
 unfold YN xv;split
 ·rfl
 ·cases a:sT (qu t [124,124])with
  |none=>rw[(dN _ [] true).2 a]
  |some c=>
   cases b:YM [] true (qu t [124,124])with
   |none=>rw[(dN _ _ _).1 b]at a;cases a
   |some m=>
    have:=rQ _ _ c m a b;simp only[this];cases d:m.2
    ·simp
    ·simp
noncomputable def Jg (o:za) (v:wQ) (m:Int):O:=.wY [.sl 11 (qb (dL o (v.part m)).1),int (if(dL o (v.part m)).2=true then 0 else 1)]
noncomputable def FOVI:zb->Option O:=z6 (α:=za×wQ×Int) (fun a=>[str a.1,.agg a.2.1.V,int a.2.2]) (fun a=>tK a.1/\a.2.1.ok/\1<=a.2.2/\a.2.2<=3) (fun a=>Jg a.1 a.2.1 a.2.2)
theorem Rt(o:za)(v:wQ)(m:Int)(Y:Hp)(Z:Nat)(c:tK o)(d:v.ok)(f:1<=m/\m<=3):qG [.a,.g kJ] FOVI [str o,.agg v.V,int m] Y Z=some (Jg o v m,Y,Z):=
 xF (show zv Y [str o,.agg v.V,int m]=some ([str o,.agg v.V,int m],Y) by simp[wQ.V]) (by
  show FOVI [str o,(Sh.g kJ).fix (.agg v.V),int m]=_;rw[Vw];exact zE (V:=fun a:List UInt8×wQ×Int=>[str a.1,O.agg a.2.1.V,int a.2.2]) (a:=(o,v,m)) (fun x y e=>by obtain⟨j,k,l⟩:=x;obtain⟨n,p,q⟩:=y;simp only[zh,zD]at e;obtain⟨h,b,i⟩:=e;injection b with b;rw[q9 h,YF b,qB i]) ⟨c,d,f⟩) (.inr (by simp[wQ.V]))
abbrev qst:List Nat:=[305,341,342,343]
noncomputable abbrev Crst:Ctx:=zQ prog [(340,qG [.g kJ] (FVI Yq fun m=>1<=m/\m<=3)),(305,qG [] (JW iv)),(341,qG [.g jP,.g jP] (Ce Xd)),(342,qG [.g kJ] (FVI ZK fun i=>0<=i/\i<3)),(343,qG [.g kJ] (FVI Zu fun m=>1<=m/\m<=3))]
theorem zdT:AM.Good Crst (fun g=>qst.contains g):=zw mixed ⟨fU,by simp,fT,fun _=>y7 _ _,mw,fun _=>y7 _ _,cT,fun _=>y7 _ _,CU,fun _=>y7 _ _,trivial⟩
theorem wQ.ok.small{v:wQ}(h:v.ok):xg v.pre:=h.2.2.2
theorem tL(o:za)(v:wQ)(m:Int)(t:tK o)(H:v.ok)(S:1<=m/\m<=3):∃T,zr Crst f307 [str o,.agg v.V,int m]=some T/\qW T (Jg o v m):=by
 refine yZ (sh:=.s 11 jQ) rfl ?_;have J:=H.small;have g:=fun Y Z=>aN Yq (fun m=>1<=m/\m<=3) v m (.agg v.V) Y Z H S (Vw v) (aO v Y) (aP v)
 have r:=fun Y Z=>aN Zu (fun m=>1<=m/\m<=3) v m (.agg v.V) Y Z H S (Vw v) (aO v Y) (aP v)
 have w:=fun(i:Int) (hi:0<=i/\i<3) Y Z=>aN ZK (fun i=>0<=i/\i<3) v i (.agg v.V) Y Z H hi (Vw v) (aO v Y) (aP v)
 have x:∀(Y:Hp) (Z:Nat),qG [] (JW iv) [] Y Z=some (.agg [int wu.v.a,int wu.v.b,int wu.v.c,.sl 1 (zJ wu.v.pre),qz wu.after],Y,Z):=fun Y Z=>WW _ Y Z
 have k:Qc (v.part m)=⟨v,false⟩:=rfl;have l:xg (v.part m).pre:=J;have C:=fun Y Z=>Yl wu (Qc (v.part m)) Y Z Cl (QL l)
 have y:=fun Y Z=>Yl wu (xm (v.part m)) Y Z Cl (WX l)
 have z:=fun Y Z=>Yl (Qc (v.part m)) (xm (v.part m)) Y Z (QL l) (WX l)
 have A:=fun i Y Z=>Yl (Qc (v.part m)) (jM (v.part m) i) Y Z (QL l) (Xe _ i)
 have D:=fun i=>mv v 3 m i
 simp only[Xd,k,wQ.V,Cut.V,Yq,Kq,Zu,ZK,vT,(D _).1,(D _).2]at g r w C y z A;have W:=zpg (m-1);have E:(v.part m).has=m:=rfl;have F:∀o':za,o'=o->o'≠jS:=fun o' e=>by
  subst e;rcases t with rfl|t
  ·decide
  ·intro e;rw[e]at t;revert t;decide
 have K:o≠[45]:=by
  rcases t with rfl|t
  ·decide
  ·intro e;rw[e]at t;revert t;decide
 have n0:=F o rfl;have one:∀(X:List qZ) (b:Bool),xh (Vh o (v.part m))=(X,b)->dL o (v.part m)=if b=true then(X,true)else([],false):=fun X b h=>by unfold dL;rw[h]
 by_cases L:o=[62,61]
 ·subst L;have d:=one [yp (Qc (v.part m))] true (by simp[xh,Vh,jS]);simp at d;simp[wQ.V,Cut.V,g,qe,qM,zz,zS,zy,qC,Jg,d,k,qb,yp,qZ.V,Wy,f307]
 have n:=eqF0 L;by_cases M:o=[60]
 ·subst M;have d:=one (iu wu (Qc (v.part m))) true (by simp[xh,Vh,jS]);simp at d;simp[wQ.V,Cut.V,g,x,C,n,qe,qM,zz,zS,zy,qC,Jg,d,k,qb,qZ.V,f307]
 have q:=eqF0 M;by_cases N:o=[62]
 ·subst N;have d:=one [yp (xm (v.part m))] (Wg (v.part m)) (by simp[xh,Vh,jS]);cases j:Wg (v.part m)
  ·rw[j]at d g;simp at d;simp[wQ.V,Cut.V,g,n,q,qe,qM,zz,zS,zy,qC,Jg,d,qb,f307]
  ·rw[j]at d g;simp at d;simp[wQ.V,Cut.V,g,n,q,qe,qM,zz,zS,zy,qC,Jg,d,qb,yp,qZ.V,Wy,f307]
 have u:=eqF0 N;by_cases P:o=[60,61]
 ·subst P;have d:=one (iu wu (xm (v.part m))) (Wg (v.part m)) (by simp[xh,Vh,jS]);cases j:Wg (v.part m)
  ·rw[j]at d g;simp at d;simp[wQ.V,Cut.V,g,x,y,n,q,u,qe,qM,qC,Jg,d,qb,f307]
  ·rw[j]at d g;simp at d;simp[wQ.V,Cut.V,g,x,y,n,q,u,qe,qM,qC,Jg,d,qb,qZ.V,Cut.V,f307]
 have B:=eqF0 P;by_cases Q:o=[126]
 ·subst Q;have d:=one (iu (Qc (v.part m)) (jM (v.part m) (min (m-1) 1).toNat)) (xt (v.part m) (min (m-1) 1).toNat) (by simp[xh,Vh,jS,E]);have G:(if 1<m-1 then 1 else m-1)=(((min (m-1) 1).toNat:Nat):Int):=by split<;>omega
  have hmn:(min (m-1) 1).toNat<3:=by omega
  have f:=w (((min (m-1) 1).toNat:Nat):Int) (by omega);simp only[Int.toNat_natCast]at f;rw[<-G]at f;obtain⟨i,hi⟩:=exI ((min (m-1) 1).toNat);rw[hi]at d f;have p:=fun Y Z=>A i Y Z
  cases j:xt (v.part m) i
  ·rw[j]at d f;simp at d;simp[wQ.V,Cut.V,g,W,f,p,n,q,u,B,qe,qM,qC,Jg,d,qb,f307]
  ·rw[j]at d f;simp at d;simp[wQ.V,Cut.V,g,W,f,p,n,q,u,B,qe,qM,qC,Jg,d,k,qb,qZ.V,f307]
 have I:=eqF0 Q;by_cases R:o=[94]
 ·subst R;have d:=one (iu (Qc (v.part m)) (jM (v.part m) (kb (v.part m)))) (xt (v.part m) (kb (v.part m))) (by simp[xh,Vh,jS]);have hci:=PI (v.part m);have f:=w ((kb (v.part m):Nat):Int) (by omega);simp only[Int.toNat_natCast]at f;obtain⟨i,hi⟩:=exI (kb (v.part m));rw[hi]at d f r;have p:=fun Y Z=>A i Y Z
  cases j:xt (v.part m) i
  ·rw[j]at d f;simp at d;simp[wQ.V,Cut.V,g,r,f,p,n,q,u,B,I,qe,qM,qC,Jg,d,qb,f307]
  ·rw[j]at d f;simp at d;simp[wQ.V,Cut.V,g,r,f,p,n,q,u,B,I,qe,qM,qC,Jg,d,k,qb,qZ.V,f307]
 have e7:=eqF0 R;have d:=one (iu (Qc (v.part m)) (xm (v.part m))) (Wg (v.part m)) (by simp[xh,Vh,n0,L,M,N,P,K,Q,R]);cases j:Wg (v.part m)
 ·rw[j]at d g;simp at d;simp[wQ.V,Cut.V,g,z,n,q,u,B,I,e7,qe,qM,qC,Jg,d,qb,f307]
 ·rw[j]at d g;simp at d;simp[wQ.V,Cut.V,g,z,n,q,u,B,I,e7,qe,qM,qC,Jg,d,k,qb,qZ.V,f307]
theorem rR:zg prog 307 (qG [.a,.g kJ] FOVI):=
 yc (fn:=f307) zdT (zpi func307) _ _ fun args r h=>by obtain⟨⟨o,v,m⟩,rfl,⟨b,c,d⟩,rfl⟩:=zp h;obtain⟨e,f,i⟩:=tL o v m b c d;exact⟨by simp[f307],e,f,i⟩
def W9(l:List cU):List zb:=l.map fun a=>[str a.1,str a.2]
def nu(s:za):List cU×Bool:=match kz (jh s)with
 |some l=>(l,!l.isEmpty)
 |none=>([],false)
def tM(s:za):O:=.wY [.sl 2 (W9 (nu s).1),qz (nu s).2]
noncomputable abbrev Crwo:Ctx:=zQ prog [(194,zf false [] (Zo tbP fun _ b=>oY b)),(338,zf false [] (SY Mh)),(334,zf false [] (Zo tlP fun _ b=>oY b)),(339,zf false [] (FSB ibP))]
theorem zdU:Gd Crwo:=zph mixed ⟨lU,nt,JS,mU,trivial⟩
theorem AQ(a:za)(Y:Hp)(Z:Nat)(h:a.length<=zx):zf false [] (Zo tlP fun _ b=>oY b) [str a,str [32]] Y Z=some (str (Lib.trimLeftB a 32),Y,Z):=kl _ _ a [32] Y Z h (by decide) ⟨32,rfl,by decide⟩ rfl
theorem Ru(a:za)(Y:Hp)(Z:Nat)(h:a.length<=zx):zf false [] (Zo tbP fun _ b=>oY b) [str a,str [32]] Y Z=some (str (Lib.trimB a 32),Y,Z):=kl _ _ a [32] Y Z h (by decide) ⟨32,rfl,by decide⟩ rfl
theorem zaH:∀s:za,(Lib.indexByte s 32=((hd s).length:Int)/\(hd s).length<s.length)\/(Lib.indexByte s 32=-1/\hd s=s)
 |[]=>.inr ⟨rfl,rfl⟩
 |c::s=>by
  by_cases a:c=32
  ·subst a;exact .inl ⟨by simp[Lib.indexByte,hd],by simp[hd]⟩
  ·have b:hd (c::s)=c::hd s:=by simp[hd,a]
   rcases zaH s with⟨d,e⟩|⟨d,e⟩
   ·refine .inl ⟨?_,by rw[b];simpa using e⟩;rw[b];have:¬Lib.indexByte s 32=-1:=by omega
    simp[Lib.indexByte,a,d]
    try omega
   ·refine .inr ⟨?_,by rw[b,e]⟩;simp[Lib.indexByte,a,d]
theorem zdV(s:za):s.take (hd s).length=hd s/\s.drop (hd s).length=tl s:=by have h:=mx s;exact⟨(List.prefix_iff_eq_take.1 ⟨tl s,h⟩).symm,by have:=zC (List.drop (hd s).length) h;simpa using this.symm⟩
def Rv:O->Nat
 | .v (.string s)=>s.size
 |_=>0
theorem rS(l:List cU):(W9 l).length=l.length:=by simp[W9]
theorem zaI(l:List cU):(W9 l).map (Wa [none,none])=W9 l:=by simp[W9]
def WoI(a:za)(st:St):Prop:=∃(s:za) (l:List cU),st.U 0=str s/\N5 s/\s.length+l.length<=a.length/\wg st.Y st.Z 311 2 (st.U 4) (W9 l)/\kz (jh a)=(kz (jh s)).map (l++·)
theorem zaJ{b s:za}{l:List cU}{a:cU}{st:St}(c:st.U 0=str (Lib.trimLeftB s 32))(hs:(Lib.trimLeftB s 32).length+(l.length+1)<=b.length)(d:wg st.Y st.Z 311 2 (st.U 4) (W9 l++[[str a.1,str a.2]]))(e:kz (jh b)=(kz (jh s)).map (fun x=>l++[a]++x)):WoI b st:=
 ⟨Lib.trimLeftB s 32,l++[a],c,KA s,by simpa using hs,by simpa[W9]using d,by rw[e,bQ]⟩
theorem GD(t:za)(ht:t.length<=zx):∃r0,zr Crwo f303 [str t]=some r0/\qW r0 (tM t):=by
 refine yZ (sh:=.s 2 [none,none]) rfl ?_;have W:=fun Y Z=>Ru t Y Z ht
 have G:(Lib.trimB t 32).length<=t.length:=by
  have h1:=bR (Lib.trimRightB t 32);have h2:(Lib.trimRightB t 32).length<=t.length:=by unfold Lib.trimRightB;rw[List.length_reverse];exact zG (List.dropWhile_sublist _).length_le (by simp)
  exact zG h1 h2
 have hR:∀l:List cU,kz (jh t)=some l->nu t=(l,!l.isEmpty):=fun l h=>by unfold nu;rw[h]
 have hN:kz (jh t)=none->nu t=([],false):=fun h=>by unfold nu;rw[h]
 simp[W];refine ZE (WoI t) (fun st=>Rv (st.U 0)) ⟨Lib.trimB t 32,[],by simp,KA _,by simpa using G,.inl ⟨by simp,rfl⟩,by rw[zau];cases kz (jh t)<;>rfl⟩ ?_;rintro⟨U,Y,Z⟩ ⟨s,l,u,X,SO,hO,H⟩;simp only at u hO;by_cases hs:s=[]
 ·subst hs;have he':kz (jh t)=some l:=by rw[H,CV];simp[kz]
  have I:=hR l he';have hfx:=zaI l;have j:=rS l;have hb1:(decide (0<l.length))=!l.isEmpty:=by cases l<;>simp
  rcases hO with⟨S,hn⟩|⟨id,hid,S,hb⟩
  ·have hl:l=[]:=by simpa[W9]using hn
   subst hl;simp[u,S,qC,tM,I,W9,f303]
  ·rw[j]at S;have f:(W9 l).take l.length=W9 l:=qq (by omega);simp[u,S,hb,j,f,hfx,hb1,qC,tM,I,f303]
 ·have hh:hd s≠[]:=X.resolve_left hs;have k:s.isEmpty=false:=by cases s with
   |nil=>exact absurd rfl hs
   |cons c s=>rfl
  have b:=zay hh;have g:=fun h=>zaz (s:=s) h
  unfold zx at ht;have B:s.length<=zx:=by unfold zx;omega
  have d:=fun Y Z=>eS Mh s Y Z B rfl
  have C:=Wq wH s;have i:(wS wH s).1.length<=s.length:=by
   rcases Vl wH s with h|h
   ·rw[h];simp
   ·by_cases m:(wS wH s).1=[]
    ·rw[m];simp
    ·exact(rM wH s m).2.length_le
  have D:=Xg wH s;simp only[Mh]at d;unfold sQ at b g;simp only at b g;obtain⟨o,r,hor⟩:∃o r,wS wH s=(o,r):=⟨_,_,rfl⟩;rw[hor]at d C i D b g;simp only at d C i D b g;have n:=fun Y Z=>AQ r Y Z (by unfold zx;omega)
  have f:(s.drop o.length).take (s.length-o.length)=r:=by rw[C];exact qq (by simp)
  obtain⟨s1,J⟩:=exI (Lib.trimLeftB r 32);have hs1l:s1.length<=s.length:=by rw[<-J];exact zG (bR r) D
  rw[J]at n b g;have w:∀Y Z,zf false [] (FSB ibP) [str s1,.v (.int .u8 32)] Y Z=some (int (Lib.indexByte s1 32),Y,Z):=fun Y Z=>T0 ibP s1 32 Y Z (by unfold zx;omega) rfl
  obtain⟨K,L⟩:=zdV s1;have A:(s1.drop (hd s1).length).take (s1.length-(hd s1).length)=tl s1:=by rw[L];exact qq (by rw[<-L];simp)
  have M:(hd s1).length<=s1.length:=by have:=zC List.length (mx s1);rw[qt]at this;omega
  have p:=fun Y Z=>AQ (tl s1) Y Z (by have:=zC List.length (mx s1);rw[qt]at this;unfold zx;omega)
  have j:=rS l;have E:=wg.yL (P:=prog) (t:=307) (c:=[str o,str (hd s1)]) hO zka zkb zkc zkd rfl (by omega) (by rw[j];unfold maxLen;omega) (by rw[j];omega);have hoe:(s.isEmpty)=false:=k;by_cases m:hd s1=[]
  ·rw[zd m]at b;rw[b]at H;have I:=hN H;rcases zaH s1 with⟨hi,hil⟩|⟨hi,q⟩
   ·rw[m]at hi;simp at hi;simp[u,hs,k,d,i,f,n,w,hi,qC,tM,I,W9,f303]
   ·have N:s1=[]:=by rw[<-q];exact m
    subst N;simp[u,hs,k,d,i,f,n,w,hi,qC,tM,I,W9,f303]
  ·have hlt':=g m;rw[ze m]at b;rw[b]at H;have y:¬(hd s1).length=0:=fun e=>m (qv.1 e)
   have Q:=bR (tl s1);have z:kz (jh t)=(kz (jh (tl s1))).map (fun x=>l++[((o,hd s1):cU)]++x):=by rw[H];cases kz (jh (tl s1))<;>simp
   have T:Rv (str (Lib.trimLeftB (tl s1) 32))<Rv (U 0):=by rw[u];simp[Rv];omega
   rw[u]at T;have hnn:¬((hd s1).length:Int)<0:=by omega
   have F:(((hd s1).length:Int)==0)=false:=by simpa using m
   rcases zaH s1 with⟨hi,hil⟩|⟨hi,q⟩
   ·simp[u,hs,k,d,i,f,n,w,hi,hnn,F,m,y,M,K,A,p,E,qe,qM,zz,zS,zy];exact⟨zaJ (s:=tl s1) (l:=l) (a:=(o,hd s1)) (by simp) (by omega) (by simpa using wg.after) z,by simpa[Rv]using T⟩
   ·rw[q]at y K A M E z;have R:s1≠[]:=fun e=>y (by rw[e];rfl)
    rw[q]at F;have hte:tl s1=[]:=by have:=zC List.length (mx s1);rw[qt,q]at this;exact qv.1 (by omega)
    rw[hte]at p z Q T;simp[u,hs,k,d,i,f,n,w,hi,F,y,R,p,E,qe,qM,zz,zS,zy];exact⟨zaJ (s:=[]) (l:=l) (a:=(o,s1)) (by simp) (by have h9:=xa.2 hs;rw[show Lib.trimLeftB [] 32=[]from rfl,ku];omega) (by simpa using wg.after) z,by simpa[Rv]using T⟩
theorem C5:zg prog 303 (zf false [] (SY tM)):=
 xE (fn:=f303) zdU (zpi func303) false [] _ fun args r h w S vs a=>by obtain⟨l,rfl,Y,rfl⟩:=zp h;obtain⟨b,c,d⟩:=GD l Y;exact⟨_,b,a,by simp[f303],c,d⟩
theorem rT{s:za}{p:Part}(h:QV s=some p):(WE s).2.2=true/\(WE s).2.1=p.has/\(WE s).2.1≠0/\p=(WE s).1.part (WE s).2.1/\(WE s).1.ok/\1<=p.has/\p.has<=3:=by
 have f:=h;rw[N4]at h;split at h
 ·rename_i d;injection h with h
  obtain⟨_,_,Y,j⟩:=QR f;subst h;obtain⟨a,b,c,⟨g,i⟩,e⟩:=Y;exact⟨d.1,rfl,d.2,rfl,⟨a,b,c,e⟩,g,i⟩
 ·cases h
theorem rU{s:za}(h:QV s=none):(WE s).2.2=false\/(WE s).2.1=0:=by
 rw[N4]at h;split at h
 ·cases h
 ·rename_i b;by_cases a:(WE s).2.1=0
  ·exact .inr a
  ·left;cases c:(WE s).2.2
   ·rfl
   ·exact absurd ⟨c,a⟩ b
noncomputable def rV (a b:za):List qZ×Int:=match QV a,QV b with
 |some p,some q=>((fW p q).1,if(fW p q).2=true then 0 else 1)
 |_,_=>([],10)
noncomputable def aV (a b:za):O:=.wY [.sl 11 (qb (rV a b).1),int (rV a b).2]
def one1(a b:za):Prop:=a.length+1<=zx/\b.length+1<=zx
noncomputable abbrev Crbt:Ctx:=zQ prog [(271,zf false [] (Kg D5)),(340,qG [.g kJ] (FVI Yq fun m=>1<=m/\m<=3)),(341,qG [.g jP,.g jP] (Ce Xd))]
theorem zdW:Gd Crbt:=zph mixed ⟨QF,fU,mw,trivial⟩
theorem tN(a b:za)(t:one1 a b):∃y,zr Crbt f304 [str a,str b]=some y/\qW y (aV a b):=by
 obtain⟨F,G⟩:=t;refine yZ (sh:=.s 11 jQ) rfl ?_;have f:=fun Y Z=>kK D5 a Y Z F
 have g:=fun Y Z=>kK D5 b Y Z G
 simp only[D5,wQ.V]at f g;cases i:QV a with
 |none=>
  have d:rV a b=([],10):=by unfold rV;rw[i]
  rcases rU i with h|h
  ·simp[f,g,h,qC,aV,d,qb,f304]
  ·cases H:(WE a).2.2<;>cases u:(WE b).2.2<;>simp[f,g,h,H,u,qC,aV,d,qb,f304]
 |some p=>
  obtain⟨n,M,I,z,J,N,P⟩:=rT i;have e:=eqF0 I;cases o:QV b with
  |none=>
   have d:rV a b=([],10):=by unfold rV;rw[i,o]
   rcases rU o with h|h
   ·simp[f,g,n,e,h,qC,aV,d,qb,f304]
   ·cases u:(WE b).2.2<;>simp[f,g,n,e,h,u,qC,aV,d,qb,f304]
  |some q=>
   obtain⟨A,K,L,B,C,D,E⟩:=rT o;have j:=eqF0 L;have d:rV a b=((fW p q).1,if(fW p q).2=true then 0 else 1):=by unfold rV;rw[i,o]
   rw[<-K]at D E;have c:=fun Y Z=>aN Yq (fun m=>1<=m/\m<=3) (WE b).1 (WE b).2.1 (.agg (WE b).1.V) Y Z C ⟨D,E⟩ (Vw _) (aO _ Y) (aP _)
   have k:Qc p=⟨(WE a).1,false⟩:=by rw[z];rfl
   have v:xg p.pre:=by rw[z];exact J.small
   have w:xg q.pre:=by rw[B];exact C.small
   have l:=fun Y Z=>Yl (Qc p) (xm q) Y Z (QL v) (WX w)
   simp only[Xd,k,wQ.V,Cut.V,Yq,Kq,<-B]at c l;cases r:Wg q
   ·rw[r]at c;have x:fW p q=([],false):=by unfold fW;rw[r];rfl
    rw[x]at d;simp[f,g,n,e,A,j,c,qC,aV,d,qb,f304]
   ·rw[r]at c;have x:fW p q=(iu (Qc p) (xm q),true):=by unfold fW;rw[r];rfl
    rw[x]at d;simp[f,g,n,e,A,j,c,l,qe,qM,qC,aV,d,k,qb,qZ.V,Cut.V,f304]
theorem rW:zg prog 304 (zf false [] (z6 (α:=za×za) (fun a=>[str a.1,str a.2]) (fun a=>one1 a.1 a.2) fun a=>aV a.1 a.2)):=
 xE (fn:=f304) zdW (zpi func304) false [] _ fun args r h w S vs c=>by obtain⟨⟨a,b⟩,rfl,Y,rfl⟩:=zp h;obtain⟨d,e,f⟩:=tN a b Y;exact⟨_,d,c,by simp[f304],e,f⟩
noncomputable def FBt2:zb->Option O:=z6 (α:=za×za) (fun a=>[str a.1,str a.2]) (fun a=>one1 a.1 a.2) fun a=>aV a.1 a.2
theorem Rw(a b:za)(Y:Hp)(Z:Nat)(h:one1 a b):zf false [] FBt2 [str a,str b] Y Z=some (aV a b,Y,Z):=
 hPc (a,b) _ _ rfl BN h (.inr (by simp))
end Go.Q
namespace Go.Proofs
open Go.Shelf
def Tryz.SU:Go.Shelf.Ren:=⟨fun|4=>344|n=>n,fun|22=>195|25=>234|0=>0|3=>3|4=>4|9=>9|20=>20|n=>n,fun|n=>n⟩
theorem Tryz.zla:Go.Proofs.Lays8.n4 prog Tryz.SU:={
 mixed:=by kernel_rfl
 f4:=⟨f344.name,by decide,func344.trans (zC some (by kernel_rfl))⟩
 t0:=underlying0
 a0:=isAgg0
 z0:=sizeOf0
 v0:=zeroValue0
 t3:=underlying3
 a3:=isAgg3
 z3:=sizeOf3
 v3:=zeroValue3
 t4:=underlying4
 a4:=isAgg4
 z4:=sizeOf4
 v4:=zeroValue4
 t9:=underlying9
 a9:=isAgg9
 z9:=sizeOf9
 v9:=zeroValue9
 t20:=underlying20
 a20:=isAgg20
 z20:=sizeOf20
 v20:=zeroValue20
 t22:=underlying195
 a22:=isAgg195
 z22:=sizeOf195
 v22:=zeroValue195}
end Go.Proofs
namespace Go.Q
theorem GF:zg prog 344 (cE 234 11 120):=
 lW ⟨_,func344,by decide,by kernel_rfl⟩ uM (by decide) (sP.of Tryz.zla uM Ez EA rfl (by omega))
noncomputable def zaK (out:List qZ->List qZ->O) (pre:List qZ->List qZ->Prop):zb->Option O:=z6 (α:=List qZ×List qZ) (fun a=>[.sl 1 [[.sl 11 (a.1.map qZ.V)],[.sl 11 (a.2.map qZ.V)]]]) (fun a=>pre a.1 a.2) (fun a=>out a.1 a.2)
noncomputable abbrev Ip:Ctx:=zQ prog [(344,cE 234 11 120)]
theorem C6(a b:List qZ)(E:a.length<=zx)(x:b.length<=zx):∃f,zr Ip f308 [.sl 1 [[.sl 11 (a.map qZ.V)],[.sl 11 (b.map qZ.V)]]]=some f/\qW f (.sl 11 ((a++b).map qZ.V)):=by
 have q:∀{code},f308.body=some code->ZY Ip code ⟨vn [.sl 1 [[.sl 11 (a.map qZ.V)],[.sl 11 (b.map qZ.V)]]],fun _=>none,0⟩ (VS Ip.P f308 (al (.sl 11 ((a++b).map qZ.V))))->∃f,zr Ip f308 [.sl 1 [[.sl 11 (a.map qZ.V)],[.sl 11 (b.map qZ.V)]]]=some f/\qW f (.sl 11 ((a++b).map qZ.V)):=by intro code x h;obtain⟨f,F,G⟩:=Q8 x h;exact⟨f,F,fun w S u H=>dd H G⟩
 refine q rfl ?_;unfold zx at E x;let cs:List (List qZ):=[a,b];have c:cs=[a,b]:=rfl;simp;refine zI (fun k U Y Z=>U 0=.sl 1 [[.sl 11 (a.map qZ.V)],[.sl 11 (b.map qZ.V)]]/\U 9=.sl 1 [[.sl 11 (a.map qZ.V)],[.sl 11 (b.map qZ.V)]]/\U 10=int 2/\U 11=int k/\U 3=int (((cs.take k).map List.length).sum:Nat)) 2
  ⟨by simp,by simp,by simp,by simp,by simp⟩ ?_
 rintro k U Y Z I ⟨y,z,g,i,p⟩;obtain rfl|rfl|rfl:k=0\/k=1\/k=2:=by omega
 ·simp[c]at p;have A:=zpg (a.length:Int);have j:=zpg 1;have B:¬(a.length:Int)<0:=by omega
  simp[y,z,g,i,p,A,j,B,c]
 ·simp[c]at p;have A:=zpg ((a.length:Int)+b.length);have j:=zpg 2;have B:¬(a.length:Int)+b.length<0:=by omega
  simp[y,z,g,i,p,A,j,B,c]
 ·simp[c]at p;have J:∀Y Z,∃v r s,cE 234 11 120 [.nil,int ((a.length:Int)+b.length)] Y Z=some (v,r,s)/\wg r s 234 11 v []:=fun Y Z=>by
   by_cases D:(a.length:Int)+b.length=0
   ·exact⟨.nil,Y,Z,by simp[cE,D],.inl ⟨rfl,rfl⟩⟩
   ·exact⟨.own Z 0 0,qR Y Z (some ⟨234,11,true,[]⟩),Z+1,by show(if(a.length:Int)+b.length=0 then _ else _)=_;rw[ze D,zd ⟨by omega,by omega,by omega⟩],.inr ⟨Z,by omega,rfl,by simp⟩⟩
  obtain⟨v,r,s,C,e⟩:=J Y Z;simp[y,z,g,i,p,C];refine zI (fun k U Y Z=>U 25=.sl 1 [[.sl 11 (a.map qZ.V)],[.sl 11 (b.map qZ.V)]]/\U 26=int 2/\U 27=int k/\wg Y Z 234 11 (U 6) (((cs.take k).flatten).map qZ.V)) 2
   ⟨by simp,by simp,by simp,by simpa using e⟩ ?_
  rintro k U Y Z I ⟨l,m,n,e⟩;obtain rfl|rfl|rfl:k=0\/k=1\/k=2:=by omega
  ·simp[c]at e;obtain⟨K,r,s,o,d,_⟩:=e.Yu (P:=prog) (t:=195) (ys:=a.map qZ.V) Ny uM Ez EA rfl (by omega) (by simp[maxLen];omega) (by simp;omega);have j:=zpg 1;simp at d;simp[l,m,n,o,j,c];exact d
  ·simp[c]at e;obtain⟨K,r,s,o,d,_⟩:=e.Yu (P:=prog) (t:=195) (ys:=b.map qZ.V) Ny uM Ez EA rfl (by omega) (by simp[maxLen];omega) (by simp;omega);have j:=zpg 2;simp[l,m,n,o,j,c];simpa using d
  ·simp[c]at e;have:=e.freeze Z;simp[l,m,n,f308];exact this
noncomputable def AR:zb->Option O:=zaK (fun a b=>.sl 11 ((a++b).map qZ.V)) fun a b=>a.length<=zx/\b.length<=zx
theorem tO:zg prog 308 (zf true [] AR):=
 xE (fn:=f308) (zph mixed ⟨GF,trivial⟩:AM.Good Ip _) (zpi func308) true [] _ fun args r h w S vs d=>by unfold AR zaK at h;obtain⟨⟨a,b⟩,rfl,c,rfl⟩:=zp h;obtain⟨e,f,g⟩:=C6 a b c.1 c.2;exact⟨_,e,d,zG (zl 1) (by decide),f,g⟩
end Go.Q
namespace Go.AM
variable{dr:Prop}
section
variable{P:Program}{Y:Hp}{Z:Nat}
def zfC(P:Program)(f e s by_:Nat):Prop:=
 ∀(w:World) (g m n i cap l:Nat) (d a:Array Value) (o:TypeId),i<n->n<=cap->cap<=maxLen->n+1<=maxLen->(n+1)*by_<=140737488355328->g≠m->1<=l->l<=maxLen ->
  w.heap[g]?=some (.cells d e (0,0))->d.size=cap*s->w.heap[m]?=some (.cells a o (0,0))->a.size=l*s->(∀j v,j<n*s->d[j]?=some v->v.oneCell'=true)->(∀j v,j<s->a[j]?=some v->v.oneCell'=true) ->
  Calls P f #[.slice (some ⟨g,0,none⟩) n cap,.int .i64 i,.slice (some ⟨m,0,none⟩) 1 l] w fun r w'=>∃(k c:Nat) (h:Array Value),n+1<=c/\c<=maxLen/\r=.returned (.slice (some ⟨k,0,none⟩) ((n+1:Nat)) c) /\
   (k=g\/w.heap.size<=k)/\w'.heap[k]?=some (.cells h e (0,0))/\h.size=c*s/\Fr True w (fun b=>b=k) w' /\
   ∀j,j<(n+1)*s->h[j]?=(d.toList.take (i*s)++a.toList.take s++(d.toList.take (n*s)).drop (i*s))[j]?
def mz(e s by_:Nat):AM.Spec:=fun args Y Z=>match args with
 |[.own id 0 n,.v (.int .i64 i),.own a 0 1]=>match Y id,Y a with
  |some b,some d=>match d.es with
   |[c]=>if id≠a/\b.arr=true/\d.arr=true/\b.e=e/\b.s=s/\d.s=s/\b.es.length=n/\0<=i/\i<n/\(n+1)*by_<=140737488355328/\n+1<=maxLen then
     some (.own Z 0 (n+1),qR (qR Y id none) Z (some ⟨e,s,true,b.es.take i.toNat++c::b.es.drop i.toNat⟩),Z+1)else none
   |_=>none
  |_,_=>none
 |_=>none
theorem zhq{es:List zb}{s i j:Nat}(d:∀c∈es,c.length=s){c:zb}{e:O}(hi:es[i]?=some c)(f:c[j]?=some e):j<s/\i<es.length/\i*s+j<es.length*s:=by
 have a:j<s:=by rw[<-d c (zM hi)];exact(zn.1 f).1
 have b:i<es.length:=(zn.1 hi).1;exact⟨a,b,vO b a⟩
theorem GG{f e s by_:Nat}(hfn:∃fn,P.funcs[f]?=some fn/\(fn.name== "runtime.NumGoroutine")=false/\fn.body.isNone=false)(hsz:qF P e=some s)(E:0<s)(h:zfC P f e s by_):xB dr P f (mz e s by_):=by
 refine⟨hfn,?_⟩;intro args Y Z r Y' Z' t w S G vs hi hz;unfold mz at t;split at t
 case h_2=>cases t
 rename_i id n i x;split at t
 case h_2=>cases t
 rename_i b b2 hb hb2;split at t
 case h_2=>cases t
 rename_i c hc;split at t
 case isFalse=>cases t
 rename_i hk;obtain⟨k1,k2,k3,k4,k5,k6,k7,k8,k9,k10,k11⟩:=hk;injection t with t
 injection t with e1 t;injection t with e2 e3;subst e1;subst e2;subst e3;obtain⟨u0,us,rfl,hu0,y⟩:=hz.kc;obtain⟨u1,us,rfl,hu1,y⟩:=y.kc;obtain⟨u2,us,rfl,hu2,y⟩:=y.kc;obtain rfl:=y.YU;obtain⟨rfl,_⟩:=hu1.yq;have S7:=hu0.Za;have I:=hu2.Za;obtain⟨cap,g1,g2,g3,g4,rfl⟩:=hu0.xA;obtain⟨vc,v1,v2,v3,v4,rfl⟩:=hu2.xA;have R:=hi.live id b hb;have z:=hi.live x b2 hb2;have hgs:(G id).s=s:=by rw[<-R.bs];exact k5
 have J:(G x).s=s:=by rw[<-z.bs];exact k6
 obtain⟨F,q1,q2,q3⟩:=R.row S7;obtain⟨A,r1,r2,r3⟩:=z.row I;rw[hgs]at q3 g4;rw[J]at r3 v4;rw[k4]at q1;have z0:0*(G id).s=0:=zeQ _;have z1:0*(G x).s=0:=zeQ _;rw[z0,z1];have hne:(G id).g≠(G x).g:=fun e=>k1 (hi.inj id x b b2 hb hb2 e)
 have B:∀c∈b.es,c.length=s:=fun c hc=>by rw[<-hgs];exact R.len S7 c hc
 have hlc:c.length=s:=by rw[<-J];exact z.len I c (by rw[hc];simp)
 obtain⟨m,rfl⟩:∃m:Nat,i=m:=⟨i.toNat,by omega⟩;have hmn:m<n:=by omega
 have key:=h w (G id).g (G x).g n m cap vc F A b2.e hmn g2 g3 k11 k10 hne v2 v3 q1 (by rw[q2,<-g4,wJ]) r1 (by rw[r2,<-v4,wJ])
  (fun j v T hv=>by
   have hd:=Nat.div_add_mod j s;have hm:=Nat.mod_lt j E;have W:j/s<b.es.length:=by rw[k7];exact(Nat.div_lt_iff_lt_mul E).2 T
   obtain⟨row,K⟩:∃row,b.es[j/s]?=some row:=⟨_,zq W⟩;have X:=B row (zM K);obtain⟨q,hpv⟩:∃q,row[j % s]?=some q:=⟨_,zq (by omega)⟩;obtain⟨u,p,H⟩:=q3 (j/s) (j % s) row q K hpv;rw[zeN,hd,hv]at p;injection p with p;rw[p];exact H.2.2)
  (fun j v T hv=>by obtain⟨q,hpv⟩:∃q,c[j]?=some q:=⟨_,zq (by omega)⟩;obtain⟨u,p,H⟩:=r3 0 j c q (by rw[hc];rfl) hpv;rw[zeQ,wJ,hv]at p;injection p with p;rw[p];exact H.2.2)
 refine key.mono fun e w' hr=>?_
 obtain⟨g',L,l,p1,p2,rfl,p4,p5,p6,p7,p8⟩:=hr;have M:∀id' C,qR Y id none id'=some C->Y id'=some C:=fun id' C h=>Yv h
 have zcb:∀id' C,qR Y id none id'=some C->(G id').g≠g':=fun id' C D e=>by
  have hb0:=M id' C D;rcases p4 with rfl|p4
  ·have:=hi.inj id' id C b hb0 hb e;subst this;rw[yd]at D;cases D
  ·have:=(hi.live id' C hb0).lt;omega
 have hnS:¬S g':=fun hS=>by
  rcases p4 with rfl|p4
  ·exact hi.apart id b hb hS
  ·have:=hi.st _ hS;omega
 have htl:(b.es.take m++c::b.es.drop m).length=n+1:=by simp;omega
 have X:∀c'∈b.es.take m++c::b.es.drop m,c'.length=s:=fun c' hc'=>by
  rcases qg.1 hc' with h|h
  ·exact B c' (vx h)
  ·rcases zA.1 h with rfl|h
   ·exact hlc
   ·exact B c' (List.mem_of_mem_drop h)
 have hcl:(F.toList.take (n*s)).length=n*s:=by have:n*s<=cap*s:=zY _ g2;simp only[jn,yk];rw[q2,<-g4,wJ];exact Nat.min_eq_left this
 have hms:m*s<=n*s:=zY _ (by omega);have o:(F.toList.take (m*s)).length=m*s:=by
  have:F.toList.length=cap*s:=by rw[yk,q2,<-g4,wJ]
  have h2:n*s<=cap*s:=zY _ g2;simp only[jn,this];omega
 have hvl:(A.toList.take s).length=s:=by
  have:A.toList.length=vc*s:=by rw[yk,r2,<-v4,wJ]
  have h2:1*s<=vc*s:=zY _ v2;simp only[jn,this];omega
 have k:=vA.Bc (dr:=dr) (Y1:=qR Y id none) hi M ⟨g',l.size,s⟩ e true (b.es.take m++c::b.es.drop m) l p7.os p7.tape p7.output p7.size (p7.drawn trivial) (fun _=>False) (fun _ h=>h.elim)
  (fun C D hne' _=>p7.block C D hne') zcb hnS (by
   rcases p4 with rfl|p4
   ·exact .inl ⟨id,b,hb,rfl⟩
   ·exact .inr p4) E (by simpa[qF]using hsz) X (by rw[htl,p6];exact zY _ p1) p5 rfl
  (fun i' j c' q a T=>by
   obtain⟨b1,b2',b3⟩:=zhq X a T;rw[htl]at b2' b3;have Im:=p8 (i'*s+j) b3;show∃u,l[i'*s+j]?=some u/\_;rw[Im];have N:∀u,jN w S G Z b.arr q u->jN w S G Z true q u:=fun u hu=>by rw[k2]at hu;exact hu
   have zlb:∀u,jN w S G Z b2.arr q u->jN w S G Z true q u:=fun u hu=>by rw[k3]at hu;exact hu
   rcases Nat.lt_trichotomy i' m with hlt|heq|hgt
   ·rw[qp (by rw[jn,k7];omega),qN,zd hlt]at a;obtain⟨u,p,H⟩:=q3 i' j c' q a T;have Q:i'*s+j<m*s:=vO hlt b1;refine⟨u,?_,N u H⟩;rw[qT,qp (by rw[o];exact Q),qN,zd Q];simpa using p
   ·subst heq;rw[z8 (by rw[jn,k7];omega)]at a;rw[jn,k7,Nat.min_eq_left (by omega),Nat.sub_self]at a;simp only[List.getElem?_cons_zero,qj]at a;subst a;obtain⟨u,p,H⟩:=r3 0 j c q (by rw[hc];rfl) T;rw[zeQ,wJ]at p;refine⟨u,?_,zlb u H⟩;rw[qT,z8 (by rw[o];omega),o,Nat.add_sub_cancel_left,qp (by rw[hvl];exact b1),qN,zd b1];simpa using p
   ·obtain⟨d,rfl⟩:∃d,i'=d+1:=⟨i'-1,by omega⟩;rw[z8 (by rw[jn,k7];omega)]at a;rw[jn,k7,Nat.min_eq_left (by omega),show d+1-m=(d-m)+1 by omega,List.getElem?_cons_succ,wc,show m+(d-m)=d by omega]at a;obtain⟨u,p,H⟩:=q3 d j c' q a T;have hdn:d<n:=by omega
    have W:=vO (s:=s) hdn b1;have hmd:m*s<=d*s:=zY _ (by omega);refine⟨u,?_,N u H⟩;rw[z8 (by rw[qt,o,hvl,q7,OA];omega),qt,o,hvl,wc,
     show m*s+((d+1)*s+j-(m*s+s))=d*s+j by rw[q7,OA];omega,qN,zd W]
    simpa using p)
 refine⟨_,_,_,rfl,k,?_⟩;have:=qx.own (w:=w') (S:=S) (G:=qR G Z ⟨g',l.size,s⟩) (Z:=Z+1) (id:=Z) (off:=0) (n:=n+1) (cap:=L) (by omega) p1 p2 (by rw[yd];show(0+L)*s=l.size;rw[p6,wJ]) (by rw[yd];exact E);rw[yd]at this;simpa using this
noncomputable def hIns (C:Ctx) (fn:Func) (e s by_:Nat):AM.Spec:=fun args Y Z=>match mz e s by_ args Y Z with
 |some r=>some r
 |none=>we C fn args Y Z
theorem Ml{C:Ctx}{fn:Func}{f e s by_:Nat}(a:xB dr P f (mz e s by_))(d:xB dr P f (we C fn)):xB dr P f (hIns C fn e s by_):=by
 refine⟨a.1,fun args Y Z r b c h=>?_⟩;unfold hIns at h;split at h
 ·rename_i q g;injection h with h
  subst h;exact a.2 args Y Z r b c g
 ·exact d.2 args Y Z r b c h
end
end Go.AM
namespace Go.AM
open Go.RowKit Go.Proofs Go.Lib
variable{dr:Prop}
variable{P:Program}
theorem Yr(w:World)(r s ty b:TypeId)(k m g o d f:Nat)(a:Addr)(e h:Nat)(c:Array Value)(t:TypeId)(cs:List Value)
  (u:P.underlying r=some (.slice b)) (hs:qF P b=some k)
  (x:w.heap[g]?=some (.cells c t (0,0))) (y:Nat.min e d=m) (z:cs.length=m*k)
  (l:∀j v,cs[j]?=some v->w.cell? (a.add j)=some v) (n:o+cs.length<=c.size) (A:∀v∈cs,v.oneCell'=true) :
  (Builtin.copy_ #[r,s] ty #[.slice (some ⟨g,o,none⟩) d f,.slice (some a) e h]).run P w =
   .ok (goInt m) (w.setRow g (c.toList.take o++cs++c.toList.drop (o+cs.length)).toArray):=by
 have B:=run_loadCells_list (P:=P) w a cs l;have p:=run_storeCells_at P g o t cs 0 c w x (by simpa using n) A;unfold qF at hs;cases q:P.info? b with
 |none=>simp[q]at hs
 |some i=>
  have hi:i.size=k:=by simpa[q]using hs
  simp[Builtin.copy_,zO u,Builtin.lenOf,Builtin.firstCells,sizeOf,typeInfo,q,hi,y,<-z,B,p]
theorem aW{w:World}{g e:Nat}{a:Array Value}(h:w.heap[g]?=some (.cells a e (0,0)))(j:Nat):w.cell? ⟨g,j,none⟩=a[j]?:=by simp[World.cell?,h]
theorem GH{w:World}{g e:Nat}{a:Array Value}(h:w.heap[g]?=some (.cells a e (0,0)))(j:Nat):w.frozen? ⟨g,j,none⟩=false:=by simp[World.frozen?,h]
theorem AU{w:World}{g e:Nat}{a:Array Value}(h:w.heap[g]?=some (.cells a e (0,0))):w.shape? g=some (e,a.size):=by simp[World.shape?,h]
theorem J4{w:World}{g k:Nat}(cs:Array Value)(h:k≠g):(w.setRow g cs).heap[k]?=w.heap[k]?:=by
 have:¬g=k:=fun e=>h e.symm
 simp[World.setRow,Qv,this]
theorem AV(w:World)(g:Nat)(cs:Array Value):Fr dr w (fun b=>b=g) (w.setRow g cs):=
 ⟨rfl,rfl,rfl,by simp[World.setRow],fun _=>zl _,fun k _ a=>J4 cs a⟩
def jR(l:List Value)(o:Nat)(cs:List Value):List Value:=l.take o++cs++l.drop (o+cs.length)
theorem xk{l cs:List Value}{o:Nat}(h:o+cs.length<=l.length):(jR l o cs).length=l.length:=by unfold jR;simp;omega
theorem Rx{l vs:List Value}{n i s:Nat}(hi:i<=n)(c:(n+1)*s<=l.length)(d:vs.length=s)(j:Nat)(e:j<(n+1)*s) :
  (jR (jR l ((i+1)*s) ((l.take (n*s)).drop (i*s))) (i*s) vs)[j]?=(l.take (i*s)++vs++(l.take (n*s)).drop (i*s))[j]?:=by
 have f:(i+1)*s=i*s+s:=by rw[q7,OA]
 have g:(n+1)*s=n*s+s:=by rw[q7,OA]
 have t:i*s<=n*s:=zY _ hi;rw[g]at c e;rw[f];generalize n*s=N at *;generalize i*s=I at *;subst d;have h:((l.take N).drop I).length=N-I:=by simp;omega
 have b:I+vs.length+((l.take N).drop I).length<=l.length:=by rw[h];omega
 have a:(jR l (I+vs.length) ((l.take N).drop I)).length=l.length:=xk b;have k:=xc (jR l (I+vs.length) ((l.take N).drop I)) vs I j (by rw[a];omega);have m:=xc l ((l.take N).drop I) (I+vs.length) j b;have o:(jR (jR l (I+vs.length) ((l.take N).drop I)) I vs)[j]?=if I<=j/\j<I+vs.length then vs[j-I]? else(jR l (I+vs.length) ((l.take N).drop I))[j]?:=k
 have p:(jR l (I+vs.length) ((l.take N).drop I))[j]?=if I+vs.length<=j/\j<I+vs.length+((l.take N).drop I).length then((l.take N).drop I)[j-(I+vs.length)]? else l[j]?:=m
 have q:(l.take I).length=I:=by simp;omega
 rw[o,p,qT];by_cases r:j<I
 ·rw[ze (by omega),ze (by omega),qp (by omega),qN,zd r]
 ·rw[z8 (by omega),q];by_cases u:j<I+vs.length
  ·rw[zd (by omega),qp (by omega)]
  ·rw[ze (by omega),zd (by omega),z8 (by omega)];congr 1;omega
theorem zaL{R olds vs cs:List Value}{I:Nat}(b:olds.length=I)(c:∀j,j<I->R[j]?=olds[j]?)(i:I+vs.length+cs.length<=R.length)(j:Nat)(k:j<I+vs.length+cs.length) :
  (jR (jR R I vs) (I+vs.length) cs)[j]?=(olds++vs++cs)[j]?:=by
 have a:(jR R I vs).length=R.length:=xk (by omega);have d:=xc (jR R I vs) cs (I+vs.length) j (by rw[a];omega);have e:=xc R vs I j (by omega);have f:(jR (jR R I vs) (I+vs.length) cs)[j]?=if I+vs.length<=j/\j<I+vs.length+cs.length then cs[j-(I+vs.length)]? else(jR R I vs)[j]?:=d
 have g:(jR R I vs)[j]?=if I<=j/\j<I+vs.length then vs[j-I]? else R[j]?:=e
 rw[f,g,qT];by_cases h:j<I
 ·rw[ze (by omega),ze (by omega),qp (by omega),c j h]
 ·rw[z8 (by omega),b];by_cases l:j<I+vs.length
  ·rw[ze (by omega),zd (by omega),qp (by omega)]
  ·rw[zd (by omega),z8 (by omega)];congr 1;omega
theorem zaM{e s by_:Nat}{z:zb}(hs:qF P e=some s)(b:j7 P e=some by_)(d:yN P e=some z)(f:z.length=s):∃i v,P.info? e=some i/\i.zero=some v/\i.size=s/\i.bytes=by_/\v.cells.size=s:=by
 obtain⟨i,v,hi,g,h⟩:=Q5 d;obtain⟨i',a,c⟩:=Jo hs;rw[hi]at a;injection a with a;subst a;refine⟨i,v,hi,g,c,?_,?_⟩
 ·unfold j7 at b;rw[hi]at b;simpa using b
 ·have:=(jJ (w:=default) (S:=fun _=>False) h).1;rw[f]at this;simpa using this.symm
theorem C7{w:World}(o:Obj):(w.alloc o).heap[w.heap.size]?=some o:=by show(w.heap.push o)[w.heap.size]?=some o;simp
theorem lg{w:World}(o:Obj){k:Nat}(h:k<w.heap.size):(w.alloc o).heap[k]?=w.heap[k]?:=by
 have:¬k=w.heap.size:=by omega
 show(w.heap.push o)[k]?=_;simp[Array.getElem?_push,this]
theorem setRow_size{w:World}{g:Nat}(cs:Array Value):(w.setRow g cs).heap.size=w.heap.size:=by simp[World.setRow]
theorem Mm{w:World}(o:Obj):(w.alloc o).heap.size=w.heap.size+1:=by show(w.heap.push o).size=_;simp
end Go.AM
namespace Go.Q
open Go.RowKit Go.Lib Go.AM
attribute [local go_sem] Oper.semAt_some
theorem Mn(w:World)(g vb n i cap vc:Nat)(cur vcur:Array Value)(tv:TypeId)(hi:i<n)(hroom:n+1<=cap)(hc63:cap<=9223372036854775807)(hne:g≠vb)(hv1:1<=vc)
  (hg:w.heap[g]?=some (.cells cur 232 (0,0))) (hcs:cur.size=cap*5) (hv:w.heap[vb]?=some (.cells vcur tv (0,0))) (hvs:vcur.size=vc*5)
  (h1c:∀j v,j<n*5->cur[j]?=some v->v.oneCell'=true) (h1v:∀j v,j<5->vcur[j]?=some v->v.oneCell'=true) :
  Calls prog 345 #[.slice (some ⟨g,0,none⟩) n cap,.int .i64 i,.slice (some ⟨vb,0,none⟩) 1 vc] w fun e w'=>
   e=.returned (.slice (some ⟨g,0,none⟩) (n+1) cap)/\w'.heap[g]?=some (.cells (jR (jR cur.toList ((i+1)*5) ((cur.toList.take (n*5)).drop (i*5))) (i*5) (vcur.toList.take 5)).toArray 232 (0,0))/\Fr True w (fun b=>b=g) w':=by
 have t3:=underlying3;have a3:=isAgg3;have z3:=sizeOf3;have v3:=zeroValue3;have t4:=underlying4;have a4:=isAgg4;have z4:=sizeOf4;have v4:=zeroValue4;have t24:=underlying267;have a24:=isAgg267;have z24:=sizeOf267;have v24:=zeroValue267;have t9:=underlying232;have a9:=isAgg232;have z9:=sizeOf232;have u3:=zO t3;have u4:=zO t4;have u24:=zO t24;have hz2:¬((i:Int)=(n:Int)):=by omega
 have hov:∀o lb cb,(callFunc 355 #[.slice (some ⟨vb,0,none⟩) 1 vc,.slice (some ⟨g,o,none⟩) lb cb]).run prog w=.ok (.value (.bool false)) w:=fun o lb cb=>by
  rw[run_callFunc_extern func355 (by kernel_rfl) (by kernel_rfl) (by kernel_rfl) (e:=Extern.SlicesOverlaps.overlaps #[267,267] #[4]) (by kernel_rfl),
   Lib.run_overlaps_apart w 267 4 232 t24 5 z9 ⟨vb,0,none⟩ ⟨g,o,none⟩ 1 vc lb cb (fun e=>hne e.symm) _ _ _ _ (AU hv) (AU hg) (by rw[hcs];omega) (GH hv 0) (GH hv _)]
  rfl
 have mixed:prog.follows .mixedOrders=true:=by kernel_rfl
 have hw1:i6.wrap ((i:Int)+1)=(i:Int)+1:=by rw[DU];omega
 have hw2:i6.wrap ((n:Int)+1)=(n:Int)+1:=by rw[DU];omega
 have hb1:(0:Int)<=(i:Int)+1:=by omega
 have hb5:(0:Int)<=(n:Int)+1:=by omega
 have hin:i<=n:=by omega
 have htn:((i:Int)+1).toNat=i+1:=by omega
 have htn2:((n:Int)+1).toNat=n+1:=by omega
 have hb2:¬(cap=i+1):=by omega
 have hb3:(i:Int)<=(n:Int)+1:=by omega
 have hb4:¬(cap=i):=by omega
 have hb6:¬((cap:Int)<(n:Int)+1):=by omega
 have hs5:qF prog 232=some 5:=eI;obtain⟨cs,hcsd⟩:=exI ((cur.toList.take (n*5)).drop (i*5));obtain⟨vs,hvsd⟩:=exI (vcur.toList.take 5);have hcl:cs.length=(n-i)*5:=by rw[<-hcsd];simp;omega
 have hvl:vs.length=1*5:=by rw[<-hvsd];simp;omega
 have hcget:∀j v,cs[j]?=some v->cur[i*5+j]?=some v/\i*5+j<n*5:=fun j v hj=>by
  rw[<-hcsd,wc,qN]at hj;split at hj
  ·exact⟨by simpa using hj,by assumption⟩
  ·cases hj
 have hvget:∀j v,vs[j]?=some v->vcur[j]?=some v/\j<5:=fun j v hj=>by
  rw[<-hvsd,qN]at hj;split at hj
  ·exact⟨by simpa using hj,by assumption⟩
  ·cases hj
 have hc1:∀v∈cs,v.oneCell'=true:=fun v hv=>by obtain⟨j,hj⟩:=zhR.1 hv;obtain⟨a,b⟩:=hcget j v hj;exact h1c _ v b a
 have hv1':∀v∈vs,v.oneCell'=true:=fun v hv=>by obtain⟨j,hj⟩:=zhR.1 hv;obtain⟨a,b⟩:=hvget j v hj;exact h1v _ v b a
 obtain⟨row1,hrow1⟩:=exI (jR cur.toList ((i+1)*5) cs);have hr1l:row1.length=cap*5:=by rw[<-hrow1,xk (by rw[hcl,yk,hcs];omega),yk,hcs]
 have hcp1:∀ty dc sc,(Builtin.copy_ #[267,267] ty #[.slice (some ⟨g,(i+1)*5,none⟩) (n-i) dc,.slice (some ⟨g,i*5,none⟩) (n+1-i) sc]).run prog w.drew=.ok (goInt ((n-i:Nat):Int)) (w.drew.setRow g row1.toArray):=fun ty dc sc=>by
  rw[<-hrow1];exact Yr w.drew _ _ ty 232 5 (n-i) g ((i+1)*5) (n-i) dc ⟨g,i*5,none⟩ (n+1-i) sc cur 232 cs t24 hs5 hg (by simp only[Nat.min_def];split<;>omega) hcl
   (fun j v hj=>by rw[kq];exact(aW hg _).trans (hcget j v hj).1) (by rw[hcl,hcs];omega) hc1
 have hcp2:∀(W:World),W.heap[g]?=some (.cells row1.toArray 232 (0,0))->W.heap[vb]?=some (.cells vcur tv (0,0))->∀ty dc,(Builtin.copy_ #[267,267] ty #[.slice (some ⟨g,i*5,none⟩) (n+1-i) dc,.slice (some ⟨vb,0,none⟩) 1 vc]).run prog W=.ok (goInt ((1:Nat):Int)) (W.setRow g (jR row1 (i*5) vs).toArray):=fun W hWg hWv ty dc=>by
  have:=Yr W 267 267 ty 232 5 1 g (i*5) (n+1-i) dc ⟨vb,0,none⟩ 1 vc row1.toArray 232 vs t24 hs5 hWg (by simp only[Nat.min_def];split<;>omega) hvl
   (fun j v hj=>by rw[kq,wJ];exact(aW hWv _).trans (hvget j v hj).1) (by rw[hvl,jY,hr1l];omega) hv1'
  exact this
 have hWg:(w.drew.setRow g row1.toArray).heap[g]?=some (.cells row1.toArray 232 (0,0)):=setRow_heap _ _ _ _ _ _ hg;have hWv:(w.drew.setRow g row1.toArray).heap[vb]?=some (.cells vcur tv (0,0)):=(J4 _ (fun e=>hne e.symm)).trans hv;have hfin:∀W,W=(w.drew.setRow g row1.toArray).setRow g (jR row1 (i*5) vs).toArray->W.heap[g]?=some (.cells (jR row1 (i*5) vs).toArray 232 (0,0))/\Fr True w (fun b=>b=g) W:=fun W e=>by subst e;refine⟨setRow_heap _ _ _ _ _ _ hWg,?_⟩;exact((Fr.drew w (fun b=>b=g)).trans (AV w.drew g _) fun _ _ h=>h).trans (AV _ g _) fun _ _ h=>h
 rw[hcsd,hvsd,hrow1];clear hcsd hvsd hcl hvl hcget hvget hc1 hv1' hrow1 hr1l
 go_enter func345,Tryz.ntmps345
 go_wp2_with (simp only[hov])
 go_region_law_o (refine step_copy_runI rfl _ _ 267 267 rfl _ _ (by simp[Act.eval,Act.put]) (by simp[Act.eval,Act.put]) (hcp1 _ _ _) ?_)
 go_wp2_with (at_builtin;refine wpList_copy_runI _ rfl _ _ 267 267 rfl _ _ rfl rfl (hcp2 _ hWg hWv _ _) ?_)
 go_ret
 exact⟨rfl,hfin _ rfl⟩
theorem Ry(w:World)(g vb n i cap vc:Nat)(cur vcur:Array Value)(tv:TypeId)(hi:i<n)(hnc:n<=cap)(hroom:cap<n+1)(hbig:(n+1)*56<=140737488355328)(hv1:1<=vc)
  (hg:w.heap[g]?=some (.cells cur 232 (0,0))) (hcs:cur.size=cap*5) (hv:w.heap[vb]?=some (.cells vcur tv (0,0))) (hvs:vcur.size=vc*5)
  (h1c:∀j v,j<n*5->cur[j]?=some v->v.oneCell'=true) (h1v:∀j v,j<5->vcur[j]?=some v->v.oneCell'=true) :
  Calls prog 345 #[.slice (some ⟨g,0,none⟩) n cap,.int .i64 i,.slice (some ⟨vb,0,none⟩) 1 vc] w fun e w'=>
   ∃(G:Nat) (R:List Value),n+1<=G/\G<=maxLen/\R.length=G*5/\(∀j,j<i*5->R[j]?=(cur.toList.take (i*5))[j]?)/\e=.returned (.slice (some ⟨w.heap.size,0,none⟩) (n+1) G) /\
    w'.heap[w.heap.size]?=some (.cells (jR (jR R (i*5) (vcur.toList.take 5)) ((i+1)*5) ((cur.toList.take (n*5)).drop (i*5))).toArray 232 (0,0))/\Fr True w (fun b=>b=w.heap.size) w':=by
 have t3:=underlying3;have a3:=isAgg3;have z3:=sizeOf3;have v3:=zeroValue3;have t4:=underlying4;have a4:=isAgg4;have z4:=sizeOf4;have v4:=zeroValue4;have t24:=underlying267;have a24:=isAgg267;have z24:=sizeOf267;have v24:=zeroValue267;have t9:=underlying232;have a9:=isAgg232;have z9:=sizeOf232;have u3:=zO t3;have u4:=zO t4;have u24:=zO t24;obtain⟨i0,z0,hi0,hz0,his,hib,hzc⟩:=zaM (P:=prog) eI uK uL rfl;have hz2:¬((i:Int)=(n:Int)):=by omega
 have hz3:(cap:Int)<(n:Int)+1:=by omega
 have mixed:prog.follows .mixedOrders=true:=by kernel_rfl
 have hw1:i6.wrap ((i:Int)+1)=(i:Int)+1:=by rw[DU];omega
 have hw2:i6.wrap ((n:Int)+1)=(n:Int)+1:=by rw[DU];omega
 have hw3:i6.wrap ((n:Int)+1-i)=(n:Int)+1-i:=by rw[DU];omega
 have hb1:(0:Int)<=(i:Int)+1:=by omega
 have hin:i<=n:=by omega
 have htn:((i:Int)+1).toNat=i+1:=by omega
 have hkk:(n:Int)+1-(i:Int)=((n+1-i:Nat):Int):=by omega
 have hik:i+(n+1-i)=n+1:=by omega
 have hb3:(i:Int)<=(n:Int):=by omega
 have hbw:g<w.heap.size:=(qE.1 hg).1;have hvw:vb<w.heap.size:=(qE.1 hv).1;have hs5:qF prog 232=some 5:=eI;obtain⟨olds,hod⟩:=exI (cur.toList.take (i*5));obtain⟨cs,hcsd⟩:=exI ((cur.toList.take (n*5)).drop (i*5));obtain⟨vs,hvsd⟩:=exI (vcur.toList.take 5);have hol:olds.length=i*5:=by rw[<-hod];simp;omega
 have hcl:cs.length=(n-i)*5:=by rw[<-hcsd];simp;omega
 have hvl:vs.length=1*5:=by rw[<-hvsd];simp;omega
 have hoget:∀j v,olds[j]?=some v->cur[j]?=some v:=fun j v hj=>by
  rw[<-hod,qN]at hj;split at hj
  ·simpa using hj
  ·cases hj
 have hcget:∀j v,cs[j]?=some v->cur[i*5+j]?=some v/\i*5+j<n*5:=fun j v hj=>by
  rw[<-hcsd,wc,qN]at hj;split at hj
  ·exact⟨by simpa using hj,by assumption⟩
  ·cases hj
 have hvget:∀j v,vs[j]?=some v->vcur[j]?=some v/\j<5:=fun j v hj=>by
  rw[<-hvsd,qN]at hj;split at hj
  ·exact⟨by simpa using hj,by assumption⟩
  ·cases hj
 have hc1:∀v∈cs,v.oneCell'=true:=fun v hv=>by obtain⟨j,hj⟩:=zhR.1 hv;obtain⟨a,b⟩:=hcget j v hj;exact h1c _ v b a
 have hv1':∀v∈vs,v.oneCell'=true:=fun v hv=>by obtain⟨j,hj⟩:=zhR.1 hv;obtain⟨a,b⟩:=hvget j v hj;exact h1v _ v b a
 have hold:(Builtin.firstCells i0.size i (.slice (some ⟨g,0,none⟩) i cap)).run prog w.drew=.ok olds.toArray w.drew:=by
  rw[his];exact run_firstCells_some w.drew 5 i ⟨g,0,none⟩ i cap olds hol (fun j v hj=>by rw[kq,wJ];exact(aW hg j).trans (hoget j v hj))
 obtain⟨G,hG⟩:=exI (grownCap w (n+1) cap 232);obtain⟨ROW,hROW⟩:=exI (olds.toArray++Builtin.zeroCells z0.cells (n+1-i)++Builtin.zeroCells z0.cells (G-(n+1)));have hGn:n+1<=G:=by rw[<-hG];exact grownCap_ge w _ _ _
 have hGm:G<=maxLen:=by rw[<-hG];exact zb2 w (n+1) cap 232 (by unfold maxLen;omega)
 have hrz:∀ty,(Builtin.append_ #[267,3] ty #[.slice (some ⟨g,0,none⟩) i cap,.int .i64 ((n:Int)+1-(i:Int))]).run prog w =
   .ok (.slice (some ⟨w.heap.size,0,none⟩) (n+1) G) (w.drew.alloc (.cells ROW 232)):=fun ty=>by
  have h:=Lib.run_append_grow_zeros w 267 3 ty 232 i0 z0 .i64 .i64 t24 t3 hi0 hz0 (some ⟨g,0,none⟩) i cap olds hold (n+1-i) (by omega) (by omega) (by omega) (by omega) (by rw[hib];omega) (by rw[hib,hik];exact growslice_fits hroom hbig);rw[hik,hG,hROW]at h;rw[hkk];exact h
 have hRl:ROW.size=G*5:=by rw[<-hROW,Wv,Wv,zb3,zb3,hzc,jY,hol];omega
 have hRo:∀j,j<i*5->ROW.toList[j]?=olds[j]?:=fun j hj=>by rw[<-hROW,Array.toList_append,Array.toList_append,qT];exact qp (show j<olds.length by omega)
 obtain⟨N,hN⟩:=exI w.heap.size;obtain⟨W1,hW1⟩:=exI (w.drew.alloc (.cells ROW 232));have hW1N:W1.heap[N]?=some (.cells ROW 232 (0,0)):=by rw[<-hW1,<-hN];exact C7 (w:=w.drew) _
 have hW1g:W1.heap[g]?=some (.cells cur 232 (0,0)):=by rw[<-hW1];exact(lg (w:=w.drew) _ hbw).trans hg
 have hW1v:W1.heap[vb]?=some (.cells vcur tv (0,0)):=by rw[<-hW1];exact(lg (w:=w.drew) _ hvw).trans hv
 obtain⟨row1,hrow1⟩:=exI (jR ROW.toList (i*5) vs);have hr1l:row1.length=G*5:=by rw[<-hrow1,xk (by rw[hvl,yk,hRl];omega),yk,hRl]
 have hcpA:∀(W:World),W.heap[N]?=some (.cells ROW 232 (0,0))->W.heap[vb]?=some (.cells vcur tv (0,0))->∀ty dc,(Builtin.copy_ #[267,267] ty #[.slice (some ⟨N,i*5,none⟩) (n+1-i) dc,.slice (some ⟨vb,0,none⟩) 1 vc]).run prog W=.ok (goInt ((1:Nat):Int)) (W.setRow N row1.toArray):=fun W hWg hWv ty dc=>by
  rw[<-hrow1];have:=Yr W 267 267 ty 232 5 1 N (i*5) (n+1-i) dc ⟨vb,0,none⟩ 1 vc ROW 232 vs t24 hs5 hWg (by simp only[Nat.min_def];split<;>omega) hvl
   (fun j v hj=>by rw[kq,wJ];exact(aW hWv _).trans (hvget j v hj).1) (by rw[hvl,hRl];omega) hv1'
  exact this
 have hcpB:∀(W:World),W.heap[N]?=some (.cells row1.toArray 232 (0,0))->W.heap[g]?=some (.cells cur 232 (0,0))->∀ty dc sc,(Builtin.copy_ #[267,267] ty #[.slice (some ⟨N,(i+1)*5,none⟩) (n-i) dc,.slice (some ⟨g,i*5,none⟩) (n-i) sc]).run prog W=.ok (goInt ((n-i:Nat):Int)) (W.setRow N (jR row1 ((i+1)*5) cs).toArray):=fun W hWg hWv ty dc sc=>by
  have:=Yr W 267 267 ty 232 5 (n-i) N ((i+1)*5) (n-i) dc ⟨g,i*5,none⟩ (n-i) sc row1.toArray 232 cs t24 hs5 hWg (by simp only[Nat.min_def];split<;>omega) hcl
   (fun j v hj=>by rw[kq];exact(aW hWv _).trans (hcget j v hj).1) (by rw[hcl,jY,hr1l];omega) hc1
  exact this
 have hgN:g≠N:=by omega
 have hvN:vb≠N:=by omega
 have hW2N:(W1.setRow N row1.toArray).heap[N]?=some (.cells row1.toArray 232 (0,0)):=setRow_heap _ _ _ _ _ _ hW1N;have hW2g:(W1.setRow N row1.toArray).heap[g]?=some (.cells cur 232 (0,0)):=(J4 _ hgN).trans hW1g;have hfin:∀W:World,W.heap=((W1.setRow N row1.toArray).setRow N (jR row1 ((i+1)*5) cs).toArray).heap->W.os=w.os->W.tape=w.tape->W.output=w.output->w.drawn<=W.drawn->W.heap[N]?=some (.cells (jR row1 ((i+1)*5) cs).toArray 232 (0,0))/\Fr True w (fun b=>b=N) W:=fun W e1 e2 e3 e4 e5=>by
  refine⟨by rw[e1];exact setRow_heap _ _ _ _ _ _ hW2N,e2,e3,e4,?_,fun _=>e5,fun k hk hn=>?_⟩
  ·rw[e1,<-hW1,setRow_size,setRow_size,Mm];exact Ws _
  ·rw[e1,J4 _ hn,J4 _ hn,<-hW1];exact lg (w:=w.drew) _ hk
 have hm1:G<=9223372036854775807:=by unfold maxLen at hGm;omega
 have hGi:¬(G=i):=by omega
 have hGim:¬(G=i+1):=by omega
 have hci:¬(cap=i):=by omega
 rw[hN,hcsd,hvsd,hod];rw[hN,hW1]at hrz;clear hcsd hvsd hod hcl hvl hol hcget hvget hoget hc1 hv1' hold hG hROW hkk hik hi0 hz0 his hib hzc hr1l
 go_enter func345,Tryz.ntmps345
 go_wp2_with (first
  |(at_builtin;refine Lib.wpList_append_run _ rfl _ _ _ _ rfl _ _ rfl rfl _ _ (hrz _) ?_)
  |(at_builtin;refine wpList_copy_runI _ rfl _ _ 267 267 rfl _ _ rfl rfl (hcpA _ hW1N hW1v _ _) ?_)
  |(at_builtin;refine wpList_copy_runI _ rfl _ _ 267 267 rfl _ _ rfl rfl (hcpB _ hW2N hW2g _ _ _) ?_))
 go_region_law_o (refine step_copy_runI rfl _ _ 267 267 rfl (.slice (some ⟨N,(i+1)*5,none⟩) (n-i) (G-(i+1))) (.slice (some ⟨g,i*5,none⟩) (n-i) (cap-i)) (by simp[Act.eval,Act.put]) (by simp[Act.eval,Act.put]) (hcpB (W1.setRow N row1.toArray).drew hW2N hW2g 3 (G-(i+1)) (cap-i)) ?_)
 go_wp2
 go_ret
 subst hW1;subst hrow1;refine⟨G,ROW.toList,hGn,hGm,by simpa using hRl,hRo,rfl,?_⟩;refine hfin _ ?_ ?_ ?_ ?_ ?_
 ·rfl
 ·rfl
 ·rfl
 ·rfl
 ·first|exact Ws _|exact zG (Ws _) (Ws _)
theorem zdX:zfC prog 345 232 5 56:=by
 intro w g A n i cap B c a C hi u k J m v o K D d E p q r;have b:(a.toList.take 5).length=5:=by simp;omega
 have f:((c.toList.take (n*5)).drop (i*5)).length=(n-i)*5:=by simp;omega
 unfold maxLen at k;by_cases h:n+1<=cap
 ·refine(Mn w g A n i cap B c a C hi h k v o D d E p q r).mono fun e w' x=>?_
  obtain⟨rfl,t,y⟩:=x;refine⟨g,cap,_,h,by unfold maxLen;exact k,rfl,.inl rfl,t,?_,y,fun j F=>?_⟩
  ·rw[jY,xk (by rw[xk (by rw[f,yk,d];omega),b,yk,d];omega),xk (by rw[f,yk,d];omega),yk,d]
  ·have:=Rx (l:=c.toList) (vs:=a.toList.take 5) (n:=n) (i:=i) (s:=5) (by omega) (by rw[yk,d];omega) b j F;simpa using this
 ·refine(Ry w g A n i cap B c a C hi u (by omega) m o D d E p q r).mono fun e w' x=>?_
  obtain⟨G,R,L,M,H,N,rfl,t,y⟩:=x;have z:(c.toList.take (i*5)).length=i*5:=by simp;omega
  have P:(i+1)*5=i*5+(a.toList.take 5).length:=by rw[b];omega
  rw[P]at t;refine⟨w.heap.size,G,_,L,M,rfl,.inr (zl _),t,?_,y,fun j F=>?_⟩
  ·rw[jY,xk (by rw[xk (by rw[b];omega),f,b];omega),xk (by rw[b];omega),H]
  ·have:=zaL (R:=R) (olds:=c.toList.take (i*5)) (vs:=a.toList.take 5) (cs:=(c.toList.take (n*5)).drop (i*5)) (I:=i*5) z N (by rw[b,f,H];omega) j (by rw[b,f];omega);simpa using this
end Go.Q
namespace Go.Q
noncomputable def QG (c:Cut):List Cut->List Cut
 |[]=>[c]
 |a::l=>if wz a c<0 then a::QG c l else if wz a c=0 then a::l else c::a::l
theorem C8(c:Cut):∀(l:List Cut) (i:Nat),i<=l.length->(∀j (h:j<l.length),j<i->wz l[j] c<0)->(∀h:i<l.length,¬wz l[i] c<0)->((∃h:i<l.length,wz l[i] c=0)->QG c l=l)/\((∀h:i<l.length,wz l[i] c≠0)->QG c l=l.take i++c::l.drop i)
 |[],i,hi,_,_=>by
  obtain rfl:i=0:=by simpa using hi
  exact⟨fun⟨h,_⟩=>absurd h (by simp),fun _=>rfl⟩
 |a::l,0,_,_,b=>by
  have h:=b (by simp);simp only[JB]at h;refine⟨fun⟨_,e⟩=>?_,fun d=>?_⟩
  ·simp only[JB]at e;simp only[QG];rw[ze h,zd e]
  ·have:=d (by simp);simp only[JB]at this;simp only[QG];rw[ze h,ze this];rfl
 |a::l,i+1,hi,f,b=>by
  have g:=f 0 (by simp) (by omega);simp only[JB]at g;obtain⟨k,m⟩:=C8 c l i (by simpa using hi) (fun j n o=>f (j+1) (by simpa using n) (by omega)) (fun h=>b (by simpa using h));simp only[QG];rw[zd g];refine⟨fun⟨h,e⟩=>?_,fun d=>?_⟩
  ·rw[k ⟨by simpa using h,e⟩]
  ·rw[m fun h=>d (by simpa using h)];rfl
theorem rX{c:Cut}:∀{l:List Cut},(∀a∈l,wz a c=0->a=c)->∀x,x∈QG c l↔x=c\/x∈l
 |[],_,x=>by simp[QG]
 |a::l,h,x=>by
  simp only[QG];split
  ·rw[zA,rX (fun b d=>h b (by simp[d])) x,zA];constructor
   ·rintro (h|h|h)
    ·exact .inr (.inl h)
    ·exact .inl h
    ·exact .inr (.inr h)
   ·rintro (h|h|h)
    ·exact .inr (.inl h)
    ·exact .inl h
    ·exact .inr (.inr h)
  ·split
   ·rename_i e;have:=h a (by simp) e;subst this;simp
   ·simp
theorem mA{c:Cut}:∀{l:List Cut},(l.Pairwise fun a b=>wz a b<0)->(∀a∈l,wz a c=0->a=c)->(QG c l).Pairwise fun a b=>wz a b<0
 |[],_,_=>by simp[QG]
 |a::l,h,j=>by
  obtain⟨k,m⟩:=wU.1 h;simp only[QG];split
  ·rename_i d;refine wU.2 ⟨fun x e=>?_,mA m fun b g=>j b (by simp[g])⟩;rcases(rX (fun b g=>j b (by simp[g])) x).1 e with rfl|e
   ·exact d
   ·exact k x e
  ·rename_i d;split
   ·exact h
   ·rename_i i;have f:wz c a<0:=by
     have:=wK.zge d;rcases Qk this with h|h
     ·exact h
     ·exact absurd ((wK.eq a c).2 h) i
    refine wU.2 ⟨fun x e=>?_,h⟩;rcases zA.1 e with rfl|e
    ·exact f
    ·exact wK.trans f (k x e)
noncomputable def vI (l:List Cut):List Cut:=l.foldl (fun o c=>QG c o) []
theorem mB:∀(l o:List Cut),(∀a∈l,a.xP)->(∀a∈o,a.xP)->(o.Pairwise fun a b=>wz a b<0)->((l.foldl (fun o c=>QG c o) o).Pairwise fun a b=>wz a b<0)/\∀x,x∈l.foldl (fun o c=>QG c o) o↔x∈l\/x∈o
 |[],o,_,_,e=>⟨e,fun x=>by simp⟩
 |c::l,o,f,g,e=>by
  have i:=f c (by simp);have j:∀a∈o,wz a c=0->a=c:=fun a d h=>nT (g a d) i h
  have k:=rX (l:=o) j;obtain⟨m,n⟩:=mB l (QG c o) (fun a d=>f a (by simp[d])) (fun a d=>by
   rcases(k a).1 d with rfl|h
   ·exact i
   ·exact g a h) (mA e j)
  simp only[Q0];refine⟨m,fun x=>?_⟩;rw[n x,k x,zA];constructor
  ·rintro (h|h|h)
   ·exact .inl (.inr h)
   ·exact .inl (.inl h)
   ·exact .inr h
  ·rintro ((h|h)|h)
   ·exact .inr (.inl h)
   ·exact .inl h
   ·exact .inr (.inr h)
theorem dO:∀(l o:List Cut),(l.foldl (fun o c=>QG c o) o).length<=o.length+l.length
 |[],o=>by simp
 |c::l,o=>by
  have b:∀o:List Cut,(QG c o).length<=o.length+1:=by
   intro o
   induction o with
   |nil=>simp[QG]
   |cons a o d=>
    simp only[QG];split
    ·simp only[zV];omega
    ·split<;>simp
  have:=dO l (QG c o);have:=b o;simp only[Q0,zV];omega
theorem Rz{a b:List qZ}(d:js a)(e:js b):vI (wv (a++b))=rI a b:=by
 rw[Ym];have f:∀c∈wv a++wv b,c.xP:=fun c g=>by
  rcases qg.1 g with h|h
  ·exact bS d c h
  ·exact bS e c h
 obtain⟨i,j⟩:=mB (wv a++wv b) [] f (fun a d=>by cases d) .nil;refine Ac _ _ i (Xr d e) fun c=>?_
 unfold vI;rw[j c,Vx,qg];simp
theorem zaN(f:Bool->Bool->Bool){a b:List qZ}(d:js a)(e:js b):vr f a b=(XR (fun c=>f (yH a c) (yH b c)) (vI (wv (a++b))) (false,[])).2:=by rw[Rz d e];unfold vr rI;rw[pO]
theorem RA{Y:Hp}{Z e s by_ i:Nat}{v:O}{xs:List zb}{c:zb}(h:wg Y Z e s v xs)(hi:i<xs.length)(d:(xs.length+1)*by_<=140737488355328)(f:xs.length+1<=maxLen) :
  mz e s by_ [v,int i,.own Z 0 1] (qR Y Z (some ⟨e,s,true,[c]⟩)) (Z+1)=some (.own (Z+1) 0 (xs.length+1),qR (WA v (qR Y Z (some ⟨e,s,true,[c]⟩))) (Z+1) (some ⟨e,s,true,xs.take i++c::xs.drop i⟩),Z+2):=by
 obtain⟨id,hid,rfl,g⟩:=h.at_ (by omega);have n1:id≠Z:=by omega
 have a:qR Y Z (some ⟨e,s,true,[c]⟩) id=some ⟨e,s,true,xs⟩:=by rw[zt _ _ _ _ n1];exact g
 have b:(i:Int)<xs.length:=by omega
 unfold mz;simp only[a,yd];rw[zd (by refine⟨n1,?_,?_,?_,?_,?_,?_,?_,b,d,f⟩<;>first|trivial|rfl|omega)];simp[WA]
theorem zaO{Y:Hp}{Z e s by_:Nat}{v:O}{xs:List zb}{b:Option kV}(h:wg Y Z e s v xs):mz e s by_ [v,int (xs.length:Nat),.own Z 0 1] (qR Y Z b) (Z+1)=none:=by
 rcases h with⟨rfl,rfl⟩|⟨id,hid,rfl,c⟩
 ·rfl
 ·unfold mz;simp only;split
  ·split
   ·rw[ze (fun a=>by have:=a.2.2.2.2.2.2.2.2.1;omega)]
   ·rfl
  ·rfl
theorem zaP{Y:Hp}{Z:Nat}{v:O}{xs:List zb}{c:zb}(h:wg Y Z 232 5 v xs)(d:xs.length<=8388608) :
  we C0 f345 [v,int (xs.length:Nat),.own Z 0 1] (qR Y Z (some ⟨232,5,true,[c]⟩)) (Z+1)=some (.own (Z+1) 0 (xs.length+1),qR (WA v (qR Y Z (some ⟨232,5,true,[c]⟩))) (Z+1) (some ⟨232,5,true,xs++[c]⟩),Z+2):=by
 unfold we;rw[zd (by simp[f345])];refine yu rfl ?_;have a:=wg.yL (P:=prog) (t:=267) (c:=c) h lS eI uK uL rfl (by omega) (by unfold maxLen;omega) (by omega);rcases h with⟨rfl,rfl⟩|⟨id,hid,rfl,b⟩
 ·simp at a;simp[jO,a,f345]
 ·have n1:¬id=Z:=by omega
  simp[jO,a,b,n1,f345]
noncomputable abbrev Oa:AM.Spec:=hIns C0 f345 232 5 56
theorem GJ:zg prog 345 Oa:=
 Ml (GG ⟨_,func345,by decide,by kernel_rfl⟩ eI (by decide) zdX) (zpj yz func345)
theorem Mo{Y:Hp}{Z i:Nat}{v:O}{xs:List zb}{c:zb}(h:wg Y Z 232 5 v xs)(hi:i<=xs.length)(b:xs.length<=8388608) :
  Oa [v,int i,.own Z 0 1] (qR Y Z (some ⟨232,5,true,[c]⟩)) (Z+1)=some (.own (Z+1) 0 (xs.length+1),qR (WA v (qR Y Z (some ⟨232,5,true,[c]⟩))) (Z+1) (some ⟨232,5,true,xs.take i++c::xs.drop i⟩),Z+2):=by
 unfold Oa hIns;by_cases a:i<xs.length
 ·rw[RA h a (by omega) (by unfold maxLen;omega)]
 ·obtain rfl:i=xs.length:=by omega
  rw[zaO h];simp only;rw[zaP h b,wo,zo]
noncomputable def insR (l:List Cut):Option kV:=if vI l=[]then none else some ⟨232,5,true,wB (vI l)⟩
noncomputable abbrev Crsc:Ctx:=zQ prog [(312,qG [.g jP,.g jP] (Ce fun v w=>int (wz v w))),(345,Oa)]
theorem zdY:AM.Good Crsc (fun g=>[312].contains g):=zw mixed ⟨x4,fun _=>y7 _ _,GJ,by simp,trivial⟩
theorem mC{l:List Cut}{k:Nat}(h:k<l.length):vI (l.take (k+1))=QG l[k] (vI (l.take k)):=by unfold vI;rw[zR h,KG];rfl
theorem GK{c:Cut}:∀{l:List Cut} {x:Cut},x∈QG c l->x=c\/x∈l
 |[],x,h=>by simp only[QG,jG]at h;exact .inl h
 |a::l,x,h=>by
  simp only[QG]at h;split at h
  ·rcases zA.1 h with rfl|h
   ·exact .inr (by simp)
   ·exact(GK h).imp id fun h=>by simp[h]
  ·split at h
   ·exact .inr h
   ·rcases zA.1 h with rfl|h
    ·exact .inl rfl
    ·exact .inr h
theorem dP:∀{l o:List Cut} {x:Cut},x∈l.foldl (fun o c=>QG c o) o->x∈l\/x∈o
 |[],o,x,h=>.inr h
 |c::l,o,x,h=>by
  rw[Q0]at h;rcases dP h with h|h
  ·exact .inl (by simp[h])
  ·rcases GK h with rfl|h
   ·exact .inl (by simp)
   ·exact .inr h
theorem zdZ(c:Cut)(l:List Cut):QG c l≠[]:=by
 cases l with
 |nil=>simp[QG]
 |cons a l=>simp only[QG];split<;>(try split)<;>simp
theorem RB{l:List Cut}(h:vI l=[]):l.length=0:=by
 cases b:l.length with
 |zero=>rfl
 |succ k=>
  have a:k<l.length:=by omega
  have:=mC a;rw[qq (by omega),h]at this;exact absurd this.symm (zdZ _ _)
theorem bV(l:List Cut):(wB l).length=l.length:=by simp[wB]
theorem RC(o:List Cut)(i:Nat)(c:Cut):(wB o).take i++c.V::(wB o).drop i=wB (o.take i++c::o.drop i):=by simp[wB]
theorem C9(l:List Cut)(hs:∀c∈l,c.v.small)(hl:l.length<=8388608):∃x Y Z,kj Crsc f309 [.sl 5 (wB l)] (fun _=>none) 0=some (x,Y,Z)/\Fm jP (insR l) x Y Z:=by
 refine qw rfl ?_;have N:=bV l;simp[N];refine zI (fun k U Y Z=>U 7=.sl 5 (wB l)/\U 8=int l.length/\U 9=int k/\wg Y Z 232 5 (U 3) (wB (vI (l.take k)))/\(k=0->U 3=.nil)) l.length
  ⟨by simp,by simp,by simp,.inl ⟨by simp,by simp[vI,wB]⟩,by simp⟩ ?_
 rintro k U Y Z hk ⟨u,w,y,n,h0⟩;have Q:=dO (l.take k) [];have C:vI (l.take k)=(l.take k).foldl (fun o c=>QG c o) []:=rfl;rw[<-C,ku,jn]at Q;have D:∀x∈vI (l.take k),x.v.small:=fun x hx=>by
  rw[C]at hx;rcases dP hx with h|h
  ·exact hs x (vx h)
  ·cases h
 by_cases r:k<l.length
 ·obtain⟨c,hc⟩:=exI (l[k]);have hcs:c.v.small:=hs c (by rw[<-hc];exact zj r);have R:∀h:k<(wB l).length,(wB l)[k]=c.V:=fun h=>by simp[wB,hc]
  have G:=zlL k;have H:=mC r;rw[hc]at H;obtain⟨o,ho⟩:=exI (vI (l.take k));rw[ho]at n Q D H;have d:=bV o;obtain⟨P,hP⟩:=exI Z;obtain⟨v,hv⟩:=exI (U 3);rw[hv]at n;simp only[Cut.V]at R;simp[u,w,y,r,N,R];rw[hP]at n⊢;refine zI (fun i U Y Z=>U 7=.sl 5 (wB l)/\U 8=int l.length/\U 9=int k/\U 3=v/\U 5=.ref P 0 0/\U 6=int i/\P<Z/\Y P=some ⟨232,5,false,[c.V]⟩/\wg Y Z 232 5 v (wB o)/\∀j (h:j<o.length),j<i->wz o[j] c<0) o.length
   ⟨by simp[u],by simp[w],by simp[y],by simp[hv],by simp,by simp,(by show P<P+1;omega),by simp[Cut.V],n.more _,fun j _ h=>absurd h (by omega)⟩ ?_
  clear u w y h0 hv n U Y hP Z;rintro i U Y Z hi ⟨u,w,y,T,W,X,SS,S,n,s⟩;have hwi:=zlL i;have g:=n.len lS;rw[d]at g;simp only[Cut.V]at S;have nP:¬P=Z:=by omega
  have p:=fun(hi:i<=o.length)=>Mo (i:=i) (c:=[int c.v.a,int c.v.b,int c.v.c,.sl 1 (zJ c.v.pre),qz c.after]) n (by rw[d];exact hi) (by rw[d];omega)
  rw[d]at p;have E:=RC o i c;simp only[Cut.V]at E;rw[E]at p;have t:∀o',QG c o=o'->vI (l.take (k+1))=o':=fun o' e=>by rw[H,e]
  by_cases hit:i<o.length
  ·obtain⟨id,hid,I,hb⟩:=n.at_ (by rw[d];omega);obtain⟨q,M⟩:=exI (o[i]);have hqs:q.v.small:=D q (by rw[<-M];exact zj hit);have z:∀h:i<(wB o).length,(wB o)[i]=q.V:=fun h=>by simp[wB,M]
   have A:=fun Y Z=>Qf q c Y Z hqs hcs
   simp only[Cut.V]at z A;have hat:=C8 c o i (by omega) s;by_cases m:wz q c<0
   ·subst I;simp[u,w,y,T,W,X,g,d,hit,hb,z,S,A,m,hwi];have J:∀j (h:j<o.length),j<i+1->wz o[j] c<0:=fun j h hj=>by
     rcases Nat.lt_or_ge j i with h1|h1
     ·exact s j h h1
     ·obtain rfl:j=i:=by omega
      rw[M];exact m
    exact⟨by omega,SS,rfl,(by rw[d]at n;exact n),J⟩
   ·have F:=hat fun _=>by rw[M];exact m
    by_cases B:wz q c=0
    ·have h1:=F.1 ⟨hit,by rw[M];exact B⟩;have K:((i:Int)==o.length)=false:=by rw[ya];omega
     subst I;simp[u,w,y,T,W,X,g,d,hit,hb,z,S,A,m,B,K,G];exact⟨r,by rw[t _ h1];rw[d]at n;exact n⟩
    ·have h1:=F.2 fun _=>by rw[M];exact B
     have hz':=nzT B;have K:((i:Int)==o.length)=false:=by rw[ya];omega
     have f:=p (by omega);subst I;rw[d]at f;have L:(wB (o.take i++c::o.drop i)).length=o.length+1:=by rw[bV];simp;omega
     simp[u,w,y,T,W,X,g,d,hit,hb,z,S,A,m,B,hz',K,f,nP,G,zz,zS,zy];exact⟨r,by rw[t _ h1];exact .inr ⟨Z+1,by omega,by rw[L],by simp⟩⟩
  ·obtain rfl:i=o.length:=by omega
   have h1:=(C8 c o o.length (zl _) s (fun h=>absurd h (by omega))).2 (fun h=>absurd h (by omega));have f:=p (zl _);simp[u,w,y,T,W,X,g,d,S,f,nP,G,zz,zS,zy];rw[wo,zo]at h1;have L:(wB (o++[c])).length=o.length+1:=by rw[bV];simp
   exact⟨r,by rw[t _ h1];exact .inr ⟨Z+1,by omega,by rw[L],by simp⟩⟩
 ·obtain rfl:k=l.length:=by omega
  rw[wo]at n;simp[u,w,y,f309];unfold insR;rcases n with⟨e1,e2⟩|⟨id,hid,e1,e2⟩
  ·have:vI l=[]:=by simpa[wB]using e2
   rw[zd this];exact e1
  ·by_cases B:vI l=[]
   ·rw[zd B];exact h0 (RB B)
   ·rw[ze B];exact⟨id,_,e1,e2,rfl,by simp[iF,wB,Cut.V]⟩
noncomputable def FSc:zb->Option (Option kV):=z6 (α:=List Cut) (fun l=>[.sl 5 (wB l)]) (fun l=>(∀c∈l,c.v.small)/\l.length<=8388608) insR
theorem RD{a b:List Cut}(h:wB a=wB b):a=b:=yX (fun _ _ e=>ZR e) h
theorem zhr:∀a b:List Cut,[O.sl 5 (wB a)]=[O.sl 5 (wB b)]->a=b:=fun a b e=>by
 simp only[zh,zD]at e;injection e with _ e
 exact RD e
theorem tP:zg prog 309 (xu [.s 5 jP] FSc):=
 KP (fn:=f309) zdY (zpi func309) _ jP _ fun args r h=>by obtain⟨l,rfl,⟨a,b⟩,rfl⟩:=zp h;exact⟨by simp[f309],C9 l a b⟩
theorem zaQ(l:List Cut):(wB l).map (Wa jP)=wB l:=by simp[wB,Cut.V]
theorem Da{Y:Hp}{Z:Nat}{v:O}{l:List Cut}(h:wg Y Z 232 5 v (wB l))(hs:∀c∈l,c.v.small)(g:l.length<=8388608) :
  ∃x d b,xu [.s 5 jP] FSc [v] Y Z=some (x,d,b)/\wg d b 232 5 x (wB (vI l))/\Z<=b:=by
 have hF:∀y Y1,qH Y v=some (y,Y1)->(Sh.s 5 jP).fix y=.sl 5 (wB l)->∃x d b,xu [.s 5 jP] FSc [v] Y Z=some (x,d,b)/\wg d b 232 5 x (wB (vI l))/\Z<=b:=by
  intro y Y1 i j;have e:zv Y [v]=some ([y],Y1):=by simp only[zv,i]
  have k:FSc (eH [.s 5 jP] (yP [] [y]))=some (insR l):=by show FSc [(Sh.s 5 jP).fix y]=_;rw[j];exact zE (V:=fun l:List Cut=>[O.sl 5 (wB l)]) (a:=l) zhr ⟨hs,g⟩
  unfold xu jj;simp only[e,k];unfold insR;by_cases f:vI l=[]
  ·rw[zd f];exact⟨.nil,Y1,Z,rfl,.inl ⟨rfl,by rw[f];rfl⟩,zl _⟩
  ·rw[ze f];exact⟨_,_,_,rfl,.inr ⟨Z,by omega,rfl,by simp⟩,by omega⟩
 rcases h with⟨rfl,m⟩|⟨id,o,rfl,n⟩
 ·exact hF .nil Y rfl (by rw[m];rfl)
 ·exact hF (.sl 5 (wB l)) (qR Y id none) (by simp[n]) (by rw[Sh.sO,zaQ])
theorem RE{a b:List qZ}(f:a.length<=zx)(g:b.length<=zx){Y:Hp}{Z id e:Nat}(h:Y id=some ⟨e,1,true,[[.sl 11 (qb a)],[.sl 11 (qb b)]]⟩) :
  zf true [] AR [.own id 0 2] Y Z=some (.sl 11 (qb (a++b)),qR Y id none,Z):=by
 have hF:AR [.sl 1 [[.sl 11 (qb a)],[.sl 11 (qb b)]]]=some (.sl 11 (qb (a++b))):=by
  unfold AR zaK;exact zE (V:=fun a:List qZ×List qZ=>[O.sl 1 [[.sl 11 (a.1.map qZ.V)],[.sl 11 (a.2.map qZ.V)]]]) (a:=(a,b)) (fun x y e=>by obtain⟨i,j⟩:=x;obtain⟨k,l⟩:=y;simp only[zh,zD]at e;injection e with _ e;simp only[zh,zD]at e;obtain⟨c,d⟩:=e;injection c with _ c;injection d with _ d;rw[xY c,xY d]) ⟨f,g⟩
 simp[zf,zv,qH,yf,h,yP,hF,O.flat,O.noOwn]
noncomputable abbrev Ctog:Ctx:=zQ prog [(308,zf true [] AR),(309,xu [.s 5 jP] FSc),(276,qG [.s 11 jQ,.g jP] (FRC fun l c=>qz (yH l c))),(310,zf false [] FTk)]
theorem zd0:AM.Good Ctog (fun g=>[276,310].contains g):=zw mixed ⟨tO,by simp,tP,by simp,cS,fun _=>y7 _ _,Gp,fun _=>zu _ _,trivial⟩
theorem RF(w:Int)(a b:List qZ)(ha:zlM a)(hb:zlM b)(hga:js a)(hgb:js b) :
  ∃x Y Z,kj Ctog f274 [int w,.sl 11 (qb a),.sl 11 (qb b)] (fun _=>none) 0=some (x,Y,Z)/\Fm jQ (YH (WD w) a b) x Y Z:=by
 refine qw rfl ?_;have hsa:=ha;have hsb:=hb;obtain⟨ha1,ha2⟩:=ha;obtain⟨hb1,hb2⟩:=hb;have hcat:=fun Y Z id e h=>RE ha1 hb1 (Y:=Y) (Z:=Z) (id:=id) (e:=e) h
 unfold zx at ha1 hb1;have B:=zaN (WD w) hga hgb;obtain⟨l,hl⟩:=exI (a++b);rw[hl]at B hcat;have hll:l.length<=4194304:=by rw[<-hl];simp;omega
 have hlsm:∀s∈l,s.small:=fun s hs=>by
  rw[<-hl]at hs;rcases qg.1 hs with h|h
  ·exact ha2 s h
  ·exact hb2 s h
 have hel:(qb l).length=l.length:=by simp[qb]
 have zlc:=hcat (qR (fun _=>none) 0 (some ⟨195,1,true,[[.sl 11 (qb a)],[.sl 11 (qb b)]]⟩)) 1 0 195 (by simp);simp[zz,zS,zy,zlc,hel];refine zI (fun k U Y Z=>U 0=int w/\U 1=.sl 11 (qb a)/\U 2=.sl 11 (qb b)/\wg Y Z 232 5 (U 7) (wB (wv (l.take k))) /\
   U 18=.sl 11 (qb l)/\U 19=int l.length/\U 20=int k) l.length
   ⟨by simp,by simp,by simp,.inl ⟨by simp,by simp[wv,wB]⟩,by simp,by simp,by simp⟩ ?_
 rintro k U Y Z hk ⟨G,H,I,F,h25,h26,h27⟩;by_cases f:k<l.length
 ·have z:=zlL k;have q:∀h:k<(qb l).length,(qb l)[k]=l[k].V:=fun h=>by simp[qb]
  have hcn:=QA (l.take k);rw[jn]at hcn;have hct:=Af f;obtain⟨xs,g⟩:=exI (wB (wv (l.take k)));have r:xs.length<=8388608:=by rw[<-g];simp[wB];omega
  rw[g]at F;have hE:wB (wv (l.take (k+1)))=xs++(if l[k].yR=true then[l[k].lo]else[l[k].lo,l[k].hi]).map Cut.V:=by rw[hct,Ag,g];rfl
  have hkn:=fun Y'=>yl F Y' Z (Ft F (zl _))
  obtain⟨s,hs⟩:=exI (l[k]);rw[hs]at hct q hE;have p:=wg.yL (P:=prog) (t:=267) (c:=s.lo.V) (F.more (some ⟨234,11,false,[s.V]⟩)) lS eI uK uL rfl (by omega) (by unfold maxLen;omega) (by omega);have J:=wg.after (Y:=qR Y Z (some ⟨234,11,false,[s.V]⟩)) (Z:=Z+1) (e:=232) (s:=5) (v:=U 7) (xs:=xs) (c:=s.lo.V) (tmp:=some ⟨232,5,true,[s.lo.V]⟩);have u:=wg.yL (P:=prog) (t:=267) (c:=s.hi.V) J lS eI uK uL rfl (by omega) (by simp;unfold maxLen;omega) (by simp;omega);rw[show(xs++[s.lo.V]).length=xs.length+1 by simp,qT,show[s.lo.V]++[s.hi.V]=[s.lo.V,s.hi.V]from rfl]at u;have K:=wg.after (Y:=qR (WA (U 7) (qR (qR Y Z (some ⟨234,11,false,[s.V]⟩)) (Z+1) (some ⟨232,5,true,[s.lo.V]⟩))) (Z+1+1) (some ⟨232,5,true,xs++[s.lo.V]⟩)) (Z:=Z+1+2) (e:=232) (s:=5) (v:=.own (Z+1+1) 0 (xs.length+1)) (xs:=xs++[s.lo.V]) (c:=s.hi.V) (tmp:=some ⟨232,5,true,[s.hi.V]⟩);rw[show(xs++[s.lo.V]).length=xs.length+1 by simp,qT,show[s.lo.V]++[s.hi.V]=[s.lo.V,s.hi.V]from rfl]at K;simp only[qZ.V,Cut.V,wI,wC]at p u J K q;have m1:¬Z=Z+1+1:=by omega
  have m2:¬Z=Z+1+2:=by omega
  have m3:¬Z=Z+1+2+1:=by omega
  cases C:s.yR
  ·rw[C]at hct;rw[C]at p u J K q;simp[G,H,I,h25,h26,h27,f,hel,q,p,u,hkn,z,m1,m2,m3,zz,zS,zy];refine⟨by omega,?_⟩;rw[hE,C];simp only[zF,qJ,wD,XD,Cut.V];exact K
  ·rw[C]at hct;rw[C]at p u J K q;simp[G,H,I,h25,h26,h27,f,hel,q,p,hkn,z,m1,m2,m3,zz,zS,zy];refine⟨by omega,?_⟩;rw[hE,C];simp only[qA,wD,XD,Cut.V];exact J
 ·obtain rfl:k=l.length:=by omega
  rw[wo]at F;have SQ:∀c∈wv l,c.v.small:=JX (Q:=fun c=>c.v.small) hlsm;have hcl:=QA l;obtain⟨v,Y',Z',L,hO',hnx'⟩:=Da F SQ (by omega);obtain⟨cs,hcs⟩:=exI (vI (wv l));have hcsl:cs.length<=8388608:=by have:=dO (wv l) [];rw[<-hcs];unfold vI;simp at this;omega
  have hcsm:∀c∈cs,c.v.small:=fun c hc=>by
   rw[<-hcs]at hc;rcases dP hc with h|h
   ·exact SQ c h
   ·cases h
  rw[hcs]at B hO';have hfin:=B;obtain⟨is,his⟩:∃is:Cut->Bool,(fun c=>WD w (yH a c) (yH b c))=is:=⟨_,rfl⟩;have hisc:∀c,WD w (yH a c) (yH b c)=is c:=fun c=>by rw[<-his]
  rw[his]at hfin;clear F hcs SQ B;have M:=hO'.len lS;have j:(wB cs).length=cs.length:=by simp[wB]
  rw[j]at M;simp[G,H,I,h25,h26,h27,L,M];refine zI (fun k U Y Z=>U 0=int w/\U 1=.sl 11 (qb a)/\U 2=.sl 11 (qb b)/\U 40=v/\U 41=int cs.length/\U 42=int k/\wg Y Z 232 5 v (wB cs)/\∃xs,wg Y Z 234 11 (U 10) xs/\xs.map (Wa jQ)=qb (XR is (cs.take k) (false,[])).2 /\
    U 11=qz (XR is (cs.take k) (false,[])).1/\(∀id n m,v=.own id 0 n->U 10≠.own id 0 m)/\((XR is (cs.take k) (false,[])).1=true->(XR is (cs.take k) (false,[])).2≠[])/\xs.length<=k/\(xs=[]->U 10=.nil)) cs.length
   ⟨by simp[G],by simp[H],by simp[I],by simp,by simp,by simp,hO',[],.inl ⟨by simp,rfl⟩,by simp[XR,qb],by simp[XR],by simp,by simp[XR],by simp,by simp⟩ ?_
  clear G H I h25 h26 h27 hO' hk f U Y Z L M hnx' Y' Z';rintro k U Y Z hk ⟨G,H,I,N,R,S,F,xs,hX,g,D,er,T,hxk,hxn⟩;by_cases f:k<cs.length
  ·have z:=zlL k;obtain⟨id,hid,rfl,hh⟩:=F.at_ (by rw[j];omega);have o:=Fs is f (false,[]);obtain⟨st,hst0⟩:=exI (XR is (cs.take k) (false,[]));obtain⟨c,hc⟩:=exI (cs[k]);rw[hc,hst0]at o;rw[hst0]at g D T;have W:=Fq is st c T;have y:c.v.small:=hcsm c (by rw[<-hc];exact zj f);have q:∀h:k<(wB cs).length,(wB cs)[k]=c.V:=fun h=>by simp[wB,hc]
   have X:=fun Y Z=>aD a c Y Z hsa y
   have hcb:=fun Y Z=>aD b c Y Z hsb y
   have d:=fun Y Z=>aM w (yH a c) (yH b c) Y Z
   rw[hisc c]at d;simp only[Cut.V]at X hcb q;have m0:¬id=Z:=by omega
   have m1:¬id=Z+1:=by omega
   have m2:¬id=Z+1+1:=by omega
   rw[j]at F;have hki:=fun Y'=>yl hX Y' id (fun n=>er id _ n rfl)
   have hswS:cJ is st c=(is c,if(is c&&!st.1)=true then st.2++[yp c]else if(!is c&&st.1)=true then Wh st.2 c else st.2):=rfl;rw[hswS]at o;rw[hswS]at W;simp only at W;obtain⟨op,out⟩:=st;simp only at g D T W;cases hb:is c<;>cases op
   ·rw[hb]at d o;simp at o;simp[G,H,I,N,R,S,j,f,hh,q,X,hcb,d,-aM,D,z,m0,o];exact⟨by omega,F.more _,xs,hX.more _,g,fun i n m e _=>er i _ m (by rw[e]),by omega,hxn⟩
   ·rw[hb]at d o;simp at o;have hne:=T rfl;obtain⟨m,hm⟩:∃m,out.length=m+1:=⟨out.length-1,by have:=xa.2 hne;omega⟩;have r:xs.length=m+1:=by have:=zC List.length g;simp[qb]at this;omega
    obtain⟨E,hid2,A,hh2⟩:=hX.at_ (by omega);have Il:¬E=id:=fun e=>er id _ _ rfl (by rw[A,e])
    have zcd:¬id=E:=fun e=>Il e.symm
    have p0:¬E=Z:=by omega
    rw[r]at A;have hlm:m<xs.length:=by omega
    have OI:m<out.length:=by omega
    have hrm:Wa jQ xs[m]=out[m].V:=by
     have e1:(xs.map (Wa jQ))[m]?=(qb out)[m]?:=by rw[g]
     simp only[qQ,zq hlm,qb,zq OI,zK,qj]at e1;exact e1
    obtain⟨x3,x5,x6,x7,x8,x9,x10,SN,hn3,Im⟩:=Ae hrm;have wm:=zpg (m:Int);have wm1:i6.wrap ((m:Int)+1-1)=(m:Int):=by rw[zi (by omega) (by omega)];omega
    simp[G,H,I,N,R,S,j,f,hh,q,X,hcb,d,-aM,D,z,m0,o,A,hh2,p0,wm,wm1,hlm,SN,Im,jz];refine⟨by omega,.inr ⟨id,by omega,by rw[j],by simp[zcd,m0,hh]⟩,xs.set m [int out[m].lo.v.a,int out[m].lo.v.b,int out[m].lo.v.c,x3,qz out[m].lo.after,int c.v.a,int c.v.b,int c.v.c,.sl 1 (zJ c.v.pre),qz c.after,qz false],.inr ⟨E,by omega,by simp[r],by simp⟩,?_,fun i n k' e _ e2=>absurd (e2.trans e.symm) Il,by simp;omega,fun e=>by have:=zC List.length e;rw[bY,r]at this;cases this⟩;rw[zeR,g,mc OI hm c,qb,qb,zeR];simp[hn3,qZ.V,Cut.V]
   ·rw[hb]at d o;simp at o;have p:=wg.yL (P:=prog) (t:=195) (c:=[int c.v.a,int c.v.b,int c.v.c,.sl 1 (zJ c.v.pre),qz c.after,int 0,int 0,int 0,.nil,qz false,qz true]) (hX.more (some ⟨232,5,false,[c.V]⟩)) Ny uM Ez EA rfl (by omega) (by unfold maxLen;omega) (by omega);simp only[Cut.V]at p;simp[G,H,I,N,R,S,j,f,hh,q,X,hcb,d,-aM,D,z,m0,o,p,qe,qM,zz,zS,zy];refine⟨by omega,.inr ⟨id,by omega,by rw[j],by simp[hki,hh,m0,m1,m2]⟩,xs++[[int c.v.a,int c.v.b,int c.v.c,.sl 1 (zJ c.v.pre),qz c.after,int 0,int 0,int 0,.nil,qz false,qz true]],by simpa using wg.after,?_,fun i n m e _ e2=>by omega,by simp;omega⟩;rw[Kc,g];simp[qb,yp,qZ.V,Cut.V,Wy,zJ]
   ·rw[hb]at d o;simp at o;simp[G,H,I,N,R,S,j,f,hh,q,X,hcb,d,-aM,D,z,m0,o];exact⟨by omega,F.more _,xs,hX.more _,g,fun i n m e _=>er i _ m (by rw[e]),T rfl,by omega,hxn⟩
  ·obtain rfl:k=cs.length:=by omega
   rw[wo]at g;rw[<-hfin]at g;have r:xs.length=(vr (WD w) a b).length:=by have:=zC List.length g;simpa[qb]using this
   simp[G,H,I,N,R,S,f274];unfold YH;rcases hX with⟨A,rfl⟩|⟨E,hid2,A,hh2⟩
   ·rw[zd (qv.1 r.symm)];exact A
   ·by_cases hz:vr (WD w) a b=[]
    ·rw[zd hz];rw[hz]at r;exact hxn (qv.1 r)
    ·rw[ze hz];refine⟨E,_,A,hh2,rfl,?_⟩;simp only[iF,g]
noncomputable def RG:zb->Option (Option kV):=z6 (α:=Int×List qZ×List qZ) (fun a=>[int a.1,.sl 11 (qb a.2.1),.sl 11 (qb a.2.2)]) (fun a=>(zlM a.2.1/\zlM a.2.2)/\js a.2.1/\js a.2.2) (fun a=>YH (WD a.1) a.2.1 a.2.2)
theorem zd1:∀a b:Int×List qZ×List qZ,[int a.1,O.sl 11 (qb a.2.1),.sl 11 (qb a.2.2)]=[int b.1,.sl 11 (qb b.2.1),.sl 11 (qb b.2.2)]->a=b:=by rintro⟨g,h,i⟩ ⟨j,k,l⟩ e;simp only[zh,zD]at e;obtain⟨c,d,f⟩:=e;injection c with c;injection c with _ c;injection d with _ d;injection f with _ f;rw[c,xY d,xY f]
theorem rY:zg prog 274 (xu [.a,.s 11 jQ,.s 11 jQ] RG):=
 KP (fn:=f274) zd0 (zpi func274) _ jQ _ fun args r h=>by obtain⟨⟨w,a,b⟩,rfl,⟨⟨c,d⟩,e,f⟩,rfl⟩:=zp h;exact⟨by simp[f274],RF w a b c d e f⟩
def gG(Y:Hp)(Z:Nat)(v:O)(m:List qZ):Prop:=(v=.nil/\m=[])\/∃id xs,id<Z/\v=.own id 0 xs.length/\Y id=some ⟨234,11,true,xs⟩/\xs.map (Wa jQ)=qb m
theorem gG.frz{Y:Hp}{Z:Nat}{v:O}{m:List qZ}(h:gG Y Z v m):∃y Y1,qH Y v=some (y,Y1)/\(Sh.s 11 jQ).fix y=.sl 11 (qb m)/\(∀j,(∀n,v≠.own j 0 n)->Y1 j=Y j):=by
 rcases h with⟨rfl,rfl⟩|⟨id,xs,d,rfl,a,b⟩
 ·exact⟨_,Y,rfl,rfl,fun _ _=>rfl⟩
 ·exact⟨.sl 11 xs,qR Y id none,by simp[a],by rw[Sh.sO,b],fun j c=>zt _ _ _ _ fun e=>c _ (by subst e;rfl)⟩
theorem gG.keep{Y a:Hp}{Z b:Nat}{v:O}{m:List qZ}(h:gG Y Z v m)(g:Z<=b)(c:∀id,id<Z->(∀n,v=.own id 0 n->a id=Y id)):gG a b v m:=by
 rcases h with⟨rfl,rfl⟩|⟨id,xs,d,rfl,e,f⟩
 ·exact .inl ⟨rfl,rfl⟩
 ·exact .inr ⟨id,xs,by omega,rfl,by rw[c id d _ rfl];exact e,f⟩
theorem gG.len{Y:Hp}{Z:Nat}{v:O}{m:List qZ}(h:gG Y Z v m):VK prog 195 v=some (int m.length):=by
 rcases h with⟨rfl,rfl⟩|⟨id,xs,b,rfl,c,a⟩
 ·simp
 ·have:=zC List.length a;simp[qb]at this;simp[this]
theorem gG.box{Y:Hp}{Z:Nat}{v:O}{m:List qZ}(h:gG Y Z v m){j:Nat}{b:kV}(a:Y j=some b)(c:b.e≠234):∀n,v≠.own j 0 n:=by
 rcases h with⟨rfl,rfl⟩|⟨id,xs,f,rfl,d,g⟩
 ·intro n e;cases e
 ·intro n e;injection e with e
  subst e;rw[d]at a;injection a with a
  subst a;exact c rfl
theorem GL(c:Int)(f:Bool->Bool->Bool)(m:WD c=f){Y:Hp}{Z:Nat}{v:O}{a b:List qZ}(o:gG Y Z v a)(p:zlM a)(q:zlM b)(r:js a)(t:js b) :
  ∃x g h,xu [.a,.s 11 jQ,.s 11 jQ] RG [int c,v,.sl 11 (qb b)] Y Z=some (x,g,h)/\gG g h x (vr f a b)/\Z<=h/\∀j,j<Z->(∀n,v≠.own j 0 n)->g j=Y j:=by
 obtain⟨y,Y1,u,w,l⟩:=o.frz;have e:zv Y [int c,v,.sl 11 (qb b)]=some ([int c,y,.sl 11 (qb b)],Y1):=by have z:qH Y (int c)=some (int c,Y):=rfl;have A:qH Y1 (.sl 11 (qb b))=some (.sl 11 (qb b),Y1):=rfl;simp only[zv,z,u,A]
 have hF:RG (eH [.a,.s 11 jQ,.s 11 jQ] (yP [] [int c,y,.sl 11 (qb b)]))=some (YH f a b):=by show RG [Sh.a.fix (int c),(Sh.s 11 jQ).fix y,(Sh.s 11 jQ).fix (.sl 11 (qb b))]=_;rw[w,Vj,<-m];exact zE (V:=fun a:Int×List qZ×List qZ=>[int a.1,O.sl 11 (qb a.2.1),.sl 11 (qb a.2.2)]) (a:=(c,a,b)) zd1 ⟨⟨p,q⟩,r,t⟩
 unfold xu jj;by_cases i:vr f a b=[]
 ·have d:=hF;unfold YH at d;rw[zd i]at d;simp only[e,d];exact⟨_,_,_,rfl,.inl ⟨rfl,i⟩,zl _,fun j _ k=>l j k⟩
 ·have d:=hF;unfold YH at d;rw[ze i]at d;simp only[e,d];exact⟨_,_,_,rfl,.inr ⟨Z,qb (vr f a b),by omega,rfl,by simp,by have:=Vj (vr f a b);simpa[Sh.sO]using this⟩,by omega,fun j B k=>by rw[zt _ _ _ _ (by omega)];exact l j k⟩
theorem zkI:WD 1=and:=by funext a b;simp[WD]
theorem zkJ:WD 0=or:=by funext a b;simp[WD]
theorem Db:∀(c:List za) (l:List cU) (n:Nat),kz c=some l->(∀w∈c,w.length<=n)->l.length<=c.length/\∀a∈l,a.2.length<=n
 |[],l,n,h,_=>by simp only[kz]at h;injection h with h;subst h;simp
 |[w],l,n,h,d=>by
  simp only[kz]at h;split at h
  ·cases h
  ·injection h with h;subst h;refine⟨by simp,fun a b=>?_⟩;rw[jG]at b;rw[b];exact zG (Xg wH w) (d w (by simp))
 |w::x::c,l,n,h,d=>by
  simp only[kz]at h;split at h
  ·cases e:kz c with
   |none=>rw[e]at h;cases h
   |some l'=>
    rw[e]at h;simp only[zK,qj]at h;subst h;obtain⟨i,f⟩:=Db c l' n e fun y g=>d y (by simp[g])
    refine⟨by simp;omega,fun a b=>?_⟩;rcases zA.1 b with rfl|b
    ·exact d x (by simp)
    ·exact f a b
  ·cases e:kz (x::c)with
   |none=>rw[e]at h;cases h
   |some l'=>
    rw[e]at h;simp only[zK,qj]at h;subst h;obtain⟨i,f⟩:=Db (x::c) l' n e fun y g=>d y (by simp[zA.1 g])
    refine⟨by simp at i⊢;omega,fun a b=>?_⟩;rcases zA.1 b with rfl|b
    ·exact zG (Xg wH w) (d w (by simp))
    ·exact f a b
theorem GM{t:za}{l:List cU}(h:kz (jh t)=some l):l.length<=t.length+1/\∀a∈l,a.2.length<=t.length:=by
 have c:wO (qu t [32])=jh t:=iZ t;obtain⟨e,d⟩:=Db _ l t.length h fun w b=>by rw[<-c]at b;exact xf (zgb.1 b).1
 have f:(jh t).length<=t.length+1:=by rw[<-c];exact zG (zhO _ _) (ZG (by simp))
 exact⟨by omega,d⟩
theorem AW{o:za}{p:Part}(a:tK o)(Y:p.ok)(b:Wj p.pre):js (dL o p).1/\(dL o p).1.length<=1:=by
 obtain⟨c,d⟩:=Vm (GA a Y b);unfold dL;by_cases h:(xh (Vh o p)).2=true
 ·rw[zd h];exact⟨d,c⟩
 ·rw[ze h];exact⟨(fun s hs=>by cases hs),by simp⟩
theorem zd2(a b:za):((⟨a.toArray⟩:ByteArray)==⟨b.toArray⟩)=decide (a=b):=by show(a.toArray==b.toArray)=_;by_cases h:a=b<;>simp[h]
theorem binW(a b c d:za):ZZ prog .eql 311 (.agg [str a,str b]) (.agg [str c,str d])=some (qz (decide (a=c)&&decide (b=d))):=by simp only[ZZ,zke,yi,zK,bg,zd2]
noncomputable def Jh (t:za):List qZ×Int:=match X3 t with
 |none=>([],10)
 |some m=>(m.1,if m.2=true then 0 else 1)
noncomputable def J5 (t:za):O:=.wY [.sl 11 (qb (Jh t).1),int (Jh t).2]
def AltI(l:List cU)(k:Nat)(Y:Hp)(Z:Nat)(v w:O):Prop:=∃o a,gG Y Z v o/\js o/\o.length<=k+1/\w=int (if a=true then 0 else 1)/\Qh [yp wu] true l=Qh o a (l.drop k)
noncomputable abbrev zfD:Ctx:=zQ prog [(303,zf false [] (SY tM)),(304,zf false [] FBt2),(305,qG [] (JW iv)),(306,zf false [] (FS yA)),(271,zf false [] (Kg D5)),(307,qG [.a,.g kJ] FOVI),(274,xu [.a,.s 11 jQ,.s 11 jQ] RG)]
theorem zaR:AM.Good zfD (fun g=>[304].contains g):=zw mixed ⟨C5,by simp,rW,fun _=>zu _ _,fT,by simp,tH,by simp,QF,by simp,rR,by simp,rY,by simp,trivial⟩
theorem RH(t:za)(ht:t.length+1<=zx):∃r0,zr zfD f273 [str t]=some r0/\qW r0 (J5 t):=by
 refine yZ (sh:=.s 11 jQ) rfl ?_;have hwo:∀(Y:Hp) (Z:Nat),zf false [] (SY tM) [str t] Y Z=some (tM t,Y,Z):=fun Y Z=>hPc t _ _ rfl (fun a b e=>q9 (by injection e)) (by show t.length<=zx;omega) (.inr (by simp))
 refine kY (fun st=>st.U 0=str t) (by simp) ?_;rintro⟨U,Y,Z⟩ h0;simp only at h0;refine kY (fun st=>st.U 4=.sl 2 (W9 (nu t).1)/\st.U 5=qz (nu t).2) (by simp[h0,hwo,tM]) ?_;clear h0 U Y Z;rintro⟨U,Y,Z⟩ ⟨y,M⟩;simp only at y M;cases E:kz (jh t)with
 |none=>
  have hr:nu t=([],false):=by unfold nu;rw[E]
  have H:Jh t=([],10):=by unfold Jh X3;rw[E]
  rw[hr]at y M;simp[y,M,qC,J5,H,qb,f273]
 |some l=>
 have hr:nu t=(l,!l.isEmpty):=by unfold nu;rw[E]
 rw[hr]at y M;simp only at y M;by_cases N:l=[]
 ·have H:Jh t=([],10):=by unfold Jh X3;rw[E];simp only;rw[zd N]
  subst N;simp[y,M,qC,J5,H,qb,f273]
 have I:X3 t=match aT l with
  |some a=>match QV a.1,QV a.2 with
   |some p,some q=>some (fW p q)
   |_,_=>none
  |none=>Qh [yp wu] true l:=by unfold X3;rw[E];simp only;rw[ze N]
 have S:l.isEmpty=false:=by cases l<;>simp at N⊢
 rw[S]at M;obtain⟨hll,T⟩:=GM E;have hsg:=rP _ l E;have j:=rS l;unfold zx at ht;refine kY (fun st=>st.U 4=.sl 2 (W9 l)) (by simp[M,y]) ?_;clear y M U Y Z;rintro⟨U,Y,Z⟩ y;simp only at y;refine kY (fun st=>st.U 4=.sl 2 (W9 l)/\aT l=none) ?_ ?_
 ·by_cases h3:l.length=3
  ·match l,h3 with
   |[a,b,c],_=>
   obtain⟨X,R⟩:=a;obtain⟨b1,b2⟩:=b;obtain⟨c1,c2⟩:=c;have hd:aT [(X,R),(b1,b2),(c1,c2)]=if(b1,b2)=(([],[45]):cU)/\X=[]/\c1=[]then some (R,c2)else none:=rfl
   have ha2:R.length<=t.length:=T (X,R) (by simp);have hc2:c2.length<=t.length:=T (c1,c2) (by simp);have hbt:=fun Y Z=>Rw R c2 Y Z ⟨by unfold zx;omega,by unfold zx;omega⟩
   by_cases k1:b1=[]
   ·subst k1;by_cases k2:b2=[45]
    ·subst k2;by_cases k3:X=[]
     ·subst k3;by_cases k4:c1=[]
      ·subst k4;rw[zd ⟨rfl,rfl,rfl⟩]at hd;rw[hd]at I;have H:Jh t=rV R c2:=by unfold Jh rV;rw[I];simp only;cases h1:QV R<;>cases h2:QV c2<;>simp
       have hfx:=Vj (rV R c2).1;simp only[Sh.sO,O.sl.injEq,true_and]at hfx;simp only[aV]at hbt;simp[y,W9,hbt,binW,qe,qM,qC,J5,H,hfx,f273]
      ·rw[ze (fun h=>k4 h.2.2)]at hd;have e4:c1.isEmpty=false:=by cases c1 with
        |nil=>exact absurd rfl k4
        |cons=>rfl
       simp[y,W9,binW,qe,qM,e4,hd]
     ·rw[ze (fun h=>k3 h.2.1)]at hd;have e3:X.isEmpty=false:=by cases X with
       |nil=>exact absurd rfl k3
       |cons=>rfl
      simp[y,W9,binW,qe,qM,e3,hd]
    ·rw[ze (fun h=>k2 (by have:=h.1;injection this))]at hd;simp[y,W9,binW,qe,qM,k2,hd]
   ·rw[ze (fun h=>k1 (by have:=h.1;injection this))]at hd;simp[y,W9,binW,qe,qM,k1,hd]
  ·have hd:aT l=none:=by
    unfold aT;split
    ·rename_i a b c;exact absurd rfl h3
    ·rfl
   have hn3:((l.length:Int)==3)=false:=by rw[ya];omega
   simp[y,j,hn3,hd]
 clear y U Y Z;rintro⟨U,Y,Z⟩ ⟨y,hd⟩;simp only at y;rw[hd]at I;simp only at I;have S:∀(Y:Hp) (Z:Nat),qG [] (JW iv) [] Y Z=some (.agg [int wu.v.a,int wu.v.b,int wu.v.c,.sl 1 (zJ wu.v.pre),qz wu.after],Y,Z):=fun Y Z=>WW _ Y Z
 simp[y,j,S,qe,qM,zz,zS,zy];refine zI (fun k U Y Z=>U 60=.sl 2 (W9 l)/\U 61=int l.length/\U 62=int k/\AltI l k Y Z (U 6) (U 7)) l.length
  ⟨by simp,by simp,by simp,[yp wu],true,.inr ⟨Z,[[int wu.v.a,int wu.v.b,int wu.v.c,.sl 1 (zJ wu.v.pre),qz wu.after,int 0,int 0,int 0,.nil,qz false,qz true]],by simp,by simp,by simp,by simp[qb,yp,qZ.V,Cut.V,Wy,zJ]⟩,(QM vV).2,by simp,by simp,by simp⟩ ?_
 clear y U Y Z;rintro k U Y Z hk ⟨m,r,u,o,ok,hM,P,hol,h7,g⟩;by_cases d:k<l.length
 ·have J:=zlL k;obtain⟨a,ha⟩:=exI (l[k]);have W:a∈l:=by rw[<-ha];exact zj d
  have z:∀h:k<(W9 l).length,(W9 l)[k]=[str a.1,str a.2]:=fun h=>by simp[W9,ha]
  have hal:=T a W;have K:=fun Y Z=>kX yA a.2 Y Z (by unfold zx;omega)
  have D:=fun Y Z=>kK D5 a.2 Y Z (by unfold zx;omega)
  simp only[D5,wQ.V]at D;rw[zc d,ha]at g;simp only[Qh]at g;have hie:a.1≠[]->a.1.isEmpty=false:=fun h=>by cases he:a.1 with
   |nil=>exact absurd he h
   |cons=>rfl
  by_cases w:a.1=[]/\yA a.2=true
  ·rw[zd w]at g;obtain⟨f,F⟩:=w;simp[m,r,u,d,j,z,f,K,F,J];exact⟨by omega,o,ok,hM.keep (by omega) fun id hid n e=>zt _ _ _ _ (by omega),P,by omega,h7,g⟩
  ·rw[ze w]at g;have hM1:∀b1 b2,gG (qR (qR Y Z b1) (Z+1) b2) (Z+1+1) (U 6) o:=fun b1 b2=>hM.keep (by omega) fun id hid n e=>by rw[zt _ _ _ _ (by omega),zt _ _ _ _ (by omega)]
   have n1:¬Z=Z+1:=by omega
   cases L:QV a.2 with
   |none=>
    rw[L]at g;simp only at g;have H:Jh t=([],10):=by unfold Jh;rw[I,g]
    have A:=rU L;by_cases f:a.1=[]
    ·have F:yA a.2=false:=by cases G:yA a.2;rfl;exact absurd ⟨f,G⟩ w
     rcases A with A|A
     ·simp[m,r,u,d,j,z,f,K,F,D,A,qC,J5,H,qb,f273]
     ·cases G:(WE a.2).2.2<;>simp[m,r,u,d,j,z,f,K,F,D,A,G,qC,J5,H,qb,f273]
    ·have f:=hie f;rcases A with A|A
     ·simp[m,r,u,d,j,z,f,D,A,qC,J5,H,qb,f273]
     ·cases G:(WE a.2).2.2<;>simp[m,r,u,d,j,z,f,D,A,G,qC,J5,H,qb,f273]
   |some p=>
    rw[L]at g;simp only at g;obtain⟨p1,p2,p3,p4,p5,p6,p7⟩:=rT L;obtain⟨_,_,q3,q4⟩:=QR L;have Q:=eqF0 p3;rw[<-p2]at p6 p7;have B:=fun Y Z=>Rt a.1 (WE a.2).1 (WE a.2).2.1 Y Z (hsg a W) p5 ⟨p6,p7⟩
    simp only[Jg,<-p4,wQ.V]at B;obtain⟨g1,g2⟩:=AW (hsg a W) q3 q4;have hlm:=JI and o (dL a.1 p).1;obtain⟨x,Y',Z',C,hX,hnx',_⟩:=GL 1 and zkI (hM1 (some ⟨311,2,false,[[str a.1,str a.2]]⟩) (some ⟨192,4,false,[(WE a.2).1.V]⟩)) (P.small (by unfold zx;omega)) (g1.small (by unfold zx;omega)) P g1;simp only[wQ.V]at C;have i:∀n:Int,n=(if(ok&&(dL a.1 p).2)=true then 0 else 1)->AltI l (k+1) Y' Z' x (int n):=fun n hn=>⟨_,_,hX,vt and P g1,by omega,by rw[hn],g⟩
    by_cases f:a.1=[]
    ·have F:yA a.2=false:=by cases G:yA a.2;rfl;exact absurd ⟨f,G⟩ w
     rw[f]at B C i z;cases G:(dL [] p).2
     ·rw[G]at B i;simp[m,r,u,d,j,z,K,F,D,p1,Q,n1,B,C,J];exact⟨by omega,i 1 (by simp)⟩
     ·rw[G]at B i;simp[m,r,u,d,j,z,K,F,D,p1,Q,n1,B,C,J];exact⟨by omega,by rw[h7];exact i _ (by simp)⟩
    ·have f:=hie f;cases G:(dL a.1 p).2
     ·rw[G]at B i;simp[m,r,u,d,j,z,f,D,p1,Q,n1,B,C,J];exact⟨by omega,i 1 (by simp)⟩
     ·rw[G]at B i;simp[m,r,u,d,j,z,f,D,p1,Q,n1,B,C,J];exact⟨by omega,by rw[h7];exact i _ (by simp)⟩
 ·obtain rfl:k=l.length:=by omega
  rw[zo]at g;simp only[Qh]at g;have H:Jh t=(o,if ok=true then 0 else 1):=by unfold Jh;rw[I,g]
  rcases hM with⟨h6,rfl⟩|⟨id,xs,hid,h6,G,hxs⟩
  ·simp[m,r,u,h6,h7,qC,J5,H,qb,f273]
  ·simp[m,r,u,h6,h7,G,hxs,qC,J5,H,f273]
theorem Mp:zg prog 273 (zf false [] (Kg J5)):=
 xE (fn:=f273) zaR (zpi func273) false [] _ fun args r h w S vs a=>by obtain⟨l,rfl,Y,rfl⟩:=zp h;obtain⟨b,c,d⟩:=RH l Y;exact⟨_,b,a,by simp[f273],c,d⟩
theorem dQ:∀(l:List cU) (out:List qZ) (d:Bool) (m:List qZ×Bool),(∀a∈l,tK a.1)->js out->Qh out d l=some m->js m.1/\m.1.length<=out.length+l.length
 |[],out,d,m,_,h,e=>by
  simp only[Qh]at e;injection e with e
  subst e;exact⟨h,by simp⟩
 |a::l,out,d,m,hs,h,e=>by
  simp only[Qh]at e;have c:∀b∈l,tK b.1:=fun b i=>hs b (by simp[i])
  split at e
  ·obtain⟨f,j⟩:=dQ l out d m c h e;exact⟨f,by simp;omega⟩
  ·cases g:QV a.2 with
   |none=>rw[g]at e;cases e
   |some p=>rw[g]at e;simp only at e;obtain⟨_,_,k,n⟩:=QR g;obtain⟨o,r⟩:=AW (hs a (by simp)) k n;have q:=JI and out (dL a.1 p).1;obtain⟨f,j⟩:=dQ l _ _ m c (vt and h o) e;exact⟨f,by simp;omega⟩
theorem RI{t:za}{m:List qZ×Bool}(h:X3 t=some m):js m.1/\m.1.length<=t.length+2:=by
 unfold X3 at h;cases b:kz (jh t)with
 |none=>rw[b]at h;cases h
 |some l=>
  rw[b]at h;simp only at h;split at h
  ·cases h
  ·cases hd:aT l with
   |none=>rw[hd]at h;simp only at h;obtain⟨d,e⟩:=dQ l _ _ m (rP _ l b) (QM vV).2 h;have:=(GM b).1;exact⟨d,by simp at e;omega⟩
   |some a=>
    rw[hd]at h;simp only at h;cases Y:QV a.1 with
    |none=>rw[Y]at h;simp at h
    |some p=>
     cases c:QV a.2 with
     |none=>rw[Y,c]at h;simp at h
     |some q=>
      rw[Y,c]at h;simp only[qj]at h;obtain⟨_,_,i,f⟩:=QR Y;obtain⟨_,_,j,g⟩:=QR c;rw[<-h];unfold fW;split
      ·have:=YI (pQ f) (bD g);exact⟨this.2,by simp only;omega⟩
      ·exact⟨(fun s hs=>by cases hs),by simp⟩
def RrI(a:List za)(k:Nat)(Y:Hp)(Z:Nat)(v w:O):Prop:=∃o b,gG Y Z v o/\js o/\o.length<=k*500/\w=int (if b=true then 0 else 1)/\YM [] true a=YM o b (a.drop k)
noncomputable abbrev Crrr:Ctx:=zQ prog [(196,jj [] FSp),(273,zf false [] (Kg J5)),(274,xu [.a,.s 11 jQ,.s 11 jQ] RG)]
theorem zd3:Gd Crrr:=zph mixed ⟨YE,Mp,rY,trivial⟩
theorem nv(t:za)(ht:t.length+1<=zx):∃P,zr Crrr f220 [str t]=some P/\qW P (pT t):=by
 refine yZ (sh:=.s 11 jQ) rfl ?_;have J:pT t=.wY [.sl 11 (qb (YN t).1),int (YN t).2]:=by rw[C4];rfl
 rw[J];by_cases j:(400:Int)<t.length
 ·have W:YN t=([],2):=by unfold YN;rw[zd j]
  simp[j,W,qb,qC,f220]
 have B:=fun Y Z=>Qy t [124,124] Y Z (by omega) (by decide) (by decide)
 obtain⟨a,d⟩:=exI (qu t [124,124]);have K:∀p∈a,p.length<=400:=fun p Y=>by have:=xf (by rw[d];exact Y);omega
 have X:a.length<=401:=by have:=ZG (s:=t) (sep:=[124,124]) (by simp);rw[d]at this;omega
 have b:YN t=match YM [] true a with
  |none=>([],10)
  |some o=>if o.2=false then([],1)else if(100:Int)<o.1.length then([],2)else(o.1,0):=by unfold YN;rw[ze j,d]
 rw[d]at B;simp[j,B];refine zI (fun k U Y Z=>U 14=.own 0 0 a.length/\U 15=int a.length/\U 16=int k/\1<=Z/\Y 0=some (V8 a)/\RrI a k Y Z (U 4) (U 5)) a.length
  ⟨by simp,by simp,by simp,by simp,by simp,[],true,.inl ⟨by simp,rfl⟩,(fun s hs=>by cases hs),by simp,by simp,by simp⟩ ?_
 rintro k U Y Z hk ⟨g,h,i,hnx,Q,o,R,G,y,hol,z,e⟩;by_cases f:k<a.length
 ·have C:=zlL k;obtain⟨s,hs⟩:=exI (a[k]);have SO:s.length<=400:=K s (by rw[<-hs];exact zj f);have c:=fun Y Z=>kK J5 s Y Z (by unfold zx;omega)
  have u:Y 0=some ⟨9,1,true,a.map fun p=>[str p]⟩:=Q;rw[zc f,hs]at e;simp only[YM]at e;cases q:X3 s with
  |none=>
   rw[q]at e;simp only at e;rw[e]at b;simp only at b;have L:Jh s=([],10):=by unfold Jh;rw[q]
   simp only[J5,L]at c;simp[g,h,i,f,u,hs,c,b,qb,qC,f220]
  |some m=>
   rw[q]at e;simp only at e;have L:Jh s=(m.1,if m.2=true then 0 else 1):=by unfold Jh;rw[q]
   obtain⟨M,g2⟩:=RI q;have hlm:=JI or o m.1;obtain⟨x,S,Z',v,hX,T,N⟩:=GL 0 or zkJ G (y.small (by unfold zx;omega)) (M.small (by unfold zx;omega)) y M;have D:S 0=some (V8 a):=by rw[N 0 (by omega) (G.box u (by simp))];exact Q
   have l:∀n:Int,n=(if(R&&m.2)=true then 0 else 1)->RrI a (k+1) S Z' x (int n):=fun n hn=>⟨_,_,hX,vt or y M,by omega,by rw[hn],e⟩
   simp only[J5,L]at c;cases H:m.2
   ·rw[H]at c l;simp at c;simp[g,h,i,f,u,hs,c,v,C];exact⟨by omega,by omega,D,l 1 (by simp)⟩
   ·rw[H]at c l;simp at c;simp[g,h,i,f,u,hs,c,v,C];exact⟨by omega,by omega,D,by rw[z];exact l _ (by simp)⟩
 ·obtain rfl:k=a.length:=by omega
  rw[zo]at e;simp only[YM]at e;rw[e]at b;simp only at b;cases R
  ·simp at b z;simp[g,h,i,z,b,qb,qC,f220]
  ·simp at b z;have w:=G.len;by_cases r:(100:Int)<o.length
   ·have A:100<o.length:=by omega
    rw[zd r]at b;simp[g,h,i,z,w,r,b,qb,qC,f220]
   ·have A:¬100<o.length:=by omega
    rw[ze r]at b;rcases G with⟨I,rfl⟩|⟨id,xs,hid,I,H,E⟩
    ·simp[g,h,i,z,I,b,qb,qC,f220]
    ·rw[I]at w;have Nh:xs.length=o.length:=by have:=zC List.length E;simpa[qb]using this
     have F:¬(100:Int)<xs.length:=by omega
     simp[g,h,i,z,I,F,H,E,b,qC,f220]
theorem Vy:zg prog 220 (zf false [] (Kg pT)):=
 xE (fn:=f220) zd3 (zpi func220) false [] _ fun args r h w S vs a=>by obtain⟨l,rfl,Y,rfl⟩:=zp h;obtain⟨b,c,d⟩:=nv l Y;exact⟨_,b,a,by simp[f220],c,d⟩
theorem Xu:zg prog 176 (zf false [] (ep jx)):=
 zX (fn:=f176) yz (zpi func176) false [] _ fun args r h=>by obtain⟨a,rfl,rfl⟩:=Ks h;refine⟨by simp[f176],_,zm rfl ?_,zW _⟩;by_cases b:3<=a<;>simp[b,jx,jD,qS,f176]
theorem fY:zg prog 178 (zf false [] (ep ZW)):=
 zX (fn:=f178) yz (zpi func178) false [] _ fun args r h=>by obtain⟨a,rfl,rfl⟩:=Ks h;refine⟨by simp[f178],_,zm rfl ?_,zW _⟩;by_cases b:7<=a<;>simp[b,ZW,jD,qS,f178]
noncomputable abbrev Crwv:Ctx:=zQ prog [(176,zf false [] (ep jx))]
theorem zd4:Gd Crwv:=zph mixed ⟨Xu,trivial⟩
theorem zaS(a:Int):Kr a=(a==2||jx a||a==12):=by
 unfold Kr jx jD;by_cases h:a=2
 ·subst h;decide
 ·have b:=eqF0 h;rw[b];congr 1;rw[qc];simp;omega
theorem Dc:zg prog 259 (zf false [] (ep Kr)):=
 zX (fn:=f259) zd4 (zpi func259) false [] _ fun args r h=>by obtain⟨a,rfl,rfl⟩:=Ks h;refine⟨by simp[f259],_,zm rfl ?_,zW _⟩;rw[zaS];cases b:a==2<;>cases c:jx a<;>simp[b,c,qS,f259]
noncomputable def FCL (n:Nat):zb->Option O:=z6 (α:=qO×Int) (fun a=>[.agg a.1.V,int a.2]) (fun a=>a.1.cb<=zx/\a.1.cb<=n/\0<=a.2/\a.2+a.1.cb<=4194304) (fun a=>.wY [int (a.1.rp a.2).1,qz (a.1.rp a.2).2])
theorem GN(n:Nat)(c:qO)(l:Int)(Y:Hp)(Z:Nat)(h:c.cb<=zx/\c.cb<=n/\0<=l/\l+c.cb<=4194304):zf false [] (FCL n) [.agg c.V,int l] Y Z=some (.wY [int (c.rp l).1,qz (c.rp l).2],Y,Z):=
 hPc (c,l) _ _ (by simp only[zv,l7];rfl) (fun x y e=>by obtain⟨a,b⟩:=x;obtain⟨d,f⟩:=y;simp only[zh,zD,O.agg.injEq]at e;rw[vQ e.1,qB e.2]) h (.inl rfl)
noncomputable abbrev Crpa (n:Nat):Ctx:=zQ prog [(211,zf false [] (FCL n))]
def PaI(c:qO)(l:Int)(k:Nat)(v w:O):Prop:=∃s:Int×Bool,v=int s.1/\w=qz s.2/\0<=s.1/\s.1+jw (c.args.drop k)<=2097153/\c.rp l=D0 (c.args.drop k) l s
theorem zaT(s:Int×Bool):(s.2||decide (200<s.1))=KU s:=rfl
theorem Dd(n:Nat)(c:qO)(l:Int)(h:c.cb<=zx/\c.cb<=n+1/\0<=l/\l+c.cb<=4194304):zr (Crpa n) f211 [.agg c.V,int l]=some (.wY [int (c.rp l).1,qz (c.rp l).2]):=by
 have z:=Qb c;have r:=zan c l;have A:=jW c.args;have B:=dj c.args fun x K=>hZ x
 obtain⟨C,L,D,E⟩:=h;unfold zx at C;refine zm rfl ?_;simp;refine zI (fun k U Y Z=>U 1=int l/\U 15=.sl 7 (c.args.map qO.V)/\U 16=int c.args.length/\U 17=int k/\PaI c l k (U 6) (U 7)) c.args.length
  ⟨by simp,by simp,by simp,by simp,(1,decide (20<l)),by simp,by simp,by simp,by rw[ym];simp only;omega,by rw[r,ym]⟩ ?_
 rintro k U Y Z M ⟨m,d,e,f,s,o,p,F,G,g⟩;by_cases a:k<c.args.length
 ·have N:=vC (zj a);have H:=zlL k;have t:=zpg (l+1);have I:jw (c.args.drop k)=c.args[k].parts+jw (c.args.drop (k+1)):=by rw[zc a,jw]
  have b:=zaT s;cases q:KU s
  ·rw[q]at b;have i:=b;rw[wZ]at i;obtain⟨y,J⟩:=i;have u:¬200<s.1:=by simpa using J
   obtain⟨P,Q,_,_⟩:=Gl c.args[k] (l+1);have j:=fun Y Z=>GN n c.args[k] (l+1) Y Z ⟨by unfold zx;omega,by omega,by omega,by omega⟩
   rw[zao a]at g;have v:AG s (c.args[k].rp (l+1))=(s.1+(c.args[k].rp (l+1)).1,s.2||(c.args[k].rp (l+1)).2):=by unfold AG;rw[q];rfl
   rw[v]at g;have w:=zpg (s.1+(c.args[k].rp (l+1)).1);simp[m,d,e,f,o,p,y,u,a,j,H,t,w];exact⟨by omega,(s.1+(c.args[k].rp (l+1)).1,s.2||(c.args[k].rp (l+1)).2),rfl,by simp[y],by simp only;omega,by simp only;omega,g⟩
  ·rw[q]at b;rw[fN q]at g;cases hd:s.2
   ·rw[hd]at b;simp at b;simp[m,d,e,f,o,p,hd,b,a,g,qS,f211]
   ·simp[m,d,e,f,o,p,hd,a,g,qS,f211]
 ·obtain rfl:k=c.args.length:=by omega
  rw[zo]at g;simp only[D0]at g;simp[m,d,e,f,o,p,g,qS,f211]
theorem tQ:∀n,zg prog 211 (zf false [] (FCL n)):=by
 intro n
 induction n with
 |zero=>
  exact im ⟨_,func211,by kernel_rfl,by kernel_rfl⟩ fun args r h=>by obtain⟨⟨c,l⟩,_,⟨_,a,_⟩,_⟩:=zp h;have:=V7 c;simp only at a;omega
 |succ n b=>have d:Gd (Crpa n):=zph mixed ⟨b,trivial⟩;exact pS1 d func211 false [] fun⟨c,l⟩ e=>⟨zG (zl 2) (by decide),_,Dd n c l e,zW _⟩
noncomputable abbrev Crla:Ctx:=zQ prog [(211,zf false [] (FCL zx))]
theorem De:zg prog 166 (GC fun c=>qz (KU (c.rp 1))):=
 zX (fn:=f166) (zph mixed ⟨tQ zx,trivial⟩:AM.Good Crla _) (zpi func166) false [] _ fun args r h=>by
  obtain⟨c,rfl,a,rfl⟩:=WT h;have b:=a.1;unfold zx at b;have d:=fun Y Z=>GN zx c 1 Y Z ⟨a.1,a.1,by omega,by omega⟩
  refine⟨zG (zl 1) (by decide),_,zm rfl ?_,zW _⟩;unfold KU;cases hd:(c.rp 1).2
  ·simp[d,hd,qS,f166]
  ·simp[d,hd,qS,f166]
def Ob(c:qO):Bool:=(!(c.kind==4)&&(!c.attr.isEmpty||c.op != 0))||(c.kind != 5&&!c.name.isEmpty)
def f2R(c:qO):Bool:=(!((c.kind==4)&&Kr c.op)&&decide (0<c.yC.length))||(!((c.kind==4)&&ZW c.op)&&!c.pat.isEmpty)
noncomputable abbrev Crfo:Ctx:=zQ prog [(259,zf false [] (ep Kr)),(178,zf false [] (ep ZW)),(176,zf false [] (ep jx))]
theorem zd5:Gd Crfo:=zph mixed ⟨Dc,fY,Xu,trivial⟩
theorem Df(c:qO)(h:c.cb<=zx):zr Crfo f212 [.agg c.V]=some (qz (rF c)):=by
 refine zm rfl ?_;have g:rF c=(!Ob c&&!f2R c&&(if c.kind=3 then(c.args.length:Int)==1 else if c.kind=4\/c.kind=5 then((c.args.length:Int)==0&&(!jx c.op||(c.yC.length:Int)==1))else true)):=rfl;refine kY (fun st=>st.U 1=.ref 0 0 0/\st.Y 0=some ⟨70,7,false,[c.V]⟩) (by simp) ?_;rintro⟨U,Y,Z⟩ ⟨e,f⟩;simp only at e f;refine kY (fun st=>st.U 1=.ref 0 0 0/\st.Y 0=some ⟨70,7,false,[c.V]⟩/\st.U 3=qz (c.kind==4)) (by simp[e,f]) ?_;clear e f U Y Z;rintro⟨U,Y,Z⟩ ⟨e,f,l⟩;simp only at e f l;refine kY (fun st=>st.U 1=.ref 0 0 0/\st.Y 0=some ⟨70,7,false,[c.V]⟩/\st.U 3=qz (c.kind==4)/\Ob c=false) ?_ ?_
 ·by_cases j:c.kind=4
  ·have s:(c.kind==5)=false:=by rw[j];rfl
   have d:(c.kind==4)=true:=by rw[j];rfl
   cases m:c.name.isEmpty
   ·have i:Ob c=true:=by simp[Ob,j,m]
    rw[i]at g;simp[e,f,l,j,m,g,qS,f212]
   ·have i:Ob c=false:=by simp[Ob,j,m]
    simp[e,f,l,j,m,i]
  ·have d:=eqF0 j;cases p:(!c.attr.isEmpty||c.op != 0)
   ·have n:=p;rw[wZ]at n;obtain⟨w,x⟩:=n;simp at w x;by_cases s:c.kind=5
    ·have i:Ob c=false:=by simp[Ob,s,p]
     simp[e,f,l,s,w,x,i]
    ·have q:=eqF0 s;have t:(c.kind != 5)=true:=by simp[bne,q]
     cases m:c.name.isEmpty
     ·have i:Ob c=true:=by simp[Ob,s,m]
      rw[i]at g;simp[e,f,l,j,d,t,w,x,m,g,qS,f212]
     ·have i:Ob c=false:=by simp[Ob,p,m]
      simp[e,f,l,j,d,t,w,x,m,i]
   ·have i:Ob c=true:=by simp[Ob,j,p]
    rw[i]at g;cases u:c.attr.isEmpty
    ·simp[e,f,l,j,d,u,g,qS,f212]
    ·rw[u]at p;simp at p;have n:=eqF0 p;have z:=nzT p;simp[e,f,l,j,d,u,n,z,g,qS,f212]
 clear e f l U Y Z;rintro⟨U,Y,Z⟩ ⟨e,f,l,A⟩;simp only at e f l;rw[A]at g;refine kY (fun st=>st.U 1=.ref 0 0 0/\st.Y 0=some ⟨70,7,false,[c.V]⟩/\f2R c=false) ?_ ?_
 ·have o:∀a b:Bool,((c.kind==4)&&Kr c.op)=a->((c.kind==4)&&ZW c.op)=b->f2R c=((!a&&decide (0<c.yC.length))||(!b&&!c.pat.isEmpty)):=fun a b F G=>by unfold f2R;rw[F,G]
  by_cases j:c.kind=4
  ·have d:(c.kind==4)=true:=by rw[j];rfl
   cases D:Kr c.op<;>cases E:ZW c.op<;>cases Y1:c.pat.isEmpty<;>by_cases v:0<c.yC.length <;>
    (have i:=o _ _ rfl rfl;rw[d,D,E,Y1]at i;simp[v]at i;simp[e,f,l,j,D,E,Y1,v,i,g,qS,f212])
  ·have d:=eqF0 j;cases Y1:c.pat.isEmpty<;>by_cases v:0<c.yC.length <;>
    (have i:=o _ _ rfl rfl;rw[d,Y1]at i;simp[v]at i;simp[e,f,l,j,d,Y1,v,i,g,qS,f212])
 clear e f l U Y Z;rintro⟨U,Y,Z⟩ ⟨e,f,B⟩;simp only at e f;rw[B]at g;simp only[Bool.not_false,jb]at g;by_cases y:c.kind=3
 ·rw[zd y]at g;simp[e,f,y,g,qS,f212]
 have C:=eqF0 y;rw[ze y]at g;by_cases r:c.kind=4\/c.kind=5
 ·rw[zd r]at g;cases u:((c.args.length:Int)==0)<;>cases H:jx c.op<;>rcases r with k|k <;>
   simp[e,f,k,u,H,g,qS,f212]
 ·rw[ze r]at g;have d:(c.kind==4)=false:=by simp;omega
  have q:(c.kind==5)=false:=by simp;omega
  simp[e,f,C,d,q,g,qS,f212]
theorem tR:zg prog 212 (GC fun c=>qz (rF c)):=
 zX (fn:=f212) zd5 (zpi func212) false [] _ fun args r h=>by obtain⟨c,rfl,a,rfl⟩:=WT h;exact⟨by simp[f212],_,Df c a.1,zW _⟩
noncomputable abbrev zfE:Ctx:=zQ prog [(38,GV fun v=>int v.check),(176,zf false [] (ep jx)),(217,zf false [] (Uu zx))]
theorem zaU:AM.Good zfE (fun g=>[217].contains g):=zw mixed ⟨eX,by simp,Xu,by simp,aK zx,fun _=>zu _ _,trivial⟩
theorem fZ(c:qO)(h:c.cb<=zx):zr zfE f213 [.agg c.V]=some (int (ZI c.op c.yC)):=by
 have P:=Qb c;obtain⟨l,p⟩:=exI c.yC;obtain⟨op,r⟩:=exI c.op;have W:=ju l;rw[p]at P;rw[p,r];unfold zx at h;refine zm rfl ?_;by_cases o:(100:Int)<l.length
 ·have Q:ZI op l=2:=by unfold ZI;rw[zd o]
  simp[p,o,Q,f213]
 have Q:ZI op l=X1 op none l:=by unfold ZI;rw[ze o]
 rw[Q];simp[p,o];refine zI (fun k U Y Z=>U 1=.ref 0 0 0/\U 11=.sl 5 (l.map qn.V)/\U 12=int l.length/\U 13=int k/\1<=Z/\Y 0=some ⟨70,7,false,[c.V]⟩/\X1 op none l=X1 op (WB l k) (l.drop k)) l.length
  ⟨by simp,by simp,by simp,by simp,by simp,by simp,by simp[WB]⟩ ?_
 rintro k U Y Z hk ⟨s,b,d,e,hnx,t,f⟩;have u:¬0=Z:=by omega
 by_cases a:k<l.length
 ·have hm:=kD (zj a);have H:=zlL k;have g:=fun Y Z=>Yj (fun v=>int v.check) l[k] Y Z (by unfold zx;omega)
  rw[zc a]at f;simp only[X1]at f;have E:WB l (k+1)=some l[k]:=by simp[WB,a]
  have i:FA op l[k]=(l[k].kind==0||jx op&&l[k].kind != 2):=rfl;by_cases q:l[k].check=0
  case neg=>rw[ze q]at f;have R:=nzT q;simp[p,r,s,t,u,b,d,e,a,g,R,f,f213]
  rw[zd q]at f;cases w:FA op l[k]
  case true=>
   rw[w,zd rfl]at f;rw[w]at i;by_cases I:l[k].kind=0
   ·simp[p,r,s,t,u,b,d,e,a,g,q,I,f,f213]
   ·have F:=eqF0 I;rw[F,ye]at i;have n:=i.symm;rw[zH]at n;simp[p,r,s,t,u,b,d,e,a,g,q,F,n.1,n.2,f,f213]
  rw[w,ze (by simp)]at f;rw[w]at i;have z:=i.symm;rw[wZ]at z;obtain⟨B,X⟩:=z;have S:jx op=false\/(l[k].kind != 2)=false:=by
   cases hi:jx op
   ·exact .inl rfl
   ·rw[hi,jb]at X;exact .inr X
  by_cases I:k=0
  ·subst I;have Y0:aG (WB l 0) l[0]=false:=rfl;rw[Y0,ze (by simp)]at f;have m:X1 op none l=X1 op (WB l 1) l.tail:=by rw[f,show WB l 1=some l[0]from E];simp
   cases hi:jx op
   ·simp[p,r,s,t,u,b,d,e,a,g,q,B,hi,H];exact⟨by omega,m⟩
   ·have G:(l[0].kind != 2)=false:=S.resolve_left (by rw[hi];simp);simp[p,r,s,t,u,b,d,e,a,g,q,B,hi,G,H];exact⟨by omega,m⟩
  ·obtain⟨j,rfl⟩:∃j,k=j+1:=⟨k-1,by omega⟩;have C:j<l.length:=by omega
   have hmj:=kD (zj C);have J:i6.wrap ((j:Int)+1-1)=(j:Int):=by rw[zi (by omega) (by omega)];omega
   have x:=zpg (j:Int);have K:((j:Int)+1).toNat=j+1:=by omega
   have L:0<(j:Int)+1:=by omega
   have M:0<=(j:Int)+1:=by omega
   have N:(j:Int)+1<l.length:=by omega
   have y:=fun Y Z=>YG zx l[j+1] l[j] Y Z ⟨by unfold zx;omega,by unfold zx;omega,by unfold zx;omega⟩
   have T:aG (WB l (j+1)) l[j+1]=decide (qV l[j+1] l[j]<=0):=by simp only[WB,aG];simp[C,Gm]
   rw[T]at f;by_cases D:qV l[j+1] l[j]<=0
   ·have A:decide (qV l[j+1] l[j]<=0)=true:=by simpa using D
    rw[zd A]at f;cases hi:jx op
    ·simp[p,r,s,t,u,b,d,e,a,C,g,q,B,hi,H,J,x,K,L,M,N,y,D,f,f213]
    ·have G:(l[j+1].kind != 2)=false:=S.resolve_left (by rw[hi];simp);simp[p,r,s,t,u,b,d,e,a,C,g,q,B,hi,G,H,J,x,K,L,M,N,y,D,f,f213]
   ·have A:¬decide (qV l[j+1] l[j]<=0)=true:=by simpa using D
    rw[ze A]at f;have wk:=zpg ((j:Int)+1+1);have m:X1 op none l=X1 op (WB l (j+1+1)) (l.drop (j+1+1)):=by rw[f,E]
    cases hi:jx op
    ·simp[p,r,s,t,u,b,d,e,a,C,g,q,B,hi,wk,J,x,K,L,M,N,y,D];exact⟨by omega,m⟩
    ·have G:(l[j+1].kind != 2)=false:=S.resolve_left (by rw[hi];simp);simp[p,r,s,t,u,b,d,e,a,C,g,q,B,hi,G,wk,J,x,K,L,M,N,y,D];exact⟨by omega,m⟩
 ·obtain rfl:k=l.length:=by omega
  rw[zo]at f;simp only[X1]at f;simp[s,b,d,e,f,f213]
theorem dR:zg prog 213 (GC fun c=>int (ZI c.op c.yC)):=
 zX (fn:=f213) zaU (zpi func213) false [] _ fun args r h=>by obtain⟨c,rfl,a,rfl⟩:=WT h;exact⟨zG (zl 1) (by decide),_,fZ c a.1,zW _⟩
noncomputable abbrev zfF:Ctx:=zQ prog [(220,zf false [] (Kg pT))]
theorem zaV:Gd zfF:=zph mixed ⟨Vy,trivial⟩
theorem dS(c:qO)(h:c.cb<=zx):zr zfF f214 [.agg c.V]=some (int (Jt c.op c.pat)):=by
 have q:=Qb c;obtain⟨s,hs⟩:=exI c.pat;obtain⟨op,r⟩:=exI c.op;rw[hs]at q;rw[hs,r];unfold zx at h;refine zm rfl ?_;by_cases a:(500:Int)<s.length
 ·have b:Jt op s=2:=by unfold Jt;rw[zd a]
  simp[hs,a,b,f214]
 have l:=fun Y Z=>kK pT s Y Z (by unfold zx;omega)
 simp only[pT]at l;have b:Jt op s=if wi 32 126 s=true then(if op=11 then(xv s).2 else 0)else 1:=by unfold Jt;rw[ze a]
 simp[hs,a];refine zI (fun k U Y Z=>U 1=.ref 0 0 0/\U 12=int s.length/\U 13=int k/\Y 0=some ⟨70,7,false,[c.V]⟩/\wi 32 126 s=wi 32 126 (s.drop k)) s.length ⟨by simp,by simp,by simp,by simp,by simp⟩ ?_;rintro k U Y Z u ⟨n,d,e,o,i⟩;by_cases f:k<s.length
 ·have t:=zlL k;rw[xV f]at i;have j:=VX 32 126 s[k];simp only[vm]at j;cases p:pr 32 126 s[k]
  ·have i:wi 32 126 s=false:=by rw[i,p];rfl
   rw[i,ze (by simp)]at b;simp[n,o,hs,d,e,f,b,j,p,f214]
  ·simp[n,o,hs,d,e,f,j,p,t];exact⟨f,by rw[i,p];rfl⟩
 ·obtain rfl:k=s.length:=by omega
  have i:wi 32 126 s=true:=by rw[i,zo];rfl
  rw[i,zd rfl]at b;by_cases g:op=11
  ·rw[zd g]at b;subst g;simp[n,o,hs,r,d,e,l,b,f214]
  ·rw[ze g]at b;have m:=eqF0 g;simp[n,o,hs,r,d,e,m,b,f214]
theorem b9:zg prog 214 (GC fun c=>int (Jt c.op c.pat)):=
 zX (fn:=f214) zaV (zpi func214) false [] _ fun args r h=>by obtain⟨c,rfl,a,rfl⟩:=WT h;exact⟨zG (zl 1) (by decide),_,dS c a.1,zW _⟩
theorem zaW{c:qO}(b:ZX c=false)(a:LL c=false):Jt c.op c.pat=0:=by
 have g:∀op,op≠11->Jt op []=0:=fun op h=>by simp[Jt,h]
 have k:w1F c=false/\w5F c=false:=by unfold ZX at b;simp only[wZ]at b;exact⟨b.1.1.1.1.1.1,b.1.1.2⟩
 obtain⟨i,j⟩:=k;unfold LL at a;cases d:c.kind==4
 ·simp only[w1F,d,Bool.not_false,jb,wZ]at i;obtain⟨⟨⟨_,l⟩,_⟩,m⟩:=i;have n:c.op=0:=by simpa using l
  have f:c.pat=[]:=by simpa using m
  rw[n,f];exact g 0 (by decide)
 ·rw[d,jb]at a;simp only[w5F,d,a,jb,Bool.not_false]at j;have f:c.pat=[]:=by simpa using j
  rw[f];refine g _ fun e=>?_
  rw[e]at a;revert a;decide
noncomputable abbrev zfG (n:Nat):Ctx:=zQ prog [(167,zf false [] (FC (fun c=>int c.fault) n)),(212,GC fun c=>qz (rF c)),(37,zf false [] (FS wb)),(213,GC fun c=>int (ZI c.op c.yC)),(214,GC fun c=>int (Jt c.op c.pat))]
theorem lh(n:Nat)(c:qO)(h:c.cb<=zx/\c.cb<=n+1):zr (zfG n) f167 [.agg c.V]=some (int c.fault):=by
 have hcb:=Qb c;have hl1:=jW c.args;obtain⟨K,hb⟩:=h;have j:=bE c;have b:=fun Y Z=>xX (fun c=>qz (rF c)) c Y Z K
 have v:=fun Y Z=>xX (fun c=>int (ZI c.op c.yC)) c Y Z K
 have D:=fun Y Z=>xX (fun c=>int (Jt c.op c.pat)) c Y Z K
 have E:c.attr.length<=zx:=by omega
 have F:c.name.length<=zx:=by omega
 unfold zx at K;refine zm rfl ?_;refine kY (fun st=>st.U 1=.ref 0 0 0/\st.Y 0=some ⟨70,7,false,[c.V]⟩/\st.Z=1) (by simp) ?_;rintro⟨U,Y,Z⟩ ⟨d,e,l⟩;simp only at d e l;subst l;have w:cK c=!jD c.kind 1 5:=rfl;refine kY (fun st=>st.U 1=.ref 0 0 0/\st.Y 0=some ⟨70,7,false,[c.V]⟩/\st.Z=1/\cK c=false/\PT c=false/\ZX c=false/\cL c=false) ?_ ?_
 ·by_cases L:c.kind<1
  ·have x:cK c=true:=by rw[w];simp[jD];omega
   simp[d,e,L,j,vW,x,f167]
  by_cases Q:5<c.kind
  ·have x:cK c=true:=by rw[w];simp[jD];omega
   simp[d,e,L,Q,j,vW,x,f167]
  have i:cK c=false:=by rw[w];simp[jD];omega
  have y:=Rh c (by simp[jD];omega);rw[y]at b;by_cases t:c.kind=4
  ·have z:PT c=!jD c.op 1 12:=by unfold PT;rw[t];rfl
   have a:cL c=!wb c.attr:=by unfold cL;rw[t];simp
   by_cases G:c.op<1
   ·have x:PT c=true:=by rw[z];simp[jD];omega
    simp[d,e,t,G,j,vW,x,f167]
   by_cases M:12<c.op
   ·have x:PT c=true:=by rw[z];simp[jD];omega
    simp[d,e,t,G,M,j,vW,x,f167]
   have f:PT c=false:=by rw[z];simp[jD];omega
   cases g:ZX c
   case true=>simp[d,e,t,G,M,b,g,j,vW,i,f,f167]
   cases o:wb c.attr
   ·rw[o]at a;simp[d,e,t,G,M,b,g,E,o,j,vW,i,f,a,f167]
   ·rw[o]at a;simp[d,e,t,G,M,b,g,E,o,i,f,a]
  have p:=eqF0 t;have f:PT c=false:=by unfold PT;rw[p];rfl
  cases g:ZX c
  case true=>simp[d,e,L,Q,p,b,g,j,vW,i,f,f167]
  by_cases q:c.kind=5
  ·have a:cL c=!wb c.name:=by unfold cL;rw[q];simp
   cases o:wb c.name
   ·rw[o]at a;simp[d,e,q,b,g,F,o,j,vW,i,f,a,f167]
   ·rw[o]at a;simp[d,e,q,b,g,F,o,i,f,a]
  ·have u:=eqF0 q;have a:cL c=false:=by unfold cL;rw[p,u];rfl
   simp[d,e,L,Q,p,u,b,g,i,f,a]
 clear d e U Y b;rintro⟨U,Y,Z⟩ ⟨d,e,l,R,S,N,T⟩;simp only at d e l;subst l;by_cases H:ZI c.op c.yC=0
 case neg=>have W:=nzT H;simp[d,e,v,H,W,j,vW,R,S,N,T,f167]
 by_cases I:Jt c.op c.pat=0
 case neg=>
  have X:=nzT I;have c6:LL c=true:=by cases hx:LL c;exact absurd (zaW N hx) I;rfl
  simp[d,e,v,D,H,I,X,j,vW,R,S,N,T,c6,f167]
 have hh:vW c=0:=by simp[vW,R,S,N,T,H,I]
 have J:c.fault=Zb c.args:=by rw[j,zd hh]
 simp[d,e,v,D,H,I];refine zI (fun k U Y Z=>U 64=.sl 7 (c.args.map qO.V)/\U 65=int c.args.length/\U 66=int k/\Zb c.args=Zb (c.args.drop k)) c.args.length ⟨by simp,by simp,by simp,by simp⟩ ?_;clear d e U Y;rintro k U Y Z hk ⟨A,B,C,r⟩;by_cases s:k<c.args.length
 ·have hm:=vC (zj s);have hw:=zlL k;have m:=fun Y Z=>ZQ (fun c=>int c.fault) n c.args[k] Y Z ⟨by unfold zx;omega,by omega⟩
  rw[aH s]at r;by_cases P:c.args[k].fault=0
  ·rw[zd P]at r;simp[A,B,C,s,m,P,hw];exact⟨by omega,r⟩
  ·rw[ze P]at r;have hz2:=nzT P;simp[A,B,C,s,m,hz2,J,r,f167]
 ·obtain rfl:k=c.args.length:=by omega
  rw[zo]at r;have r:Zb c.args=0:=by rw[r];rfl
  simp[A,B,C,J,r,f167]
theorem ga:∀n,zg prog 167 (zf false [] (FC (fun c=>int c.fault) n)):=by
 intro n
 induction n with
 |zero=>exact eR ⟨_,func167,by kernel_rfl,by kernel_rfl⟩
 |succ n a=>
  have b:Gd (zfG n):=zph mixed ⟨a,tR,Zi,dR,b9,trivial⟩;exact zX (fn:=f167) b (zpi func167) false [] _ fun args r h=>by obtain⟨c,rfl,d,rfl⟩:=WT h;exact⟨zG (zl 1) (by decide),_,lh n c d,zW _⟩
noncomputable abbrev zkK:Ctx:=zQ prog [(167,GC fun c=>int c.fault),(166,GC fun c=>qz (KU (c.rp 1)))]
theorem Ys:zg prog 124 (GC fun c=>int c.check):=
 zX (fn:=f124) (zph mixed ⟨ga zx,De,trivial⟩:AM.Good zkK _) (zpi func124) false [] _ fun args r h=>by
  obtain⟨c,rfl,a,rfl⟩:=WT h;have b:=fun Y Z=>xX (fun c=>int c.fault) c Y Z a.1
  have d:=fun Y Z=>xX (fun c=>qz (KU (c.rp 1))) c Y Z a.1
  have f:=Rf c;refine⟨zG (zl 1) (by decide),_,zm rfl ?_,zW _⟩;unfold qO.check;rw[<-f];cases e:KU (c.rp 1)
  ·simp[b,d,e,f124]
  ·simp[b,d,e,f124]
theorem gb(l:List Rg)(n:Int)(Q:1<=n/\n<=20):zr C0 f85 [.sl 3 (l.map QU),int n]=some (int (wW l n)):=by
 refine zm rfl ?_;rw[wW];by_cases u:l.length=0
 ·have:l=[]:=qv.1 u;subst this;simp[f85]
 have p:¬l=[]:=fun h=>u (by rw[h];rfl)
 have D:((l.length:Int)==0)=false:=by simpa using p
 by_cases E:(200:Int)<l.length
 ·simp[D,u,p,E,f85]
 simp[D,u,p,E];refine zI (fun k U Y Z=>U 0=.sl 3 (l.map QU)/\U 1=int n/\U 16=.sl 3 (l.map QU)/\U 17=int l.length/\U 18=int k/\∃a:Int,U 5=int a/\NX n 0 none l=NX n a (Ku l k) (l.drop k)) l.length
  ⟨by simp,by simp,by simp,by simp,by simp,0,by simp,by simp[Ku]⟩ ?_
 rintro k U Y Z R ⟨i,m,d,e,f,a,o,b⟩;by_cases c:k<l.length
 ·have S:=zlL k;rw[FM c]at b;have g:(decide (l[k].2.2<0)||decide (n<=l[k].2.2))=!jD l[k].2.2 0 (n-1):=by simp only[jD];by_cases K:l[k].2.2<0<;>by_cases L:n<=l[k].2.2<;>simp[K,L]<;>omega
  cases y:jD l[k].2.2 0 (n-1)
  case false=>rw[y]at b g;simp at b;simp only[Bool.not_false]at g;simp[i,m,o,d,e,f,c,g,b,f85]
  rw[y]at g;simp only[Bool.not_true]at g;simp only[y,qA]at b;have q:((l[k].1 != a)||decide (l[k].2.1<=l[k].1))=rgO a l[k]:=rfl;cases z:rgO a l[k]
  case true=>rw[z]at q b;simp only[qA]at b;simp[i,m,o,d,e,f,c,g,q,b,f85]
  rw[z]at q;simp only[z,zF,qJ]at b;by_cases r:(100000:Int)<l[k].2.1
  ·rw[zd r]at b;simp[i,m,o,d,e,f,c,g,q,r,b,f85]
  rw[ze r]at b;have s:Ku l (k+1)=some l[k].2.2:=by simp[Ku,c]
  by_cases M:k=0
  ·subst M;simp only[Ku,qA,rgT,zF,qJ]at b;have N:=zpg 1;simp[i,m,o,d,e,f,c,g,q,r,N];exact⟨c,by rw[b,s];simp⟩
  ·obtain⟨j,rfl⟩:∃j,k=j+1:=⟨k-1,by omega⟩;have A:j<l.length:=by omega
   have F:i6.wrap ((j:Int)+1-1)=(j:Int):=by rw[zi (by omega) (by omega)];omega
   have t:=zpg (j:Int);have G:((j:Int)+1).toNat=j+1:=by omega
   have H:0<(j:Int)+1:=by omega
   have I:0<=(j:Int)+1:=by omega
   have J:(j:Int)+1<l.length:=by omega
   have P:=zpg ((j:Int)+1+1);have B:Ku l (j+1)=some l[j].2.2:=by simp[Ku,A]
   have v:(l[j+1].2.2==l[j].2.2)=rgT (some l[j].2.2) l[j+1]:=BEq.comm;rw[B]at b;cases w:rgT (some l[j].2.2) l[j+1]
   ·rw[w]at v;simp only[w,zF,qJ]at b;simp[i,m,o,d,e,f,c,A,g,q,r,v,F,t,G,H,I,J,P];exact⟨by omega,by rw[b,s]⟩
   ·rw[w]at v;simp only[w,qA]at b;simp[i,m,o,d,e,f,c,A,g,q,r,v,F,t,G,H,I,J,b,f85]
 ·obtain rfl:k=l.length:=by omega
  rw[zo,NX]at b;by_cases x:a=100000
  ·rw[zd x]at b;simp[i,m,o,d,e,f,x,b,f85]
  ·rw[ze x]at b;have C:(a != 100000)=true:=by simpa using x
   simp[i,m,o,d,e,f,C,b,f85]
theorem QH:zg prog 85 (zf false [] (LY (fun l n=>int (wW l n)) fun _ n=>1<=n/\n<=20)):=
 pS1 yz func85 false [] fun⟨l,n⟩ a=>⟨zG (zl 2) (by decide),_,gb l n a,zW _⟩
def vG(xs:List Xp)(k:Nat):za:=if k=0 then[]else match xs[k-1]? with
 |some x=>x.name
 |none=>[]
noncomputable def Dg (b:Bk) (k:Nat):Int:=match b.zZ[k]? with
 |some x=>(Z3 b.zk (vG b.zZ k) (yJ b k) x).1
 |none=>0
theorem Oc{b:Bk}{k:Nat}(h:k<b.zZ.length):Dg b k=(Z3 b.zk (vG b.zZ k) (yJ b k) b.zZ[k]).1:=by unfold Dg;rw[zq h]
theorem mD{b:Bk}{k:Nat}(h:k<b.zZ.length):yJ b (k+1)=yJ b k++[b.zZ[k].qy]:=by
 have:(b.zZ.take (k+1)).map Xp.qy=(b.zZ.take k).map Xp.qy++[b.zZ[k].qy]:=by rw[zR h,Kc];rfl
 unfold yJ;rw[this];simp only[qT]
theorem Xv{xs:List Xp}{k:Nat}(h:k<xs.length):vG xs (k+1)=xs[k].name:=by simp[vG,h]
theorem RJ{b:Bk}{k:Nat}(h:k<b.zZ.length):(Zt b.zk (vG b.zZ k) (yJ b k) (b.zZ.drop k)).1=if Dg b k=0 then(Zt b.zk (vG b.zZ (k+1)) (yJ b (k+1)) (b.zZ.drop (k+1))).1 else Dg b k:=by
 rw[zc h,Zt,Oc h];by_cases a:(Z3 b.zk (vG b.zZ k) (yJ b k) b.zZ[k]).1=0
 ·rw[zd a,zd a,zaj a,Xv h,mD h]
 ·rw[ze a,ze a]
noncomputable def FEx:zb->Option O:=z6 (α:=Bk×Nat) (fun a=>[.nil,.agg a.1.V,int a.2,qz true]) (fun a=>(a.1.cb<=zx/\bG (a.1.zk.map wL.name))/\a.2<a.1.zZ.length) (fun a=>int (Dg a.1 a.2))
theorem zaX(b:Bk)(n:Nat)(Y:Hp)(Z:Nat)(h:b.cb<=zx)(c:bG (b.zk.map wL.name))(d:n<b.zZ.length):zf false [] FEx [.nil,.agg b.V,int n,qz true] Y Z=some (int (Dg b n),Y,Z):=
 zU (Y1:=Y) (show zv Y [.nil,.agg b.V,int n,qz true]=some ([.nil,.agg b.V,int n,qz true],Y) by
  have f:qH Y .nil=some (.nil,Y):=rfl;simp only[zv,f,JJ];rfl) (zE (V:=fun a:Bk×Nat=>[O.nil,.agg a.1.V,int a.2,qz true]) (a:=(b,n)) (fun x y e=>by
  obtain⟨j,g⟩:=x;obtain⟨k,i⟩:=y;simp only[zh,zD,true_and,O.agg.injEq]at e;have:=qB e.2;rw[W0 e.1,show g=i by omega]) ⟨⟨h,c⟩,d⟩) (.inl rfl)
abbrev qrex:List Nat:=[131,47]
noncomputable abbrev Crex:Ctx:=zQ prog [(128,zf false [] (FNb fun a b c=>int (xZ a b c))),(49,zf false [] (FBS fun b s=>WC (jB s b.zk))),(37,zf false [] (FS wb)),(124,GC fun c=>int c.check),(129,zf false [] (FS YK)),(131,zf false [] (FBn fun b n=>.sl 1 (zJ (yJ b n)))),(47,zf false [1] (Iu fun l v=>qz (decide (v∈l)))),(85,zf false [] (LY (fun l n=>int (wW l n)) fun _ n=>1<=n/\n<=20)),(132,zf false [] (FPh fun l=>int (yY l)))]
theorem zd6:AM.Good Crex (fun g=>qrex.contains g):=zw mixed ⟨Kx,by simp,xJ,by simp,Zi,by simp,Ys,by simp,Yp,by simp,fK,fun _=>zu _ _,je,fun _=>zu _ _,QH,by simp,cQ,by simp,trivial⟩
theorem RL(b:Bk)(n:Nat)(P:b.cb<=zx)(hu:bG (b.zk.map wL.name))(Q:n<b.zZ.length):zr Crex f77 [.nil,.agg b.V,int n,qz true]=some (int (Dg b n)):=by
 refine zm rfl ?_;have hL:=wa xw b.zk;have hH:=wa Wl b.holds;have hX:=wa aJ b.zZ;have S8:b.cb=yt wL.cb b.zk+yt vK.cb b.holds+yt Xp.cb b.zZ:=rfl;have d:=Oc Q;obtain⟨x,hx⟩:=exI (b.zZ[n]);have R:=yv (f:=Xp.cb) (zj Q);rw[hx]at d R;have hxc:x.cb=x.name.length+x.wE.length+x.flag.length+x.cond.cb+x.qy.length+x.xR.length+yt yM.cb x.zN:=rfl;have p:=fun Y Z=>Vr (fun b s=>WC (jB s b.zk)) b x.wE Y Z P
 have C:=fun Y Z=>Gf (fun b n=>.sl 1 (zJ (yJ b n))) b n Y Z ⟨P,by omega⟩
 have S:(yJ b n).length<=zx:=by unfold yJ;simp;omega
 have y:=fun Y Z=>Wn (fun l v=>qz (decide (v∈l))) (yJ b n) x.qy Y Z S
 simp only[Bk.V]at p C;unfold zx at P;have r:=fun Y Z=>fH (fun a b c=>int (xZ a b c)) x.name (vG b.zZ n) (decide (n=0)) Y Z (by unfold zx;omega) rfl
 have T:xZ x.name (vG b.zZ n) (decide (n=0))=y9 x.name (vG b.zZ n):=by
  rw[Ky];by_cases L:n=0
  ·subst L;simp[vG]
  ·simp[L]
 simp only[T]at r;have z:x.flag.length<=zx:=by unfold zx;omega
 have E:x.qy.length<=zx:=by unfold zx;omega
 have A:=fun Y Z=>xX (fun c=>int c.check) x.cond Y Z (by unfold zx;omega)
 have J:=fun Y Z=>YJ (fun l n=>int (wW l n)) (fun _ n=>1<=n/\n<=20) x.xR 20 Y Z ⟨by omega,by omega⟩
 have W:=fun Y Z=>fy (fun l=>int (yY l)) x.zN Y Z (by unfold zx;omega)
 simp only[qY]at A;have w:((n:Int)==0)=decide (n=0):=by rw[qc];simp
 refine kY (fun st=>st.U 0=.nil/\st.U 2=int n/\st.U 3=qz true/\st.U 5=.ref 0 0 0/\st.Y 0=some ⟨27,3,false,[b.V]⟩/\st.Z=1) (by simp[Bk.V]) ?_;rintro⟨U,Y,Z⟩ ⟨i,k,m,o,g,h⟩;simp only at i k m o g h;subst h;have B:=g;simp only[Bk.V]at B;refine kY (fun st=>st.U 0=.nil/\st.U 2=int n/\st.U 3=qz true/\st.U 5=.ref 0 0 0/\st.Y 0=some ⟨27,3,false,[b.V]⟩/\st.Z=2/\st.U 9=.ref 1 0 0/\st.Y 1=some ⟨74,13,false,[x.V]⟩) (by simp[i,k,m,o,B,Q,hx,qD,Bk.V]) ?_;clear i k m o g B U Y;rintro⟨U,Y,Z⟩ ⟨i,k,m,o,g,h,u,t⟩;simp only at i k m o g h u t;subst h;refine kY (fun st=>st.U 0=.nil/\st.U 2=int n/\st.U 3=qz true/\st.U 5=.ref 0 0 0/\st.Y 0=some ⟨27,3,false,[b.V]⟩/\st.Z=2/\st.U 9=.ref 1 0 0/\st.Y 1=some ⟨74,13,false,[x.V]⟩/\st.U 10=str []) (by simp[i,k,m,o,g,u,t]) ?_;clear i k m o g u t U Y;rintro⟨U,Y,Z⟩ ⟨i,k,m,o,g,h,u,t,e⟩;simp only at i k m o g h u t e;subst h;refine kY (fun st=>st.U 0=.nil/\st.U 2=int n/\st.U 3=qz true/\st.U 5=.ref 0 0 0/\st.Y 0=some ⟨27,3,false,[b.V]⟩/\st.Z=2/\st.U 9=.ref 1 0 0/\st.Y 1=some ⟨74,13,false,[x.V]⟩/\st.U 10=str (vG b.zZ n)) ?_ ?_
 ·have B:=g;simp only[Bk.V]at B;by_cases L:n=0
  ·subst L;simp[i,k,m,o,g,u,t,e,vG]
  ·obtain⟨j,rfl⟩:∃j,n=j+1:=⟨n-1,by omega⟩;have hj:j<b.zZ.length:=by omega
   have wj:i6.wrap ((j:Int)+1-1)=(j:Int):=by rw[zi (by omega) (by omega)];omega
   have X:=zpg (j:Int);have j2:0<(j:Int)+1:=by omega
   have G:=Xv hj;simp[i,k,m,o,B,u,t,e,j2,wj,X,hj,G,qD,Bk.V]
 clear i k m o g u t e U Y;rintro⟨U,Y,Z⟩ ⟨i,k,m,o,g,h,u,t,e⟩;simp only at i k m o g h u t e;subst h;simp only[Bk.V]at g;simp only[qD]at t;obtain⟨pn,G⟩:=exI (vG b.zZ n);rw[G]at e r d;obtain⟨l,hl⟩:=exI (yJ b n);rw[hl]at C y d;unfold Z3 at d;by_cases D:y9 x.name pn=0
 case neg=>rw[ze D]at d;have Nl:=nzT D;simp[i,k,m,o,g,u,t,e,w,r,Nl,d,f77]
 rw[zd D]at d;rcases bL hu x.wE with⟨f1,q,hq,_,f2⟩|⟨f1,f2⟩
 case inr=>rw[f1,ze (by simp)]at d;simp only[f2,Xo]at p;simp[i,k,m,o,g,u,t,e,w,r,D,p,d,f77]
 rw[f1,zd rfl]at d;simp only[f2,W7]at p;cases F:wb x.flag
 ·rw[F,ze (by simp)]at d;simp[i,k,m,o,g,u,t,e,w,r,D,p,z,F,d,f77]
 rw[F,zd rfl]at d;by_cases H:x.cond.check=0
 case neg=>rw[ze H]at d;have c4':=nzT H;simp[i,k,m,o,g,u,t,e,w,r,D,p,z,F,A,c4',d,f77]
 rw[zd H]at d;cases I:YK x.qy
 ·have K:yV l x.qy=3:=by simp[yV,I]
  rw[K]at d;simp at d;simp[i,k,m,o,g,u,t,e,w,r,D,p,z,F,A,H,E,I,d,f77]
 by_cases M:x.qy∈l
 ·have K:yV l x.qy=7:=by simp[yV,I,M]
  rw[K]at d;simp at d;rw[y8 M]at y;simp[i,k,m,o,g,u,t,e,w,r,D,p,z,F,A,H,E,I,C,y,d,f77]
 have K:yV l x.qy=0:=by simp[yV,I,M]
 rw[zd K]at d;rw[jm M]at y;by_cases N:wW x.xR 20=0
 case neg=>rw[ze N]at d;have c6':=nzT N;simp[i,k,m,o,g,u,t,e,w,r,D,p,z,F,A,H,E,I,C,y,J,c6',d,f77]
 rw[zd N]at d;simp[i,k,m,o,g,u,t,e,w,r,D,p,z,F,A,H,E,I,C,y,J,N,W,d,f77]
theorem Mq:zg prog 77 (zf false [] FEx):=
 pS1 zd6 func77 false [] fun⟨b,n⟩ ⟨⟨a,c⟩,d⟩=>⟨by simp[f77],_,RL b n a c d,zW _⟩
def GO(x:Xp)(a:Int)(y:Xp):Bool:=decide (y.wE=x.wE)&&(x0 y x a||x0 x y a)
theorem GP{b:Bk}(e:(wq [] [] b.zk).1=0)(a:∀y∈b.zZ,yY y.zN=0/\(Zy (b.zk.map wL.name) y.wE).2=true){x y:Xp}(c:x∈b.zZ)(d:y∈b.zZ):fE x (W4 b.zk x.wE) y=GO x (W4 b.zk x.wE) y:=by
 have f:0<=W4 b.zk x.wE:=by
  unfold W4;split
  ·rename_i z g;exact(W5 e z (zM g)).1
  ·omega
 unfold fE GO;rw[Mc f (W6 (a x c).1) (W6 (a y d).1) (KT (a x c).1) (KT (a y d).1)]
end Go.Q
