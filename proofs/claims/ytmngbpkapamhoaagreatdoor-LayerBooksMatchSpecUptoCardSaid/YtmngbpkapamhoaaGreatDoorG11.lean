/- Lemmas. -/
import Derived.Test.YtmngbpkapamhoaaGreatDoorG10
set_option maxRecDepth 100000
set_option maxHeartbeats 4000000
open Go Proofs Proofs.YtmngbpkapamhoaaGreatDoor Proofs.Tryz RowKit AM SpanLaw Q Zz
open Go.IntKind renaming i64→i6
namespace Go.Q
noncomputable def de (o:za) (p:Part):List wQ×Bool:=if(xi (KR o p)).2=true then((xi (KR o p)).1,true)else([],false)
noncomputable def Z9:List wQ->Bool->List cn->Option (List wQ×Bool)
 |out,b,[]=>some (out,b)
 |out,b,a::l=>if a.1=[]/\yO a.2=true then Z9 out b l else match QD a.2 with
  |none=>none
  |some p=>Z9 (vr and out (de a.1 p).1) (b&&(de a.1 p).2) l
def ar:List cn->Option (za×za)
 |[a,b,c]=>if b=([],[45])/\a.1=[]/\c.1=[]then some (a.2,c.2)else none
 |_=>none
noncomputable def fh (p q:Part):List wQ×Bool:=if QV q=true then(gD (Z4 p) (xe q),true)else([],false)
noncomputable def Xw (t:za):Option (List wQ×Bool):=match kA (jj t)with
 |none=>none
 |some l=>if l=[]then none else match ar l with
  |some a=>match QD a.1,QD a.2 with
   |some p,some q=>some (fh p q)
   |_,_=>none
  |none=>Z9 [yu wv] true l
noncomputable def Yi:List wQ->Bool->List za->Option (List wQ×Bool)
 |out,a,[]=>some (out,a)
 |out,a,s::l=>match Xw s with
  |none=>none
  |some m=>Yi (vr or out m.1) (a&&m.2) l
noncomputable def Yj (t:za):List wQ×Int:=if(400:Int)<t.length then([],2)else match Yi [] true (qy t [124,124])with
 |none=>([],10)
 |some o=>if o.2=false then([],1)else if(100:Int)<o.1.length then([],2)else(o.1,0)
def Zl(a:cn):Option Zo:=if a.1=[]/\yO a.2=true then some gI else if(zX a.2).2=true then some (KR a.1 (zX a.2).1)else none
def VU:List cn->Option (List Zo)
 |[]=>some []
 |a::l=>match Zl a with
  |none=>none
  |some c=>(VU l).map (c::·)
theorem B9{w:za}(a:w≠[])(h:(wW wM w).2=[]):(wW wM w).1≠[]:=fun e=>by have:=Q3 wM w;rw[h,e]at this;exact a (by simpa using this.symm)
theorem TN:(zX []).2=false:=by decide
theorem zb2:zX [45]=(⟨0,0,0,3,[]⟩,false):=by rfl
theorem pO:∀(n:Nat) (a:List za),a.length<=n->(∀w∈a,w≠[])->yT n a=(kA a).bind VU
 |n,[],_,_=>by cases n<;>rfl
 | 0,w::a,h,_=>by simp at h
 |n+1,[w],_,g=>by
  have f:=g w (by simp);simp only[yT,kA];by_cases b:(wW wM w).2=[]
  ·have i:=B9 f b;have:kZ w []=none:=by unfold kZ;rw[ze (fun h=>i h.1),ze (fun h=>h.2.2 rfl),b,TN];simp
   rw[this,zd b];rfl
  ·rw[ze b];have:kZ w []=(Zl (wW wM w)).map fun c=>(c,[]):=by
    unfold kZ Zl;by_cases d:(wW wM w).1=[]/\yO (wW wM w).2=true
    ·rw[zd d,zd d];rfl
    ·rw[ze d,ze d,ze (fun h=>h.2.2 rfl)];split<;>rfl
   rw[this];simp only[qc,VU];cases Zl (wW wM w)with
   |none=>rfl
   |some c=>cases n<;>rfl
 |n+1,w::x::a,m,g=>by
  have f:=g w (by simp);simp only[zx]at m;simp only[yT,kA];by_cases b:(wW wM w).2=[]
  ·have i:=B9 f b;rw[zd b];have:kZ w (x::a)=(Zl ((wW wM w).1,x)).map fun c=>(c,a):=by unfold kZ Zl;rw[ze (fun h=>i h.1),zd ⟨i,b,by simp⟩,ze (fun h=>i h.1)];simp only;split<;>rfl
   rw[this];have e:=pO n a (by omega) (fun y k=>g y (by simp[k]));cases j:kA a with
   |none=>
    rw[j]at e;simp only[xg,mC];cases Zl ((wW wM w).1,x)with
    |none=>rfl
    |some c=>simp only[zH,e];rfl
   |some l=>
    rw[j]at e;simp only[zH,qc,VU];cases Zl ((wW wM w).1,x)with
    |none=>rfl
    |some c=>simp only[zH,e];rfl
  ·rw[ze b];have:kZ w (x::a)=(Zl (wW wM w)).map fun c=>(c,x::a):=by
    unfold kZ Zl;by_cases d:(wW wM w).1=[]/\yO (wW wM w).2=true
    ·rw[zd d,zd d];rfl
    ·rw[ze d,ze d,ze (fun h=>b h.2.1)];split<;>rfl
   rw[this];have e:=pO n (x::a) (by simp only[zx];omega) (fun y k=>g y (by simp[zw.1 k]));cases j:kA (x::a)with
   |none=>
    rw[j]at e;simp only[xg,mC];cases Zl (wW wM w)with
    |none=>rfl
    |some c=>simp only[zH,e];rfl
   |some l=>
    rw[j]at e;simp only[zH,qc,VU];cases Zl (wW wM w)with
    |none=>rfl
    |some c=>simp only[zH,e];rfl
theorem uU:∀(b:List za) (l:List cn),(∀w∈b,w≠[])->kA b=some l->(∀a∈l,a.1=[])->b=l.map (·.2)
 |[],l,_,h,_=>by simp only[kA]at h;injection h with h;subst h;rfl
 |[w],l,d,h,c=>by
  simp only[kA]at h;split at h
  ·cases h
  ·injection h with h;subst h;have:=c (wW wM w) (by simp);have hd:=Q3 wM w;rw[this]at hd;simp only[z6,yX,hd,qj,wY]
 |w::x::b,l,d,h,c=>by
  simp only[kA]at h;split at h
  ·rename_i f;cases e:kA b with
   |none=>rw[e]at h;cases h
   |some l'=>rw[e]at h;simp only[zH,qa]at h;subst h;exact absurd (c ((wW wM w).1,x) (by simp)) (B9 (d w (by simp)) f)
  ·cases e:kA (x::b)with
   |none=>rw[e]at h;cases h
   |some l'=>rw[e]at h;simp only[zH,qa]at h;subst h;have g:=c (wW wM w) (by simp);have hd:=Q3 wM w;rw[g]at hd;rw[uU (x::b) l' (fun y i=>d y (by simp[zw.1 i])) e fun a j=>c a (by simp[j])];simp only[z6,hd,qj,wY]
theorem uV{c:UInt8}{l:za}(h:VE c=false):Zm (c::l)=none:=by unfold Zm;rw[ze];rintro⟨a,_⟩;have:=(oH a).2;simp only[vN,wi,h,Qc]at this;cases this
theorem pP{c d:UInt8}(h:c≠d)(l:za):∃p a,qy (c::l) [d]=(c::p)::a:=by obtain⟨p,a,e⟩:=TA d l;rw[db];exact⟨p,a,by simp[sb,h,e]⟩
theorem zb3{c:UInt8}{l:za}(f:VE c=false)(j:c≠45)(g:c≠46):(zX (c::l)).2=false:=by
 unfold zX;split
 ·have b:∃q,(Lib.cut (c::l) [45]).1=c::q:=by
   unfold Lib.cut;split
   ·rename_i hi;have d:¬(45:UInt8)=c:=fun e=>j e.symm
    rcases Lib.index_spec l [45]with⟨e,_⟩|⟨i,e,_⟩
    ·simp[Lib.index,d,e]at hi
    ·have k:Lib.index (c::l) [45]=((i+1:Nat):Int):=by
      have:¬((i:Int)=-1):=by omega
      simp[Lib.index,d,e,this]
     rw[k];exact⟨l.take i,by simp⟩
   ·exact⟨l,rfl⟩
  obtain⟨q,m⟩:=b;obtain⟨p,h,e⟩:=pP g q;have:Bf (c::l)=none:=by
   unfold Bf;rw[m,e];split
   ·rename_i a;injection a with a _
    subst a;rw[uV f]
   ·rfl
  rw[this]
 ·split
  ·rfl
  ·obtain⟨p,h,e⟩:=pP g l;rw[e];have:yC wO 0 ((c::p)::h)=none:=by simp[yC,yb,uV f]
   rw[this]
theorem pQ:∀(gs:List za) (w:za),(wW gs w).1≠[]->(wW gs w).1∈gs/\(wW gs w).1 <+: w
 |[],w,h=>by simp[wW]at h
 |g::gs,w,h=>by
  simp only[wW]at h⊢;split
  ·rename_i Y;exact⟨by simp,Gq.1 Y⟩
  ·rename_i Y;rw[ze Y]at h;have:=pQ gs w h;exact⟨by simp[this.1],this.2⟩
theorem Mi{w:za}(h:(wW wM w).1≠[]):(zX w).2=false:=by obtain⟨a,r,b⟩:=pQ wM w h;obtain⟨g,c⟩:=wZ ((wW wM w).1);rw[c]at a b;rw[<-b];simp only[wM,zw,mE,or_false]at a;rcases a with rfl|rfl|rfl|rfl|rfl|rfl|rfl<;>exact zb3 (by decide) (by decide) (by decide)
theorem Mj(a:cn):Zl a=none↔¬(a.1=[]/\yO a.2=true)/\QD a.2=none:=by
 unfold Zl;rw[mU];by_cases h:a.1=[]/\yO a.2=true
 ·simp[h]
 ·rw[ze h];cases (zX a.2).2<;>simp[h]
theorem Jg:∀(l:List cn) (out:List wQ) (b:Bool),Z9 out b l=none↔VU l=none
 |[],out,b=>by simp[Z9,VU]
 |a::l,out,b=>by
  simp only[Z9,VU];by_cases h:a.1=[]/\yO a.2=true
  ·have:Zl a=some gI:=by unfold Zl;rw[zd h]
   rw[zd h,this,Jg l out b];simp
  ·rw[ze h];cases d:QD a.2 with
   |none=>rw[(Mj a).2 ⟨h,d⟩];simp
   |some p=>
    cases e:Zl a with
    |none=>rw[((Mj a).1 e).2]at d;cases d
    |some c=>simp only[Jg l];simp
theorem pR:∀(l:List cn) (out:List wQ) (m:List wQ×Bool),Z9 out false l=some m->m.2=false
 |[],out,m,h=>by simp only[Z9]at h;injection h with h;rw[<-h]
 |a::l,out,m,h=>by
  simp only[Z9]at h;split at h
  ·exact pR l out m h
  ·split at h
   ·cases h
   ·exact pR l _ m (by simpa using h)
theorem TP:xi gI=([yu wv],true):=by simp[xi,gI]
theorem Ca{p:Part}(h:p.ok):dd (Z4 p):=⟨h.1.1,h.2.1.1,h.2.2.1.1⟩
theorem df{p:Part}(h:p.ok)(i:Nat):dd (jL p i):=by have a:=h.1.1;have b:=h.2.1.1;have c:=h.2.2.1.1;unfold jL dd;split<;>simp only<;>omega
theorem pS{p:Part}(h:p.ok):dd (xe p):=by
 unfold xe;split
 ·exact df h _
 ·exact Ca h
theorem bj:dd wv:=by simp[dd,wv]
theorem TQ:dd We:=by simp[dd,We]
theorem VV{a b:Cut}(c:dd a)(d:dd b):Ff (gD a b):=by
 unfold gD;split
 ·intro s hs;cases hs
 ·intro s hs;rw[wG]at hs;rw[hs];exact⟨c,d⟩
theorem fj{a:Cut}(b:dd a):Ff [yu a]:=fun s hs=>by rw[wG]at hs;rw[hs];exact⟨b,TQ⟩
theorem TR{c:Zo}(b:c.xR):Ff (xi c).1:=by
 obtain⟨_,b⟩:=b;unfold xi;by_cases d:c.sign=jR
 ·rw[zd d];exact fj bj
 rw[ze d];obtain⟨⟨Y,_⟩,g⟩:=b.resolve_left d;have a:=Ca Y;have f:=pS Y;split
 ·exact fj a
 split
 ·exact VV bj a
 split
 ·exact fj f
 split
 ·exact VV bj f
 split
 ·rename_i e;exact VV a (pS (g e).1)
 split
 ·exact VV a (df Y _)
 split
 ·exact VV a (df Y _)
 ·exact VV a f
def sQ(o:za):Prop:=o=[]\/o∈wM
theorem pT:∀(c:List za) (l:List cn),kA c=some l->∀a∈l,sQ a.1
 |[],l,h,a,b=>by simp only[kA]at h;injection h with h;subst h;cases b
 |[w],l,h,a,b=>by
  simp only[kA]at h;split at h
  ·cases h
  ·injection h with h;subst h;rw[wG]at b;rw[b];exact KX wM w
 |w::x::c,l,h,a,b=>by
  simp only[kA]at h;split at h
  ·cases e:kA c with
   |none=>rw[e]at h;cases h
   |some l'=>
    rw[e]at h;simp only[zH,qa]at h;subst h;rcases zw.1 b with rfl|b
    ·exact KX wM w
    ·exact pT c l' e a b
  ·cases e:kA (x::c)with
   |none=>rw[e]at h;cases h
   |some l'=>
    rw[e]at h;simp only[zH,qa]at h;subst h;rcases zw.1 b with rfl|b
    ·exact KX wM w
    ·exact pT (x::c) l' e a b
theorem QA{s:za}{p:Part}(h:QD s=some p):(zX s).2=true/\(zX s).1=p/\p.ok/\QY p.pre:=by
 rw[mU]at h;split at h
 ·rename_i e;injection h with h
  have:=KW e;rw[h]at this;exact⟨e,h,this⟩
 ·cases h
theorem Fh{o:za}{p:Part}(a:sQ o)(Y:p.ok)(b:QY p.pre):(KR o p).xR:=by have:=EA a;exact⟨this.1,.inr ⟨⟨Y,b⟩,fun e=>absurd e this.2⟩⟩
theorem iq:∀(l:List cn) (out:List wQ) (cs:List Zo) (m:List wQ×Bool),(∀a∈l,sQ a.1)->bE none out->kb out->Ff out->VU l=some cs->Z9 out true l=some m->Xj cs out=if m.2=true then some m.1 else none
 |[],out,cs,m,_,_,_,_,c,d=>by
  simp only[VU]at c;simp only[Z9]at d;injection c with c
  injection d with d;subst c;subst d;rfl
 |a::l,out,cs,m,hs,q,i,j,c,d=>by
  simp only[VU]at c;simp only[Z9]at d;have g:∀b∈l,sQ b.1:=fun b s=>hs b (by simp[s])
  by_cases h:a.1=[]/\yO a.2=true
  ·have k:Zl a=some gI:=by unfold Zl;rw[zd h]
   rw[zd h]at d;rw[k]at c;simp only at c;cases e:VU l with
   |none=>rw[e]at c;cases c
   |some f=>rw[e]at c;simp only[zH,qa]at c;subst c;simp only[Xj,TP,qV];rw[Fg q i j];exact iq l out f m g q i j e d
  ·rw[ze h]at d;cases n:QD a.2 with
   |none=>rw[n]at d;cases d
   |some p=>
    rw[n]at d;simp only at d;obtain⟨t,u,v,w⟩:=QA n;have k:Zl a=some (KR a.1 p):=by unfold Zl;rw[ze h,zd t,u]
    rw[k]at c;simp only at c;cases e:VU l with
    |none=>rw[e]at c;cases c
    |some f=>
     rw[e]at c;simp only[zH,qa]at c;subst c;have o:=Fh (hs a (by simp)) v w;simp only[Xj];unfold de at d;cases r:(xi (KR a.1 p)).2
     ·rw[r]at d;simp only[zP,wF,Bool.and_false]at d⊢;rw[pR l _ m d];simp
     ·rw[r]at d;simp only[qV,zkz]at d⊢;exact iq l _ f m g (fg i (aX o).2) (xN and i (aX o).2) (Ot and j (TR o)) e d
theorem bl:∀(l:List cn),(∃a∈l,a.2=[45])->VU l=none
 |[],h=>by obtain⟨a,d,_⟩:=h;cases d
 |a::l,h=>by
  simp only[VU];obtain⟨b,c,e⟩:=h;rcases zw.1 c with rfl|c
  ·have:Zl b=none:=by unfold Zl;rw[e,zb2];simp[yO]
   rw[this]
  ·rw[bl l ⟨b,c,e⟩];cases Zl a<;>rfl
theorem zfs(t:za):∀w∈jj t,w≠[]:=fun w a=>by unfold jj wR at a;have:=(zdZ.1 a).2;simpa[r9]using this
theorem Ou{l:List cn}{a:za×za}(h:ar l=some a):l=[([],a.1),([],[45]),([],a.2)]:=by
 unfold ar at h;split at h
 ·rename_i x y z;split at h
  ·rename_i d;injection h with h
   obtain⟨e,b,c⟩:=d;obtain⟨f,g⟩:=x;obtain⟨i,j⟩:=z;simp only at b c h;rw[<-h,e,b,c]
  ·cases h
 ·cases h
theorem au:wW wM [45]=([],[45]):=by decide
theorem Fi(t:za):((Wc t).2=false->Xw t=none)/\((Wc t).2=true->∃m,Xw t=some m/\Xj (Wc t).1 [yu wv]=if m.2=true then some m.1 else none):=by
 have A:=zfs t;have J:∀n,jj t=n->Wc t=(match yT n.length n with
   |some l=>(l,!l.isEmpty)
   |none=>([],false))->(∀l,kA n=some l->ar l=none)->((Wc t).2=false->Xw t=none)/\((Wc t).2=true->∃m,Xw t=some m/\Xj (Wc t).1 [yu wv]=if m.2=true then some m.1 else none):=by
  intro n o C hd;rw[o]at A;rw[pO n.length n (zl _) A]at C;rw[C];unfold Xw;rw[o];cases D:kA n with
  |none=>exact⟨fun _=>rfl,fun h=>by cases h⟩
  |some l=>
   have K:=hd l D;simp only[qc];by_cases f:l=[]
   ·subst f;simp[VU]
   ·rw[ze f,K];simp only;have E:=Jg l [yu wv] true;cases u:VU l with
    |none=>exact⟨fun _=>E.2 u,fun h=>by cases h⟩
    |some cs=>
     have R:cs≠[]:=by
      cases l with
      |nil=>exact absurd rfl f
      |cons a l=>
       simp only[VU]at u;split at u
       ·cases u
       ·cases h:VU l<;>rw[h]at u<;>simp at u;rw[<-u];simp
     have F:cs.isEmpty=false:=by cases cs<;>simp_all
     cases I:Z9 [yu wv] true l with
     |none=>rw[E.1 I]at u;cases u
     |some m=>exact⟨fun h=>by simp[F]at h,fun _=>⟨m,rfl,iq l _ cs m (pT n l D) (TM _) aq (fj bj) u I⟩⟩
 obtain⟨n,o⟩:=wZ (jj t);by_cases g:∃a c,n=[a,[45],c]
 ·obtain⟨a,c,rfl⟩:=g;have C:Wc t=([⟨[45],(zX a).1,(zX c).1⟩],(zX a).2&&(zX c).2):=by unfold Wc;rw[im,o];simp
  rw[o]at A;have G:a≠[]:=A a (by simp);have L:c≠[]:=A c (by simp);by_cases i:(wW wM a).1=[]
  ·by_cases v:(wW wM c).1=[]
   ·have H:wW wM a=([],a):=by have:=Q3 wM a;rw[i]at this;exact Prod.ext i (by simpa using this)
    have N:wW wM c=([],c):=by have:=Q3 wM c;rw[v]at this;exact Prod.ext v (by simpa using this)
    have D:kA [a,[45],c]=some [([],a),([],[45]),([],c)]:=by rw[Jf _ _ (by rw[H];exact G),Jf _ _ (by rw[au];simp),Jf _ _ (by rw[N];exact L),H,N,au];rfl
    have I:Xw t=match QD a,QD c with
      |some p,some q=>some (fh p q)
      |_,_=>none:=by
     unfold Xw;rw[o,D];simp only[U6,wF,reduceCtorEq];rfl
    rw[I,C];cases j:QD a with
    |none=>
     rw[mU]at j;have:(zX a).2=false:=by
      cases h:(zX a).2 with
      |false=>rfl
      |true=>rw[h]at j;simp at j
     rw[this];exact⟨fun _=>rfl,fun h=>by cases h⟩
    |some p=>
     obtain⟨S,T,U,W⟩:=QA j;cases w:QD c with
     |none=>
      rw[mU]at w;have:(zX c).2=false:=by
       cases h:(zX c).2 with
       |false=>rfl
       |true=>rw[h]at w;simp at w
      rw[this,Bool.and_false];exact⟨fun _=>rfl,fun h=>by cases h⟩
     |some q=>
      obtain⟨X,q2,q3,q4⟩:=QA w;rw[S,X,T,q2];refine⟨fun h=>(by cases h),fun _=>⟨fh p q,rfl,?_⟩⟩;have hs:xi ⟨[45],p,q⟩=(gD (Z4 p) (xe q),QV q):=by simp[xi,jR]
      simp only[Xj,hs];unfold fh;have P:kb (gD (Z4 p) (xe q)):=(Yd (pb W) (aW q4)).2;cases Q:QV q
      ·simp
      ·simp only[qV];rw[Oq rfl Bool.and_comm aq P,Fg (zb1 _ _) P (VV (Ca U) (pS q3))]
   ·have r:(Wc t).2=false:=by rw[C,Mi v,Bool.and_false]
    refine⟨fun _=>?_,fun h=>by rw[r]at h;cases h⟩;have H:wW wM a=([],a):=by have:=Q3 wM a;rw[i]at this;exact Prod.ext i (by simpa using this)
    unfold Xw;rw[o,Jf _ _ (by rw[H];exact G),Jf _ _ (by rw[au];simp)];simp only[kA];split
    ·rfl
    ·rename_i l f;cases d:(if(wW wM c).2=[]then none else some [wW wM c]:Option (List cn))with
     |none=>rw[d]at f;cases f
     |some k=>
      have Q:k=[wW wM c]:=by
       split at d
       ·cases d
       ·injection d with d;exact d.symm
      rw[d]at f;simp only[zH,qa,H,au]at f;subst f;subst Q;simp only[U6,wF,reduceCtorEq];have s:ar [(([]:za),a),([],[45]),wW wM c]=none:=by simp[ar,v]
      rw[s];simp only;rw[Jg];exact bl _ ⟨([],[45]),by simp,rfl⟩
  ·have r:(Wc t).2=false:=by rw[C,Mi i];rfl
   refine⟨fun _=>?_,fun h=>by rw[r]at h;cases h⟩;unfold Xw;rw[o];simp only[kA];by_cases j:(wW wM a).2=[]
   ·rw[zd j];split
    ·rfl
    ·rename_i l f;cases d:(if(wW wM c).2=[]then none else some [wW wM c]:Option (List cn))with
     |none=>rw[d]at f;cases f
     |some k=>
      rw[d]at f;simp only[zH,qa]at f;subst f;simp only[U6,wF,reduceCtorEq];have s:ar (((wW wM a).1,[45])::k)=none:=by
       unfold ar;split
       ·rename_i x y z B;injection B with M _
        rw[<-M];simp[i]
       ·rfl
      rw[s];simp only;rw[Jg];exact bl _ ⟨((wW wM a).1,[45]),by simp,rfl⟩
   ·rw[ze j];simp only[au,U6,wF,reduceCtorEq];split
    ·rfl
    ·rename_i l f;cases d:(if(wW wM c).2=[]then none else some [wW wM c]:Option (List cn))with
     |none=>rw[d]at f;cases f
     |some k=>
      rw[d]at f;simp only[zH,qa]at f;subst f;simp only[U6,wF,reduceCtorEq];have s:ar (wW wM a::([],[45])::k)=none:=by
       unfold ar;split
       ·rename_i x y z B;injection B with M _
        rw[<-M];simp[i]
       ·rfl
      rw[s];simp only;rw[Jg];exact bl _ ⟨([],[45]),by simp,rfl⟩
 ·refine J n o ?_ ?_
  ·unfold Wc;rw[im,o];split
   ·rename_i a b c;rw[ze (fun e=>g ⟨a,c,by rw[e]⟩)];rfl
   ·rfl
  ·intro l D;cases hd:ar l with
   |none=>rfl
   |some a=>have f:=Ou hd;rw[o]at A;have:=uU n l A D (by rw[f];simp);rw[f]at this;exact absurd ⟨a.1,a.2,this⟩ g
theorem dh:∀(l:List za) (out:List wQ) (a:Bool),Yi out a l=none↔sa l=none
 |[],out,a=>by simp[Yi,sa]
 |s::l,out,a=>by
  obtain⟨b,c⟩:=Fi s;simp only[Yi,sa];cases h:(Wc s).2
  ·rw[b h];simp
  ·obtain⟨m,e,_⟩:=c h;rw[e];simp only[dh l,qV];cases sa l<;>simp
theorem uW:∀(l:List za) (out:List wQ) (m:List wQ×Bool),Yi out false l=some m->m.2=false
 |[],out,m,h=>by simp only[Yi]at h;injection h with h;rw[<-h]
 |a::l,out,m,h=>by
  simp only[Yi]at h;split at h
  ·cases h
  ·exact uW l _ m (by simpa using h)
theorem pU:∀(l:List za) (out:List wQ) (d:List (List Zo)) (m:List wQ×Bool),sa l=some d->Yi out true l=some m->eJ d out=if m.2=true then some m.1 else none
 |[],out,d,m,a,b=>by
  simp only[sa]at a;simp only[Yi]at b;injection a with a
  injection b with b;subst a;subst b;rfl
 |s::l,out,d,m,a,b=>by
  obtain⟨n,i⟩:=Fi s;simp only[sa]at a;simp only[Yi]at b;cases h:(Wc s).2
  ·rw[h]at a;simp at a
  ·rw[h]at a;simp only[qV]at a;obtain⟨k,e,j⟩:=i h;rw[e]at b;simp only[kv]at b;cases f:sa l with
   |none=>rw[f]at a;cases a
   |some g=>
    rw[f]at a;simp only[zH,qa]at a;subst a;simp only[eJ,j];cases c:k.2
    ·rw[c]at b;rw[uW l _ m b];simp
    ·rw[c]at b;simp only[qV];exact pU l _ g m f b
theorem Cb(t:za):Yj t=QZ t:=by
 unfold Yj QZ;split
 ·rfl
 ·cases a:sa (qy t [124,124])with
  |none=>rw[(dh _ [] true).2 a]
  |some c=>
   cases b:Yi [] true (qy t [124,124])with
   |none=>rw[(dh _ _ _).1 b]at a;cases a
   |some m=>
    have:=pU _ _ c m a b;simp only[this];cases d:m.2
    ·simp
    ·simp
noncomputable def YI (o:za) (v:yK) (m:Int):O:=.w5 [.sl 11 (qn (de o (v.part m)).1),int (if(de o (v.part m)).2=true then 0 else 1)]
noncomputable def FOVI:zb->Option O:=qd (α:=za×yK×Int) (fun a=>[str a.1,.agg a.2.1.V,int a.2.2]) (fun a=>sQ a.1/\a.2.1.ok/\1<=a.2.2/\a.2.2<=3) (fun a=>YI a.1 a.2.1 a.2.2)
theorem Ov(o:za)(v:yK)(m:Int)(Y:Hp)(Z:Nat)(c:sQ o)(d:v.ok)(f:1<=m/\m<=3):qP [.a,.g vO] FOVI [str o,.agg v.V,int m] Y Z=some (YI o v m,Y,Z):=
 xv (show zC Y [str o,.agg v.V,int m]=some ([str o,.agg v.V,int m],Y) by simp[yK.V]) (by
  show FOVI [str o,(Sh.g vO).fix (.agg v.V),int m]=_;rw[K2];exact qD (V:=fun a:List UInt8×yK×Int=>[str a.1,O.agg a.2.1.V,int a.2.2]) (a:=(o,v,m)) (fun x y e=>by obtain⟨j,k,l⟩:=x;obtain⟨n,p,q⟩:=y;simp only[zj,zG]at e;obtain⟨h,b,i⟩:=e;injection b with b;rw[wC h,KM b,qR i]) ⟨c,d,f⟩) (.inr (by simp[yK.V]))
abbrev qst:List Nat:=[252,293,296,297]
noncomputable abbrev Crst:Ctx:=zV prog [(292,qP [.g vO] (AB WS fun m=>1<=m/\m<=3)),(252,qP [] (Jt gE)),(293,qP [.g kn,.g kn] (Ee VI)),(296,qP [.g vO] (AB ZA fun i=>0<=i/\i<3)),(297,qP [.g vO] (AB Zk fun m=>1<=m/\m<=3))]
theorem zb4:AM.Good Crst (fun g=>qst.contains g):=qC mixed ⟨ff,by simp,fe,fun _=>jD _ _,lA,fun _=>jD _ _,ck,fun _=>jD _ _,BX,fun _=>jD _ _,trivial⟩
theorem yK.ok.small{v:yK}(h:v.ok):v8 v.pre:=h.2.2.2
theorem sR(o:za)(v:yK)(m:Int)(t:sQ o)(H:v.ok)(S:1<=m/\m<=3):∃T,zv Crst f255 [str o,.agg v.V,int m]=some T/\wL T (YI o v m):=by
 refine ji (sh:=.s 11 jW) rfl ?_;have J:=H.small;have g:=fun Y Z=>ah WS (fun m=>1<=m/\m<=3) v m (.agg v.V) Y Z H S (K2 v) (aj v Y) (ak v)
 have r:=fun Y Z=>ah Zk (fun m=>1<=m/\m<=3) v m (.agg v.V) Y Z H S (K2 v) (aj v Y) (ak v)
 have w:=fun(i:Int) (hi:0<=i/\i<3) Y Z=>ah ZA (fun i=>0<=i/\i<3) v i (.agg v.V) Y Z H hi (K2 v) (aj v Y) (ak v)
 have x:∀(Y:Hp) (Z:Nat),qP [] (Jt gE) [] Y Z=some (.agg [int wv.v.a,int wv.v.b,int wv.v.c,.sl 1 (zy wv.v.pre),wb wv.after],Y,Z):=fun Y Z=>Wy _ Y Z
 have k:Z4 (v.part m)=⟨v,false⟩:=rfl;have l:v8 (v.part m).pre:=J;have C:=fun Y Z=>WQ wv (Z4 (v.part m)) Y Z Bw (Qy l)
 have y:=fun Y Z=>WQ wv (xe (v.part m)) Y Z Bw (Wz l)
 have z:=fun Y Z=>WQ (Z4 (v.part m)) (xe (v.part m)) Y Z (Qy l) (Wz l)
 have A:=fun i Y Z=>WQ (Z4 (v.part m)) (jL (v.part m) i) Y Z (Qy l) (VJ _ i)
 have D:=fun i=>lz v 3 m i
 simp only[VI,k,yK.V,Cut.V,WS,JZ,Zk,ZA,vQ,(D _).1,(D _).2]at g r w C y z A;have U:=wq (m-1);have E:(v.part m).has=m:=rfl;have F:∀o':za,o'=o->o'≠jR:=fun o' e=>by
  subst e;rcases t with rfl|t
  ·decide
  ·intro e;rw[e]at t;revert t;decide
 have K:o≠[45]:=by
  rcases t with rfl|t
  ·decide
  ·intro e;rw[e]at t;revert t;decide
 have n0:=F o rfl;have one:∀(X:List wQ) (b:Bool),xi (KR o (v.part m))=(X,b)->de o (v.part m)=if b=true then(X,true)else([],false):=fun X b h=>by unfold de;rw[h]
 by_cases L:o=[62,61]
 ·subst L;have d:=one [yu (Z4 (v.part m))] true (by simp[xi,KR,jR]);simp at d;simp[yK.V,Cut.V,g,qv,qS,zt,zJ,zr,qB,YI,d,k,qn,yu,wQ.V,We,f255]
 have n:=jN L;by_cases M:o=[60]
 ·subst M;have d:=one (gD wv (Z4 (v.part m))) true (by simp[xi,KR,jR]);simp at d;simp[yK.V,Cut.V,g,x,C,n,qv,qS,zt,zJ,zr,qB,YI,d,k,qn,wQ.V,f255]
 have q:=jN M;by_cases N:o=[62]
 ·subst N;have d:=one [yu (xe (v.part m))] (QV (v.part m)) (by simp[xi,KR,jR]);cases j:QV (v.part m)
  ·rw[j]at d g;simp at d;simp[yK.V,Cut.V,g,n,q,qv,qS,zt,zJ,zr,qB,YI,d,qn,f255]
  ·rw[j]at d g;simp at d;simp[yK.V,Cut.V,g,n,q,qv,qS,zt,zJ,zr,qB,YI,d,qn,yu,wQ.V,We,f255]
 have u:=jN N;by_cases P:o=[60,61]
 ·subst P;have d:=one (gD wv (xe (v.part m))) (QV (v.part m)) (by simp[xi,KR,jR]);cases j:QV (v.part m)
  ·rw[j]at d g;simp at d;simp[yK.V,Cut.V,g,x,y,n,q,u,qv,qS,qB,YI,d,qn,f255]
  ·rw[j]at d g;simp at d;simp[yK.V,Cut.V,g,x,y,n,q,u,qv,qS,qB,YI,d,qn,wQ.V,Cut.V,f255]
 have B:=jN P;by_cases Q:o=[126]
 ·subst Q;have d:=one (gD (Z4 (v.part m)) (jL (v.part m) (min (m-1) 1).toNat)) (xm (v.part m) (min (m-1) 1).toNat) (by simp[xi,KR,jR,E]);have G:(if 1<m-1 then 1 else m-1)=(((min (m-1) 1).toNat:Nat):Int):=by split<;>omega
  have hmn:(min (m-1) 1).toNat<3:=by omega
  have f:=w (((min (m-1) 1).toNat:Nat):Int) (by omega);simp only[Int.toNat_natCast]at f;rw[<-G]at f;obtain⟨i,hi⟩:=wZ ((min (m-1) 1).toNat);rw[hi]at d f;have p:=fun Y Z=>A i Y Z
  cases j:xm (v.part m) i
  ·rw[j]at d f;simp at d;simp[yK.V,Cut.V,g,U,f,p,n,q,u,B,qv,qS,qB,YI,d,qn,f255]
  ·rw[j]at d f;simp at d;simp[yK.V,Cut.V,g,U,f,p,n,q,u,B,qv,qS,qB,YI,d,k,qn,wQ.V,f255]
 have I:=jN Q;by_cases R:o=[94]
 ·subst R;have d:=one (gD (Z4 (v.part m)) (jL (v.part m) (kf (v.part m)))) (xm (v.part m) (kf (v.part m))) (by simp[xi,KR,jR]);have hci:=NM (v.part m);have f:=w ((kf (v.part m):Nat):Int) (by omega);simp only[Int.toNat_natCast]at f;obtain⟨i,hi⟩:=wZ (kf (v.part m));rw[hi]at d f r;have p:=fun Y Z=>A i Y Z
  cases j:xm (v.part m) i
  ·rw[j]at d f;simp at d;simp[yK.V,Cut.V,g,r,f,p,n,q,u,B,I,qv,qS,qB,YI,d,qn,f255]
  ·rw[j]at d f;simp at d;simp[yK.V,Cut.V,g,r,f,p,n,q,u,B,I,qv,qS,qB,YI,d,k,qn,wQ.V,f255]
 have W:=jN R;have d:=one (gD (Z4 (v.part m)) (xe (v.part m))) (QV (v.part m)) (by simp[xi,KR,n0,L,M,N,P,K,Q,R]);cases j:QV (v.part m)
 ·rw[j]at d g;simp at d;simp[yK.V,Cut.V,g,z,n,q,u,B,I,W,qv,qS,qB,YI,d,qn,f255]
 ·rw[j]at d g;simp at d;simp[yK.V,Cut.V,g,z,n,q,u,B,I,W,qv,qS,qB,YI,d,k,qn,wQ.V,f255]
theorem pV:zg prog 255 (qP [.a,.g vO] FOVI):=
 yf (fn:=f255) zb4 (qX func255) _ _ fun args r h=>by obtain⟨⟨o,v,m⟩,rfl,⟨b,c,d⟩,rfl⟩:=zO h;obtain⟨e,f,i⟩:=sR o v m b c d;exact⟨by simp[f255],e,f,i⟩
def WG(l:List cn):List zb:=l.map fun a=>[str a.1,str a.2]
def mv(s:za):List cn×Bool:=match kA (jj s)with
 |some l=>(l,!l.isEmpty)
 |none=>([],false)
def sS(s:za):O:=.w5 [.sl 2 (WG (mv s).1),wb (mv s).2]
noncomputable abbrev Crwo:Ctx:=zV prog [(288,hP (Yx tbP fun _ b=>dY b)),(290,hP (PE IF)),(289,hP (Yx tlP fun _ b=>dY b)),(291,hP (FSB ibP))]
theorem zb5:Gd Crwo:=zW mixed ⟨DR,mu,Jo,l8,trivial⟩
theorem uX(a:za)(Y:Hp)(Z:Nat)(h:a.length<=zA):hP (Yx tlP fun _ b=>dY b) [str a,str [32]] Y Z=some (str (Lib.trimLeftB a 32),Y,Z):=xT _ _ a [32] Y Z h (by decide) ⟨32,rfl,by decide⟩ rfl
theorem Ow(a:za)(Y:Hp)(Z:Nat)(h:a.length<=zA):hP (Yx tbP fun _ b=>dY b) [str a,str [32]] Y Z=some (str (Lib.trimB a 32),Y,Z):=xT _ _ a [32] Y Z h (by decide) ⟨32,rfl,by decide⟩ rfl
theorem TS:∀s:za,(Lib.indexByte s 32=((hd s).length:Int)/\(hd s).length<s.length)\/(Lib.indexByte s 32=-1/\hd s=s)
 |[]=>.inr ⟨rfl,rfl⟩
 |c::s=>by
  by_cases a:c=32
  ·subst a;exact .inl ⟨by simp[Lib.indexByte,hd],by simp[hd]⟩
  ·have b:hd (c::s)=c::hd s:=by simp[hd,a]
   rcases TS s with⟨d,e⟩|⟨d,e⟩
   ·refine .inl ⟨?_,by rw[b];simpa using e⟩;rw[b];have:¬Lib.indexByte s 32=-1:=by omega
    simp[Lib.indexByte,a,d]
    try omega
   ·refine .inr ⟨?_,by rw[b,e]⟩;simp[Lib.indexByte,a,d]
theorem zb6(s:za):s.take (hd s).length=hd s/\s.drop (hd s).length=tl s:=by have h:=lB s;exact⟨(List.prefix_iff_eq_take.1 ⟨tl s,h⟩).symm,by have:=zo (List.drop (hd s).length) h;simpa using this.symm⟩
def Ox:O->Nat
 | .v (.string s)=>s.size
 |_=>0
theorem pW(l:List cn):(WG l).length=l.length:=by simp[WG]
theorem TT(l:List cn):(WG l).map (QN [none,none])=WG l:=by simp[WG]
def WoI(a:za)(st:St):Prop:=∃(s:za) (l:List cn),st.σ 0=str s/\Mf s/\s.length+l.length<=a.length/\qN st.Y st.Z 279 2 (st.σ 4) (WG l)/\kA (jj a)=(kA (jj s)).map (l++·)
theorem TU{b s:za}{l:List cn}{a:cn}{st:St}(c:st.σ 0=str (Lib.trimLeftB s 32))(hs:(Lib.trimLeftB s 32).length+(l.length+1)<=b.length)(d:qN st.Y st.Z 279 2 (st.σ 4) (WG l++[[str a.1,str a.2]]))(e:kA (jj b)=(kA (jj s)).map (fun x=>l++[a]++x)):WoI b st:=
 ⟨Lib.trimLeftB s 32,l++[a],c,J6 s,by simpa using hs,by simpa[WG]using d,by rw[e,bf]⟩
theorem Fj(t:za)(ht:t.length<=zA):∃r0,zv Crwo f250 [str t]=some r0/\wL r0 (sS t):=by
 refine ji (sh:=.s 2 [none,none]) rfl ?_;have U:=fun Y Z=>Ow t Y Z ht
 have G:(Lib.trimB t 32).length<=t.length:=by
  have h1:=bg (Lib.trimRightB t 32);have h2:(Lib.trimRightB t 32).length<=t.length:=by unfold Lib.trimRightB;rw[List.length_reverse];exact zI (List.dropWhile_sublist _).length_le (by simp)
  exact zI h1 h2
 have hR:∀l:List cn,kA (jj t)=some l->mv t=(l,!l.isEmpty):=fun l h=>by unfold mv;rw[h]
 have hN:kA (jj t)=none->mv t=([],false):=fun h=>by unfold mv;rw[h]
 simp[U];refine Jl (WoI t) (fun st=>Ox (st.σ 0)) ⟨Lib.trimB t 32,[],by simp,J6 _,by simpa using G,.inl ⟨by simp,rfl⟩,by rw[TE];cases kA (jj t)<;>rfl⟩ ?_;rintro⟨σ,Y,Z⟩ ⟨s,l,u,W,Ls,X,H⟩;simp only at u X;by_cases hs:s=[]
 ·subst hs;have he':kA (jj t)=some l:=by rw[H,BZ];simp[kA]
  have I:=hR l he';have hfx:=TT l;have j:=pW l;have hb1:(decide (0<l.length))=!l.isEmpty:=by cases l<;>simp
  rcases X with⟨S,hn⟩|⟨id,hid,S,hb⟩
  ·have hl:l=[]:=by simpa[WG]using hn
   subst hl;simp[u,S,qB,sS,I,WG,f250]
  ·rw[j]at S;have f:(WG l).take l.length=WG l:=zZ (by omega);simp[u,S,hb,j,f,hfx,hb1,qB,sS,I,f250]
 ·have hh:hd s≠[]:=W.resolve_left hs;have k:s.isEmpty=false:=by cases s with
   |nil=>exact absurd rfl hs
   |cons c s=>rfl
  have b:=TI hh;have g:=fun h=>TJ (s:=s) h
  unfold zA at ht;have B:s.length<=zA:=by unfold zA;omega
  have d:=fun Y Z=>ef IF s Y Z B rfl
  have C:=Q3 wM s;have i:(wW wM s).1.length<=s.length:=by
   rcases KX wM s with h|h
   ·rw[h];simp
   ·by_cases m:(wW wM s).1=[]
    ·rw[m];simp
    ·exact(pQ wM s m).2.length_le
  have D:=VL wM s;simp only[IF]at d;unfold B6 at b g;simp only at b g;obtain⟨o,r,hor⟩:∃o r,wW wM s=(o,r):=⟨_,_,rfl⟩;rw[hor]at d C i D b g;simp only at d C i D b g;have n:=fun Y Z=>uX r Y Z (by unfold zA;omega)
  have f:(s.drop o.length).take (s.length-o.length)=r:=by rw[C];exact zZ (by simp)
  obtain⟨s1,J⟩:=wZ (Lib.trimLeftB r 32);have hs1l:s1.length<=s.length:=by rw[<-J];exact zI (bg r) D
  rw[J]at n b g;have w:∀Y Z,hP (FSB ibP) [str s1,.v (.int .u8 32)] Y Z=some (int (Lib.indexByte s1 32),Y,Z):=fun Y Z=>RN ibP s1 32 Y Z (by unfold zA;omega) rfl
  obtain⟨K,L⟩:=zb6 s1;have A:(s1.drop (hd s1).length).take (s1.length-(hd s1).length)=tl s1:=by rw[L];exact zZ (by rw[<-L];simp)
  have M:(hd s1).length<=s1.length:=by have:=zo List.length (lB s1);rw[zm]at this;omega
  have p:=fun Y Z=>uX (tl s1) Y Z (by have:=zo List.length (lB s1);rw[zm]at this;unfold zA;omega)
  have j:=pW l;have E:=qN.yx (P:=prog) (t:=275) (c:=[str o,str (hd s1)]) X zhW zhX zhY zhZ rfl (by omega) (by rw[j];unfold maxLen;omega) (by rw[j];omega);have hoe:(s.isEmpty)=false:=k;by_cases m:hd s1=[]
  ·rw[zd m]at b;rw[b]at H;have I:=hN H;rcases TS s1 with⟨hi,Dp⟩|⟨hi,q⟩
   ·rw[m]at hi;simp at hi;simp[u,hs,k,d,i,f,n,w,hi,qB,sS,I,WG,f250]
   ·have N:s1=[]:=by rw[<-q];exact m
    subst N;simp[u,hs,k,d,i,f,n,w,hi,qB,sS,I,WG,f250]
  ·have hlt':=g m;rw[ze m]at b;rw[b]at H;have y:¬(hd s1).length=0:=fun e=>m (qo.1 e)
   have Q:=bg (tl s1);have z:kA (jj t)=(kA (jj (tl s1))).map (fun x=>l++[((o,hd s1):cn)]++x):=by rw[H];cases kA (jj (tl s1))<;>simp
   have T:Ox (str (Lib.trimLeftB (tl s1) 32))<Ox (σ 0):=by rw[u];simp[Ox];omega
   rw[u]at T;have hnn:¬((hd s1).length:Int)<0:=by omega
   have F:(((hd s1).length:Int)==0)=false:=by simpa using m
   rcases TS s1 with⟨hi,Dp⟩|⟨hi,q⟩
   ·simp[u,hs,k,d,i,f,n,w,hi,hnn,F,m,y,M,K,A,p,E,qv,qS,zt,zJ,zr];exact⟨TU (s:=tl s1) (l:=l) (a:=(o,hd s1)) (by simp) (by omega) (by simpa using qN.after) z,by simpa[Ox]using T⟩
   ·rw[q]at y K A M E z;have R:s1≠[]:=fun e=>y (by rw[e];rfl)
    rw[q]at F;have hte:tl s1=[]:=by have:=zo List.length (lB s1);rw[zm,q]at this;exact qo.1 (by omega)
    rw[hte]at p z Q T;simp[u,hs,k,d,i,f,n,w,hi,F,y,R,p,E,qv,qS,zt,zJ,zr];exact⟨TU (s:=[]) (l:=l) (a:=(o,s1)) (by simp) (by have h9:=jV.2 hs;rw[show Lib.trimLeftB [] 32=[]from rfl,qj];omega) (by simpa using qN.after) z,by simpa[Ox]using T⟩
theorem Ce:zg prog 250 (hP (PE sS)):=
 W6 (fn:=f250) zb5 (qX func250) false [] _ fun args r h w S vs a=>by obtain⟨l,rfl,Y,rfl⟩:=zO h;obtain⟨b,c,d⟩:=Fj l Y;exact⟨_,b,a,by simp[f250],c,d⟩
theorem pX{s:za}{p:Part}(h:QD s=some p):(Xv s).2.2=true/\(Xv s).2.1=p.has/\(Xv s).2.1≠0/\p=(Xv s).1.part (Xv s).2.1/\(Xv s).1.ok/\1<=p.has/\p.has<=3:=by
 have f:=h;rw[Me]at h;split at h
 ·rename_i d;injection h with h
  obtain⟨_,_,Y,j⟩:=QA f;subst h;obtain⟨a,b,c,⟨g,i⟩,e⟩:=Y;exact⟨d.1,rfl,d.2,rfl,⟨a,b,c,e⟩,g,i⟩
 ·cases h
theorem pY{s:za}(h:QD s=none):(Xv s).2.2=false\/(Xv s).2.1=0:=by
 rw[Me]at h;split at h
 ·cases h
 ·rename_i b;by_cases a:(Xv s).2.1=0
  ·exact .inr a
  ·left;cases c:(Xv s).2.2
   ·rfl
   ·exact absurd ⟨c,a⟩ b
noncomputable def pZ (a b:za):List wQ×Int:=match QD a,QD b with
 |some p,some q=>((fh p q).1,if(fh p q).2=true then 0 else 1)
 |_,_=>([],10)
noncomputable def av (a b:za):O:=.w5 [.sl 11 (qn (pZ a b).1),int (pZ a b).2]
def one1(a b:za):Prop:=a.length+1<=zA/\b.length+1<=zA
noncomputable abbrev Crbt:Ctx:=zV prog [(254,hP (bz IC)),(292,qP [.g vO] (AB WS fun m=>1<=m/\m<=3)),(293,qP [.g kn,.g kn] (Ee VI))]
theorem zb7:Gd Crbt:=zW mixed ⟨JA,ff,lA,trivial⟩
theorem sT(a b:za)(t:one1 a b):∃y,zv Crbt f251 [str a,str b]=some y/\wL y (av a b):=by
 obtain⟨F,G⟩:=t;refine ji (sh:=.s 11 jW) rfl ?_;have f:=fun Y Z=>ZM IC a Y Z F
 have g:=fun Y Z=>ZM IC b Y Z G
 simp only[IC,yK.V]at f g;cases i:QD a with
 |none=>
  have d:pZ a b=([],10):=by unfold pZ;rw[i]
  rcases pY i with h|h
  ·simp[f,g,h,qB,av,d,qn,f251]
  ·cases H:(Xv a).2.2<;>cases u:(Xv b).2.2<;>simp[f,g,h,H,u,qB,av,d,qn,f251]
 |some p=>
  obtain⟨n,M,I,z,J,N,P⟩:=pX i;have e:=jN I;cases o:QD b with
  |none=>
   have d:pZ a b=([],10):=by unfold pZ;rw[i,o]
   rcases pY o with h|h
   ·simp[f,g,n,e,h,qB,av,d,qn,f251]
   ·cases u:(Xv b).2.2<;>simp[f,g,n,e,h,u,qB,av,d,qn,f251]
  |some q=>
   obtain⟨A,K,L,B,C,D,E⟩:=pX o;have j:=jN L;have d:pZ a b=((fh p q).1,if(fh p q).2=true then 0 else 1):=by unfold pZ;rw[i,o]
   rw[<-K]at D E;have c:=fun Y Z=>ah WS (fun m=>1<=m/\m<=3) (Xv b).1 (Xv b).2.1 (.agg (Xv b).1.V) Y Z C ⟨D,E⟩ (K2 _) (aj _ Y) (ak _)
   have k:Z4 p=⟨(Xv a).1,false⟩:=by rw[z];rfl
   have v:v8 p.pre:=by rw[z];exact J.small
   have w:v8 q.pre:=by rw[B];exact C.small
   have l:=fun Y Z=>WQ (Z4 p) (xe q) Y Z (Qy v) (Wz w)
   simp only[VI,k,yK.V,Cut.V,WS,JZ,<-B]at c l;cases r:QV q
   ·rw[r]at c;have x:fh p q=([],false):=by unfold fh;rw[r];rfl
    rw[x]at d;simp[f,g,n,e,A,j,c,qB,av,d,qn,f251]
   ·rw[r]at c;have x:fh p q=(gD (Z4 p) (xe q),true):=by unfold fh;rw[r];rfl
    rw[x]at d;simp[f,g,n,e,A,j,c,l,qv,qS,qB,av,d,k,qn,wQ.V,Cut.V,f251]
theorem ra:zg prog 251 (hP (qd (α:=za×za) (fun a=>[str a.1,str a.2]) (fun a=>one1 a.1 a.2) fun a=>av a.1 a.2)):=
 W6 (fn:=f251) zb7 (qX func251) false [] _ fun args r h w S vs c=>by obtain⟨⟨a,b⟩,rfl,Y,rfl⟩:=zO h;obtain⟨d,e,f⟩:=sT a b Y;exact⟨_,d,c,by simp[f251],e,f⟩
noncomputable def FBt2:zb->Option O:=qd (α:=za×za) (fun a=>[str a.1,str a.2]) (fun a=>one1 a.1 a.2) fun a=>av a.1 a.2
theorem Oy(a b:za)(Y:Hp)(Z:Nat)(h:one1 a b):hP FBt2 [str a,str b] Y Z=some (av a b,Y,Z):=
 QL (a,b) _ _ rfl A3 h (.inr (by simp))
end Go.Q
namespace Go.Proofs
open Go.Shelf
def Tryz.Py:Go.Shelf.Ren:=⟨fun|4=>298|n=>n,fun|22=>169|25=>208|0=>0|3=>3|4=>4|9=>9|20=>20|n=>n,fun|n=>n⟩
theorem Tryz.ziU:Go.Proofs.Lays8.n4 prog Tryz.Py:={
 mixed:=by kernel_rfl
 f4:=⟨f298.name,by decide,Xb func298⟩
 t0:=underlying0
 a0:=isAgg0
 z0:=sizeOf0
 v0:=zeroValue0
 t3:=underlying3
 a3:=isAgg3
 z3:=sizeOf3
 v3:=zeroValue3
 t4:=underlying4
 a4:=isAgg4
 z4:=sizeOf4
 v4:=zeroValue4
 t9:=underlying9
 a9:=isAgg9
 z9:=sizeOf9
 v9:=zeroValue9
 t20:=underlying20
 a20:=isAgg20
 z20:=sizeOf20
 v20:=zeroValue20
 t22:=underlying169
 a22:=isAgg169
 z22:=sizeOf169
 v22:=zeroValue169}
end Go.Proofs
namespace Go.Q
theorem Fk:zg prog 298 (tP 208 11 120):=
 DE ⟨_,func298,by decide,by kernel_rfl⟩ tU (by decide) (CW.of Tryz.ziU tU DK DL rfl (by omega))
noncomputable def TV (out:List wQ->List wQ->O) (pre:List wQ->List wQ->Prop):zb->Option O:=qd (α:=List wQ×List wQ) (fun a=>[.sl 1 [[.sl 11 (a.1.map wQ.V)],[.sl 11 (a.2.map wQ.V)]]]) (fun a=>pre a.1 a.2) (fun a=>out a.1 a.2)
noncomputable abbrev GP:Ctx:=zV prog [(298,tP 208 11 120)]
theorem Cf(a b:List wQ)(C:a.length<=zA)(r:b.length<=zA):∃f,zv GP f256 [.sl 1 [[.sl 11 (a.map wQ.V)],[.sl 11 (b.map wQ.V)]]]=some f/\wL f (.sl 11 ((a++b).map wQ.V)):=by
 have q:∀{code},f256.body=some code->ZX GP code ⟨vn [.sl 1 [[.sl 11 (a.map wQ.V)],[.sl 11 (b.map wQ.V)]]],fun _=>none,0⟩ (Vq GP.P f256 (iS (.sl 11 ((a++b).map wQ.V))))->∃f,zv GP f256 [.sl 1 [[.sl 11 (a.map wQ.V)],[.sl 11 (b.map wQ.V)]]]=some f/\wL f (.sl 11 ((a++b).map wQ.V)):=by intro code r h;obtain⟨f,D,E⟩:=YT r h;exact⟨f,D,fun w S u F=>AH F E⟩
 refine q rfl ?_;unfold zA at C r;let cs:List (List wQ):=[a,b];have c:cs=[a,b]:=rfl;simp;refine zL (fun k σ Y Z=>σ 0=.sl 1 [[.sl 11 (a.map wQ.V)],[.sl 11 (b.map wQ.V)]]/\σ 9=.sl 1 [[.sl 11 (a.map wQ.V)],[.sl 11 (b.map wQ.V)]]/\σ 10=int 2/\σ 11=int k/\σ 3=int (((cs.take k).map List.length).sum:Nat)) 2
  ⟨by simp,by simp,by simp,by simp,by simp⟩ ?_
 rintro k σ Y Z G ⟨s,x,g,i,p⟩;obtain rfl|rfl|rfl:k=0\/k=1\/k=2:=by omega
 ·simp[c]at p;have y:=wq (a.length:Int);have j:=wq 1;have z:¬(a.length:Int)<0:=by omega
  simp[s,x,g,i,p,y,j,z,c]
 ·simp[c]at p;have y:=wq ((a.length:Int)+b.length);have j:=wq 2;have z:¬(a.length:Int)+b.length<0:=by omega
  simp[s,x,g,i,p,y,j,z,c]
 ·simp[c]at p;have H:∀Y Z,∃v Y' Z',tP 208 11 120 [.nil,int ((a.length:Int)+b.length)] Y Z=some (v,Y',Z')/\qN Y' Z' 208 11 v []:=fun Y Z=>by
   by_cases B:(a.length:Int)+b.length=0
   ·exact⟨.nil,Y,Z,by simp[tP,B],.inl ⟨rfl,rfl⟩⟩
   ·exact⟨.own Z 0 0,qq Y Z (some ⟨208,11,true,[]⟩),Z+1,by show(if(a.length:Int)+b.length=0 then _ else _)=_;rw[ze B,zd ⟨by omega,by omega,by omega⟩],.inr ⟨Z,by omega,rfl,by simp⟩⟩
  obtain⟨v,Y',Z',A,e⟩:=H Y Z;simp[s,x,g,i,p,A];refine zL (fun k σ Y Z=>σ 25=.sl 1 [[.sl 11 (a.map wQ.V)],[.sl 11 (b.map wQ.V)]]/\σ 26=int 2/\σ 27=int k/\qN Y Z 208 11 (σ 6) (((cs.take k).flatten).map wQ.V)) 2
   ⟨by simp,by simp,by simp,by simpa using e⟩ ?_
  rintro k σ Y Z G ⟨l,m,n,e⟩;obtain rfl|rfl|rfl:k=0\/k=1\/k=2:=by omega
  ·simp[c]at e;obtain⟨I,Y',Z',o,d,_⟩:=e.Y5 (P:=prog) (t:=169) (ys:=a.map wQ.V) LL tU DK DL rfl (by omega) (by simp[maxLen];omega) (by simp;omega);have j:=wq 1;simp at d;simp[l,m,n,o,j,c];exact d
  ·simp[c]at e;obtain⟨I,Y',Z',o,d,_⟩:=e.Y5 (P:=prog) (t:=169) (ys:=b.map wQ.V) LL tU DK DL rfl (by omega) (by simp[maxLen];omega) (by simp;omega);have j:=wq 2;simp[l,m,n,o,j,c];simpa using d
  ·simp[c]at e;have:=e.freeze Z;simp[l,m,n,f256];exact this
noncomputable def uY:zb->Option O:=TV (fun a b=>.sl 11 ((a++b).map wQ.V)) fun a b=>a.length<=zA/\b.length<=zA
theorem sU:zg prog 256 (zh true [] uY):=
 W6 (fn:=f256) (zW mixed ⟨Fk,trivial⟩:AM.Good GP _) (qX func256) true [] _ fun args r h w S vs d=>by unfold uY TV at h;obtain⟨⟨a,b⟩,rfl,c,rfl⟩:=zO h;obtain⟨e,f,g⟩:=Cf a b c.1 c.2;exact⟨_,e,d,zI (zl 1) (by decide),f,g⟩
end Go.Q
namespace Go.AM
variable{dr:Prop}
section
variable{P:Program}{Y:Hp}{Z:Nat}
def zdz(P:Program)(f e s by_:Nat):Prop:=
 ∀(w:World) (g l n i cap k:Nat) (cur a:Array Value) (m:TypeId),i<n->n<=cap->cap<=maxLen->n+1<=maxLen->(n+1)*by_<=140737488355328->g≠l->1<=k->k<=maxLen ->
  w.heap[g]?=some (.cells cur e (0,0))->cur.size=cap*s->w.heap[l]?=some (.cells a m (0,0))->a.size=k*s->(∀j v,j<n*s->cur[j]?=some v->v.oneCell'=true)->(∀j v,j<s->a[j]?=some v->v.oneCell'=true) ->
  Calls P f #[.slice (some ⟨g,0,none⟩) n cap,.int .i64 i,.slice (some ⟨l,0,none⟩) 1 k] w fun r w'=>∃(h c:Nat) (d:Array Value),n+1<=c/\c<=maxLen/\r=.returned (.slice (some ⟨h,0,none⟩) ((n+1:Nat)) c) /\
   (h=g\/w.heap.size<=h)/\w'.heap[h]?=some (.cells d e (0,0))/\d.size=c*s/\Fr True w (fun b=>b=h) w' /\
   ∀j,j<(n+1)*s->d[j]?=(cur.toList.take (i*s)++a.toList.take s++(cur.toList.take (n*s)).drop (i*s))[j]?
def lD(e s by_:Nat):AM.Spec:=fun args Y Z=>match args with
 |[.own id 0 n,.v (.int .i64 i),.own a 0 1]=>match Y id,Y a with
  |some b,some d=>match d.es with
   |[c]=>if id≠a/\b.arr=true/\d.arr=true/\b.e=e/\b.s=s/\d.s=s/\b.es.length=n/\0<=i/\i<n/\(n+1)*by_<=140737488355328/\n+1<=maxLen then
     some (.own Z 0 (n+1),qq (qq Y id none) Z (some ⟨e,s,true,b.es.take i.toNat++c::b.es.drop i.toNat⟩),Z+1)else none
   |_=>none
  |_,_=>none
 |_=>none
theorem zft{es:List zb}{s i j:Nat}(d:∀c∈es,c.length=s){c:zb}{e:O}(hi:es[i]?=some c)(f:c[j]?=some e):j<s/\i<es.length/\i*s+j<es.length*s:=by
 have a:j<s:=by rw[<-d c (zN hi)];exact(zk.1 f).1
 have b:i<es.length:=(zk.1 hi).1;exact⟨a,b,kK b a⟩
theorem Fl{f e s by_:Nat}(hfn:∃fn,P.funcs[f]?=some fn/\(fn.name== "runtime.NumGoroutine")=false/\fn.body.isNone=false)(hsz:qE P e=some s)(E:0<s)(h:zdz P f e s by_):yY dr P f (lD e s by_):=by
 refine⟨hfn,?_⟩;intro args Y Z r Y' Z' t w S G vs hi hz;unfold lD at t;split at t
 case h_2=>cases t
 rename_i id n i x;split at t
 case h_2=>cases t
 rename_i b b2 hb hb2;split at t
 case h_2=>cases t
 rename_i c hc;split at t
 case isFalse=>cases t
 rename_i hk;obtain⟨k1,k2,k3,k4,k5,k6,k7,k8,k9,k10,k11⟩:=hk;injection t with t
 injection t with e1 t;injection t with e2 e3;subst e1;subst e2;subst e3;obtain⟨u0,us,rfl,hu0,y⟩:=hz.y9;obtain⟨u1,us,rfl,hu1,y⟩:=y.y9;obtain⟨u2,us,rfl,hu2,y⟩:=y.y9;obtain rfl:=y.Yq;obtain⟨rfl,_⟩:=hu1.yi;have PM:=hu0.vy;have H:=hu2.vy;obtain⟨cap,g1,g2,g3,g4,rfl⟩:=hu0.vf;obtain⟨vc,v1,v2,v3,v4,rfl⟩:=hu2.vf;have Q:=hi.live id b hb;have z:=hi.live x b2 hb2;have hgs:(G id).s=s:=by rw[<-Q.bs];exact k5
 have I:(G x).s=s:=by rw[<-z.bs];exact k6
 obtain⟨cur,q1,q2,q3⟩:=Q.row PM;obtain⟨A,r1,r2,r3⟩:=z.row H;rw[hgs]at q3 g4;rw[I]at r3 v4;rw[k4]at q1;have z0:0*(G id).s=0:=Y4 _;have z1:0*(G x).s=0:=Y4 _;rw[z0,z1];have hne:(G id).g≠(G x).g:=fun e=>k1 (hi.inj id x b b2 hb hb2 e)
 have B:∀c∈b.es,c.length=s:=fun c hc=>by rw[<-hgs];exact Q.len PM c hc
 have hlc:c.length=s:=by rw[<-I];exact z.len H c (by rw[hc];simp)
 obtain⟨m,rfl⟩:∃m:Nat,i=m:=⟨i.toNat,by omega⟩;have hmn:m<n:=by omega
 have key:=h w (G id).g (G x).g n m cap vc cur A b2.e hmn g2 g3 k11 k10 hne v2 v3 q1 (by rw[q2,<-g4,wg]) r1 (by rw[r2,<-v4,wg])
  (fun j v R hv=>by
   have hd:=Nat.div_add_mod j s;have hm:=zkD j E;have T:j/s<b.es.length:=by rw[k7];exact(Nat.div_lt_iff_lt_mul E).2 R
   obtain⟨row,J⟩:∃row,b.es[j/s]?=some row:=⟨_,zq T⟩;have U:=B row (zN J);obtain⟨q,W⟩:∃q,row[j % s]?=some q:=⟨_,zq (by omega)⟩;obtain⟨u,p,F⟩:=q3 (j/s) (j % s) row q J W;rw[fI,hd,hv]at p;injection p with p;rw[p];exact F.2.2)
  (fun j v R hv=>by obtain⟨q,W⟩:∃q,c[j]?=some q:=⟨_,zq (by omega)⟩;obtain⟨u,p,F⟩:=r3 0 j c q (by rw[hc];rfl) W;rw[Y4,wg,hv]at p;injection p with p;rw[p];exact F.2.2)
 refine key.mono fun e w' hr=>?_
 obtain⟨g',K,l,p1,p2,rfl,p4,p5,p6,p7,p8⟩:=hr;have L:∀id' C,qq Y id none id'=some C->Y id'=some C:=fun id' C h=>vL h
 have X:∀id' C,qq Y id none id'=some C->(G id').g≠g':=fun id' C D e=>by
  have hb0:=L id' C D;rcases p4 with rfl|p4
  ·have:=hi.inj id' id C b hb0 hb e;subst this;rw[wU]at D;cases D
  ·have:=(hi.live id' C hb0).lt;omega
 have hnS:¬S g':=fun hS=>by
  rcases p4 with rfl|p4
  ·exact hi.apart id b hb hS
  ·have:=hi.st _ hS;omega
 have htl:(b.es.take m++c::b.es.drop m).length=n+1:=by simp;omega
 have U:∀c'∈b.es.take m++c::b.es.drop m,c'.length=s:=fun c' hc'=>by
  rcases qi.1 hc' with h|h
  ·exact B c' (vu h)
  ·rcases zw.1 h with rfl|h
   ·exact hlc
   ·exact B c' (List.mem_of_mem_drop h)
 have hcl:(cur.toList.take (n*s)).length=n*s:=by have:n*s<=cap*s:=zT _ g2;simp only[ju,yl];rw[q2,<-g4,wg];exact Nat.min_eq_left this
 have hms:m*s<=n*s:=zT _ (by omega);have o:(cur.toList.take (m*s)).length=m*s:=by
  have:cur.toList.length=cap*s:=by rw[yl,q2,<-g4,wg]
  have h2:n*s<=cap*s:=zT _ g2;simp only[ju,this];omega
 have hvl:(A.toList.take s).length=s:=by
  have:A.toList.length=vc*s:=by rw[yl,r2,<-v4,wg]
  have h2:1*s<=vc*s:=zT _ v2;simp only[ju,this];omega
 have k:=kW.Ao (dr:=dr) (Y1:=qq Y id none) hi L ⟨g',l.size,s⟩ e true (b.es.take m++c::b.es.drop m) l p7.os p7.tape p7.output p7.size (p7.drawn trivial) (fun _=>False) (fun _ h=>h.elim)
  (fun C D hne' _=>p7.block C D hne') X hnS (by
   rcases p4 with rfl|p4
   ·exact .inl ⟨id,b,hb,rfl⟩
   ·exact .inr p4) E (by simpa[qE]using hsz) U (by rw[htl,p6];exact zT _ p1) p5 rfl
  (fun i' j c' q a R=>by
   obtain⟨b1,b2',b3⟩:=zft U a R;rw[htl]at b2' b3;have GN:=p8 (i'*s+j) b3;show∃u,l[i'*s+j]?=some u/\_;rw[GN];have M:∀u,jM w S G Z b.arr q u->jM w S G Z true q u:=fun u hu=>by rw[k2]at hu;exact hu
   have ziV:∀u,jM w S G Z b2.arr q u->jM w S G Z true q u:=fun u hu=>by rw[k3]at hu;exact hu
   rcases Nat.lt_trichotomy i' m with hlt|heq|hgt
   ·rw[qh (by rw[ju,k7];omega),qI,zd hlt]at a;obtain⟨u,p,F⟩:=q3 i' j c' q a R;have N:i'*s+j<m*s:=kK hlt b1;refine⟨u,?_,M u F⟩;rw[qG,qh (by rw[o];exact N),qI,zd N];simpa using p
   ·subst heq;rw[zY (by rw[ju,k7];omega)]at a;rw[ju,k7,Nat.min_eq_left (by omega),Nat.sub_self]at a;simp only[cx,qa]at a;subst a;obtain⟨u,p,F⟩:=r3 0 j c q (by rw[hc];rfl) R;rw[Y4,wg]at p;refine⟨u,?_,ziV u F⟩;rw[qG,zY (by rw[o];omega),o,Nat.add_sub_cancel_left,qh (by rw[hvl];exact b1),qI,zd b1];simpa using p
   ·obtain⟨d,rfl⟩:∃d,i'=d+1:=⟨i'-1,by omega⟩;rw[zY (by rw[ju,k7];omega)]at a;rw[ju,k7,Nat.min_eq_left (by omega),show d+1-m=(d-m)+1 by omega,List.getElem?_cons_succ,q8,show m+(d-m)=d by omega]at a;obtain⟨u,p,F⟩:=q3 d j c' q a R;have hdn:d<n:=by omega
    have T:=kK (s:=s) hdn b1;have hmd:m*s<=d*s:=zT _ (by omega);refine⟨u,?_,M u F⟩;rw[zY (by rw[zm,o,hvl,wo,Nat.one_mul];omega),zm,o,hvl,q8,
     show m*s+((d+1)*s+j-(m*s+s))=d*s+j by rw[wo,Nat.one_mul];omega,qI,zd T]
    simpa using p)
 refine⟨_,_,_,rfl,k,?_⟩;have:=qw.own (w:=w') (S:=S) (G:=qq G Z ⟨g',l.size,s⟩) (Z:=Z+1) (id:=Z) (off:=0) (n:=n+1) (cap:=K) (by omega) p1 p2 (by rw[wU];show(0+K)*s=l.size;rw[p6,wg]) (by rw[wU];exact E);rw[wU]at this;simpa using this
noncomputable def hIns (C:Ctx) (fn:Func) (e s by_:Nat):AM.Spec:=fun args Y Z=>match lD e s by_ args Y Z with
 |some r=>some r
 |none=>wD C fn args Y Z
theorem IJ{C:Ctx}{fn:Func}{f e s by_:Nat}(a:yY dr P f (lD e s by_))(b:yY dr P f (wD C fn)):yY dr P f (hIns C fn e s by_):=by
 refine⟨a.1,fun args Y Z r Y' Z' h=>?_⟩;unfold hIns at h;split at h
 ·rename_i q c;injection h with h
  subst h;exact a.2 args Y Z r Y' Z' c
 ·exact b.2 args Y Z r Y' Z' h
end
end Go.AM
namespace Go.AM
open Go.RowKit Go.Proofs Go.Lib
variable{dr:Prop}
variable{P:Program}
theorem WT(w:World)(q r ty b:TypeId)(k m g o c e:Nat)(a:Addr)(d f:Nat)(cur:Array Value)(t:TypeId)(cs:List Value)
  (s:P.underlying q=some (.slice b)) (hs:qE P b=some k)
  (u:w.heap[g]?=some (.cells cur t (0,0))) (x:Nat.min d c=m) (y:cs.length=m*k)
  (h:∀j v,cs[j]?=some v->w.cell? (a.add j)=some v) (l:o+cs.length<=cur.size) (z:∀v∈cs,v.oneCell'=true) :
  (Builtin.copy_ #[q,r] ty #[.slice (some ⟨g,o,none⟩) c e,.slice (some a) d f]).run P w =
   .ok (goInt m) (w.setRow g (cur.toList.take o++cs++cur.toList.drop (o+cs.length)).toArray):=by
 have A:=run_loadCells_list (P:=P) w a cs h;have n:=run_storeCells_at P g o t cs 0 cur w u (by simpa using l) z;unfold qE at hs;cases p:P.info? b with
 |none=>simp[p]at hs
 |some i=>
  have hi:i.size=k:=by simpa[p]using hs
  simp[Builtin.copy_,zK s,Builtin.lenOf,Builtin.firstCells,sizeOf,typeInfo,p,hi,x,<-y,A,n]
theorem aw{w:World}{g e:Nat}{cur:Array Value}(h:w.heap[g]?=some (.cells cur e (0,0)))(j:Nat):w.cell? ⟨g,j,none⟩=cur[j]?:=by simp[World.cell?,h]
theorem Fm{w:World}{g e:Nat}{cur:Array Value}(h:w.heap[g]?=some (.cells cur e (0,0)))(j:Nat):w.frozen? ⟨g,j,none⟩=false:=by simp[World.frozen?,h]
theorem uZ{w:World}{g e:Nat}{cur:Array Value}(h:w.heap[g]?=some (.cells cur e (0,0))):w.shape? g=some (e,cur.size):=by simp[World.shape?,h]
theorem JB{w:World}{g k:Nat}(cs:Array Value)(h:k≠g):(w.setRow g cs).heap[k]?=w.heap[k]?:=by
 have:¬g=k:=fun e=>h e.symm
 simp[World.setRow,kS,this]
theorem u5(w:World)(g:Nat)(cs:Array Value):Fr dr w (fun b=>b=g) (w.setRow g cs):=
 ⟨rfl,rfl,rfl,by simp[World.setRow],fun _=>zl _,fun k _ a=>JB cs a⟩
def jQ(l:List Value)(o:Nat)(cs:List Value):List Value:=l.take o++cs++l.drop (o+cs.length)
theorem xa{l cs:List Value}{o:Nat}(h:o+cs.length<=l.length):(jQ l o cs).length=l.length:=by unfold jQ;simp;omega
theorem Oz{l vs:List Value}{n i s:Nat}(hi:i<=n)(c:(n+1)*s<=l.length)(d:vs.length=s)(j:Nat)(e:j<(n+1)*s) :
  (jQ (jQ l ((i+1)*s) ((l.take (n*s)).drop (i*s))) (i*s) vs)[j]?=(l.take (i*s)++vs++(l.take (n*s)).drop (i*s))[j]?:=by
 have f:(i+1)*s=i*s+s:=by rw[wo,Nat.one_mul]
 have g:(n+1)*s=n*s+s:=by rw[wo,Nat.one_mul]
 have t:i*s<=n*s:=zT _ hi;rw[g]at c e;rw[f];generalize n*s=N at *;generalize i*s=I at *;subst d;have h:((l.take N).drop I).length=N-I:=by simp;omega
 have b:I+vs.length+((l.take N).drop I).length<=l.length:=by rw[h];omega
 have a:(jQ l (I+vs.length) ((l.take N).drop I)).length=l.length:=xa b;have k:=vZ (jQ l (I+vs.length) ((l.take N).drop I)) vs I j (by rw[a];omega);have m:=vZ l ((l.take N).drop I) (I+vs.length) j b;have o:(jQ (jQ l (I+vs.length) ((l.take N).drop I)) I vs)[j]?=if I<=j/\j<I+vs.length then vs[j-I]? else(jQ l (I+vs.length) ((l.take N).drop I))[j]?:=k
 have p:(jQ l (I+vs.length) ((l.take N).drop I))[j]?=if I+vs.length<=j/\j<I+vs.length+((l.take N).drop I).length then((l.take N).drop I)[j-(I+vs.length)]? else l[j]?:=m
 have q:(l.take I).length=I:=by simp;omega
 rw[o,p,qG];by_cases r:j<I
 ·rw[ze (by omega),ze (by omega),qh (by omega),qI,zd r]
 ·rw[zY (by omega),q];by_cases u:j<I+vs.length
  ·rw[zd (by omega),qh (by omega)]
  ·rw[ze (by omega),zd (by omega),zY (by omega)];congr 1;omega
theorem TW{R olds vs cs:List Value}{I:Nat}(b:olds.length=I)(c:∀j,j<I->R[j]?=olds[j]?)(i:I+vs.length+cs.length<=R.length)(j:Nat)(k:j<I+vs.length+cs.length) :
  (jQ (jQ R I vs) (I+vs.length) cs)[j]?=(olds++vs++cs)[j]?:=by
 have a:(jQ R I vs).length=R.length:=xa (by omega);have d:=vZ (jQ R I vs) cs (I+vs.length) j (by rw[a];omega);have e:=vZ R vs I j (by omega);have f:(jQ (jQ R I vs) (I+vs.length) cs)[j]?=if I+vs.length<=j/\j<I+vs.length+cs.length then cs[j-(I+vs.length)]? else(jQ R I vs)[j]?:=d
 have g:(jQ R I vs)[j]?=if I<=j/\j<I+vs.length then vs[j-I]? else R[j]?:=e
 rw[f,g,qG];by_cases h:j<I
 ·rw[ze (by omega),ze (by omega),qh (by omega),c j h]
 ·rw[zY (by omega),b];by_cases l:j<I+vs.length
  ·rw[ze (by omega),zd (by omega),qh (by omega)]
  ·rw[zd (by omega),zY (by omega)];congr 1;omega
theorem TX{e s by_:Nat}{z:zb}(hs:qE P e=some s)(b:kD P e=some by_)(d:y8 P e=some z)(f:z.length=s):∃i v,P.info? e=some i/\i.zero=some v/\i.size=s/\i.bytes=by_/\v.cells.size=s:=by
 obtain⟨i,v,hi,g,h⟩:=QI d;obtain⟨i',a,c⟩:=YP hs;rw[hi]at a;injection a with a;subst a;refine⟨i,v,hi,g,c,?_,?_⟩
 ·unfold kD at b;rw[hi]at b;simpa using b
 ·have:=(jI (w:=default) (S:=fun _=>False) h).1;rw[f]at this;simpa using this.symm
theorem Cg{w:World}(o:Obj):(w.alloc o).heap[w.heap.size]?=some o:=by show(w.heap.push o)[w.heap.size]?=some o;simp
theorem ir{w:World}(o:Obj){k:Nat}(h:k<w.heap.size):(w.alloc o).heap[k]?=w.heap[k]?:=by
 have:¬k=w.heap.size:=by omega
 show(w.heap.push o)[k]?=_;simp[Array.getElem?_push,this]
theorem setRow_size{w:World}{g:Nat}(cs:Array Value):(w.setRow g cs).heap.size=w.heap.size:=by simp[World.setRow]
theorem IK{w:World}(o:Obj):(w.alloc o).heap.size=w.heap.size+1:=by show(w.heap.push o).size=_;simp
end Go.AM
namespace Go.Q
open Go.RowKit Go.Lib Go.AM
attribute [local go_sem] Oper.semAt_some
theorem IL(w:World)(g vb n i cap vc:Nat)(cur vcur:Array Value)(tv:TypeId)(hi:i<n)(hroom:n+1<=cap)(hc63:cap<=9223372036854775807)(hne:g≠vb)(hv1:1<=vc)
  (hg:w.heap[g]?=some (.cells cur 206 (0,0))) (hcs:cur.size=cap*5) (hv:w.heap[vb]?=some (.cells vcur tv (0,0))) (hvs:vcur.size=vc*5)
  (h1c:∀j v,j<n*5->cur[j]?=some v->v.oneCell'=true) (h1v:∀j v,j<5->vcur[j]?=some v->v.oneCell'=true) :
  Calls prog 300 #[.slice (some ⟨g,0,none⟩) n cap,.int .i64 i,.slice (some ⟨vb,0,none⟩) 1 vc] w fun e w'=>
   e=.returned (.slice (some ⟨g,0,none⟩) (n+1) cap)/\w'.heap[g]?=some (.cells (jQ (jQ cur.toList ((i+1)*5) ((cur.toList.take (n*5)).drop (i*5))) (i*5) (vcur.toList.take 5)).toArray 206 (0,0))/\Fr True w (fun b=>b=g) w':=by
 have t3:=underlying3;have a3:=isAgg3;have z3:=sizeOf3;have v3:=zeroValue3;have t4:=underlying4;have a4:=isAgg4;have z4:=sizeOf4;have v4:=zeroValue4;have t24:=underlying238;have a24:=isAgg238;have z24:=sizeOf238;have v24:=zeroValue238;have t9:=underlying206;have a9:=isAgg206;have z9:=sizeOf206;have u3:=zK t3;have u4:=zK t4;have u24:=zK t24;have hz2:¬((i:Int)=(n:Int)):=by omega
 have hov:∀o lb cb,(callFunc 325 #[.slice (some ⟨vb,0,none⟩) 1 vc,.slice (some ⟨g,o,none⟩) lb cb]).run prog w=.ok (.value (.bool false)) w:=fun o lb cb=>by
  rw[run_callFunc_extern func325 (by kernel_rfl) (by kernel_rfl) (by kernel_rfl) (e:=Extern.SlicesOverlaps.overlaps #[238,238] #[4]) (by kernel_rfl),
   Lib.run_overlaps_apart w 238 4 206 t24 5 z9 ⟨vb,0,none⟩ ⟨g,o,none⟩ 1 vc lb cb (fun e=>hne e.symm) _ _ _ _ (uZ hv) (uZ hg) (by rw[hcs];omega) (Fm hv 0) (Fm hv _)]
  rfl
 have mixed:prog.follows .mixedOrders=true:=by kernel_rfl
 have hw1:i6.wrap ((i:Int)+1)=(i:Int)+1:=by rw[CS];omega
 have hw2:i6.wrap ((n:Int)+1)=(n:Int)+1:=by rw[CS];omega
 have hb1:(0:Int)<=(i:Int)+1:=by omega
 have hb5:(0:Int)<=(n:Int)+1:=by omega
 have hin:i<=n:=by omega
 have htn:((i:Int)+1).toNat=i+1:=by omega
 have htn2:((n:Int)+1).toNat=n+1:=by omega
 have hb2:¬(cap=i+1):=by omega
 have hb3:(i:Int)<=(n:Int)+1:=by omega
 have hb4:¬(cap=i):=by omega
 have hb6:¬((cap:Int)<(n:Int)+1):=by omega
 have hs5:qE prog 206=some 5:=dV;obtain⟨cs,hcsd⟩:=wZ ((cur.toList.take (n*5)).drop (i*5));obtain⟨vs,hvsd⟩:=wZ (vcur.toList.take 5);have hcl:cs.length=(n-i)*5:=by rw[<-hcsd];simp;omega
 have hvl:vs.length=1*5:=by rw[<-hvsd];simp;omega
 have hcget:∀j v,cs[j]?=some v->cur[i*5+j]?=some v/\i*5+j<n*5:=fun j v hj=>by
  rw[<-hcsd,q8,qI]at hj;split at hj
  ·exact⟨by simpa using hj,by assumption⟩
  ·cases hj
 have hvget:∀j v,vs[j]?=some v->vcur[j]?=some v/\j<5:=fun j v hj=>by
  rw[<-hvsd,qI]at hj;split at hj
  ·exact⟨by simpa using hj,by assumption⟩
  ·cases hj
 have hc1:∀v∈cs,v.oneCell'=true:=fun v hv=>by obtain⟨j,hj⟩:=zfL.1 hv;obtain⟨a,b⟩:=hcget j v hj;exact h1c _ v b a
 have hv1':∀v∈vs,v.oneCell'=true:=fun v hv=>by obtain⟨j,hj⟩:=zfL.1 hv;obtain⟨a,b⟩:=hvget j v hj;exact h1v _ v b a
 obtain⟨row1,hrow1⟩:=wZ (jQ cur.toList ((i+1)*5) cs);have hr1l:row1.length=cap*5:=by rw[<-hrow1,xa (by rw[hcl,yl,hcs];omega),yl,hcs]
 have hcp1:∀ty dc sc,(Builtin.copy_ #[238,238] ty #[.slice (some ⟨g,(i+1)*5,none⟩) (n-i) dc,.slice (some ⟨g,i*5,none⟩) (n+1-i) sc]).run prog w.drew=.ok (goInt ((n-i:Nat):Int)) (w.drew.setRow g row1.toArray):=fun ty dc sc=>by
  rw[<-hrow1];exact WT w.drew _ _ ty 206 5 (n-i) g ((i+1)*5) (n-i) dc ⟨g,i*5,none⟩ (n+1-i) sc cur 206 cs t24 hs5 hg (by simp only[Nat.min_def];split<;>omega) hcl
   (fun j v hj=>by rw[ko];exact(aw hg _).trans (hcget j v hj).1) (by rw[hcl,hcs];omega) hc1
 have hcp2:∀(W:World),W.heap[g]?=some (.cells row1.toArray 206 (0,0))->W.heap[vb]?=some (.cells vcur tv (0,0))->∀ty dc,(Builtin.copy_ #[238,238] ty #[.slice (some ⟨g,i*5,none⟩) (n+1-i) dc,.slice (some ⟨vb,0,none⟩) 1 vc]).run prog W=.ok (goInt ((1:Nat):Int)) (W.setRow g (jQ row1 (i*5) vs).toArray):=fun W hWg hWv ty dc=>by
  have:=WT W 238 238 ty 206 5 1 g (i*5) (n+1-i) dc ⟨vb,0,none⟩ 1 vc row1.toArray 206 vs t24 hs5 hWg (by simp only[Nat.min_def];split<;>omega) hvl
   (fun j v hj=>by rw[ko,wg];exact(aw hWv _).trans (hvget j v hj).1) (by rw[hvl,j9,hr1l];omega) hv1'
  exact this
 have hWg:(w.drew.setRow g row1.toArray).heap[g]?=some (.cells row1.toArray 206 (0,0)):=setRow_heap _ _ _ _ _ _ hg;have hWv:(w.drew.setRow g row1.toArray).heap[vb]?=some (.cells vcur tv (0,0)):=(JB _ (fun e=>hne e.symm)).trans hv;have hfin:∀W,W=(w.drew.setRow g row1.toArray).setRow g (jQ row1 (i*5) vs).toArray->W.heap[g]?=some (.cells (jQ row1 (i*5) vs).toArray 206 (0,0))/\Fr True w (fun b=>b=g) W:=fun W e=>by subst e;refine⟨setRow_heap _ _ _ _ _ _ hWg,?_⟩;exact((Fr.drew w (fun b=>b=g)).trans (u5 w.drew g _) fun _ _ h=>h).trans (u5 _ g _) fun _ _ h=>h
 rw[hcsd,hvsd,hrow1];clear hcsd hvsd hcl hvl hcget hvget hc1 hv1' hrow1 hr1l
 go_enter func300,Tryz.ntmps300
 go_wp2_with (simp only[hov])
 go_region_law_o (refine step_copy_runI rfl _ _ 238 238 rfl _ _ (by simp[Act.eval,Act.put]) (by simp[Act.eval,Act.put]) (hcp1 _ _ _) ?_)
 go_wp2_with (at_builtin;refine wpList_copy_runI _ rfl _ _ 238 238 rfl _ _ rfl rfl (hcp2 _ hWg hWv _ _) ?_)
 go_ret
 exact⟨rfl,hfin _ rfl⟩
theorem OA(w:World)(g vb n i cap vc:Nat)(cur vcur:Array Value)(tv:TypeId)(hi:i<n)(hnc:n<=cap)(hroom:cap<n+1)(hbig:(n+1)*56<=140737488355328)(hv1:1<=vc)
  (hg:w.heap[g]?=some (.cells cur 206 (0,0))) (hcs:cur.size=cap*5) (hv:w.heap[vb]?=some (.cells vcur tv (0,0))) (hvs:vcur.size=vc*5)
  (h1c:∀j v,j<n*5->cur[j]?=some v->v.oneCell'=true) (h1v:∀j v,j<5->vcur[j]?=some v->v.oneCell'=true) :
  Calls prog 300 #[.slice (some ⟨g,0,none⟩) n cap,.int .i64 i,.slice (some ⟨vb,0,none⟩) 1 vc] w fun e w'=>
   ∃(G:Nat) (R:List Value),n+1<=G/\G<=maxLen/\R.length=G*5/\(∀j,j<i*5->R[j]?=(cur.toList.take (i*5))[j]?)/\e=.returned (.slice (some ⟨w.heap.size,0,none⟩) (n+1) G) /\
    w'.heap[w.heap.size]?=some (.cells (jQ (jQ R (i*5) (vcur.toList.take 5)) ((i+1)*5) ((cur.toList.take (n*5)).drop (i*5))).toArray 206 (0,0))/\Fr True w (fun b=>b=w.heap.size) w':=by
 have t3:=underlying3;have a3:=isAgg3;have z3:=sizeOf3;have v3:=zeroValue3;have t4:=underlying4;have a4:=isAgg4;have z4:=sizeOf4;have v4:=zeroValue4;have t24:=underlying238;have a24:=isAgg238;have z24:=sizeOf238;have v24:=zeroValue238;have t9:=underlying206;have a9:=isAgg206;have z9:=sizeOf206;have u3:=zK t3;have u4:=zK t4;have u24:=zK t24;obtain⟨i0,z0,hi0,hz0,his,hib,hzc⟩:=TX (P:=prog) dV tS tT rfl;have hz2:¬((i:Int)=(n:Int)):=by omega
 have hz3:(cap:Int)<(n:Int)+1:=by omega
 have mixed:prog.follows .mixedOrders=true:=by kernel_rfl
 have hw1:i6.wrap ((i:Int)+1)=(i:Int)+1:=by rw[CS];omega
 have hw2:i6.wrap ((n:Int)+1)=(n:Int)+1:=by rw[CS];omega
 have hw3:i6.wrap ((n:Int)+1-i)=(n:Int)+1-i:=by rw[CS];omega
 have hb1:(0:Int)<=(i:Int)+1:=by omega
 have hin:i<=n:=by omega
 have htn:((i:Int)+1).toNat=i+1:=by omega
 have hkk:(n:Int)+1-(i:Int)=((n+1-i:Nat):Int):=by omega
 have hik:i+(n+1-i)=n+1:=by omega
 have hb3:(i:Int)<=(n:Int):=by omega
 have hbw:g<w.heap.size:=(zM.1 hg).1;have hvw:vb<w.heap.size:=(zM.1 hv).1;have hs5:qE prog 206=some 5:=dV;obtain⟨olds,hod⟩:=wZ (cur.toList.take (i*5));obtain⟨cs,hcsd⟩:=wZ ((cur.toList.take (n*5)).drop (i*5));obtain⟨vs,hvsd⟩:=wZ (vcur.toList.take 5);have hol:olds.length=i*5:=by rw[<-hod];simp;omega
 have hcl:cs.length=(n-i)*5:=by rw[<-hcsd];simp;omega
 have hvl:vs.length=1*5:=by rw[<-hvsd];simp;omega
 have hoget:∀j v,olds[j]?=some v->cur[j]?=some v:=fun j v hj=>by
  rw[<-hod,qI]at hj;split at hj
  ·simpa using hj
  ·cases hj
 have hcget:∀j v,cs[j]?=some v->cur[i*5+j]?=some v/\i*5+j<n*5:=fun j v hj=>by
  rw[<-hcsd,q8,qI]at hj;split at hj
  ·exact⟨by simpa using hj,by assumption⟩
  ·cases hj
 have hvget:∀j v,vs[j]?=some v->vcur[j]?=some v/\j<5:=fun j v hj=>by
  rw[<-hvsd,qI]at hj;split at hj
  ·exact⟨by simpa using hj,by assumption⟩
  ·cases hj
 have hc1:∀v∈cs,v.oneCell'=true:=fun v hv=>by obtain⟨j,hj⟩:=zfL.1 hv;obtain⟨a,b⟩:=hcget j v hj;exact h1c _ v b a
 have hv1':∀v∈vs,v.oneCell'=true:=fun v hv=>by obtain⟨j,hj⟩:=zfL.1 hv;obtain⟨a,b⟩:=hvget j v hj;exact h1v _ v b a
 have hold:(Builtin.firstCells i0.size i (.slice (some ⟨g,0,none⟩) i cap)).run prog w.drew=.ok olds.toArray w.drew:=by
  rw[his];exact run_firstCells_some w.drew 5 i ⟨g,0,none⟩ i cap olds hol (fun j v hj=>by rw[ko,wg];exact(aw hg j).trans (hoget j v hj))
 obtain⟨G,hG⟩:=wZ (grownCap w (n+1) cap 206);obtain⟨ROW,hROW⟩:=wZ (olds.toArray++Builtin.zeroCells z0.cells (n+1-i)++Builtin.zeroCells z0.cells (G-(n+1)));have hGn:n+1<=G:=by rw[<-hG];exact grownCap_ge w _ _ _
 have hGm:G<=maxLen:=by rw[<-hG];exact grownCap_le_maxLen w (n+1) cap 206 (by unfold maxLen;omega)
 have hrz:∀ty,(Builtin.append_ #[238,3] ty #[.slice (some ⟨g,0,none⟩) i cap,.int .i64 ((n:Int)+1-(i:Int))]).run prog w =
   .ok (.slice (some ⟨w.heap.size,0,none⟩) (n+1) G) (w.drew.alloc (.cells ROW 206)):=fun ty=>by
  have h:=Lib.run_append_grow_zeros w 238 3 ty 206 i0 z0 .i64 .i64 t24 t3 hi0 hz0 (some ⟨g,0,none⟩) i cap olds hold (n+1-i) (by omega) (by omega) (by omega) (by omega) (by rw[hib];omega) (by rw[hib,hik];exact growslice_fits hroom hbig);rw[hik,hG,hROW]at h;rw[hkk];exact h
 have hRl:ROW.size=G*5:=by rw[<-hROW,Q7,Q7,U4,U4,hzc,j9,hol];omega
 have hRo:∀j,j<i*5->ROW.toList[j]?=olds[j]?:=fun j hj=>by rw[<-hROW,Array.toList_append,Array.toList_append,qG];exact qh (show j<olds.length by omega)
 obtain⟨N,hN⟩:=wZ w.heap.size;obtain⟨W1,hW1⟩:=wZ (w.drew.alloc (.cells ROW 206));have hW1N:W1.heap[N]?=some (.cells ROW 206 (0,0)):=by rw[<-hW1,<-hN];exact Cg (w:=w.drew) _
 have hW1g:W1.heap[g]?=some (.cells cur 206 (0,0)):=by rw[<-hW1];exact(ir (w:=w.drew) _ hbw).trans hg
 have hW1v:W1.heap[vb]?=some (.cells vcur tv (0,0)):=by rw[<-hW1];exact(ir (w:=w.drew) _ hvw).trans hv
 obtain⟨row1,hrow1⟩:=wZ (jQ ROW.toList (i*5) vs);have hr1l:row1.length=G*5:=by rw[<-hrow1,xa (by rw[hvl,yl,hRl];omega),yl,hRl]
 have hcpA:∀(W:World),W.heap[N]?=some (.cells ROW 206 (0,0))->W.heap[vb]?=some (.cells vcur tv (0,0))->∀ty dc,(Builtin.copy_ #[238,238] ty #[.slice (some ⟨N,i*5,none⟩) (n+1-i) dc,.slice (some ⟨vb,0,none⟩) 1 vc]).run prog W=.ok (goInt ((1:Nat):Int)) (W.setRow N row1.toArray):=fun W hWg hWv ty dc=>by
  rw[<-hrow1];have:=WT W 238 238 ty 206 5 1 N (i*5) (n+1-i) dc ⟨vb,0,none⟩ 1 vc ROW 206 vs t24 hs5 hWg (by simp only[Nat.min_def];split<;>omega) hvl
   (fun j v hj=>by rw[ko,wg];exact(aw hWv _).trans (hvget j v hj).1) (by rw[hvl,hRl];omega) hv1'
  exact this
 have hcpB:∀(W:World),W.heap[N]?=some (.cells row1.toArray 206 (0,0))->W.heap[g]?=some (.cells cur 206 (0,0))->∀ty dc sc,(Builtin.copy_ #[238,238] ty #[.slice (some ⟨N,(i+1)*5,none⟩) (n-i) dc,.slice (some ⟨g,i*5,none⟩) (n-i) sc]).run prog W=.ok (goInt ((n-i:Nat):Int)) (W.setRow N (jQ row1 ((i+1)*5) cs).toArray):=fun W hWg hWv ty dc sc=>by
  have:=WT W 238 238 ty 206 5 (n-i) N ((i+1)*5) (n-i) dc ⟨g,i*5,none⟩ (n-i) sc row1.toArray 206 cs t24 hs5 hWg (by simp only[Nat.min_def];split<;>omega) hcl
   (fun j v hj=>by rw[ko];exact(aw hWv _).trans (hcget j v hj).1) (by rw[hcl,j9,hr1l];omega) hc1
  exact this
 have hgN:g≠N:=by omega
 have hvN:vb≠N:=by omega
 have hW2N:(W1.setRow N row1.toArray).heap[N]?=some (.cells row1.toArray 206 (0,0)):=setRow_heap _ _ _ _ _ _ hW1N;have hW2g:(W1.setRow N row1.toArray).heap[g]?=some (.cells cur 206 (0,0)):=(JB _ hgN).trans hW1g;have hfin:∀W:World,W.heap=((W1.setRow N row1.toArray).setRow N (jQ row1 ((i+1)*5) cs).toArray).heap->W.os=w.os->W.tape=w.tape->W.output=w.output->w.drawn<=W.drawn->W.heap[N]?=some (.cells (jQ row1 ((i+1)*5) cs).toArray 206 (0,0))/\Fr True w (fun b=>b=N) W:=fun W e1 e2 e3 e4 e5=>by
  refine⟨by rw[e1];exact setRow_heap _ _ _ _ _ _ hW2N,e2,e3,e4,?_,fun _=>e5,fun k hk hn=>?_⟩
  ·rw[e1,<-hW1,setRow_size,setRow_size,IK];exact yd _
  ·rw[e1,JB _ hn,JB _ hn,<-hW1];exact ir (w:=w.drew) _ hk
 have hm1:G<=9223372036854775807:=by unfold maxLen at hGm;omega
 have hGi:¬(G=i):=by omega
 have hGim:¬(G=i+1):=by omega
 have hci:¬(cap=i):=by omega
 rw[hN,hcsd,hvsd,hod];rw[hN,hW1]at hrz;clear hcsd hvsd hod hcl hvl hol hcget hvget hoget hc1 hv1' hold hG hROW hkk hik hi0 hz0 his hib hzc hr1l
 go_enter func300,Tryz.ntmps300
 go_wp2_with (first
  |(at_builtin;refine Lib.wpList_append_run _ rfl _ _ _ _ rfl _ _ rfl rfl _ _ (hrz _) ?_)
  |(at_builtin;refine wpList_copy_runI _ rfl _ _ 238 238 rfl _ _ rfl rfl (hcpA _ hW1N hW1v _ _) ?_)
  |(at_builtin;refine wpList_copy_runI _ rfl _ _ 238 238 rfl _ _ rfl rfl (hcpB _ hW2N hW2g _ _ _) ?_))
 go_region_law_o (refine step_copy_runI rfl _ _ 238 238 rfl (.slice (some ⟨N,(i+1)*5,none⟩) (n-i) (G-(i+1))) (.slice (some ⟨g,i*5,none⟩) (n-i) (cap-i)) (by simp[Act.eval,Act.put]) (by simp[Act.eval,Act.put]) (hcpB (W1.setRow N row1.toArray).drew hW2N hW2g 3 (G-(i+1)) (cap-i)) ?_)
 go_wp2
 go_ret
 subst hW1;subst hrow1;refine⟨G,ROW.toList,hGn,hGm,by simpa using hRl,hRo,rfl,?_⟩;refine hfin _ ?_ ?_ ?_ ?_ ?_
 ·rfl
 ·rfl
 ·rfl
 ·rfl
 ·first|exact yd _|exact zI (yd _) (yd _)
theorem zb8:zdz prog 300 206 5 56:=by
 intro w g z n i cap A cur a B hi t h H k u m J C c D o p q;have b:(a.toList.take 5).length=5:=by simp;omega
 have d:((cur.toList.take (n*5)).drop (i*5)).length=(n-i)*5:=by simp;omega
 unfold maxLen at h;by_cases f:n+1<=cap
 ·refine(IL w g z n i cap A cur a B hi f h u m C c D o p q).mono fun e w' v=>?_
  obtain⟨rfl,r,x⟩:=v;refine⟨g,cap,_,f,by unfold maxLen;exact h,rfl,.inl rfl,r,?_,x,fun j E=>?_⟩
  ·rw[j9,xa (by rw[xa (by rw[d,yl,c];omega),b,yl,c];omega),xa (by rw[d,yl,c];omega),yl,c]
  ·have:=Oz (l:=cur.toList) (vs:=a.toList.take 5) (n:=n) (i:=i) (s:=5) (by omega) (by rw[yl,c];omega) b j E;simpa using this
 ·refine(OA w g z n i cap A cur a B hi t (by omega) k m C c D o p q).mono fun e w' v=>?_
  obtain⟨G,R,K,L,F,M,rfl,r,x⟩:=v;have y:(cur.toList.take (i*5)).length=i*5:=by simp;omega
  have N:(i+1)*5=i*5+(a.toList.take 5).length:=by rw[b];omega
  rw[N]at r;refine⟨w.heap.size,G,_,K,L,rfl,.inr (zl _),r,?_,x,fun j E=>?_⟩
  ·rw[j9,xa (by rw[xa (by rw[b];omega),d,b];omega),xa (by rw[b];omega),F]
  ·have:=TW (R:=R) (olds:=cur.toList.take (i*5)) (vs:=a.toList.take 5) (cs:=(cur.toList.take (n*5)).drop (i*5)) (I:=i*5) y M (by rw[b,d,F];omega) j (by rw[b,d];omega);simpa using this
end Go.Q
namespace Go.Q
noncomputable def Qu (c:Cut):List Cut->List Cut
 |[]=>[c]
 |a::l=>if wV a c<0 then a::Qu c l else if wV a c=0 then a::l else c::a::l
theorem Ch(c:Cut):∀(l:List Cut) (i:Nat),i<=l.length->(∀j (h:j<l.length),j<i->wV l[j] c<0)->(∀h:i<l.length,¬wV l[i] c<0)->((∃h:i<l.length,wV l[i] c=0)->Qu c l=l)/\((∀h:i<l.length,wV l[i] c≠0)->Qu c l=l.take i++c::l.drop i)
 |[],i,hi,_,_=>by
  obtain rfl:i=0:=by simpa using hi
  exact⟨fun⟨h,_⟩=>absurd h (by simp),fun _=>rfl⟩
 |a::l,0,_,_,b=>by
  have h:=b (by simp);simp only[fJ]at h;refine⟨fun⟨_,e⟩=>?_,fun d=>?_⟩
  ·simp only[fJ]at e;simp only[Qu];rw[ze h,zd e]
  ·have:=d (by simp);simp only[fJ]at this;simp only[Qu];rw[ze h,ze this];rfl
 |a::l,i+1,hi,f,b=>by
  have g:=f 0 (by simp) (by omega);simp only[fJ]at g;obtain⟨k,m⟩:=Ch c l i (by simpa using hi) (fun j n o=>f (j+1) (by simpa using n) (by omega)) (fun h=>b (by simpa using h));simp only[Qu];rw[zd g];refine⟨fun⟨h,e⟩=>?_,fun d=>?_⟩
  ·rw[k ⟨by simpa using h,e⟩]
  ·rw[m fun h=>d (by simpa using h)];rfl
theorem re{c:Cut}:∀{l:List Cut},(∀a∈l,wV a c=0->a=c)->∀x,x∈Qu c l↔x=c\/x∈l
 |[],_,x=>by simp[Qu]
 |a::l,h,x=>by
  simp only[Qu];split
  ·rw[zw,re (fun b d=>h b (by simp[d])) x,zw];constructor
   ·rintro (h|h|h)
    ·exact .inr (.inl h)
    ·exact .inl h
    ·exact .inr (.inr h)
   ·rintro (h|h|h)
    ·exact .inr (.inl h)
    ·exact .inl h
    ·exact .inr (.inr h)
  ·split
   ·rename_i e;have:=h a (by simp) e;subst this;simp
   ·simp
theorem lE{c:Cut}:∀{l:List Cut},(l.Pairwise fun a b=>wV a b<0)->(∀a∈l,wV a c=0->a=c)->(Qu c l).Pairwise fun a b=>wV a b<0
 |[],_,_=>by simp[Qu]
 |a::l,h,j=>by
  obtain⟨k,m⟩:=yj.1 h;simp only[Qu];split
  ·rename_i d;refine yj.2 ⟨fun x e=>?_,lE m fun b g=>j b (by simp[g])⟩;rcases(re (fun b g=>j b (by simp[g])) x).1 e with rfl|e
   ·exact d
   ·exact k x e
  ·rename_i d;split
   ·exact h
   ·rename_i i;have f:wV c a<0:=by
     have:=wN.zd2 d;rcases bN this with h|h
     ·exact h
     ·exact absurd ((wN.eq a c).2 h) i
    refine yj.2 ⟨fun x e=>?_,h⟩;rcases zw.1 e with rfl|e
    ·exact f
    ·exact wN.trans f (k x e)
noncomputable def vF (l:List Cut):List Cut:=l.foldl (fun o c=>Qu c o) []
theorem lF:∀(l o:List Cut),(∀a∈l,a.xR)->(∀a∈o,a.xR)->(o.Pairwise fun a b=>wV a b<0)->((l.foldl (fun o c=>Qu c o) o).Pairwise fun a b=>wV a b<0)/\∀x,x∈l.foldl (fun o c=>Qu c o) o↔x∈l\/x∈o
 |[],o,_,_,e=>⟨e,fun x=>by simp⟩
 |c::l,o,f,g,e=>by
  have i:=f c (by simp);have j:∀a∈o,wV a c=0->a=c:=fun a d h=>mV (g a d) i h
  have k:=re (l:=o) j;obtain⟨m,n⟩:=lF l (Qu c o) (fun a d=>f a (by simp[d])) (fun a d=>by
   rcases(k a).1 d with rfl|h
   ·exact i
   ·exact g a h) (lE e j)
  simp only[QF];refine⟨m,fun x=>?_⟩;rw[n x,k x,zw];constructor
  ·rintro (h|h|h)
   ·exact .inl (.inr h)
   ·exact .inl (.inl h)
   ·exact .inr h
  ·rintro ((h|h)|h)
   ·exact .inr (.inl h)
   ·exact .inl h
   ·exact .inr (.inr h)
theorem di:∀(l o:List Cut),(l.foldl (fun o c=>Qu c o) o).length<=o.length+l.length
 |[],o=>by simp
 |c::l,o=>by
  have b:∀o:List Cut,(Qu c o).length<=o.length+1:=by
   intro o
   induction o with
   |nil=>simp[Qu]
   |cons a o d=>
    simp only[Qu];split
    ·simp only[zx];omega
    ·split<;>simp
  have:=di l (Qu c o);have:=b o;simp only[QF,zx];omega
theorem OB{a b:List wQ}(d:kb a)(e:kb b):vF (wu (a++b))=pM a b:=by
 rw[WR];have f:∀c∈wu a++wu b,c.xR:=fun c g=>by
  rcases qi.1 g with h|h
  ·exact bh d c h
  ·exact bh e c h
 obtain⟨i,j⟩:=lF (wu a++wu b) [] f (fun a d=>by cases d) .nil;refine uu _ _ i (VT d e) fun c=>?_
 unfold vF;rw[j c,K3,qi];simp
theorem TY(f:Bool->Bool->Bool){a b:List wQ}(d:kb a)(e:kb b):vr f a b=(Xi (fun c=>f (yP a c) (yP b c)) (vF (wu (a++b))) (false,[])).2:=by rw[OB d e];unfold vr pM;rw[o9]
theorem OC{Y:Hp}{Z e s by_ i:Nat}{v:O}{xs:List zb}{c:zb}(h:qN Y Z e s v xs)(hi:i<xs.length)(d:(xs.length+1)*by_<=140737488355328)(f:xs.length+1<=maxLen) :
  lD e s by_ [v,int i,.own Z 0 1] (qq Y Z (some ⟨e,s,true,[c]⟩)) (Z+1)=some (.own (Z+1) 0 (xs.length+1),qq (Qx v (qq Y Z (some ⟨e,s,true,[c]⟩))) (Z+1) (some ⟨e,s,true,xs.take i++c::xs.drop i⟩),Z+2):=by
 obtain⟨id,hid,rfl,g⟩:=h.at_ (by omega);have n1:id≠Z:=by omega
 have a:qq Y Z (some ⟨e,s,true,[c]⟩) id=some ⟨e,s,true,xs⟩:=by rw[zz _ _ _ _ n1];exact g
 have b:(i:Int)<xs.length:=by omega
 unfold lD;simp only[a,wU];rw[zd (by refine⟨n1,?_,?_,?_,?_,?_,?_,?_,b,d,f⟩<;>first|trivial|rfl|omega)];simp[Qx]
theorem TZ{Y:Hp}{Z e s by_:Nat}{v:O}{xs:List zb}{b:Option Blk}(h:qN Y Z e s v xs):lD e s by_ [v,int (xs.length:Nat),.own Z 0 1] (qq Y Z b) (Z+1)=none:=by
 rcases h with⟨rfl,rfl⟩|⟨id,hid,rfl,c⟩
 ·rfl
 ·unfold lD;simp only;split
  ·split
   ·rw[ze (fun a=>by have:=a.2.2.2.2.2.2.2.2.1;omega)]
   ·rfl
  ·rfl
theorem T0{Y:Hp}{Z:Nat}{v:O}{xs:List zb}{c:zb}(h:qN Y Z 206 5 v xs)(d:xs.length<=1073741824) :
  wD C0 f300 [v,int (xs.length:Nat),.own Z 0 1] (qq Y Z (some ⟨206,5,true,[c]⟩)) (Z+1)=some (.own (Z+1) 0 (xs.length+1),qq (Qx v (qq Y Z (some ⟨206,5,true,[c]⟩))) (Z+1) (some ⟨206,5,true,xs++[c]⟩),Z+2):=by
 unfold wD;rw[zd (by simp[f300])];refine jf rfl ?_;have a:=qN.yx (P:=prog) (t:=238) (c:=c) h iU dV tS tT rfl (by omega) (by unfold maxLen;omega) (by omega);rcases h with⟨rfl,rfl⟩|⟨id,hid,rfl,b⟩
 ·simp at a;simp[jO,a,f300]
 ·have n1:¬id=Z:=by omega
  simp[jO,a,b,n1,f300]
noncomputable abbrev Mk:AM.Spec:=hIns C0 f300 206 5 56
theorem Fo:zg prog 300 Mk:=
 IJ (Fl ⟨_,func300,by decide,by kernel_rfl⟩ dV (by decide) zb8) (kL je func300)
theorem IM{Y:Hp}{Z i:Nat}{v:O}{xs:List zb}{c:zb}(h:qN Y Z 206 5 v xs)(hi:i<=xs.length)(b:xs.length<=1073741824) :
  Mk [v,int i,.own Z 0 1] (qq Y Z (some ⟨206,5,true,[c]⟩)) (Z+1)=some (.own (Z+1) 0 (xs.length+1),qq (Qx v (qq Y Z (some ⟨206,5,true,[c]⟩))) (Z+1) (some ⟨206,5,true,xs.take i++c::xs.drop i⟩),Z+2):=by
 unfold Mk hIns;by_cases a:i<xs.length
 ·rw[OC h a (by omega) (by unfold maxLen;omega)]
 ·obtain rfl:i=xs.length:=by omega
  rw[TZ h];simp only;rw[T0 h b,qf,zp]
noncomputable def T1 (l:List Cut):Option Blk:=if vF l=[]then none else some ⟨206,5,true,wE (vF l)⟩
noncomputable abbrev Crsc:Ctx:=zV prog [(299,qP [.g kn,.g kn] (Ee fun v w=>int (wV v w))),(300,Mk)]
theorem zb9:AM.Good Crsc (fun g=>[299].contains g):=qC mixed ⟨Qt,fun _=>jD _ _,Fo,by simp,trivial⟩
theorem lG{l:List Cut}{k:Nat}(h:k<l.length):vF (l.take (k+1))=Qu l[k] (vF (l.take k)):=by unfold vF;rw[zQ h,List.foldl_append];rfl
theorem Fp{c:Cut}:∀{l:List Cut} {x:Cut},x∈Qu c l->x=c\/x∈l
 |[],x,h=>by simp only[Qu,wG]at h;exact .inl h
 |a::l,x,h=>by
  simp only[Qu]at h;split at h
  ·rcases zw.1 h with rfl|h
   ·exact .inr (by simp)
   ·exact(Fp h).imp id fun h=>by simp[h]
  ·split at h
   ·exact .inr h
   ·rcases zw.1 h with rfl|h
    ·exact .inl rfl
    ·exact .inr h
theorem dj:∀{l o:List Cut} {x:Cut},x∈l.foldl (fun o c=>Qu c o) o->x∈l\/x∈o
 |[],o,x,h=>.inr h
 |c::l,o,x,h=>by
  rw[QF]at h;rcases dj h with h|h
  ·exact .inl (by simp[h])
  ·rcases Fp h with rfl|h
   ·exact .inl (by simp)
   ·exact .inr h
theorem zca(c:Cut)(l:List Cut):Qu c l≠[]:=by
 cases l with
 |nil=>simp[Qu]
 |cons a l=>simp only[Qu];split<;>(try split)<;>simp
theorem OD{l:List Cut}(h:vF l=[]):l.length=0:=by
 cases b:l.length with
 |zero=>rfl
 |succ k=>
  have a:k<l.length:=by omega
  have:=lG a;rw[zZ (by omega),h]at this;exact absurd this.symm (zca _ _)
theorem bm(l:List Cut):(wE l).length=l.length:=by simp[wE]
theorem OE(o:List Cut)(i:Nat)(c:Cut):(wE o).take i++c.V::(wE o).drop i=wE (o.take i++c::o.drop i):=by simp[wE]
theorem Cj(l:List Cut)(hs:∀c∈l,c.v.small)(hl:l.length<=1073741824):∃x Y Z,yR Crsc f257 [.sl 5 (wE l)] (fun _=>none) 0=some (x,Y,Z)/\Er kn (T1 l) x Y Z:=by
 refine qF rfl ?_;have N:=bm l;simp[N];refine zL (fun k σ Y Z=>σ 7=.sl 5 (wE l)/\σ 8=int l.length/\σ 9=int k/\qN Y Z 206 5 (σ 3) (wE (vF (l.take k)))/\(k=0->σ 3=.nil)) l.length
  ⟨by simp,by simp,by simp,.inl ⟨by simp,by simp[vF,wE]⟩,by simp⟩ ?_
 rintro k σ Y Z hk ⟨u,w,y,n,h0⟩;have Q:=di (l.take k) [];have C:vF (l.take k)=(l.take k).foldl (fun o c=>Qu c o) []:=rfl;rw[<-C,qj,ju]at Q;have D:∀x∈vF (l.take k),x.v.small:=fun x hx=>by
  rw[C]at hx;rcases dj hx with h|h
  ·exact hs x (vu h)
  ·cases h
 by_cases r:k<l.length
 ·obtain⟨c,X⟩:=wZ (l[k]);have hcs:c.v.small:=hs c (by rw[<-X];exact zi r);have R:∀h:k<(wE l).length,(wE l)[k]=c.V:=fun h=>by simp[wE,X]
  have G:=qe k;have H:=lG r;rw[X]at H;obtain⟨o,ho⟩:=wZ (vF (l.take k));rw[ho]at n Q D H;have d:=bm o;obtain⟨P,hP⟩:=wZ Z;obtain⟨v,hv⟩:=wZ (σ 3);rw[hv]at n;simp only[Cut.V]at R;simp[u,w,y,r,N,R];rw[hP]at n⊢;refine zL (fun i σ Y Z=>σ 7=.sl 5 (wE l)/\σ 8=int l.length/\σ 9=int k/\σ 3=v/\σ 5=.ref P 0 0/\σ 6=int i/\P<Z/\Y P=some ⟨206,5,false,[c.V]⟩/\qN Y Z 206 5 v (wE o)/\∀j (h:j<o.length),j<i->wV o[j] c<0) o.length
   ⟨by simp[u],by simp[w],by simp[y],by simp[hv],by simp,by simp,(by show P<P+1;omega),by simp[Cut.V],n.more _,fun j _ h=>absurd h (by omega)⟩ ?_
  clear u w y h0 hv n σ Y hP Z;rintro i σ Y Z hi ⟨u,w,y,T,U,W,cB,S,n,s⟩;have hwi:=qe i;have g:=n.len iU;rw[d]at g;simp only[Cut.V]at S;have nP:¬P=Z:=by omega
  have p:=fun(hi:i<=o.length)=>IM (i:=i) (c:=[int c.v.a,int c.v.b,int c.v.c,.sl 1 (zy c.v.pre),wb c.after]) n (by rw[d];exact hi) (by rw[d];omega)
  rw[d]at p;have E:=OE o i c;simp only[Cut.V]at E;rw[E]at p;have t:∀o',Qu c o=o'->vF (l.take (k+1))=o':=fun o' e=>by rw[H,e]
  by_cases hit:i<o.length
  ·obtain⟨id,hid,I,hb⟩:=n.at_ (by rw[d];omega);obtain⟨q,M⟩:=wZ (o[i]);have hqs:q.v.small:=D q (by rw[<-M];exact zi hit);have z:∀h:i<(wE o).length,(wE o)[i]=q.V:=fun h=>by simp[wE,M]
   have A:=fun Y Z=>KT q c Y Z hqs hcs
   simp only[Cut.V]at z A;have hat:=Ch c o i (by omega) s;by_cases m:wV q c<0
   ·subst I;simp[u,w,y,T,U,W,g,d,hit,hb,z,S,A,m,hwi];have J:∀j (h:j<o.length),j<i+1->wV o[j] c<0:=fun j h hj=>by
     rcases Nat.lt_or_ge j i with h1|h1
     ·exact s j h h1
     ·obtain rfl:j=i:=by omega
      rw[M];exact m
    exact⟨by omega,cB,rfl,(by rw[d]at n;exact n),J⟩
   ·have F:=hat fun _=>by rw[M];exact m
    by_cases B:wV q c=0
    ·have h1:=F.1 ⟨hit,by rw[M];exact B⟩;have K:((i:Int)==o.length)=false:=by rw[qQ];omega
     subst I;simp[u,w,y,T,U,W,g,d,hit,hb,z,S,A,m,B,K,G];exact⟨r,by rw[t _ h1];rw[d]at n;exact n⟩
    ·have h1:=F.2 fun _=>by rw[M];exact B
     have hz':=vX B;have K:((i:Int)==o.length)=false:=by rw[qQ];omega
     have f:=p (by omega);subst I;rw[d]at f;have L:(wE (o.take i++c::o.drop i)).length=o.length+1:=by rw[bm];simp;omega
     simp[u,w,y,T,U,W,g,d,hit,hb,z,S,A,m,B,hz',K,f,nP,G,zt,zJ,zr];exact⟨r,by rw[t _ h1];exact .inr ⟨Z+1,by omega,by rw[L],by simp⟩⟩
  ·obtain rfl:i=o.length:=by omega
   have h1:=(Ch c o o.length (zl _) s (fun h=>absurd h (by omega))).2 (fun h=>absurd h (by omega));have f:=p (zl _);simp[u,w,y,T,U,W,g,d,S,f,nP,G,zt,zJ,zr];rw[qf,zp]at h1;have L:(wE (o++[c])).length=o.length+1:=by rw[bm];simp
   exact⟨r,by rw[t _ h1];exact .inr ⟨Z+1,by omega,by rw[L],by simp⟩⟩
 ·obtain rfl:k=l.length:=by omega
  rw[qf]at n;simp[u,w,y,f257];unfold T1;rcases n with⟨e1,e2⟩|⟨id,hid,e1,e2⟩
  ·have:vF l=[]:=by simpa[wE]using e2
   rw[zd this];exact e1
  ·by_cases B:vF l=[]
   ·rw[zd B];exact h0 (OD B)
   ·rw[ze B];exact⟨id,_,e1,e2,rfl,by simp[gN,wE,Cut.V]⟩
noncomputable def FSc:zb->Option (Option Blk):=qd (α:=List Cut) (fun l=>[.sl 5 (wE l)]) (fun l=>(∀c∈l,c.v.small)/\l.length<=1073741824) T1
theorem OG{a b:List Cut}(h:wE a=wE b):a=b:=jZ (fun _ _ e=>Wx e) h
theorem zfu:∀a b:List Cut,[O.sl 5 (wE a)]=[O.sl 5 (wE b)]->a=b:=fun a b e=>by
 simp only[zj,zG]at e;injection e with _ e
 exact OG e
theorem sV:zg prog 257 (xo [.s 5 kn] FSc):=
 Ko (fn:=f257) zb9 (qX func257) _ kn _ fun args r h=>by obtain⟨l,rfl,⟨a,b⟩,rfl⟩:=zO h;exact⟨by simp[f257],Cj l a b⟩
theorem T2(l:List Cut):(wE l).map (QN kn)=wE l:=by simp[wE,Cut.V]
theorem Cl{Y:Hp}{Z:Nat}{v:O}{l:List Cut}(h:qN Y Z 206 5 v (wE l))(hs:∀c∈l,c.v.small)(f:l.length<=1073741824) :
  ∃x Y' Z',xo [.s 5 kn] FSc [v] Y Z=some (x,Y',Z')/\qN Y' Z' 206 5 x (wE (vF l))/\Z<=Z':=by
 have e:∀y Y1,qt Y v=some (y,Y1)->(Sh.s 5 kn).fix y=.sl 5 (wE l)->∃x Y' Z',xo [.s 5 kn] FSc [v] Y Z=some (x,Y',Z')/\qN Y' Z' 206 5 x (wE (vF l))/\Z<=Z':=by
  intro y Y1 g i;have b:zC Y [v]=some ([y],Y1):=by simp only[zC,g]
  have j:FSc (dU [.s 5 kn] (yS [] [y]))=some (T1 l):=by show FSc [(Sh.s 5 kn).fix y]=_;rw[i];exact qD (V:=fun l:List Cut=>[O.sl 5 (wE l)]) (a:=l) zfu ⟨hs,f⟩
  unfold xo jm;simp only[b,j];unfold T1;by_cases d:vF l=[]
  ·rw[zd d];exact⟨.nil,Y1,Z,rfl,.inl ⟨rfl,by rw[d];rfl⟩,zl _⟩
  ·rw[ze d];exact⟨_,_,_,rfl,.inr ⟨Z,by omega,rfl,by simp⟩,by omega⟩
 rcases h with⟨rfl,k⟩|⟨id,n,rfl,m⟩
 ·exact e .nil Y rfl (by rw[k];rfl)
 ·exact e (.sl 5 (wE l)) (qq Y id none) (by simp[m]) (by rw[Sh.rY,T2])
theorem OH{a b:List wQ}(f:a.length<=zA)(g:b.length<=zA){Y:Hp}{Z id e:Nat}(h:Y id=some ⟨e,1,true,[[.sl 11 (qn a)],[.sl 11 (qn b)]]⟩) :
  zh true [] uY [.own id 0 2] Y Z=some (.sl 11 (qn (a++b)),qq Y id none,Z):=by
 have i:uY [.sl 1 [[.sl 11 (qn a)],[.sl 11 (qn b)]]]=some (.sl 11 (qn (a++b))):=by
  unfold uY TV;exact qD (V:=fun a:List wQ×List wQ=>[O.sl 1 [[.sl 11 (a.1.map wQ.V)],[.sl 11 (a.2.map wQ.V)]]]) (a:=(a,b)) (fun x y e=>by obtain⟨j,k⟩:=x;obtain⟨l,m⟩:=y;simp only[zj,zG]at e;injection e with _ e;simp only[zj,zG]at e;obtain⟨c,d⟩:=e;injection c with _ c;injection d with _ d;rw[Qo c,Qo d]) ⟨f,g⟩
 simp[hP,zh,zC,qt,wI,h,yS,i,O.flat,O.noOwn]
noncomputable abbrev Ctog:Ctx:=zV prog [(256,zh true [] uY),(257,xo [.s 5 kn] FSc),(259,qP [.s 11 jW,.g kn] (FRC fun l c=>wb (yP l c))),(258,hP FTk)]
theorem zcb:AM.Good Ctog (fun g=>[259,258].contains g):=qC mixed ⟨sU,by simp,sV,by simp,sO,fun _=>jD _ _,E5,fun _=>zu _ _,trivial⟩
theorem OI(w:Int)(a b:List wQ)(ha:kz a)(hb:kz b)(hga:kb a)(hgb:kb b) :
  ∃x Y Z,yR Ctog f221 [int w,.sl 11 (qn a),.sl 11 (qn b)] (fun _=>none) 0=some (x,Y,Z)/\Er jW (Yc (Wk w) a b) x Y Z:=by
 refine qF rfl ?_;have hsa:=ha;have hsb:=hb;obtain⟨ha1,ha2⟩:=ha;obtain⟨hb1,hb2⟩:=hb;have hcat:=fun Y Z id e h=>OH ha1 hb1 (Y:=Y) (Z:=Z) (id:=id) (e:=e) h
 unfold zA at ha1 hb1;have B:=TY (Wk w) hga hgb;obtain⟨l,hl⟩:=wZ (a++b);rw[hl]at B hcat;have hll:l.length<=536870912:=by rw[<-hl];simp;omega
 have hlsm:∀s∈l,s.small:=fun s hs=>by
  rw[<-hl]at hs;rcases qi.1 hs with h|h
  ·exact ha2 s h
  ·exact hb2 s h
 have hel:(qn l).length=l.length:=by simp[qn]
 have ziW:=hcat (qq (fun _=>none) 0 (some ⟨169,1,true,[[.sl 11 (qn a)],[.sl 11 (qn b)]]⟩)) 1 0 169 (by simp);simp[zt,zJ,zr,ziW,hel];refine zL (fun k σ Y Z=>σ 0=int w/\σ 1=.sl 11 (qn a)/\σ 2=.sl 11 (qn b)/\qN Y Z 206 5 (σ 7) (wE (wu (l.take k))) /\
   σ 18=.sl 11 (qn l)/\σ 19=int l.length/\σ 20=int k) l.length
   ⟨by simp,by simp,by simp,.inl ⟨by simp,by simp[wu,wE]⟩,by simp,by simp,by simp⟩ ?_
 rintro k σ Y Z hk ⟨G,H,I,F,h25,h26,h27⟩;by_cases f:k<l.length
 ·have z:=qe k;have q:∀h:k<(qn l).length,(qn l)[k]=l[k].V:=fun h=>by simp[qn]
  have hcn:=Qp (l.take k);rw[ju]at hcn;have hct:=ux f;obtain⟨xs,g⟩:=wZ (wE (wu (l.take k)));have r:xs.length<=1073741824:=by rw[<-g];simp[wE];omega
  rw[g]at F;have hE:wE (wu (l.take (k+1)))=xs++(if l[k].vW=true then[l[k].lo]else[l[k].lo,l[k].hi]).map Cut.V:=by rw[hct,uy,g];rfl
  have PQ:=fun Y'=>yr F Y' Z (Ew F (zl _))
  obtain⟨s,hs⟩:=wZ (l[k]);rw[hs]at hct q hE;have p:=qN.yx (P:=prog) (t:=238) (c:=s.lo.V) (F.more (some ⟨208,11,false,[s.V]⟩)) iU dV tS tT rfl (by omega) (by unfold maxLen;omega) (by omega);have J:=qN.after (Y:=qq Y Z (some ⟨208,11,false,[s.V]⟩)) (Z:=Z+1) (e:=206) (s:=5) (v:=σ 7) (xs:=xs) (c:=s.lo.V) (tmp:=some ⟨206,5,true,[s.lo.V]⟩);have u:=qN.yx (P:=prog) (t:=238) (c:=s.hi.V) J iU dV tS tT rfl (by omega) (by simp;unfold maxLen;omega) (by simp;omega);rw[show(xs++[s.lo.V]).length=xs.length+1 by simp,qG,show[s.lo.V]++[s.hi.V]=[s.lo.V,s.hi.V]from rfl]at u;have K:=qN.after (Y:=qq (Qx (σ 7) (qq (qq Y Z (some ⟨208,11,false,[s.V]⟩)) (Z+1) (some ⟨206,5,true,[s.lo.V]⟩))) (Z+1+1) (some ⟨206,5,true,xs++[s.lo.V]⟩)) (Z:=Z+1+2) (e:=206) (s:=5) (v:=.own (Z+1+1) 0 (xs.length+1)) (xs:=xs++[s.lo.V]) (c:=s.hi.V) (tmp:=some ⟨206,5,true,[s.hi.V]⟩);rw[show(xs++[s.lo.V]).length=xs.length+1 by simp,qG,show[s.lo.V]++[s.hi.V]=[s.lo.V,s.hi.V]from rfl]at K;simp only[wQ.V,Cut.V,wB,w7]at p u J K q;have m1:¬Z=Z+1+1:=by omega
  have m2:¬Z=Z+1+2:=by omega
  have m3:¬Z=Z+1+2+1:=by omega
  cases C:s.vW
  ·rw[C]at hct;rw[C]at p u J K q;simp[G,H,I,h25,h26,h27,f,hel,q,p,u,PQ,z,m1,m2,m3,zt,zJ,zr];refine⟨by omega,?_⟩;rw[hE,C];simp only[zP,wF,z6,yX,Cut.V];exact K
  ·rw[C]at hct;rw[C]at p u J K q;simp[G,H,I,h25,h26,h27,f,hel,q,p,PQ,z,m1,m2,m3,zt,zJ,zr];refine⟨by omega,?_⟩;rw[hE,C];simp only[qV,z6,yX,Cut.V];exact J
 ·obtain rfl:k=l.length:=by omega
  rw[qf]at F;have Pu:∀c∈wu l,c.v.small:=Jv (Q:=fun c=>c.v.small) hlsm;have hcl:=Qp l;obtain⟨v,Y',Z',L,hO',hnx'⟩:=Cl F Pu (by omega);obtain⟨cs,hcs⟩:=wZ (vF (wu l));have hcsl:cs.length<=1073741824:=by have:=di (wu l) [];rw[<-hcs];unfold vF;simp at this;omega
  have hcsm:∀c∈cs,c.v.small:=fun c hc=>by
   rw[<-hcs]at hc;rcases dj hc with h|h
   ·exact Pu c h
   ·cases h
  rw[hcs]at B hO';have hfin:=B;obtain⟨is,his⟩:∃is:Cut->Bool,(fun c=>Wk w (yP a c) (yP b c))=is:=⟨_,rfl⟩;have hisc:∀c,Wk w (yP a c) (yP b c)=is c:=fun c=>by rw[<-his]
  rw[his]at hfin;clear F hcs Pu B;have M:=hO'.len iU;have j:(wE cs).length=cs.length:=by simp[wE]
  rw[j]at M;simp[G,H,I,h25,h26,h27,L,M];refine zL (fun k σ Y Z=>σ 0=int w/\σ 1=.sl 11 (qn a)/\σ 2=.sl 11 (qn b)/\σ 40=v/\σ 41=int cs.length/\σ 42=int k/\qN Y Z 206 5 v (wE cs)/\∃xs,qN Y Z 208 11 (σ 10) xs/\xs.map (QN jW)=qn (Xi is (cs.take k) (false,[])).2 /\
    σ 11=wb (Xi is (cs.take k) (false,[])).1/\(∀id n m,v=.own id 0 n->σ 10≠.own id 0 m)/\((Xi is (cs.take k) (false,[])).1=true->(Xi is (cs.take k) (false,[])).2≠[])/\xs.length<=k/\(xs=[]->σ 10=.nil)) cs.length
   ⟨by simp[G],by simp[H],by simp[I],by simp,by simp,by simp,hO',[],.inl ⟨by simp,rfl⟩,by simp[Xi,qn],by simp[Xi],by simp,by simp[Xi],by simp,by simp⟩ ?_
  clear G H I h25 h26 h27 hO' hk f σ Y Z L M hnx' Y' Z';rintro k σ Y Z hk ⟨G,H,I,N,R,S,F,xs,hX,g,D,tp,T,hxk,Hi⟩;by_cases f:k<cs.length
  ·have z:=qe k;obtain⟨id,hid,rfl,hh⟩:=F.at_ (by rw[j];omega);have o:=Ev is f (false,[]);obtain⟨st,bT⟩:=wZ (Xi is (cs.take k) (false,[]));obtain⟨c,hc⟩:=wZ (cs[k]);rw[hc,bT]at o;rw[bT]at g D T;have U:=Eu is st c T;have y:c.v.small:=hcsm c (by rw[<-hc];exact zi f);have q:∀h:k<(wE cs).length,(wE cs)[k]=c.V:=fun h=>by simp[wE,hc]
   have W:=fun Y Z=>eE a c Y Z hsa y
   have X:=fun Y Z=>eE b c Y Z hsb y
   have d:=fun Y Z=>ag w (yP a c) (yP b c) Y Z
   rw[hisc c]at d;simp only[Cut.V]at W X q;have m0:¬id=Z:=by omega
   have m1:¬id=Z+1:=by omega
   have m2:¬id=Z+1+1:=by omega
   rw[j]at F;have hki:=fun Y'=>yr hX Y' id (fun n=>tp id _ n rfl)
   have bU:ca is st c=(is c,if(is c&&!st.1)=true then st.2++[yu c]else if(!is c&&st.1)=true then QW st.2 c else st.2):=rfl;rw[bU]at o;rw[bU]at U;simp only at U;obtain⟨op,out⟩:=st;simp only at g D T U;cases hb:is c<;>cases op
   ·rw[hb]at d o;simp at o;simp[G,H,I,N,R,S,j,f,hh,q,W,X,d,-ag,D,z,m0,o];exact⟨by omega,F.more _,xs,hX.more _,g,fun i n m e _=>tp i _ m (by rw[e]),by omega,Hi⟩
   ·rw[hb]at d o;simp at o;have hne:=T rfl;obtain⟨m,hm⟩:∃m,out.length=m+1:=⟨out.length-1,by have:=jV.2 hne;omega⟩;have r:xs.length=m+1:=by have:=zo List.length g;simp[qn]at this;omega
    obtain⟨E,hid2,A,hh2⟩:=hX.at_ (by omega);have GM:¬E=id:=fun e=>tp id _ _ rfl (by rw[A,e])
    have zaf:¬id=E:=fun e=>GM e.symm
    have p0:¬E=Z:=by omega
    rw[r]at A;have hlm:m<xs.length:=by omega
    have MN:m<out.length:=by omega
    have hrm:QN jW xs[m]=out[m].V:=by
     have e1:(xs.map (QN jW))[m]?=(qn out)[m]?:=by rw[g]
     simp only[qz,zq hlm,qn,zq MN,zH,qa]at e1;exact e1
    obtain⟨x3,x5,x6,x7,x8,x9,x10,Ps,hn3,GN⟩:=uw hrm;have wm:=wq (m:Int);have wm1:i6.wrap ((m:Int)+1-1)=(m:Int):=by rw[wS (by omega) (by omega)];omega
    simp[G,H,I,N,R,S,j,f,hh,q,W,X,d,-ag,D,z,m0,o,A,hh2,p0,wm,wm1,hlm,Ps,GN,js];refine⟨by omega,.inr ⟨id,by omega,by rw[j],by simp[zaf,m0,hh]⟩,xs.set m [int out[m].lo.v.a,int out[m].lo.v.b,int out[m].lo.v.c,x3,wb out[m].lo.after,int c.v.a,int c.v.b,int c.v.c,.sl 1 (zy c.v.pre),wb c.after,wb false],.inr ⟨E,by omega,by simp[r],by simp⟩,?_,fun i n k' e _ e2=>absurd (e2.trans e.symm) GM,by simp;omega,fun e=>by have:=zo List.length e;rw[bt,r]at this;cases this⟩;rw[List.map_set,g,lj MN hm c,qn,qn,List.map_set];simp[hn3,wQ.V,Cut.V]
   ·rw[hb]at d o;simp at o;have p:=qN.yx (P:=prog) (t:=169) (c:=[int c.v.a,int c.v.b,int c.v.c,.sl 1 (zy c.v.pre),wb c.after,int 0,int 0,int 0,.nil,wb false,wb true]) (hX.more (some ⟨206,5,false,[c.V]⟩)) LL tU DK DL rfl (by omega) (by unfold maxLen;omega) (by omega);simp only[Cut.V]at p;simp[G,H,I,N,R,S,j,f,hh,q,W,X,d,-ag,D,z,m0,o,p,qv,qS,zt,zJ,zr];refine⟨by omega,.inr ⟨id,by omega,by rw[j],by simp[hki,hh,m0,m1,m2]⟩,xs++[[int c.v.a,int c.v.b,int c.v.c,.sl 1 (zy c.v.pre),wb c.after,int 0,int 0,int 0,.nil,wb false,wb true]],by simpa using qN.after,?_,fun i n m e _ e2=>by omega,by simp;omega⟩;rw[JH,g];simp[qn,yu,wQ.V,Cut.V,We,zy]
   ·rw[hb]at d o;simp at o;simp[G,H,I,N,R,S,j,f,hh,q,W,X,d,-ag,D,z,m0,o];exact⟨by omega,F.more _,xs,hX.more _,g,fun i n m e _=>tp i _ m (by rw[e]),T rfl,by omega,Hi⟩
  ·obtain rfl:k=cs.length:=by omega
   rw[qf]at g;rw[<-hfin]at g;have r:xs.length=(vr (Wk w) a b).length:=by have:=zo List.length g;simpa[qn]using this
   simp[G,H,I,N,R,S,f221];unfold Yc;rcases hX with⟨A,rfl⟩|⟨E,hid2,A,hh2⟩
   ·rw[zd (qo.1 r.symm)];exact A
   ·by_cases hz:vr (Wk w) a b=[]
    ·rw[zd hz];rw[hz]at r;exact Hi (qo.1 r)
    ·rw[ze hz];refine⟨E,_,A,hh2,rfl,?_⟩;simp only[gN,g]
noncomputable def OJ:zb->Option (Option Blk):=qd (α:=Int×List wQ×List wQ) (fun a=>[int a.1,.sl 11 (qn a.2.1),.sl 11 (qn a.2.2)]) (fun a=>(kz a.2.1/\kz a.2.2)/\kb a.2.1/\kb a.2.2) (fun a=>Yc (Wk a.1) a.2.1 a.2.2)
theorem zcc:∀a b:Int×List wQ×List wQ,[int a.1,O.sl 11 (qn a.2.1),.sl 11 (qn a.2.2)]=[int b.1,.sl 11 (qn b.2.1),.sl 11 (qn b.2.2)]->a=b:=by rintro⟨g,h,i⟩ ⟨j,k,l⟩ e;simp only[zj,zG]at e;obtain⟨c,d,f⟩:=e;injection c with c;injection c with _ c;injection d with _ d;injection f with _ f;rw[c,Qo d,Qo f]
theorem rf:zg prog 221 (xo [.a,.s 11 jW,.s 11 jW] OJ):=
 Ko (fn:=f221) zcb (qX func221) _ jW _ fun args r h=>by obtain⟨⟨w,a,b⟩,rfl,⟨⟨c,d⟩,e,f⟩,rfl⟩:=zO h;exact⟨by simp[f221],OI w a b c d e f⟩
def fO(Y:Hp)(Z:Nat)(v:O)(m:List wQ):Prop:=(v=.nil/\m=[])\/∃id xs,id<Z/\v=.own id 0 xs.length/\Y id=some ⟨208,11,true,xs⟩/\xs.map (QN jW)=qn m
theorem fO.frz{Y:Hp}{Z:Nat}{v:O}{m:List wQ}(h:fO Y Z v m):∃y Y1,qt Y v=some (y,Y1)/\(Sh.s 11 jW).fix y=.sl 11 (qn m)/\(∀j,(∀n,v≠.own j 0 n)->Y1 j=Y j):=by
 rcases h with⟨rfl,rfl⟩|⟨id,xs,d,rfl,a,b⟩
 ·exact⟨_,Y,rfl,rfl,fun _ _=>rfl⟩
 ·exact⟨.sl 11 xs,qq Y id none,by simp[a],by rw[Sh.rY,b],fun j c=>zz _ _ _ _ fun e=>c _ (by subst e;rfl)⟩
theorem fO.keep{Y Y':Hp}{Z Z':Nat}{v:O}{m:List wQ}(h:fO Y Z v m)(e:Z<=Z')(a:∀id,id<Z->(∀n,v=.own id 0 n->Y' id=Y id)):fO Y' Z' v m:=by
 rcases h with⟨rfl,rfl⟩|⟨id,xs,b,rfl,c,d⟩
 ·exact .inl ⟨rfl,rfl⟩
 ·exact .inr ⟨id,xs,by omega,rfl,by rw[a id b _ rfl];exact c,d⟩
theorem fO.len{Y:Hp}{Z:Nat}{v:O}{m:List wQ}(h:fO Y Z v m):Vi prog 169 v=some (int m.length):=by
 rcases h with⟨rfl,rfl⟩|⟨id,xs,b,rfl,c,a⟩
 ·simp
 ·have:=zo List.length a;simp[qn]at this;simp[this]
theorem fO.box{Y:Hp}{Z:Nat}{v:O}{m:List wQ}(h:fO Y Z v m){j:Nat}{b:Blk}(a:Y j=some b)(c:b.e≠208):∀n,v≠.own j 0 n:=by
 rcases h with⟨rfl,rfl⟩|⟨id,xs,f,rfl,d,g⟩
 ·intro n e;cases e
 ·intro n e;injection e with e
  subst e;rw[d]at a;injection a with a
  subst a;exact c rfl
theorem Fq(c:Int)(f:Bool->Bool->Bool)(l:Wk c=f){Y:Hp}{Z:Nat}{v:O}{a b:List wQ}(m:fO Y Z v a)(o:kz a)(p:kz b)(q:kb a)(r:kb b) :
  ∃x Y' Z',xo [.a,.s 11 jW,.s 11 jW] OJ [int c,v,.sl 11 (qn b)] Y Z=some (x,Y',Z')/\fO Y' Z' x (vr f a b)/\Z<=Z'/\∀j,j<Z->(∀n,v≠.own j 0 n)->Y' j=Y j:=by
 obtain⟨y,Y1,t,u,i⟩:=m.frz;have e:zC Y [int c,v,.sl 11 (qn b)]=some ([int c,y,.sl 11 (qn b)],Y1):=by have w:qt Y (int c)=some (int c,Y):=rfl;have z:qt Y1 (.sl 11 (qn b))=some (.sl 11 (qn b),Y1):=rfl;simp only[zC,w,t,z]
 have k:OJ (dU [.a,.s 11 jW,.s 11 jW] (yS [] [int c,y,.sl 11 (qn b)]))=some (Yc f a b):=by show OJ [Sh.a.fix (int c),(Sh.s 11 jW).fix y,(Sh.s 11 jW).fix (.sl 11 (qn b))]=_;rw[u,KV,<-l];exact qD (V:=fun a:Int×List wQ×List wQ=>[int a.1,O.sl 11 (qn a.2.1),.sl 11 (qn a.2.2)]) (a:=(c,a,b)) zcc ⟨⟨o,p⟩,q,r⟩
 unfold xo jm;by_cases g:vr f a b=[]
 ·have d:=k;unfold Yc at d;rw[zd g]at d;simp only[e,d];exact⟨_,_,_,rfl,.inl ⟨rfl,g⟩,zl _,fun j _ h=>i j h⟩
 ·have d:=k;unfold Yc at d;rw[ze g]at d;simp only[e,d];exact⟨_,_,_,rfl,.inr ⟨Z,qn (vr f a b),by omega,rfl,by simp,by have:=KV (vr f a b);simpa[Sh.rY]using this⟩,by omega,fun j A h=>by rw[zz _ _ _ _ (by omega)];exact i j h⟩
theorem zik:Wk 1=and:=by funext a b;simp[Wk]
theorem zil:Wk 0=or:=by funext a b;simp[Wk]
theorem Cm:∀(c:List za) (l:List cn) (n:Nat),kA c=some l->(∀w∈c,w.length<=n)->l.length<=c.length/\∀a∈l,a.2.length<=n
 |[],l,n,h,_=>by simp only[kA]at h;injection h with h;subst h;simp
 |[w],l,n,h,d=>by
  simp only[kA]at h;split at h
  ·cases h
  ·injection h with h;subst h;refine⟨by simp,fun a b=>?_⟩;rw[wG]at b;rw[b];exact zI (VL wM w) (d w (by simp))
 |w::x::c,l,n,h,d=>by
  simp only[kA]at h;split at h
  ·cases e:kA c with
   |none=>rw[e]at h;cases h
   |some l'=>
    rw[e]at h;simp only[zH,qa]at h;subst h;obtain⟨i,f⟩:=Cm c l' n e fun y g=>d y (by simp[g])
    refine⟨by simp;omega,fun a b=>?_⟩;rcases zw.1 b with rfl|b
    ·exact d x (by simp)
    ·exact f a b
  ·cases e:kA (x::c)with
   |none=>rw[e]at h;cases h
   |some l'=>
    rw[e]at h;simp only[zH,qa]at h;subst h;obtain⟨i,f⟩:=Cm (x::c) l' n e fun y g=>d y (by simp[zw.1 g])
    refine⟨by simp at i⊢;omega,fun a b=>?_⟩;rcases zw.1 b with rfl|b
    ·exact zI (VL wM w) (d w (by simp))
    ·exact f a b
theorem Fs{t:za}{l:List cn}(h:kA (jj t)=some l):l.length<=t.length+1/\∀a∈l,a.2.length<=t.length:=by
 have c:wR (qy t [32])=jj t:=im t;obtain⟨e,d⟩:=Cm _ l t.length h fun w b=>by rw[<-c]at b;exact xM (zdZ.1 b).1
 have f:(jj t).length<=t.length+1:=by rw[<-c];exact zI (zfI _ _) (Zu (by simp))
 exact⟨by omega,d⟩
theorem u6{o:za}{p:Part}(a:sQ o)(Y:p.ok)(b:QY p.pre):kb (de o p).1/\(de o p).1.length<=1:=by
 obtain⟨c,d⟩:=aX (Fh a Y b);unfold de;by_cases h:(xi (KR o p)).2=true
 ·rw[zd h];exact⟨d,c⟩
 ·rw[ze h];exact⟨(fun s hs=>by cases hs),by simp⟩
theorem zcd(a b:za):((⟨a.toArray⟩:ByteArray)==⟨b.toArray⟩)=decide (a=b):=by show(a.toArray==b.toArray)=_;by_cases h:a=b<;>simp[h]
theorem T3(a b c d:za):Qi prog .eql 279 (.agg [str a,str b]) (.agg [str c,str d])=some (wb (decide (a=c)&&decide (b=d))):=by simp only[Qi,zh0,ym,zH,zkz,zcd]
noncomputable def YJ (t:za):List wQ×Int:=match Xw t with
 |none=>([],10)
 |some m=>(m.1,if m.2=true then 0 else 1)
noncomputable def JC (t:za):O:=.w5 [.sl 11 (qn (YJ t).1),int (YJ t).2]
def AltI(l:List cn)(k:Nat)(Y:Hp)(Z:Nat)(v w:O):Prop:=∃o a,fO Y Z v o/\kb o/\o.length<=k+1/\w=int (if a=true then 0 else 1)/\Z9 [yu wv] true l=Z9 o a (l.drop k)
noncomputable abbrev zdA:Ctx:=zV prog [(250,hP (PE sS)),(251,hP FBt2),(252,qP [] (Jt gE)),(253,hP (FS yO)),(254,hP (bz IC)),(255,qP [.a,.g vO] FOVI),(221,xo [.a,.s 11 jW,.s 11 jW] OJ)]
theorem T4:AM.Good zdA (fun g=>[251].contains g):=qC mixed ⟨Ce,by simp,ra,fun _=>zu _ _,fe,by simp,sM,by simp,JA,by simp,pV,by simp,rf,by simp,trivial⟩
theorem OK(t:za)(ht:t.length+1<=zA):∃r0,zv zdA f220 [str t]=some r0/\wL r0 (JC t):=by
 refine ji (sh:=.s 11 jW) rfl ?_;have hwo:∀(Y:Hp) (Z:Nat),hP (PE sS) [str t] Y Z=some (sS t,Y,Z):=fun Y Z=>QL t _ _ rfl (fun a b e=>wC (by injection e)) (by show t.length<=zA;omega) (.inr (by simp))
 refine y1 (fun st=>st.σ 0=str t) (by simp) ?_;rintro⟨σ,Y,Z⟩ h0;simp only at h0;refine y1 (fun st=>st.σ 4=.sl 2 (WG (mv t).1)/\st.σ 5=wb (mv t).2) (by simp[h0,hwo,sS]) ?_;clear h0 σ Y Z;rintro⟨σ,Y,Z⟩ ⟨y,M⟩;simp only at y M;cases E:kA (jj t)with
 |none=>
  have hr:mv t=([],false):=by unfold mv;rw[E]
  have H:YJ t=([],10):=by unfold YJ Xw;rw[E]
  rw[hr]at y M;simp[y,M,qB,JC,H,qn,f220]
 |some l=>
 have hr:mv t=(l,!l.isEmpty):=by unfold mv;rw[E]
 rw[hr]at y M;simp only at y M;by_cases N:l=[]
 ·have H:YJ t=([],10):=by unfold YJ Xw;rw[E];simp only;rw[zd N]
  subst N;simp[y,M,qB,JC,H,qn,f220]
 have I:Xw t=match ar l with
  |some a=>match QD a.1,QD a.2 with
   |some p,some q=>some (fh p q)
   |_,_=>none
  |none=>Z9 [yu wv] true l:=by unfold Xw;rw[E];simp only;rw[ze N]
 have S:l.isEmpty=false:=by cases l<;>simp at N⊢
 rw[S]at M;obtain⟨hll,T⟩:=Fs E;have hsg:=pT _ l E;have j:=pW l;unfold zA at ht;refine y1 (fun st=>st.σ 4=.sl 2 (WG l)) (by simp[M,y]) ?_;clear y M σ Y Z;rintro⟨σ,Y,Z⟩ y;simp only at y;refine y1 (fun st=>st.σ 4=.sl 2 (WG l)/\ar l=none) ?_ ?_
 ·by_cases h3:l.length=3
  ·match l,h3 with
   |[a,b,c],_=>
   obtain⟨W,R⟩:=a;obtain⟨X,b2⟩:=b;obtain⟨c1,c2⟩:=c;have hd:ar [(W,R),(X,b2),(c1,c2)]=if(X,b2)=(([],[45]):cn)/\W=[]/\c1=[]then some (R,c2)else none:=rfl
   have ha2:R.length<=t.length:=T (W,R) (by simp);have hc2:c2.length<=t.length:=T (c1,c2) (by simp);have hbt:=fun Y Z=>Oy R c2 Y Z ⟨by unfold zA;omega,by unfold zA;omega⟩
   by_cases k1:X=[]
   ·subst k1;by_cases k2:b2=[45]
    ·subst k2;by_cases k3:W=[]
     ·subst k3;by_cases k4:c1=[]
      ·subst k4;rw[zd ⟨rfl,rfl,rfl⟩]at hd;rw[hd]at I;have H:YJ t=pZ R c2:=by unfold YJ pZ;rw[I];simp only;cases h1:QD R<;>cases h2:QD c2<;>simp
       have hfx:=KV (pZ R c2).1;simp only[Sh.rY,O.sl.injEq,Gr]at hfx;simp only[av]at hbt;simp[y,WG,hbt,T3,qv,qS,qB,JC,H,hfx,f220]
      ·rw[ze (fun h=>k4 h.2.2)]at hd;have e4:c1.isEmpty=false:=by cases c1 with
        |nil=>exact absurd rfl k4
        |cons=>rfl
       simp[y,WG,T3,qv,qS,e4,hd]
     ·rw[ze (fun h=>k3 h.2.1)]at hd;have e3:W.isEmpty=false:=by cases W with
       |nil=>exact absurd rfl k3
       |cons=>rfl
      simp[y,WG,T3,qv,qS,e3,hd]
    ·rw[ze (fun h=>k2 (by have:=h.1;injection this))]at hd;simp[y,WG,T3,qv,qS,k2,hd]
   ·rw[ze (fun h=>k1 (by have:=h.1;injection this))]at hd;simp[y,WG,T3,qv,qS,k1,hd]
  ·have hd:ar l=none:=by
    unfold ar;split
    ·rename_i a b c;exact absurd rfl h3
    ·rfl
   have hn3:((l.length:Int)==3)=false:=by rw[qQ];omega
   simp[y,j,hn3,hd]
 clear y σ Y Z;rintro⟨σ,Y,Z⟩ ⟨y,hd⟩;simp only at y;rw[hd]at I;simp only at I;have S:∀(Y:Hp) (Z:Nat),qP [] (Jt gE) [] Y Z=some (.agg [int wv.v.a,int wv.v.b,int wv.v.c,.sl 1 (zy wv.v.pre),wb wv.after],Y,Z):=fun Y Z=>Wy _ Y Z
 simp[y,j,S,qv,qS,zt,zJ,zr];refine zL (fun k σ Y Z=>σ 60=.sl 2 (WG l)/\σ 61=int l.length/\σ 62=int k/\AltI l k Y Z (σ 6) (σ 7)) l.length
  ⟨by simp,by simp,by simp,[yu wv],true,.inr ⟨Z,[[int wv.v.a,int wv.v.b,int wv.v.c,.sl 1 (zy wv.v.pre),wb wv.after,int 0,int 0,int 0,.nil,wb false,wb true]],by simp,by simp,by simp,by simp[qn,yu,wQ.V,Cut.V,We,zy]⟩,(WA xH).2,by simp,by simp,by simp⟩ ?_
 clear y σ Y Z;rintro k σ Y Z hk ⟨m,r,u,o,ok,hM,P,hol,h7,g⟩;by_cases d:k<l.length
 ·have J:=qe k;obtain⟨a,ha⟩:=wZ (l[k]);have U:a∈l:=by rw[<-ha];exact zi d
  have z:∀h:k<(WG l).length,(WG l)[k]=[str a.1,str a.2]:=fun h=>by simp[WG,ha]
  have hal:=T a U;have K:=fun Y Z=>vw yO a.2 Y Z (by unfold zA;omega)
  have D:=fun Y Z=>ZM IC a.2 Y Z (by unfold zA;omega)
  simp only[IC,yK.V]at D;rw[zc d,ha]at g;simp only[Z9]at g;have hie:a.1≠[]->a.1.isEmpty=false:=fun h=>by cases he:a.1 with
   |nil=>exact absurd he h
   |cons=>rfl
  by_cases w:a.1=[]/\yO a.2=true
  ·rw[zd w]at g;obtain⟨f,F⟩:=w;simp[m,r,u,d,j,z,f,K,F,J];exact⟨by omega,o,ok,hM.keep (by omega) fun id hid n e=>zz _ _ _ _ (by omega),P,by omega,h7,g⟩
  ·rw[ze w]at g;have hM1:∀X b2,fO (qq (qq Y Z X) (Z+1) b2) (Z+1+1) (σ 6) o:=fun X b2=>hM.keep (by omega) fun id hid n e=>by rw[zz _ _ _ _ (by omega),zz _ _ _ _ (by omega)]
   have n1:¬Z=Z+1:=by omega
   cases L:QD a.2 with
   |none=>
    rw[L]at g;simp only at g;have H:YJ t=([],10):=by unfold YJ;rw[I,g]
    have A:=pY L;by_cases f:a.1=[]
    ·have F:yO a.2=false:=by cases G:yO a.2;rfl;exact absurd ⟨f,G⟩ w
     rcases A with A|A
     ·simp[m,r,u,d,j,z,f,K,F,D,A,qB,JC,H,qn,f220]
     ·cases G:(Xv a.2).2.2<;>simp[m,r,u,d,j,z,f,K,F,D,A,G,qB,JC,H,qn,f220]
    ·have f:=hie f;rcases A with A|A
     ·simp[m,r,u,d,j,z,f,D,A,qB,JC,H,qn,f220]
     ·cases G:(Xv a.2).2.2<;>simp[m,r,u,d,j,z,f,D,A,G,qB,JC,H,qn,f220]
   |some p=>
    rw[L]at g;simp only at g;obtain⟨p1,p2,p3,p4,p5,p6,p7⟩:=pX L;obtain⟨_,_,q3,q4⟩:=QA L;have Q:=jN p3;rw[<-p2]at p6 p7;have B:=fun Y Z=>Ov a.1 (Xv a.2).1 (Xv a.2).2.1 Y Z (hsg a U) p5 ⟨p6,p7⟩
    simp only[YI,<-p4,yK.V]at B;obtain⟨g1,g2⟩:=u6 (hsg a U) q3 q4;have hlm:=KU and o (de a.1 p).1;obtain⟨x,Y',Z',C,hX,hnx',_⟩:=Fq 1 and zik (hM1 (some ⟨279,2,false,[[str a.1,str a.2]]⟩) (some ⟨204,4,false,[(Xv a.2).1.V]⟩)) (P.small (by unfold zA;omega)) (g1.small (by unfold zA;omega)) P g1;simp only[yK.V]at C;have i:∀n:Int,n=(if(ok&&(de a.1 p).2)=true then 0 else 1)->AltI l (k+1) Y' Z' x (int n):=fun n hn=>⟨_,_,hX,xN and P g1,by omega,by rw[hn],g⟩
    by_cases f:a.1=[]
    ·have F:yO a.2=false:=by cases G:yO a.2;rfl;exact absurd ⟨f,G⟩ w
     rw[f]at B C i z;cases G:(de [] p).2
     ·rw[G]at B i;simp[m,r,u,d,j,z,K,F,D,p1,Q,n1,B,C,J];exact⟨by omega,i 1 (by simp)⟩
     ·rw[G]at B i;simp[m,r,u,d,j,z,K,F,D,p1,Q,n1,B,C,J];exact⟨by omega,by rw[h7];exact i _ (by simp)⟩
    ·have f:=hie f;cases G:(de a.1 p).2
     ·rw[G]at B i;simp[m,r,u,d,j,z,f,D,p1,Q,n1,B,C,J];exact⟨by omega,i 1 (by simp)⟩
     ·rw[G]at B i;simp[m,r,u,d,j,z,f,D,p1,Q,n1,B,C,J];exact⟨by omega,by rw[h7];exact i _ (by simp)⟩
 ·obtain rfl:k=l.length:=by omega
  rw[zp]at g;simp only[Z9]at g;have H:YJ t=(o,if ok=true then 0 else 1):=by unfold YJ;rw[I,g]
  rcases hM with⟨h6,rfl⟩|⟨id,xs,hid,h6,G,hxs⟩
  ·simp[m,r,u,h6,h7,qB,JC,H,qn,f220]
  ·simp[m,r,u,h6,h7,G,hxs,qB,JC,H,f220]
theorem IP:zg prog 220 (hP (bz JC)):=
 W6 (fn:=f220) T4 (qX func220) false [] _ fun args r h w S vs a=>by obtain⟨l,rfl,Y,rfl⟩:=zO h;obtain⟨b,c,d⟩:=OK l Y;exact⟨_,b,a,by simp[f220],c,d⟩
theorem dk:∀(l:List cn) (out:List wQ) (d:Bool) (m:List wQ×Bool),(∀a∈l,sQ a.1)->kb out->Z9 out d l=some m->kb m.1/\m.1.length<=out.length+l.length
 |[],out,d,m,_,h,e=>by
  simp only[Z9]at e;injection e with e
  subst e;exact⟨h,by simp⟩
 |a::l,out,d,m,hs,h,e=>by
  simp only[Z9]at e;have c:∀b∈l,sQ b.1:=fun b i=>hs b (by simp[i])
  split at e
  ·obtain⟨f,j⟩:=dk l out d m c h e;exact⟨f,by simp;omega⟩
  ·cases g:QD a.2 with
   |none=>rw[g]at e;cases e
   |some p=>rw[g]at e;simp only at e;obtain⟨_,_,k,n⟩:=QA g;obtain⟨o,r⟩:=u6 (hs a (by simp)) k n;have q:=KU and out (de a.1 p).1;obtain⟨f,j⟩:=dk l _ _ m c (xN and h o) e;exact⟨f,by simp;omega⟩
theorem OL{t:za}{m:List wQ×Bool}(h:Xw t=some m):kb m.1/\m.1.length<=t.length+2:=by
 unfold Xw at h;cases b:kA (jj t)with
 |none=>rw[b]at h;cases h
 |some l=>
  rw[b]at h;simp only at h;split at h
  ·cases h
  ·cases hd:ar l with
   |none=>rw[hd]at h;simp only at h;obtain⟨d,e⟩:=dk l _ _ m (pT _ l b) (WA xH).2 h;have:=(Fs b).1;exact⟨d,by simp at e;omega⟩
   |some a=>
    rw[hd]at h;simp only at h;cases Y:QD a.1 with
    |none=>rw[Y]at h;simp at h
    |some p=>
     cases c:QD a.2 with
     |none=>rw[Y,c]at h;simp at h
     |some q=>
      rw[Y,c]at h;simp only[qa]at h;obtain⟨_,_,i,f⟩:=QA Y;obtain⟨_,_,j,g⟩:=QA c;rw[<-h];unfold fh;split
      ·have:=Yd (pb f) (aW g);exact⟨this.2,by simp only;omega⟩
      ·exact⟨(fun s hs=>by cases hs),by simp⟩
def RrI(a:List za)(k:Nat)(Y:Hp)(Z:Nat)(v w:O):Prop:=∃o b,fO Y Z v o/\kb o/\o.length<=k*500/\w=int (if b=true then 0 else 1)/\Yi [] true a=Yi o b (a.drop k)
noncomputable abbrev Crrr:Ctx:=zV prog [(201,jm [] FSp),(220,hP (bz JC)),(221,xo [.a,.s 11 jW,.s 11 jW] OJ)]
theorem zce:Gd Crrr:=zW mixed ⟨Ya,IP,rf,trivial⟩
theorem mw(t:za)(ht:t.length+1<=zA):∃P,zv Crrr f180 [str t]=some P/\wL P (EC t):=by
 refine ji (sh:=.s 11 jW) rfl ?_;have J:EC t=.w5 [.sl 11 (qn (Yj t).1),int (Yj t).2]:=by rw[Cb];rfl
 rw[J];by_cases j:(400:Int)<t.length
 ·have T:Yj t=([],2):=by unfold Yj;rw[zd j]
  simp[j,T,qn,qB,f180]
 have B:=fun Y Z=>Qn t [124,124] Y Z (by omega) (by decide) (by decide)
 obtain⟨a,d⟩:=wZ (qy t [124,124]);have K:∀p∈a,p.length<=400:=fun p Y=>by have:=xM (by rw[d];exact Y);omega
 have U:a.length<=401:=by have:=Zu (s:=t) (sep:=[124,124]) (by simp);rw[d]at this;omega
 have b:Yj t=match Yi [] true a with
  |none=>([],10)
  |some o=>if o.2=false then([],1)else if(100:Int)<o.1.length then([],2)else(o.1,0):=by unfold Yj;rw[ze j,d]
 rw[d]at B;simp[j,B];refine zL (fun k σ Y Z=>σ 14=.own 0 0 a.length/\σ 15=int a.length/\σ 16=int k/\1<=Z/\Y 0=some (VD a)/\RrI a k Y Z (σ 4) (σ 5)) a.length
  ⟨by simp,by simp,by simp,by simp,by simp,[],true,.inl ⟨by simp,rfl⟩,(fun s hs=>by cases hs),by simp,by simp,by simp⟩ ?_
 rintro k σ Y Z hk ⟨g,h,i,W,Q,o,R,G,y,X,z,e⟩;by_cases f:k<a.length
 ·have C:=qe k;obtain⟨s,hs⟩:=wZ (a[k]);have Ls:s.length<=400:=K s (by rw[<-hs];exact zi f);have c:=fun Y Z=>ZM JC s Y Z (by unfold zA;omega)
  have u:Y 0=some ⟨9,1,true,a.map fun p=>[str p]⟩:=Q;rw[zc f,hs]at e;simp only[Yi]at e;cases q:Xw s with
  |none=>
   rw[q]at e;simp only at e;rw[e]at b;simp only at b;have L:YJ s=([],10):=by unfold YJ;rw[q]
   simp only[JC,L]at c;simp[g,h,i,f,u,hs,c,b,qn,qB,f180]
  |some m=>
   rw[q]at e;simp only at e;have L:YJ s=(m.1,if m.2=true then 0 else 1):=by unfold YJ;rw[q]
   obtain⟨M,g2⟩:=OL q;have hlm:=KU or o m.1;obtain⟨x,Y',Z',v,hX,S,N⟩:=Fq 0 or zil G (y.small (by unfold zA;omega)) (M.small (by unfold zA;omega)) y M;have D:Y' 0=some (VD a):=by rw[N 0 (by omega) (G.box u (by simp))];exact Q
   have l:∀n:Int,n=(if(R&&m.2)=true then 0 else 1)->RrI a (k+1) Y' Z' x (int n):=fun n hn=>⟨_,_,hX,xN or y M,by omega,by rw[hn],e⟩
   simp only[JC,L]at c;cases H:m.2
   ·rw[H]at c l;simp at c;simp[g,h,i,f,u,hs,c,v,C];exact⟨by omega,by omega,D,l 1 (by simp)⟩
   ·rw[H]at c l;simp at c;simp[g,h,i,f,u,hs,c,v,C];exact⟨by omega,by omega,D,by rw[z];exact l _ (by simp)⟩
 ·obtain rfl:k=a.length:=by omega
  rw[zp]at e;simp only[Yi]at e;rw[e]at b;simp only at b;cases R
  ·simp at b z;simp[g,h,i,z,b,qn,qB,f180]
  ·simp at b z;have w:=G.len;by_cases r:(100:Int)<o.length
   ·have A:100<o.length:=by omega
    rw[zd r]at b;simp[g,h,i,z,w,r,b,qn,qB,f180]
   ·have A:¬100<o.length:=by omega
    rw[ze r]at b;rcases G with⟨I,rfl⟩|⟨id,xs,hid,I,H,E⟩
    ·simp[g,h,i,z,I,b,qn,qB,f180]
    ·rw[I]at w;have PO:xs.length=o.length:=by have:=zo List.length E;simpa[qn]using this
     have F:¬(100:Int)<xs.length:=by omega
     simp[g,h,i,z,I,F,H,E,b,qB,f180]
theorem iu:zg prog 180 (hP (bz EC)):=
 W6 (fn:=f180) zce (qX func180) false [] _ fun args r h w S vs a=>by obtain⟨l,rfl,Y,rfl⟩:=zO h;obtain⟨b,c,d⟩:=mw l Y;exact⟨_,b,a,by simp[f180],c,d⟩
theorem dm:zg prog 177 (hP (mi xz)):=
 yy (fn:=f177) je (qX func177) false [] _ fun args r h=>by obtain⟨a,rfl,rfl⟩:=J0 h;refine⟨by simp[f177],_,zn rfl ?_,z8 _⟩;by_cases b:3<=a<;>simp[b,xz,jG,wK,f177]
theorem fP:zg prog 102 (hP (mi ZQ)):=
 yy (fn:=f102) je (qX func102) false [] _ fun args r h=>by obtain⟨a,rfl,rfl⟩:=J0 h;refine⟨by simp[f102],_,zn rfl ?_,z8 _⟩;by_cases b:7<=a<;>simp[b,ZQ,jG,wK,f102]
noncomputable abbrev Crwv:Ctx:=zV prog [(177,hP (mi xz))]
theorem zcf:Gd Crwv:=zW mixed ⟨dm,trivial⟩
theorem T5(a:Int):Wi a=(a==2||xz a||a==12):=by
 unfold Wi xz jG;by_cases h:a=2
 ·subst h;decide
 ·have b:=jN h;rw[b];congr 1;rw[qA];simp;omega
theorem Cn:zg prog 176 (hP (mi Wi)):=
 yy (fn:=f176) zcf (qX func176) false [] _ fun args r h=>by obtain⟨a,rfl,rfl⟩:=J0 h;refine⟨by simp[f176],_,zn rfl ?_,z8 _⟩;rw[T5];cases b:a==2<;>cases c:xz a<;>simp[b,c,wK,f176]
noncomputable def FCL (n:Nat):zb->Option O:=qd (α:=qO×Int) (fun a=>[.agg a.1.V,int a.2]) (fun a=>a.1.parts<=zA/\a.1.parts<=n/\0<=a.2/\a.2+a.1.parts<=536870912) (fun a=>.w5 [int (a.1.rp a.2).1,wb (a.1.rp a.2).2])
theorem Ft(n:Nat)(c:qO)(l:Int)(Y:Hp)(Z:Nat)(h:c.parts<=zA/\c.parts<=n/\0<=l/\l+c.parts<=536870912):hP (FCL n) [.agg c.V,int l] Y Z=some (.w5 [int (c.rp l).1,wb (c.rp l).2],Y,Z):=
 QL (c,l) _ _ (by simp only[zC,Yb];rfl) (fun x y e=>by obtain⟨a,b⟩:=x;obtain⟨d,f⟩:=y;simp only[zj,zG,O.agg.injEq]at e;rw[xx e.1,qR e.2]) h (.inl rfl)
noncomputable abbrev Crpa (n:Nat):Ctx:=zV prog [(143,hP (FCL n))]
def PaI(c:qO)(l:Int)(k:Nat)(v w:O):Prop:=∃s:Int×Bool,v=int s.1/\w=wb s.2/\0<=s.1/\s.1+y7 (c.args.drop k)<=268435457/\c.rp l=C6 (c.args.drop k) l s
theorem T6(s:Int×Bool):(s.2||decide (200<s.1))=Jz s:=rfl
theorem Co(n:Nat)(c:qO)(l:Int)(h:c.parts<=zA/\c.parts<=n+1/\0<=l/\l+c.parts<=536870912):zv (Crpa n) f143 [.agg c.V,int l]=some (.w5 [int (c.rp l).1,wb (c.rp l).2]):=by
 have x:=Ja c;have hpe:=Tw c l;have y:=cO c.args;obtain⟨z,H,A,B⟩:=h;unfold zA at z;refine zn rfl ?_;simp;refine zL (fun k σ Y Z=>σ 1=int l/\σ 15=.sl 7 (c.args.map qO.V)/\σ 16=int c.args.length/\σ 17=int k/\PaI c l k (σ 6) (σ 7)) c.args.length
  ⟨by simp,by simp,by simp,by simp,(1,decide (20<l)),by simp,by simp,by simp,by rw[wY];simp only;omega,by rw[hpe,wY]⟩ ?_
 rintro k σ Y Z I ⟨m,d,e,f,s,o,p,C,D,g⟩;by_cases a:k<c.args.length
 ·have J:=cN (zi a);have E:=qe k;have r:=wq (l+1);have F:y7 (c.args.drop k)=c.args[k].parts+y7 (c.args.drop (k+1)):=by rw[zc a,y7]
  have b:=T6 s;cases q:Jz s
  ·rw[q]at b;have i:=b;rw[wP]at i;obtain⟨w,G⟩:=i;have t:¬200<s.1:=by simpa using G
   obtain⟨K,L,_,_⟩:=E2 c.args[k] (l+1);have j:=fun Y Z=>Ft n c.args[k] (l+1) Y Z ⟨by unfold zA;omega,by omega,by omega,by omega⟩
   rw[Tx a]at g;have u:uP s (c.args[k].rp (l+1))=(s.1+(c.args[k].rp (l+1)).1,s.2||(c.args[k].rp (l+1)).2):=by unfold uP;rw[q];rfl
   rw[u]at g;have v:=wq (s.1+(c.args[k].rp (l+1)).1);simp[m,d,e,f,o,p,w,t,a,j,E,r,v];exact⟨by omega,(s.1+(c.args[k].rp (l+1)).1,s.2||(c.args[k].rp (l+1)).2),rfl,by simp[w],by simp only;omega,by simp only;omega,g⟩
  ·rw[q]at b;rw[eZ q]at g;cases hd:s.2
   ·rw[hd]at b;simp at b;simp[m,d,e,f,o,p,hd,b,a,g,wK,f143]
   ·simp[m,d,e,f,o,p,hd,a,g,wK,f143]
 ·obtain rfl:k=c.args.length:=by omega
  rw[zp]at g;simp only[C6]at g;simp[m,d,e,f,o,p,g,wK,f143]
theorem sW:∀n,zg prog 143 (hP (FCL n)):=by
 intro n
 induction n with
 |zero=>
  exact aV ⟨_,func143,by kernel_rfl,by kernel_rfl⟩ fun args r h=>by obtain⟨⟨c,l⟩,_,⟨_,a,_⟩,_⟩:=zO h;have:=gv c;simp only at a;omega
 |succ n b=>have d:Gd (Crpa n):=zW mixed ⟨b,trivial⟩;exact vM d func143 false [] fun⟨c,l⟩ e=>⟨zI (zl 2) (by decide),_,Co n c l e,z8 _⟩
noncomputable abbrev Crla:Ctx:=zV prog [(143,hP (FCL zA))]
theorem Fu(c:qO)(a:c.parts<=zA):zv Crla f100 [.agg c.V]=some (wb (Jz (c.rp 1))):=by
 have b:=a;unfold zA at b;have d:=fun Y Z=>Ft zA c 1 Y Z ⟨a,a,by omega,by omega⟩
 refine zn rfl ?_;unfold Jz;cases hd:(c.rp 1).2
 ·simp[d,hd,wK,f100]
 ·simp[d,hd,wK,f100]
theorem sX:zg prog 100 (hP (FCp (fun c=>wb (Jz (c.rp 1))) zA)):=
 vM (zW mixed ⟨sW zA,trivial⟩:AM.Good Crla _) func100 false [] fun c a=>⟨zI (zl 1) (by decide),_,Fu c a.1,z8 _⟩
theorem Cp:zg prog 100 (GC fun c=>wb (Jz (c.rp 1))):=ui (Sa _ zA) sX
def Ml(c:qO):Bool:=(!(c.kind==4)&&(!c.attr.isEmpty||c.op != 0))||(c.kind != 5&&!c.name.isEmpty)
def f2R(c:qO):Bool:=(!((c.kind==4)&&Wi c.op)&&decide (0<c.jh.length))||(!((c.kind==4)&&ZQ c.op)&&!c.pat.isEmpty)
noncomputable abbrev Crfo:Ctx:=zV prog [(176,hP (mi Wi)),(102,hP (mi ZQ)),(177,hP (mi xz))]
theorem zcg:Gd Crfo:=zW mixed ⟨Cn,fP,dm,trivial⟩
theorem Cq(c:qO)(h:c.cb<=zA):zv Crfo f144 [.agg c.V]=some (wb (pJ c)):=by
 refine zn rfl ?_;have g:pJ c=(!Ml c&&!f2R c&&(if c.kind=3 then(c.args.length:Int)==1 else if c.kind=4\/c.kind=5 then((c.args.length:Int)==0&&(!xz c.op||(c.jh.length:Int)==1))else true)):=rfl;refine y1 (fun st=>st.σ 1=.ref 0 0 0/\st.Y 0=some ⟨53,7,false,[c.V]⟩) (by simp) ?_;rintro⟨σ,Y,Z⟩ ⟨e,f⟩;simp only at e f;refine y1 (fun st=>st.σ 1=.ref 0 0 0/\st.Y 0=some ⟨53,7,false,[c.V]⟩/\st.σ 3=wb (c.kind==4)) (by simp[e,f]) ?_;clear e f σ Y Z;rintro⟨σ,Y,Z⟩ ⟨e,f,l⟩;simp only at e f l;refine y1 (fun st=>st.σ 1=.ref 0 0 0/\st.Y 0=some ⟨53,7,false,[c.V]⟩/\st.σ 3=wb (c.kind==4)/\Ml c=false) ?_ ?_
 ·by_cases j:c.kind=4
  ·have s:(c.kind==5)=false:=by rw[j];rfl
   have d:(c.kind==4)=true:=by rw[j];rfl
   cases m:c.name.isEmpty
   ·have i:Ml c=true:=by simp[Ml,j,m]
    rw[i]at g;simp[e,f,l,j,m,g,wK,f144]
   ·have i:Ml c=false:=by simp[Ml,j,m]
    simp[e,f,l,j,m,i]
  ·have d:=jN j;cases p:(!c.attr.isEmpty||c.op != 0)
   ·have n:=p;rw[wP]at n;obtain⟨w,x⟩:=n;simp at w x;by_cases s:c.kind=5
    ·have i:Ml c=false:=by simp[Ml,s,p]
     simp[e,f,l,s,w,x,i]
    ·have q:=jN s;have t:(c.kind != 5)=true:=by simp[bne,q]
     cases m:c.name.isEmpty
     ·have i:Ml c=true:=by simp[Ml,s,m]
      rw[i]at g;simp[e,f,l,j,d,t,w,x,m,g,wK,f144]
     ·have i:Ml c=false:=by simp[Ml,p,m]
      simp[e,f,l,j,d,t,w,x,m,i]
   ·have i:Ml c=true:=by simp[Ml,j,p]
    rw[i]at g;cases u:c.attr.isEmpty
    ·simp[e,f,l,j,d,u,g,wK,f144]
    ·rw[u]at p;have n:(c.op==0)=false:=by simpa using p
     have z:(c.op != 0)=true:=by simpa using p
     simp[e,f,l,j,d,u,n,z,g,wK,f144]
 clear e f l σ Y Z;rintro⟨σ,Y,Z⟩ ⟨e,f,l,A⟩;simp only at e f l;rw[A]at g;refine y1 (fun st=>st.σ 1=.ref 0 0 0/\st.Y 0=some ⟨53,7,false,[c.V]⟩/\f2R c=false) ?_ ?_
 ·have o:∀a b:Bool,((c.kind==4)&&Wi c.op)=a->((c.kind==4)&&ZQ c.op)=b->f2R c=((!a&&decide (0<c.jh.length))||(!b&&!c.pat.isEmpty)):=fun a b F G=>by unfold f2R;rw[F,G]
  by_cases j:c.kind=4
  ·have d:(c.kind==4)=true:=by rw[j];rfl
   cases D:Wi c.op<;>cases E:ZQ c.op<;>cases Y1:c.pat.isEmpty<;>by_cases v:0<c.jh.length <;>
    (have i:=o _ _ rfl rfl;rw[d,D,E,Y1]at i;simp[v]at i;simp[e,f,l,j,D,E,Y1,v,i,g,wK,f144])
  ·have d:=jN j;cases Y1:c.pat.isEmpty<;>by_cases v:0<c.jh.length <;>
    (have i:=o _ _ rfl rfl;rw[d,Y1]at i;simp[v]at i;simp[e,f,l,j,d,Y1,v,i,g,wK,f144])
 clear e f l σ Y Z;rintro⟨σ,Y,Z⟩ ⟨e,f,B⟩;simp only at e f;rw[B]at g;simp only[Bool.not_false,kv]at g;by_cases y:c.kind=3
 ·rw[zd y]at g;simp[e,f,y,g,wK,f144]
 have C:=jN y;rw[ze y]at g;by_cases r:c.kind=4\/c.kind=5
 ·rw[zd r]at g;cases u:((c.args.length:Int)==0)<;>cases H:xz c.op<;>rcases r with k|k <;>
   simp[e,f,k,u,H,g,wK,f144]
 ·rw[ze r]at g;have d:(c.kind==4)=false:=by simp;omega
  have q:(c.kind==5)=false:=by simp;omega
  simp[e,f,C,d,q,g,wK,f144]
theorem sY:zg prog 144 (GC fun c=>wb (pJ c)):=
 yy (fn:=f144) zcg (qX func144) false [] _ fun args r h=>by obtain⟨c,rfl,a,rfl⟩:=Wu h;exact⟨by simp[f144],_,Cq c a.1,z8 _⟩
end Go.Q
