/- Lemmas. -/
import Derived.Test.YtnbicamkimignaaGreatDoorG25
set_option maxRecDepth 8000
set_option maxHeartbeats 4000000
open Go Proofs Proofs.YtnbicamkimignaaGreatDoor Proofs.Tryz RowKit AM SpanLaw Q Zz
open Go.IntKind renaming i64→i6
namespace Go.Q
noncomputable abbrev Crcv:Ctx:=qb prog [(204,zi false [] (T4 ya)),(226,zi false [] Of),(337,zi false [] (Jv (fun a b=>int (yc a b)) fun _ _=>True))]
theorem zaY:AM.Good Crcv (fun g=>[204,226,337].contains g):=zI mixed ⟨Wc,fun _=>zt _ _,Xu,fun _=>zt _ _,ep,fun _=>zt _ _,trivial⟩
theorem V7(v w:yJ)(W:v.small)(X:w.small):zz Crcv f318 [.agg v.V,.agg w.V]=some (int (Qn v w)):=by
 obtain⟨a,b,c,p⟩:=v;obtain⟨t,u,x,d⟩:=w;obtain⟨Y1,Y2⟩:=W;obtain⟨y,z⟩:=X;simp only at Y1 Y2 y z;refine zo rfl ?_;obtain⟨o,T⟩:∃o,V4 [ya a t,ya b u,ya c x]=o:=⟨_,rfl⟩;have j:∀(Y:Hp) (Z id:Nat),Y id=some ⟨3,1,true,[[int (ya a t)],[int (ya b u)],[int (ya c x)]]⟩→zi false [] Of [.own id 0 3] Y Z=some (int o,Y,Z):=fun Y Z id hh=>T ▸ dt [_,_,_] Y Z id _ (by show 3≤zG;decide) hh
 have e:Qn ⟨a,b,c,p⟩ ⟨t,u,x,d⟩=if o=0 then(if p.length=0 then(if d.length=0 then 0 else 1)else if d.length=0 then -1 else y1 yc p d)else o:=by rw[←T];rfl
 by_cases G:o=0
 case neg=>
  have H:(o != 0)=true:=by simpa using G
  simp[yJ.V,j,zv,zN,zy,G,H,e,f318]
 subst G;have g:(qd p).length=p.length:=by simp[qd]
 have f:(qd d).length=d.length:=by simp[qd]
 by_cases A:p.length=0
 ·have s:ya d.length 0=if d.length=0 then 0 else 1:=by unfold ya;split<;>(try split)<;>(try split)<;>first|omega|rfl
  simp[yJ.V,j,zv,zN,zy,A,e,g,f,s,f318]
 by_cases I:d.length=0
 ·have n:((p.length:Int)==0)=false:=by simpa using A
  have s:ya 0 p.length=-1:=by unfold ya;rw[zf (by omega)]
  simp[yJ.V,j,zv,zN,zy,A,n,I,e,g,f,s,f318]
 have n:((p.length:Int)==0)=false:=by simpa using A
 have J:((d.length:Int)==0)=false:=by simpa using I
 obtain⟨m,hm,K,L,B⟩:=AV p.length d.length;unfold zG at Y1 y;have e:Qn ⟨a,b,c,p⟩ ⟨t,u,x,d⟩=y1 yc p d:=by rw[e];simp[A,I]
 rw[e];simp[yJ.V,j,zv,zN,zy,n,J,g,f,hm];refine zQ (fun k C Y Z=>C 2=.ref 0 0 0∧C 3=.ref 1 0 0∧Y 0=some ⟨235,4,false,[[int a,int b,int c,.sl 1 (qd p)]]⟩∧Y 1=some ⟨235,4,false,[[int t,int u,int x,.sl 1 (qd d)]]⟩∧C 51=int m∧C 52=int k∧y1 yc p d=y1 yc (p.drop k) (d.drop k)) m
  ⟨by simp,by simp,by simp,by simp,by simp,by simp,by simp⟩ ?_
 rintro k C Y Z hk ⟨M,N,P,Q,q,r,l⟩;by_cases D:k<m
 ·have h:k<p.length:=by omega
  have i:k<d.length:=by omega
  have R:i6.wrap ((k:Int)+1)=(k:Int)+1:=zn (by omega) (by omega);have s:=fun Y Z=>sM p[k] d[k] Y Z (Y2 _ (zm h)) (z _ (zm i))
  have U:=Xs h;have E:=Xs i;rw[zd h,zd i]at l;simp only[y1]at l;by_cases F:yc p[k] d[k]=0
  ·rw[zf F]at l;simp[M,N,q,r,P,Q,D,h,i,g,f,U,E,s,F,R];exact⟨by omega,l⟩
  ·rw[zj F]at l;have S:(yc p[k] d[k] != 0)=true:=by simpa using F
   simp[M,N,q,r,P,Q,D,h,i,g,f,U,E,s,S,l,f318]
 ·obtain rfl:k=m:=by omega
  rw[om yc K L B]at l;simp[M,N,q,r,P,Q,g,f,l,f318]
theorem VG:zg prog 318 (qh [.g vB,.g vB] (Pv fun v w=>int (Qn v w))):=
 wo (fn:=f318) zaY ⟨_,func318,by kernel_rfl,rfl,by kernel_rfl⟩ _ _ fun args r h=>by obtain⟨⟨v,w⟩,rfl,⟨a,b⟩,rfl⟩:=zr h;exact⟨by simp[f318],_,V7 v w a b,qM.refl _⟩
noncomputable abbrev Crcu:Ctx:=qb prog [(318,qh [.g vB,.g vB] (Pv fun v w=>int (Qn v w)))]
theorem zaZ:AM.Good Crcu (fun g=>([]:List Nat).contains g):=zI mixed ⟨VG,by simp,trivial⟩
theorem er(x y:Cut)(l:x.v.small)(m:y.v.small):zz Crcu f285 [.agg x.V,.agg y.V]=some (int (wX x y)):=by
 obtain⟨⟨a,b,c,p⟩,f⟩:=x;obtain⟨⟨e,g,h,i⟩,f'⟩:=y;refine zo rfl ?_;have d:=fun Y Z=>Ix ⟨a,b,c,p⟩ ⟨e,g,h,i⟩ Y Z l m
 simp only[yJ.V]at d;by_cases j:Qn ⟨a,b,c,p⟩ ⟨e,g,h,i⟩=0
 ·cases f<;>cases f'<;>simp[Cut.V,d,j,wX,f285]
 ·have k:(Qn ⟨a,b,c,p⟩ ⟨e,g,h,i⟩==0)=false:=by simpa using j
  simp[Cut.V,d,j,k,wX,f285]
theorem Qc:zg prog 285 (qh [.g ka,.g ka] (CU fun v w=>int (wX v w))):=
 wo (fn:=f285) zaZ ⟨_,func285,by kernel_rfl,rfl,by kernel_rfl⟩ _ _ fun args r h=>by obtain⟨⟨v,w⟩,rfl,⟨a,b⟩,rfl⟩:=zr h;exact⟨by simp[f285],_,er v w a b,qM.refl _⟩
theorem Ng{l:List wR}{c:Cut}{k:Nat}(h:k<l.length):yP (l.drop k) c=(vX l[k] c||yP (l.drop (k+1)) c):=by rw[zd h];rfl
noncomputable abbrev Crco:Ctx:=qb prog [(285,qh [.g ka,.g ka] (CU fun v w=>int (wX v w)))]
theorem za0:AM.Good Crco (fun g=>[285].contains g):=zI mixed ⟨Qc,fun _=>jx _ _,trivial⟩
theorem A7(l:List wR)(c:Cut)(E:kg l)(C:c.v.small):zz Crco f257 [.sl 11 (qz l),.agg c.V]=some (wq (yP l c)):=by
 obtain⟨z,A⟩:=E;refine zo rfl ?_;unfold zG at z;have d:(qz l).length=l.length:=by simp[qz]
 simp[d,Cut.V];refine zQ (fun k j Y Z=>j 3=.ref 0 0 0∧1≤Z∧Y 0=some ⟨237,5,false,[c.V]⟩∧j 7=.sl 11 (qz l)∧j 8=int l.length∧j 9=int k∧yP l c=yP (l.drop k) c) l.length
  ⟨by simp,by simp,by simp[Cut.V],by simp,by simp,by simp,by simp⟩ ?_
 rintro k j Y Z G ⟨m,F,n,o,p,q,g⟩;by_cases b:k<l.length
 ·have D:i6.wrap ((k:Int)+1)=(k:Int)+1:=zn (by omega) (by omega);obtain⟨s,hs⟩:∃s,l[k]=s:=⟨_,rfl⟩;have r:s.small:=A s (by rw[←hs];exact zm b);have e:∀h:k<(qz l).length,(qz l)[k]=s.V:=fun h=>by simp[qz,hs]
  have t:=fun Y Z=>Kz s.lo c Y Z r.1 C
  have u:=fun Y Z=>Kz c s.hi Y Z C r.2
  have x:¬0=Z:=by omega
  have n1:¬Z=0:=by omega
  rw[Ng b,hs]at g;have f:vX s c=(decide (wX s.lo c≤0)&&(s.vL||decide (wX c s.hi<0))):=rfl;simp only[wR.V,Cut.V,q9,wN]at t u e n;cases y:vX s c
  ·rw[y,jo]at g;rw[y]at f;by_cases B:wX s.lo c≤0
   ·rw[xE B,yZ]at f;have a:=f.symm;rw[w5]at a;simp[m,o,p,q,b,d,e,t,u,n,x,n1,B,a.1,a.2,D,-decide_eq_false_iff_not];exact⟨by omega,rfl,g⟩
   ·simp[m,o,p,q,b,d,e,t,u,n,x,n1,B,D];exact⟨by omega,rfl,g⟩
  ·rw[y,eM]at g;rw[y]at f;have a:=f.symm;simp only[zF,ql]at a;have w:=a.2;cases i:s.vL
   ·rw[i,jo,ql]at w;simp[m,o,p,q,b,d,e,t,u,n,x,n1,a.1,i,w,g,f257]
   ·simp[m,o,p,q,b,d,e,t,u,n,x,n1,a.1,i,g,f257]
 ·obtain rfl:k=l.length:=by omega
  have g:yP l c=false:=by rw[g,zl];rfl
  simp[m,o,p,q,g,f257]
theorem rD:zg prog 257 (qh [.s 11 jM,.g ka] (FRC fun l c=>wq (yP l c))):=
 wo (fn:=f257) za0 ⟨_,func257,by kernel_rfl,rfl,by kernel_rfl⟩ _ _ fun args r h=>by obtain⟨⟨l,c⟩,rfl,⟨a,b⟩,rfl⟩:=zr h;exact⟨by simp[f257],_,A7 l c a b,qM.refl _⟩
def QZ(w:Int)(a b:Bool):Bool:=if w=0 then a||b else if w=1 then a&&b else a&&!b
def FTk:zc→Option O
 |[.v (.int .i64 w),.v (.bool a),.v (.bool b)]=>some (wq (QZ w a b))
 |_=>none
@[simp]theorem XZ(w:Int)(a b:Bool)(Y:Hp)(Z:Nat):zi false [] FTk [.v (.int .i64 w),.v (.bool a),.v (.bool b)] Y Z=some (wq (QZ w a b),Y,Z):=qe rfl rfl (.inl rfl)
theorem ED:zg prog 256 (zi false [] FTk):=
 qq (fn:=f256) w8 ⟨_,func256,by kernel_rfl,rfl,by kernel_rfl⟩ false [] _ fun args r h=>by
  have:∃w a b,args=[int w,wq a,wq b]∧r=wq (QZ w a b):=by
   unfold FTk at h;split at h
   ·injection h with h;exact⟨_,_,_,rfl,h.symm⟩
   ·cases h
  obtain⟨w,a,b,rfl,rfl⟩:=this;refine⟨by simp[f256],_,zo rfl ?_,qm _⟩;by_cases c:w=0
  ·subst c;simp[QZ,f256]
  ·have d:(w==0)=false:=by simpa using c
   by_cases e:w=1
   ·subst e;simp[QZ,f256]
   ·have f:(w==1)=false:=by simpa using e
    simp[c,d,e,f,QZ,f256]
def jK(a:Part×Bool)(i:Nat)(t:za):Option (Part×Bool):=
 if yq t=true then some (a.1,true)else if a.2=false∧(Zc t).isSome=true then some (a.1.put i ((Zc t).getD 0),false)else none
def jv:Part×Bool→Nat→List za→Option (Part×Bool)
 |st,_,[]=>some st
 |st,i,t::l=>match jK st i t with
  |some q=>jv q (i+1) l
  |none=>none
def rdR(s:za):Option Part:=if 3<(qC (Lib.cut s [45]).1 [46]).length then none else
 match jv (wO,false) 0 (qC (Lib.cut s [45]).1 [46])with
 |none=>none
 |some a=>if(xA s).any yF=true then none else if((Lib.cut s [45]).2.2=false∨a.1.has=3)∧(xA s).length≤10 then some {a.1 with pre:=xA s}else none
def Qo(s:za):Option Part:=match rdR s with
 |some p=>if p.has=0 then none else some p
 |none=>none
theorem KP{t:za}(h:yq t=true):Zc t=none:=by simp only[yq,qH,eO]at h;rcases h with(rfl|rfl)|rfl<;>rfl
theorem A8(p:Part)(i:Nat)(n:Int):(p.put i n).has=p.has+1∧(p.put i n).pre=p.pre:=by unfold Part.put;split<;>exact⟨rfl,rfl⟩
theorem gp:∀(l:List za) (p:Part) (i:Nat),p.has<i→i≠0→(jv (p,true) i l).map (·.1)=yC p i l∧∀b,jv (p,true) i l=some b→b.1=p
 |[],p,i,_,_=>⟨rfl,fun b h=>by simp only[jv]at h;injection h with h;rw[←h]⟩
 |t::l,p,i,h,f=>by
  have c:¬p.has=i:=by omega
  obtain⟨g,j⟩:=gp l p (i+1) (by omega) (by omega);by_cases a:yq t=true
  ·have d:jK (p,true) i t=some (p,true):=by simp[jK,a]
   have e:yd p i t=some p:=by simp[yd,a,f,KP a]
   simp only[jv,yC,d,e];exact⟨g,j⟩
  ·have d:jK (p,true) i t=none:=by simp[jK,a]
   have e:yd p i t=none:=by simp[yd,a,c]
   simp only[jv,yC,d,e];exact⟨rfl,fun b h=>by cases h⟩
theorem EE:∀(l:List za) (p:Part) (i:Nat),p.has=i→i≠0→(jv (p,false) i l).map (·.1)=yC p i l
 |[],p,i,_,_=>rfl
 |t::l,p,i,h,e=>by
  by_cases a:yq t=true
  ·have b:jK (p,false) i t=some (p,true):=by simp[jK,a]
   have c:yd p i t=some p:=by simp[yd,a,e,KP a]
   simp only[jv,yC,b,c];exact(gp l p (i+1) (by omega) (by omega)).1
  ·cases d:Zc t with
   |none=>
    have b:jK (p,false) i t=none:=by simp[jK,a,d]
    have c:yd p i t=none:=by simp[yd,a,d]
    simp only[jv,yC,b,c];rfl
   |some n=>
    have b:jK (p,false) i t=some (p.put i n,false):=by simp[jK,a,d]
    have c:yd p i t=some (p.put i n):=by simp[yd,d,h]
    simp only[jv,yC,b,c];exact EE l (p.put i n) (i+1) (by rw[(A8 p i n).1];omega) (by omega)
theorem Nh(t:za)(l:List za):(∃a,jv (wO,false) 0 (t::l)=some a∧((a.1.has=0∧yC wO 0 (t::l)=none)∨(1≤a.1.has∧yC wO 0 (t::l)=some a.1)))∨(jv (wO,false) 0 (t::l)=none∧yC wO 0 (t::l)=none):=by
 by_cases c:yq t=true
 ·have d:jK (wO,false) 0 t=some (wO,true):=by simp[jK,c]
  have b:yd wO 0 t=none:=by simp[yd,KP c]
  simp only[jv,yC,d,b];cases e:jv (wO,true) 1 l with
  |none=>exact .inr ⟨by simp,trivial⟩
  |some a=>have:=(gp l wO 1 (by show(0:Int)<1;omega) (by omega)).2 a e;exact .inl ⟨a,by simp,.inl ⟨by rw[this];rfl,trivial⟩⟩
 ·cases f:Zc t with
  |none=>
   have d:jK (wO,false) 0 t=none:=by simp[jK,c,f]
   have b:yd wO 0 t=none:=by simp[yd,c,f]
   simp only[jv,yC,d,b];exact .inr ⟨trivial,trivial⟩
  |some n=>
   have d:jK (wO,false) 0 t=some (wO.put 0 n,false):=by simp[jK,c,f]
   have b:yd wO 0 t=some (wO.put 0 n):=by simp[yd,f,wO]
   have h:(wO.put 0 n).has=1:=by rw[(A8 wO 0 n).1];rfl
   have hs:=EE l (wO.put 0 n) 1 h (by omega);simp only[jv,yC,d,b];cases e:jv (wO.put 0 n,false) 1 l with
   |none=>rw[e]at hs;exact .inr ⟨by simp,by simpa using hs.symm⟩
   |some a=>
    rw[e]at hs;simp only[zH]at hs;refine .inl ⟨a,by simp,.inr ⟨?_,by simpa using hs.symm⟩⟩;have g:yC wO 0 (t::l)=some a.1:=by simp only[yC,b];simpa using hs.symm
    have:=(lK (t::l) wO a.1 0 g (by simp[wO])).2.2.2.2.2.1;exact this (by simp)
theorem zep{s:za}(h:Lib.contains s [45]=false):Lib.cut s [45]=(s,[],false):=by unfold Lib.contains at h;rw[jh]at h;unfold Lib.cut;rw[zj h]
theorem za1{s:za}(h:Lib.contains s [45]=true):(Lib.cut s [45]).2.2=true:=by unfold Lib.contains at h;rw[ql]at h;unfold Lib.cut;rw[zf h]
theorem za2(a b c:Int)(l:List za)(f:0≤a∧a≤999999)(g:0≤b∧b≤999999)(i:0≤c∧c≤999999):Ys ⟨a,b,c,l⟩=0↔l.any yF=false∧l.length≤10:=by
 have e:jg a 0 999999=true∧jg b 0 999999=true∧jg c 0 999999=true:=by simp[jg];omega
 unfold Ys;rw[zf e];simp only;by_cases d:10<l.length
 ·rw[zf d];constructor
  ·intro h;cases h
  ·rintro⟨_,h⟩;omega
 ·rw[zj d];cases j:l.any yF
  ·simp;omega
  ·simp
theorem lQ(s:za):Qo s=if(zY s).2=true then some (zY s).1 else none:=by
 cases L:Lib.contains s [45]
 ·have p:=zep L;have r:xA s=[]:=by unfold xA;rw[p];rfl
  unfold Qo rdR zY;simp only[L,zU,wK,p,r];by_cases y:3<(qC s [46]).length
  ·rw[zf y,zf y];rfl
  rw[zj y,zj y];obtain⟨t,l,D⟩:∃t l,qC s [46]=t::l:=by
   cases h:qC s [46]with
   |nil=>exact absurd h (sV _ _)
   |cons t l=>exact⟨t,l,rfl⟩
  rw[D];rcases Nh t l with⟨g,E,⟨C,x⟩|⟨C,x⟩⟩|⟨E,x⟩
  ·rw[E,x];simp[C]
  ·have Y:g.1.pre=[]:=(lK (t::l) wO g.1 0 x (by simp[wO])).2.2.2.2.2.2;have Q:({g.1 with pre:=[]}:Part)=g.1:=by obtain⟨⟨a,b,c,d,e⟩,f⟩:=g;simp only at Y;subst Y;rfl
   have R:¬g.1.has=0:=by omega
   rw[E,x];simp[R,Q]
  ·rw[E,x];rfl
 ·have p:=za1 L;unfold Qo rdR zY;rw[zf L,p];simp only[Bool.true_eq_false,false_or];obtain⟨l,D⟩:∃l,qC (Lib.cut s [45]).1 [46]=l:=⟨_,rfl⟩;obtain⟨pre,r⟩:∃pre,xA s=pre:=⟨_,rfl⟩;rw[D,r];have k:∀(m:List za) (g w:Part×Bool) (i:Nat),jv g i m=some w→w.1.has≤g.1.has+m.length:=by
   intro m
   induction m with
   |nil=>intro g w i h;simp only[jv]at h;injection h with h;rw[←h];simp
   |cons t m S=>
    intro g w i h;simp only[jv]at h;cases hs:jK g i t with
    |none=>rw[hs]at h;cases h
    |some q=>
     rw[hs]at h;have E:=S q w (i+1) h;have C:q.1.has≤g.1.has+1:=by
      unfold jK at hs;split at hs
      ·injection hs with hs;rw[←hs];simp only;omega
      ·split at hs
       ·injection hs with hs;rw[←hs];simp only;rw[(A8 _ _ _).1];omega
       ·cases hs
     simp only[qa];omega
  by_cases y:l.length=3
  ·obtain⟨v,u,n,rfl⟩:∃a b c,l=[a,b,c]:=zcI y;unfold uX;rw[D,r];simp only;have z:¬3<[v,u,n].length:=by simp
   rw[zj z];cases F:Zc v with
   |none=>
    have G:∀g,jv (wO,false) 0 [v,u,n]=some g→g.1.has≤2:=by
     intro g h;simp only[jv]at h;cases hs:jK (wO,false) 0 v with
     |none=>rw[hs]at h;cases h
     |some q=>
      rw[hs]at h;have N:q.1.has=0:=by
       unfold jK at hs;split at hs
       ·injection hs with hs;rw[←hs];rfl
       ·rw[F]at hs;simp at hs
      have:=k [u,n] q g 1 (by simpa[jv]using h);simp only[qa,vV]at this;omega
    cases j:jv (wO,false) 0 [v,u,n]with
    |none=>rfl
    |some g=>
     have C:=G g j;have o:¬(g.1.has=3∧pre.length≤10):=by omega
     simp only[zj o];cases pre.any yF<;>rfl
   |some a=>
    have T:yq v=false:=by
     cases h:yq v with
     |false=>rfl
     |true=>rw[KP h]at F;cases F
    have M:jK (wO,false) 0 v=some (wO.put 0 a,false):=by simp[jK,T,F]
    cases H:Zc u with
    |none=>
     have G:∀g,jv (wO,false) 0 [v,u,n]=some g→g.1.has≤2:=by
      intro g h;simp only[jv,M]at h;cases hs:jK (wO.put 0 a,false) (0+1) u with
      |none=>rw[hs]at h;cases h
      |some q=>
       rw[hs]at h;have N:q.1.has=1:=by
        unfold jK at hs;split at hs
        ·injection hs with hs;rw[←hs];rfl
        ·rw[H]at hs;simp at hs
       have:=k [n] q g 2 (by simpa[jv]using h);simp only[qa,vV]at this;omega
     cases j:jv (wO,false) 0 [v,u,n]with
     |none=>rfl
     |some g=>
      have C:=G g j;have o:¬(g.1.has=3∧pre.length≤10):=by omega
      simp only[zj o];cases pre.any yF<;>rfl
    |some b=>
     have U:yq u=false:=by
      cases h:yq u with
      |false=>rfl
      |true=>rw[KP h]at H;cases H
     have P:jK (wO.put 0 a,false) (0+1) u=some ((wO.put 0 a).put 1 b,false):=by simp[jK,U,H]
     cases I:Zc n with
     |none=>
      have G:∀g,jv (wO,false) 0 [v,u,n]=some g→g.1.has≤2:=by
       intro g h;simp only[jv,M,P]at h;cases hs:jK ((wO.put 0 a).put 1 b,false) (0+1+1) n with
       |none=>rw[hs]at h;cases h
       |some q=>
        rw[hs]at h;have N:q.1.has=2:=by
         unfold jK at hs;split at hs
         ·injection hs with hs;rw[←hs];rfl
         ·rw[I]at hs;simp at hs
        simp only at h;injection h with h
        rw[←h];omega
      cases j:jv (wO,false) 0 [v,u,n]with
      |none=>rfl
      |some g=>
       have C:=G g j;have o:¬(g.1.has=3∧pre.length≤10):=by omega
       simp only[zj o];cases pre.any yF<;>rfl
     |some c=>
      have W:yq n=false:=by
       cases h:yq n with
       |false=>rfl
       |true=>rw[KP h]at I;cases I
      have X:jK ((wO.put 0 a).put 1 b,false) (0+1+1) n=some (((wO.put 0 a).put 1 b).put 2 c,false):=by simp[jK,W,I]
      have j:jv (wO,false) 0 [v,u,n]=some (((wO.put 0 a).put 1 b).put 2 c,false):=by simp only[jv,M,P,X]
      rw[j];have J:=za2 a b c pre (Vr F) (Vr H) (Vr I);by_cases K:Ys ⟨a,b,c,pre⟩=0
      ·obtain⟨A,B⟩:=J.1 K;simp[K,A,B,wO,Part.put]
      ·have z:¬(pre.any yF=false∧pre.length≤10):=fun h=>K (J.2 h)
       cases A:pre.any yF
       ·have B:¬pre.length≤10:=fun h=>z ⟨A,h⟩
        simp[K,B]
       ·simp[K]
  ·have hd:uX s=none:=by
    unfold uX;rw[D];split
    ·exact absurd rfl y
    ·rfl
   rw[hd];simp only[zU,wK];by_cases x:3<l.length
   ·rw[zf x]
   rw[zj x];cases j:jv (wO,false) 0 l with
   |none=>rfl
   |some g=>
    have h5:=k l (wO,false) g 0 j;have h6:g.1.has≤2:=by have:(wO:Part).has=0:=rfl;simp only[this]at h5;omega
    have o:¬(g.1.has=3∧pre.length≤10):=by omega
    simp only[zj o];cases pre.any yF<;>rfl
end Go.Q
namespace Go.AM
def cz(sh:Sh)(r y z:O)(x:O)(Y:Hp)(_:Nat):Prop:=∃a,(AM.freeze Y x).map (·.1)=some (.yb [a,y,z])∧sh.fix a=r
theorem rE{C:Ctx}{fn:Func}{code:Code}{args:zc}{sh:Sh}{r y z:O}(b:fn.body=some code)
  (h:Zf C code ⟨ve args,fun _=>none,0⟩ (JT C.P fn (cz sh r y z))):∃a,zz C fn args=some a∧qM a (.yb [r,y,z]):=by
 obtain⟨x,Y',f,c,a,d,e⟩:=zT b h;exact⟨.yb [a,y,z],by unfold zz;simp only[c];exact d,e ▸ (vp.cons (Q8 sh a) (.cons (qM.refl y) (.cons (qM.refl z) .nil))).yb⟩
end Go.AM
namespace Go.Q
def KW(s:za):yJ×Int×Bool:=if 3<(qC (Lib.cut s [45]).1 [46]).length then(cP,0,false)else
 match jv (wO,false) 0 (qC (Lib.cut s [45]).1 [46])with
 |none=>(cP,0,false)
 |some st=>if(xA s).any yF=true then(⟨st.1.n0,st.1.n1,st.1.n2,xA s⟩,0,false)else(⟨st.1.n0,st.1.n1,st.1.n2,xA s⟩,st.1.has,(!(Lib.cut s [45]).2.2||st.1.has==3)&&decide ((xA s).length≤10))
def HJ(s:za):O:=.yb [.agg (KW s).1.V,int (KW s).2.1,wq (KW s).2.2]
theorem HK{a:Part×Bool}{k:Nat}{l:List za}(h:k<l.length):jv a k (l.drop k)=match jK a k l[k]with
  |some q=>jv q (k+1) (l.drop (k+1))
  |none=>none:=by
 rw[zd h];rfl
noncomputable abbrev Crrv:Ctx:=qb prog [(279,zi false [] (Jv pO fun _ _=>True)),(219,yO [] FSp),(280,zi false [] FNm),(281,zi false [] (FS fun l=>!yF l))]
theorem za3:AM.Good Crrv (fun g=>([]:List Nat).contains g):=zI mixed ⟨mU,by simp,WC,by simp,rB,by simp,A4,by simp,trivial⟩
theorem eu(t:za)(ht:t.length+1≤zG):∃r0,zz Crrv f252 [str t]=some r0∧qM r0 (HJ t):=by
 refine rE (sh:=.g vB) (r:=.agg (KW t).1.V) (y:=int (KW t).2.1) (z:=wq (KW t).2.2) rfl ?_;have hcl:=Pl t [45];have u:=fun Y Z=>mT t [45] Y Z (by omega) (by decide)
 have E:=fun Y Z=>Z5 (Lib.cut t [45]).1 [46] Y Z (by omega) (by decide) (by decide)
 have v:=fun Y Z=>Z5 (Lib.cut t [45]).2.1 [46] Y Z (by omega) (by decide) (by decide)
 have G:∀p∈qC (Lib.cut t [45]).1 [46],p.length≤zG:=fun p Y=>by have:=xt Y;omega
 have H:∀p∈qC (Lib.cut t [45]).2.1 [46],p.length≤zG:=fun p Y=>by have:=xt Y;omega
 have I:(qC (Lib.cut t [45]).2.1 [46]).length≤zG:=by have:=Zm (s:=(Lib.cut t [45]).2.1) (sep:=[46]) (by simp);omega
 have n:xA t=if(Lib.cut t [45]).2.2=true then qC (Lib.cut t [45]).2.1 [46]else[]:=rfl
 have a:KW t=if 3<(qC (Lib.cut t [45]).1 [46]).length then(cP,0,false)else
   match jv (wO,false) 0 (qC (Lib.cut t [45]).1 [46])with
   |none=>(cP,0,false)
   |some st=>if(xA t).any yF=true then(⟨st.1.n0,st.1.n1,st.1.n2,xA t⟩,0,false)else(⟨st.1.n0,st.1.n1,st.1.n2,xA t⟩,st.1.has,(!(Lib.cut t [45]).2.2||st.1.has==3)&&decide ((xA t).length≤10)):=rfl
 obtain⟨l,hl⟩:∃l,qC (Lib.cut t [45]).1 [46]=l:=⟨_,rfl⟩;obtain⟨pl,w⟩:∃pl,qC (Lib.cut t [45]).2.1 [46]=pl:=⟨_,rfl⟩;obtain⟨c1,c2,c3,hc⟩:∃c1 c2 c3,Lib.cut t [45]=(c1,c2,c3):=⟨_,_,_,rfl⟩;rw[hc]at u E v hl w n a G H I;simp only at u E v hl w n a G H I;rw[hl]at a G;rw[w]at n H I;simp only[hl,Ve]at E;simp only[w,Ve]at v;unfold zG at I;by_cases h3:3<l.length
 ·have Q:(3:Int)<l.length:=by omega
  rw[zf h3]at a;simp[u,E,h3,Q,HJ,a,cz,cP,yJ.V,f252]
 have Q:¬(3:Int)<l.length:=by omega
 rw[zj h3]at a;simp[u,E,h3,Q];refine zQ (fun k c Y Z=>∃(p:Part) (op:Bool),p.pre=[]∧c 2=.ref 0 0 0∧c 3=int p.has∧c 4=wq false∧c 6=str c2∧c 7=wq c3∧c 8=.ref 1 0 0∧c 9=wq op∧c 29=.own 2 0 l.length∧c 30=int l.length∧c 31=int k∧p.has≤k∧0≤p.has∧Z=3 ∧
   Y 0=some ⟨235,4,false,[[int 0,int 0,int 0,.nil]]⟩∧Y 1=some ⟨225,3,false,[[int p.n0,int p.n1,int p.n2]]⟩∧Y 2=some ⟨9,1,true,qd l⟩∧jv (wO,false) 0 l=jv (p,op) k (l.drop k)) l.length
  ⟨wO,false,rfl,by simp,by simp[wO],by simp,by simp,by simp,by simp,by simp,by simp,by simp,by simp,by simp[wO],by simp[wO],by simp,by simp,by simp[wO],(by simp;rfl),by simp⟩ ?_
 rintro k c Y Z hk ⟨p,op,R,x,o,A,J,B,K,L,d,e,f,hh,hh0,hnx,C,F,M,q⟩;subst hnx;by_cases b:k<l.length
 ·have hn:=fun Y Z=>RZ l[k] Y Z (G _ (zm b))
  have X:i6.wrap ((k:Int)+1)=(k:Int)+1:=zn (by omega) (by omega);have N:i6.wrap (p.has+1)=p.has+1:=zn (by omega) (by omega);have j:(l[k]==[120]||l[k]==[88]||l[k]==[42])=yq l[k]:=rfl;have i:=Xs b;have D:(qd l).length=l.length:=by simp[qd]
  rw[HK b]at q;cases ho:yq l[k]
  ·rw[ho]at j;cases hv:(Zc l[k]).isSome
   ·have hs:jK (p,op) k l[k]=none:=by simp[jK,ho,hv]
    rw[hs]at q;rw[q]at a;simp only at a;simp[x,o,A,J,B,K,L,d,e,f,C,F,M,b,D,i,hn,j,hv,HJ,a,cz,cP,yJ.V,f252]
   ·cases op
    ·have hs:jK (p,false) k l[k]=some (p.put k ((Zc l[k]).getD 0),false):=by simp[jK,ho,hv]
     rw[hs]at q;simp only at q;obtain⟨n0,n1,n2,has,pre⟩:=p;simp only at R hh hh0 N F o;subst R;have hk3:k=0∨k=1∨k=2:=by omega
     rcases hk3 with rfl|rfl|rfl
     ·have m:(0:Int)<(l.length:Int):=by omega
      simp[x,o,A,J,B,K,L,d,e,f,C,F,M,b,m,D,i,hn,j,hv,X,N];refine⟨by omega,_,?_,?_,?_,?_,?_,(by simpa using q)⟩<;>simp[Part.put]<;>omega
     ·have m:(1:Int)<(l.length:Int):=by omega
      simp[x,o,A,J,B,K,L,d,e,f,C,F,M,b,m,D,i,hn,j,hv,X,N];refine⟨by omega,_,?_,?_,?_,?_,?_,(by simpa using q)⟩<;>simp[Part.put]<;>omega
     ·have m:(2:Int)<(l.length:Int):=by omega
      simp[x,o,A,J,B,K,L,d,e,f,C,F,M,b,m,D,i,hn,j,hv,X,N];refine⟨by omega,_,?_,?_,?_,?_,?_,(by simpa using q)⟩<;>simp[Part.put]<;>omega
    ·have hs:jK (p,true) k l[k]=none:=by simp[jK,ho]
     rw[hs]at q;rw[q]at a;simp only at a;simp[x,o,A,J,B,K,L,d,e,f,C,F,M,b,D,i,hn,j,HJ,a,cz,cP,yJ.V,f252]
  ·have hs:jK (p,op) k l[k]=some (p,true):=by simp[jK,ho]
   rw[hs]at q;rw[ho]at j;simp[x,o,A,J,B,K,L,d,e,f,C,F,M,b,D,i,j,X];exact⟨by omega,p,R,rfl,by omega,hh0,⟨rfl,rfl,rfl⟩,q⟩
 ·obtain rfl:k=l.length:=by omega
  rw[zl]at q;simp only[jv]at q;rw[q]at a;simp only at a;have hbe:((p.has:Int)==3)=(p.has==3):=rfl;cases c3
  ·rw[zj (by simp)]at n;rw[n]at a;simp at a;simp[x,o,A,J,B,K,L,d,e,f,C,F,M,zR,qc,HJ,a,cz,yJ.V,qd,f252]
  ·rw[zf rfl]at n;rw[n]at a;have P:(qd pl).length=pl.length:=by simp[qd]
   simp[x,o,A,J,B,K,L,d,e,f,C,F,M,v,zR,qc];refine zQ (fun k c Y Z=>c 2=.ref 0 0 0∧c 3=int p.has∧c 4=wq false∧c 7=wq true∧c 75=.own 3 0 pl.length∧c 76=int pl.length∧c 77=int k∧Y 0=some ⟨235,4,false,[[int p.n0,int p.n1,int p.n2,.own 3 0 pl.length]]⟩∧Y 3=some ⟨9,1,true,qd pl⟩∧pl.any yF=(pl.drop k).any yF) pl.length
    ⟨by simp[x],by simp[o],by simp[A],by simp[B],by simp,by simp,by simp,by simp,(by simp;rfl),by simp⟩ ?_
   clear x o A J B K L d e f C F M hk b hh c Y;rintro k c Y Z hk ⟨x,o,A,B,S,T,U,C,b3,W⟩;by_cases b:k<pl.length
   ·have X:i6.wrap ((k:Int)+1)=(k:Int)+1:=zn (by omega) (by omega);have i:=Xs b;have hip:=fun Y Z=>vn (fun l=>!yF l) pl[k] Y Z (H _ (zm b))
    rw[zd b,yy]at W;cases hb:yF pl[k]
    ·rw[hb,jo]at W;simp[x,o,A,B,S,T,U,C,b3,b,P,i,hip,hb,X];exact⟨by omega,W⟩
    ·rw[hb,eM]at W;rw[W,zf rfl]at a;simp[x,o,A,B,S,T,U,C,b3,b,P,i,hip,hb,HJ,a,cz,yJ.V,f252]
   ·obtain rfl:k=pl.length:=by omega
    rw[zl,List.any_nil]at W;rw[W,zj (by simp)]at a;have hd:decide (pl.length≤10)=decide ((pl.length:Int)≤10):=by congr 1;exact propext ⟨fun h=>by omega,fun h=>by omega⟩
    rw[hd]at a;simp[x,o,A,B,S,T,U,C,b3,HJ,a,cz,yJ.V,f252]
theorem Y9:zg prog 252 (zi false [] (aO HJ)):=
 jD (fn:=f252) za3 ⟨_,func252,by kernel_rfl,rfl,by kernel_rfl⟩ false [] _ fun args r h w S vs a=>by obtain⟨l,rfl,Y,rfl⟩:=zr h;obtain⟨b,c,d⟩:=eu l Y;exact⟨_,b,a,by simp[f252],c,d⟩
theorem I1(s:za):Qo s=if(KW s).2.2=true∧(KW s).2.1≠0 then some ⟨(KW s).1.a,(KW s).1.b,(KW s).1.c,(KW s).2.1,(KW s).1.pre⟩else none:=by
 unfold Qo rdR KW;by_cases e:3<(qC (Lib.cut s [45]).1 [46]).length
 ·rw[zf e,zf e];simp
 rw[zj e,zj e];cases jv (wO,false) 0 (qC (Lib.cut s [45]).1 [46])with
 |none=>simp
 |some st=>
  simp only;cases h:(xA s).any yF
  ·simp only[zU,wK];by_cases f:((Lib.cut s [45]).2.2=false∨st.1.has=3)∧(xA s).length≤10
   ·rw[zf f];have d:((!(Lib.cut s [45]).2.2||st.1.has==3)&&decide ((xA s).length≤10))=true:=by simp only[zF,qH,JK,eO,ql];exact f
    simp only[d,ab];by_cases g:st.1.has=0
    ·simp[g]
    ·simp[g]
   ·rw[zj f];have d:¬((!(Lib.cut s [45]).2.2||st.1.has==3)&&decide ((xA s).length≤10))=true:=by simp only[zF,qH,JK,eO,ql];exact f
    simp only[d,false_and,wK];simp
  ·simp
theorem EF:zz C0 f250 []=some (.agg wA.V):=by refine zo rfl ?_;simp[wA,Cut.V,qd,str,zR,qc,zv,zN,zy,wH,f250]
theorem ew:zg prog 250 (qh [] (YU (.agg wA.V))):=
 wo (fn:=f250) w8 ⟨_,func250,by kernel_rfl,rfl,by kernel_rfl⟩ _ _ fun args r h=>by obtain⟨_,rfl,_,rfl⟩:=zr h;exact⟨by simp[f250],_,EF,qM.refl _⟩
def yJ.part(v:yJ)(m:Int):Part:=⟨v.a,v.b,v.c,m,v.pre⟩
def yJ.ok(v:yJ):Prop:=(0≤v.a∧v.a≤999999)∧(0≤v.b∧v.b≤999999)∧(0≤v.c∧v.c≤999999)∧vP v.pre
noncomputable def T8 (f:yJ→Int→O) (pre:Int→Prop):zc→Option O:=qv (α:=yJ×Int) (fun a=>[.agg a.1.V,int a.2]) (fun a=>a.1.ok∧pre a.2) (fun a=>f a.1 a.2)
theorem zeq:∀a b:yJ×Int,[O.agg a.1.V,int a.2]=[O.agg b.1.V,int b.2]→a=b:=by rintro⟨f,g⟩ ⟨h,i⟩ e;simp only[zh,zK]at e;obtain⟨c,d⟩:=e;injection c with c;rw[Kp c,qn d]
theorem X0(f:yJ→Int→O)(pre:Int→Prop)(v:yJ)(i:Int)(u:O)(Y:Hp)(Z:Nat)(h:v.ok)(b:pre i)(c:(Sh.g vB).fix u=.agg v.V)(d:qf Y u=some (u,Y))(e:u.noOwn=true):qh [.g vB] (T8 f pre) [u,int i] Y Z=some (f v i,Y,Z):=
 ju (show zA Y [u,int i]=some ([u,int i],Y) by simp only[zA,d];rfl) (by show T8 f pre [(Sh.g vB).fix u,int i]=_;rw[c];exact zJ (V:=fun a:yJ×Int=>[O.agg a.1.V,int a.2]) (a:=(v,i)) zeq ⟨h,b⟩) (.inr (by rw[qN,e];rfl))
theorem KQ(v:yJ):(Sh.g vB).fix (.agg v.V)=.agg v.V:=by simp[yJ.V]
theorem X1(v:yJ)(Y:Hp):qf Y (.agg v.V)=some (.agg v.V,Y):=by simp[yJ.V]
theorem X2(v:yJ):O.noOwn (.agg v.V)=true:=by simp[yJ.V]
def Zr(v:yJ)(i:Int):O:=vE (v.part 3) i.toNat
noncomputable abbrev Crra:Ctx:=xY prog [] 7 [(6,4),(28,4),(30,4),(32,4),(38,4)] [4,6,28,30,32,38] []
theorem za4:AM.Good Crra (fun g=>([]:List Nat).contains g):=sN mixed trivial trivial
theorem A9(v:yJ)(i:Int)(f:v.ok)(r:0≤i∧i<3):∃d,zz Crra f282 [.agg v.V,int i]=some d∧qM d (Zr v i):=by
 obtain⟨a,b,c,e⟩:=v;obtain⟨⟨h,j⟩,⟨k,l⟩,⟨m,n⟩,_⟩:=f;simp only at h j k l m n;refine y8 (sh:=.g ka) rfl ?_;have o:i6.wrap (a+1)=a+1:=zn (by omega) (by omega);have p:i6.wrap (b+1)=b+1:=zn (by omega) (by omega);have q:i6.wrap (c+1)=c+1:=zn (by omega) (by omega);rcases(by omega:i=0∨i=1∨i=2)with rfl|rfl|rfl
 ·simp[yJ.V,zR,qc,o];rw[zW];simp;rw[zW];simp;rw[zW];simp;rw[kA (yA (YI (by simp;exact⟨rfl,rfl,rfl⟩) (by simp;exact⟨rfl,rfl,rfl⟩) (by omega) (by simp;rfl) rfl) (yA (kf (by simp;rfl)) (yA (kf (by simp;rfl)) (yA (kf (by simp;rfl)) (yA (kf (by simp;rfl)) (YH _))))))
   (xB (by simp;exact⟨rfl,rfl,rfl⟩) (by simp) (by simp;rfl) rfl (xB (by simp;exact⟨rfl,rfl,rfl⟩) (by simp) (by simp;rfl) rfl (vh (by simp;rfl) (vh (by simp;rfl) (vh (by simp;rfl) (vh (by simp;rfl) (Kw _)))))))]
  simp[zR,qc,zv,zN,zy,qL,Zr,yJ.part,vE,jF,v7,Cut.V,qd,str,f282];exact⟨_,⟨rfl,rfl⟩,rfl⟩
 ·simp[yJ.V,zR,qc,p];rw[zW];simp;rw[zW];simp;rw[kA (yA (YI (by simp;exact⟨rfl,rfl,rfl⟩) (by simp;exact⟨rfl,rfl,rfl⟩) (by omega) (by simp;rfl) rfl) (yA (kf (by simp;rfl)) (yA (kf (by simp;rfl)) (yA (kf (by simp;rfl)) (yA (kf (by simp;rfl)) (YH _))))))
   (xB (by simp;exact⟨rfl,rfl,rfl⟩) (by simp) (by simp;rfl) rfl (xB (by simp;exact⟨rfl,rfl,rfl⟩) (by simp) (by simp;rfl) rfl (vh (by simp;rfl) (vh (by simp;rfl) (vh (by simp;rfl) (vh (by simp;rfl) (Kw _)))))))]
  simp[zR,qc,zv,zN,zy,qL,Zr,yJ.part,vE,jF,v7,Cut.V,qd,str,f282];exact⟨_,⟨rfl,rfl⟩,rfl⟩
 ·simp[yJ.V,zR,qc,q];rw[zW];simp;rw[kA (yA (YI (by simp;exact⟨rfl,rfl,rfl⟩) (by simp;exact⟨rfl,rfl,rfl⟩) (by omega) (by simp;rfl) rfl) (yA (kf (by simp;rfl)) (yA (kf (by simp;rfl)) (yA (kf (by simp;rfl)) (yA (kf (by simp;rfl)) (YH _))))))
   (xB (by simp;exact⟨rfl,rfl,rfl⟩) (by simp) (by simp;rfl) rfl (xB (by simp;exact⟨rfl,rfl,rfl⟩) (by simp) (by simp;rfl) rfl (vh (by simp;rfl) (vh (by simp;rfl) (vh (by simp;rfl) (vh (by simp;rfl) (Kw _)))))))]
  simp[zR,qc,zv,zN,zy,qL,Zr,yJ.part,vE,jF,v7,Cut.V,qd,str,f282];exact⟨_,⟨rfl,rfl⟩,rfl⟩
theorem bO:zg prog 282 (qh [.g vB] (T8 Zr fun i=>0≤i∧i<3)):=
 wo (fn:=f282) za4 ⟨_,func282,by kernel_rfl,rfl,by kernel_rfl⟩ _ _ fun args r h=>by obtain⟨⟨p,i⟩,rfl,⟨a,b⟩,rfl⟩:=zr h;obtain⟨c,d,e⟩:=A9 p i a b;exact⟨by simp[f282],c,d,e⟩
def Wz(v:yJ)(m:Int):O:=Jz (v.part m)
noncomputable abbrev Crup:Ctx:=qb prog [(282,qh [.g vB] (T8 Zr fun i=>0≤i∧i<3))]
theorem za5:AM.Good Crup (fun g=>([]:List Nat).contains g):=zI mixed ⟨bO,by simp,trivial⟩
theorem im(v:yJ)(m n:Int)(i:Nat):jF (v.part m) i=jF (v.part n) i∧v7 (v.part m) i=v7 (v.part n) i:=by
 match i with
 | 0=>exact⟨rfl,rfl⟩
 | 1=>exact⟨rfl,rfl⟩
 |_+2=>exact⟨rfl,rfl⟩
theorem EG(v:yJ)(m:Int)(e:v.ok)(k:1≤m∧m≤3):zz Crup f277 [.agg v.V,int m]=some (Wz v m):=by
 refine zo rfl ?_;have b:=fun Y Z=>X0 Zr (fun i=>0≤i∧i<3) v (m-1) (.agg v.V) Y Z e
 obtain⟨f,g⟩:=im v m 3 (m-1).toNat;have h:i6.wrap (m-1)=m-1:=zn (by omega) (by omega);by_cases d:m=3
 ·subst d;simp[yJ.V,zR,qc,Wz,Jz,vS,QF,yJ.part,Cut.V,wH,f277]
 ·have b:=fun Y Z=>b Y Z (by omega) (KQ v) (X1 v Y) (X2 v)
  have c:(m==3)=false:=by simpa using d
  have a:m<3:=by omega
  simp only[Zr,vE,yJ.V,Cut.V,←f,←g]at b;have j:(v.part m).has=m:=rfl;simp[yJ.V,c,h,b,Wz,Jz,vS,QF,j,a,Cut.V,wH,f277]
theorem ez:zg prog 277 (qh [.g vB] (T8 Wz fun m=>1≤m∧m≤3)):=
 wo (fn:=f277) za5 ⟨_,func277,by kernel_rfl,rfl,by kernel_rfl⟩ _ _ fun args r h=>by obtain⟨⟨p,i⟩,rfl,⟨a,b⟩,rfl⟩:=zr h;exact⟨by simp[f277],_,EG p i a b,qM.refl _⟩
noncomputable abbrev Crct:Ctx:=qb prog []
theorem za6:AM.Good Crct (fun g=>([]:List Nat).contains g):=zI mixed trivial
def x0(v:yJ)(m:Int):O:=int (j6 (v.part m))
theorem EH(v:yJ)(m:Int)(k:1≤m∧m≤3):zz Crct f283 [.agg v.V,int m]=some (x0 v m):=by
 obtain⟨a,b,c,e⟩:=v;refine zo rfl ?_;rcases(by omega:m=1∨m=2∨m=3)with rfl|rfl|rfl
 ·simp[yJ.V,zv,zN,zy,js];rw[zW];by_cases f:a=0
  ·have d:(a != 0)=false:=by simpa using f
   simp[d];rw[zW];simp[x0,j6,yJ.part,f283]
  ·have d:(a != 0)=true:=by simpa using f
   simp[d,x0,j6,yJ.part,f283]
 ·simp[yJ.V,zv,zN,zy,js];rw[zW];by_cases f:a=0
  ·have d:(a != 0)=false:=by simpa using f
   simp[d];rw[zW];by_cases h:b=0
   ·have g:(b != 0)=false:=by simpa using h
    simp[g];rw[zW];simp[x0,j6,yJ.part,f,f283]
   ·have g:(b != 0)=true:=by simpa using h
    simp[g,x0,j6,yJ.part,f,f283]
  ·have d:(a != 0)=true:=by simpa using f
   simp[d,x0,j6,yJ.part,f,f283]
 ·simp[yJ.V,zv,zN,zy,js];rw[zW];by_cases f:a=0
  ·have d:(a != 0)=false:=by simpa using f
   simp[d];rw[zW];by_cases h:b=0
   ·have g:(b != 0)=false:=by simpa using h
    simp[g];rw[zW];by_cases j:c=0
    ·have i:(c != 0)=false:=by simpa using j
     simp[i];rw[zW];simp[x0,j6,yJ.part,f,h,f283]
    ·have i:(c != 0)=true:=by simpa using j
     simp[i,x0,j6,yJ.part,f,h,f283]
   ·have g:(b != 0)=true:=by simpa using h
    simp[g,x0,j6,yJ.part,f,h,f283]
  ·have d:(a != 0)=true:=by simpa using f
   simp[d,x0,j6,yJ.part,f,f283]
theorem Ba:zg prog 283 (qh [.g vB] (T8 x0 fun m=>1≤m∧m≤3)):=
 wo (fn:=f283) za6 ⟨_,func283,by kernel_rfl,rfl,by kernel_rfl⟩ _ _ fun args r h=>by obtain⟨⟨p,i⟩,rfl,⟨b,a⟩,rfl⟩:=zr h;exact⟨by simp[f283],_,EH p i a,qM.refl _⟩
noncomputable abbrev Crut:Ctx:=qb prog [(285,qh [.g ka,.g ka] (CU fun v w=>int (wX v w)))]
theorem za7:AM.Good Crut (fun g=>([]:List Nat).contains g):=zI mixed ⟨Qc,by simp,trivial⟩
theorem HL(x y:Cut)(c:x.v.small)(d:y.v.small):∃b,zz Crut f278 [.agg x.V,.agg y.V]=some b∧qM b (Vj x y):=by
 refine QD (sh:=.s 11 jM) rfl ?_;have a:=fun Y Z=>Ag x y (.agg x.V) (.agg y.V) Y Z (by simp[Cut.V]) (by simp[Cut.V]) (by simp[Cut.V]) c d
 simp only[Cut.V]at a;by_cases h:0≤wX x y
 ·simp[Cut.V,a,h,Xr,Vj,fv,qz,f278]
 ·simp[Cut.V,a,h,zR,qc,zv,zN,zy,Xr,Vj,fv,qz,cc,wR.V,f278]
theorem iq:zg prog 278 (qh [.g ka,.g ka] (CU Vj)):=
 wo (fn:=f278) za7 ⟨_,func278,by kernel_rfl,rfl,by kernel_rfl⟩ _ _ fun args r h=>by obtain⟨⟨v,w⟩,rfl,⟨a,b⟩,rfl⟩:=zr h;obtain⟨c,d,e⟩:=HL v w a b;exact⟨by simp[f278],c,d,e⟩
noncomputable abbrev Crop:Ctx:=qb prog [(313,zi false [] (Jv UL fun _ _=>True))]
theorem za8:AM.Good Crop (fun g=>([]:List Nat).contains g):=zI mixed ⟨iN,by simp,trivial⟩
def HM(s:za):O:=str (wW wI s).1
theorem ox(s:za)(h:s.length≤zG):zz Crop f275 [str s]=some (HM s):=by
 refine zo rfl ?_;have m:∀Y Z,zv prog Y Z 69 7 [(0,str [62,61]),(1,str [60,61]),(2,str [62]),(3,str [60]),(4,str [61]),(5,str [126]),(6,str [94])]=some (.own Z 0 7,qZ Y Z (some ⟨9,1,true,qd wI⟩),Z+1):=fun Y Z=>by simp[zv,zN,zy,wI,str]
 simp[str]at m;simp[m];refine zQ (fun k d Y Z=>d 0=str s∧d 5=.own 0 0 7∧d 6=int 7∧d 7=int k∧Y 0=some ⟨9,1,true,qd wI⟩∧wW wI s=wW (wI.drop k) s) 7 ⟨by simp,by simp,by simp,by simp,by simp,by simp⟩ ?_;rintro k d Y Z r ⟨g,i,j,b,n,a⟩;by_cases c:k<7
 ·have f:k<wI.length:=c;have l:wI[k].length≤zG:=by
   have:∀q∈wI,q.length≤zG:=by decide
   exact this _ (zm f)
  have o:=fun Y Z=>lF s wI[k] Y Z h l
  have p:i6.wrap ((k:Int)+1)=(k:Int)+1:=zn (by omega) (by omega);have e:(k:Int)<7:=by omega
  rw[zd f]at a;simp only[wW]at a;by_cases Y:(wI[k]).isPrefixOf s=true
  ·rw[zf Y]at a;simp[g,i,j,b,n,e,c,f,o,Y,p,HM,a,wH,f275]
  ·rw[zj Y]at a;have Y':(wI[k]).isPrefixOf s=false:=eP.2 Y;simp[g,i,j,b,n,e,c,f,o,Y',p];exact⟨by omega,a⟩
 ·obtain rfl:k=7:=by omega
  rw[show wI.drop 7=[]from rfl]at a;simp only[wW]at a;simp[g,i,j,b,HM,a,wH,f275]
theorem lk:zg prog 275 (zi false [] (Oe HM)):=
 qq (fn:=f275) za8 ⟨_,func275,by kernel_rfl,rfl,by kernel_rfl⟩ false [] _ fun args r h=>by obtain⟨l,rfl,Y,rfl⟩:=zr h;exact⟨by simp[f275],_,ox l Y,qm _⟩
def pG(c:UInt8):za→List za
 |[]=>[[]]
 |b::l=>if b=c then[]::pG c l else match pG c l with
  |[]=>[[b]]
  |p::ps=>(b::p)::ps
theorem R0(c:UInt8):∀l,∃p ps,pG c l=p::ps
 |[]=>⟨[],[],rfl⟩
 |b::l=>by
  unfold pG;split
  ·exact⟨_,_,rfl⟩
  ·split
   ·exact⟨_,_,rfl⟩
   ·exact⟨_,_,rfl⟩
theorem X3{s sep:za}(h:Lib.index s sep=-1):qC s sep=[s]:=by unfold qC Lib.split;rw[Lib.count_miss h];rfl
theorem cA{s sep:za}{i:Nat}(a:sep≠[])(h:Lib.index s sep=i):qC s sep=s.take i::qC (s.drop (i+sep.length)) sep:=by unfold qC Lib.split;rw[Lib.count_hit a h,eL 1,b5 h]
theorem cB(c:UInt8):∀s:za,qC s [c]=pG c s
 |[]=>X3 rfl
 |b::l=>by
  have a:=cB c l;by_cases h:b=c
  ·subst h;have d:Lib.index (b::l) [b]=((0:Nat):Int):=by simp[Lib.index]
   rw[cA (by simp) d];simp[pG,a]
  ·have g:¬c=b:=fun e=>h e.symm
   rcases Lib.index_spec l [c]with⟨f,_⟩|⟨i,f,_⟩
   ·have d:Lib.index (b::l) [c]=-1:=by simp[Lib.index,g,f]
    rw[X3 d];rw[X3 f]at a;simp[pG,h,←a]
   ·have d:Lib.index (b::l) [c]=((i+1:Nat):Int):=by
     have:¬((i:Int)=-1):=by omega
     simp[Lib.index,g,f,this]
    rw[cA (by simp) d];rw[cA (by simp) f]at a;simp only[pG,zj h,←a];simp
def y9(s:za):List za:=wQ (pG 32 s)
theorem gq(s:za):wQ (qC s [32])=y9 s:=by rw[cB];rfl
theorem Bb:y9 []=[]:=rfl
theorem X4(x:za)(l:List za):wQ (x::l)=if x=[]then wQ l else x::wQ l:=by cases x<;>simp[wQ,pD]
theorem R1(s:za):y9 (32::s)=y9 s:=by simp[y9,pG,X4]
theorem aD:∀s:za,y9 (Lib.trimLeftB s 32)=y9 s
 |[]=>rfl
 |b::l=>by
  unfold Lib.trimLeftB;by_cases h:b=32
  ·subst h;rw[Fq (by simp),R1];exact aD l
  ·rw[ZY (by simpa using h)]
theorem EI(c:UInt8):∀s:za,pG c (s++[c])=pG c s++[[]]
 |[]=>by simp[pG]
 |b::l=>by
  have a:=EI c l;obtain⟨p,ps,e⟩:=R0 c l;by_cases h:b=c
  ·simp[pG,h,a]
  ·simp[pG,h,a,e]
theorem R2(s:za):y9 (s++[32])=y9 s:=by unfold y9;rw[EI];simp[wQ,pD]
theorem Ni(s:za):y9 (Lib.trimRightB s 32)=y9 s:=by
 have a:∀m:za,y9 ((m.dropWhile (·==32)).reverse)=y9 m.reverse:=by
  intro m
  induction m with
  |nil=>rfl
  |cons b m c=>
   by_cases h:b=32
   ·subst h;rw[Fq (by simp),c,List.reverse_cons,R2]
   ·rw[ZY (by simpa using h)]
 have:=a s.reverse;rwa [List.reverse_reverse]at this
theorem R3(s:za):y9 (Lib.trimB s 32)=y9 s:=by unfold Lib.trimB;rw[aD,Ni]
def hd(s:za):za:=s.takeWhile (· != 32)
def tl(s:za):za:=s.dropWhile (· != 32)
theorem ir(s:za):hd s++tl s=s:=List.takeWhile_append_dropWhile
theorem Bc:∀(u:za),(∀c∈u,c≠32)→∀r,(pG 32 (u++32::r)=u::pG 32 r)∧pG 32 u=[u]
 |[],_,r=>⟨by simp[pG],rfl⟩
 |b::u,h,r=>by
  obtain⟨d,e⟩:=Bc u (fun c f=>h c (by simp[f])) r;have a:¬b=32:=h b (by simp);constructor
  ·rw[q9,pG,zj a,d]
  ·rw[pG,zj a,e]
theorem R4(s:za):∀c∈hd s,c≠32:=fun c a=>by have:=List.all_takeWhile (p:=fun c:UInt8=>c != 32) (l:=s);rw[qW]at this;simpa using this c a
theorem Be(s:za):tl s=[]∨∃r,tl s=32::r:=by
 unfold tl
 induction s with
 |nil=>exact .inl rfl
 |cons b s a=>
  by_cases h:b=32
  ·subst h;rw[ZY (by simp)];exact .inr ⟨s,rfl⟩
  ·rw[Fq (by simpa using h)];exact a
theorem EJ{s:za}(h:hd s≠[]):y9 s=hd s::y9 (tl s):=by
 have e:=ir s;rcases Be s with a|⟨r,a⟩
 ·rw[a,yh]at e;rw[a,Bb]
  conv=>lhs;rw[←e]
  unfold y9;rw[(Bc (hd s) (R4 s) []).2,X4,zj h];rfl
 ·rw[a]at e⊢;rw[R1]
  conv=>lhs;rw[←e]
  unfold y9;rw[(Bc (hd s) (R4 s) r).1,X4,zj h]
def I2(s:za):Prop:=s=[]∨hd s≠[]
theorem JI:∀s:za,I2 (Lib.trimLeftB s 32)
 |[]=>.inl rfl
 |b::l=>by
  unfold Lib.trimLeftB;by_cases h:b=32
  ·subst h;rw[Fq (by simp)];exact JI l
  ·rw[ZY (by simpa using h)];exact .inr (by simp[hd,h])
theorem R5{s:za}(h:I2 s):Lib.trimLeftB s 32=s:=by
 cases s with
 |nil=>rfl
 |cons b l=>
  rcases h with h|h
  ·cases h
  ·unfold Lib.trimLeftB;by_cases a:b=32
   ·subst a;exact absurd (by simp[hd]) h
   ·rw[ZY (by simpa using a)]
theorem aE(s:za):(Lib.trimLeftB s 32).length≤s.length:=(List.dropWhile_sublist _).length_le
theorem zer{g:za}(d:∀c∈g,c≠32)(s:za):g.isPrefixOf s=g.isPrefixOf (hd s):=by
 induction g generalizing s with
 |nil=>simp
 |cons a g h=>
  cases s with
  |nil=>rfl
  |cons b s=>
   have i:=d a (by simp);by_cases f:b=32
   ·subst f;have e:hd (32::s)=[]:=by simp[hd]
    rw[e];simp[List.isPrefixOf,i]
   ·have e:hd (b::s)=b::hd s:=by simp[hd,f]
    rw[e];simp only[List.isPrefixOf];rw[h (fun c j=>d c (by simp[j])) s]
theorem R6:∀(a:List za) (_:∀g∈a,∀c∈g,c≠32) (s:za),wW a s=((wW a (hd s)).1,(wW a (hd s)).2++tl s)
 |[],_,s=>by simp[wW,ir]
 |g::a,h,s=>by
  have Y:=zer (h g (by simp)) s;simp only[wW];rw[Y];split
  ·rename_i b;have d:=(Fp.1 b).length_le;have e:=ir s
   conv=>lhs;rw[←e]
   rw[List.drop_append_of_le_length d]
  ·exact R6 a (fun g f=>h g (by simp[f])) s
theorem zes:∀g∈wI,∀c∈g,c≠32:=by decide
theorem QO:∀(a:List za) (s:za),(wW a s).2=s.drop (wW a s).1.length
 |[],s=>rfl
 |g::a,s=>by
  simp only[wW];split
  ·rfl
  ·exact QO a s
theorem HN(a:List za)(s:za):(wW a s).2 <:+ s:=by rw[QO];exact List.drop_suffix _ _
abbrev bQ:=za×za
def kl:List za→Option (List bQ)
 |[]=>some []
 |[w]=>if(wW wI w).2=[]then none else some [wW wI w]
 |w::x::a=>if(wW wI w).2=[]then(kl a).map (((wW wI w).1,x)::·)else(kl (x::a)).map (wW wI w::·)
theorem YK(w:za)(a:List za)(h:(wW wI w).2≠[]):kl (w::a)=(kl a).map (wW wI w::·):=by
 cases a with
 |nil=>simp[kl,h]
 |cons x a=>simp[kl,h]
def Bf(s:za):bQ×za:=((((wW wI s).1,hd (Lib.trimLeftB (wW wI s).2 32)):bQ),tl (Lib.trimLeftB (wW wI s).2 32))
theorem R7{s:za}(h:hd s≠[]):kl (y9 s)=if(Bf s).1.2=[]then none else(kl (y9 (Bf s).2)).map ((Bf s).1::·):=by
 have f:=R6 wI zes s;obtain⟨o,r,a⟩:∃o r,wW wI (hd s)=(o,r):=⟨_,_,rfl⟩;rw[a]at f;simp only at f;have d:∀c∈r,c≠32:=fun c g=>by have:=HN wI (hd s);rw[a]at this;exact R4 s c (this.mem g)
 rw[EJ h];by_cases i:r=[]
 ·subst i;rw[wN]at f;unfold Bf;rw[f];simp only;obtain⟨u,j⟩:∃u,Lib.trimLeftB (tl s) 32=u:=⟨_,rfl⟩;have l:y9 (tl s)=y9 u:=by rw[←j,aD]
  have ht:I2 u:=by rw[←j];exact JI _
  rw[j,l];rcases ht with rfl|ht
  ·rw[Bb,zf (show hd []=[]from rfl)];simp[kl,a]
  ·rw[EJ ht,zj ht];simp[kl,a]
 ·have m:Lib.trimLeftB (r++tl s) 32=r++tl s:=by
   cases r with
   |nil=>exact absurd rfl i
   |cons b r=>have n:=d b (by simp);exact R5 (.inr (by simp[hd,n]))
  have p:hd (r++tl s)=r:=by unfold hd;rw[List.takeWhile_append_of_pos (fun c g=>by simpa using d c g)];rcases Be s with e|⟨q,e⟩<;>rw[e]<;>simp
  have t:tl (r++tl s)=tl s:=by
   unfold tl;rw[List.dropWhile_append_of_pos (fun c g=>by simpa using d c g)];rcases Be s with e|⟨q,e⟩
   ·have k:List.dropWhile (fun x=>x != 32) s=[]:=e;rw[k];rfl
   ·have k:List.dropWhile (fun x=>x != 32) s=32::q:=e;rw[k];rfl
  unfold Bf;rw[f];simp only;rw[m,p,t,zj i,YK _ _ (by rw[a];exact i),a]
theorem R8{s:za}(h:(Bf s).1.2≠[]):(Bf s).2.length<s.length:=by unfold Bf at h⊢;simp only at h⊢;have a:=ir (Lib.trimLeftB (wW wI s).2 32);have b:=zD List.length a;rw[ye]at b;have c:=aE (wW wI s).2;have d:=Vm wI s;have e:=kz.2 h;omega
end Go.Q
