/- Lemmas. -/
import Derived.Test.YtmngbpkapamhoaaGreatDoorG7
set_option maxRecDepth 100000
set_option maxHeartbeats 4000000
open Go Proofs Proofs.YtmngbpkapamhoaaGreatDoor Proofs.Tryz RowKit AM SpanLaw Q Zz
namespace Go.Q
structure Zo where
 sign:List UInt8
 p:Part
 tu:Part
def Zo.V(c:Zo):zb:=[str c.sign,int c.p.n0,int c.p.n1,int c.p.n2,int c.p.has,.sl 1 (zy c.p.pre),int c.tu.n0,int c.tu.n1,int c.tu.n2,int c.tu.has,.sl 1 (zy c.tu.pre)]
abbrev Bv:List (Option Nat):=[none,none,none,none,none,some 1,none,none,none,none,some 1]
theorem NL{a b:Zo}(h:a.V=b.V):a=b:=by obtain⟨q,⟨r,s,t,u,v⟩,⟨w,x,y,z,e⟩⟩:=a;obtain⟨A,⟨B,C,D,E,F⟩,⟨G,H,I,J,f⟩⟩:=b;simp only[Zo.V,zj,zG]at h;obtain⟨g,i,j,k,l,d,m,n,o,p,c⟩:=h;injection d with _ d;injection c with _ c;rw[wC g,qR i,qR j,qR k,qR l,km d,qR m,qR n,qR o,qR p,km c]
def jR:za:=[97,108,108]
def Zo.ok(c:Zo):Prop:=c.sign.length<=zA/\(c.sign=jR\/(c.p.ok/\(c.sign=[45]->c.tu.ok)))
def kf(p:Part):Nat:=if 1<p.has/\p.n0=0 then(if 2<p.has/\p.n1=0 then 2 else 1)else 0
theorem NM(p:Part):kf p<3:=by unfold kf;split<;>(try split)<;>omega
noncomputable def xi (c:Zo):List wQ×Bool:=
 if c.sign=jR then([yu wv],true)
 else if c.sign=[62,61]then([yu (Z4 c.p)],true)
 else if c.sign=[60]then(gD wv (Z4 c.p),true)
 else if c.sign=[62]then([yu (xe c.p)],QV c.p)
 else if c.sign=[60,61]then(gD wv (xe c.p),QV c.p)
 else if c.sign=[45]then(gD (Z4 c.p) (xe c.tu),QV c.tu)
 else if c.sign=[126]then(gD (Z4 c.p) (jL c.p (min (c.p.has-1) 1).toNat),xm c.p (min (c.p.has-1) 1).toNat)
 else if c.sign=[94]then(gD (Z4 c.p) (jL c.p (kf c.p)),xm c.p (kf c.p))
 else(gD (Z4 c.p) (xe c.p),QV c.p)
noncomputable def Kn (c:Zo):O:=.w5 [.sl 11 (qn (xi c).1),wb (xi c).2]
def lowP(p:Part):O:=.agg (Z4 p).V
def gE:O:=.agg wv.V
noncomputable abbrev Cstt:Ctx:=zV prog [(207,qP [.g XV] (FPt lowP)),(209,qP [.g XV] (FPa JZ)),(210,qP [.g XV] (FPi vQ)),(206,qP [] (Jt gE)),(167,qP [] (Jt cT)),(208,qP [.g kn,.g kn] (Ee VI))]
theorem za9:AM.Good Cstt (fun g=>[206,208].contains g):=qC mixed ⟨NJ,by simp,H9,by simp,ez,by simp,lg,fun _=>jD _ _,KP,by simp,sy,fun _=>jD _ _,trivial⟩
theorem Bw:wv.v.small:=⟨by decide,fun p Y=>by simp[wv]at Y;subst Y;decide⟩
theorem VJ(p:Part)(i:Nat):(jL p i).v.small:=by
 have h:(jL p i).v.pre=[[48]]:=by unfold jL;split<;>rfl
 exact⟨by rw[h];decide,fun q a=>by rw[h]at a;simp at a;subst a;decide⟩
theorem Qy{p:Part}(h:v8 p.pre):(Z4 p).v.small:=h
theorem Wz{p:Part}(h:v8 p.pre):(xe p).v.small:=by
 unfold xe;split
 ·exact VJ _ _
 ·exact h
theorem Bx(c:Cut):(Sh.g kn).fix (.agg c.V)=.agg c.V:=by simp[Cut.V]
theorem Sx(c:Cut)(Y:Hp):qt Y (.agg c.V)=some (.agg c.V,Y):=by simp[Cut.V]
theorem WQ(x y:Cut)(Y:Hp)(Z:Nat)(b:x.v.small)(c:y.v.small):qP [.g kn,.g kn] (Ee VI) [.agg x.V,.agg y.V] Y Z=some (VI x y,Y,Z):=
 xv (show zC Y [.agg x.V,.agg y.V]=some ([.agg x.V,.agg y.V],Y) by simp only[zC,Sx]) (by show Ee _ [(Sh.g kn).fix (.agg x.V),(Sh.g kn).fix (.agg y.V)]=_;rw[Bx,Bx];exact qD (V:=fun a:Cut×Cut=>[O.agg a.1.V,.agg a.2.V]) (a:=(x,y)) Sn ⟨b,c⟩) (.inr (by simp[Cut.V]))
theorem o0(c:Zo)(R:c.ok):∃r0,zv Cstt f168 [.agg c.V]=some r0/\wL r0 (Kn c):=by
 obtain⟨h,p,S⟩:=c;obtain⟨_,R⟩:=R;simp only at R;refine ji (sh:=.s 11 jW) rfl ?_;have e:=fun Y Z=>Sv lowP p Y Z
 have I:∀(Y:Hp) (Z:Nat),qP [] (Jt gE) [] Y Z=some (.agg [int wv.v.a,int wv.v.b,int wv.v.c,.sl 1 (zy wv.v.pre),wb wv.after],Y,Z):=fun Y Z=>Wy _ Y Z
 have U:∀(Y:Hp) (Z:Nat),qP [] (Jt cT) [] Y Z=some (.sl 11 (qn [yu wv]),Y,Z):=fun Y Z=>Wy _ Y Z
 simp only[lowP,Part.V,Cut.V]at e;by_cases J:h=jR
 ·subst J;simp[Zo.V,e,U,jR,qB,Kn,xi,qn,yu,wQ.V,Cut.V,We,f168]
 obtain⟨Y,ht⟩:=R.resolve_left J;have B:v8 p.pre:=Y.2.2.2.2;have k:(h==[97,108,108])=false:=by simpa[jR]using J
 by_cases T:h=[62,61]
 ·subst T;simp[Zo.V,e,k,qv,qS,zt,zJ,zr,jR,qB,Kn,xi,qn,yu,wQ.V,Cut.V,We,f168]
 have l:=jN T;have K:=fun Y Z=>WQ wv (Z4 p) Y Z Bw (Qy B)
 have L:=fun Y Z=>WQ wv (xe p) Y Z Bw (Wz B)
 have G:=fun Y' Z=>Eg JZ p (.agg p.V) Y' Z Y (by simp[Part.V]) (mP p Y') (by simp[Part.V])
 simp only[VI,JZ,Part.V,Cut.V]at K L G;by_cases W:h=[60]
 ·subst W;simp[Zo.V,e,I,K,k,l,jR,qB,Kn,xi,qn,wQ.V,Cut.V,f168]
 have m:=jN W;by_cases X:h=[62]
 ·subst X;simp[Zo.V,e,G,k,l,m,qv,qS,zt,zJ,zr,jR,qB,Kn,xi,qn,yu,wQ.V,Cut.V,We,f168]
 have q:=jN X;by_cases s4:h=[60,61]
 ·subst s4;simp[Zo.V,e,G,I,L,k,l,m,q,qv,qS,zt,zJ,zr,jR,qB,Kn,xi,qn,yu,wQ.V,Cut.V,We,f168]
 have r:=jN s4;by_cases s5:h=[45]
 ·subst s5;have M:=ht rfl;have N:=fun Y Z=>WQ (Z4 p) (xe S) Y Z (Qy B) (Wz M.2.2.2.2)
  have P:=fun Y' Z=>Eg JZ S (.agg S.V) Y' Z M (by simp[Part.V]) (mP S Y') (by simp[Part.V])
  simp only[VI,JZ,Part.V,Cut.V]at N P;simp[Zo.V,e,P,N,k,l,m,q,r,qv,qS,zt,zJ,zr,jR,qB,Kn,xi,qn,yu,wQ.V,Cut.V,We,f168]
 have t:=jN s5;have u:=fun i (hi:i<3) Y' Z=>Ei vQ p i (.agg p.V) Y' Z Y hi (by simp[Part.V]) (mP p Y') (by simp[Part.V])
 have w:=fun i Y Z=>WQ (Z4 p) (jL p i) Y Z (Qy B) (VJ p i)
 simp only[VI,vQ,Part.V,Cut.V]at u w;have x:IntKind.i64.wrap (p.has-1)=p.has-1:=wS (by have:=Y.2.2.2.1;omega) (by have:=Y.2.2.2.1;omega);by_cases s6:h=[126]
 ·subst s6;have hm:(if 1<p.has-1 then 1 else p.has-1)=(((min (p.has-1) 1).toNat:Nat):Int):=by have:=Y.2.2.2.1;split<;>omega
  have d:=u (min (p.has-1) 1).toNat (by omega);rw[<-hm]at d;simp[Zo.V,e,d,w,x,k,l,m,q,r,t,qv,qS,zt,zJ,zr,jR,qB,Kn,xi,qn,yu,wQ.V,Cut.V,We,f168]
 have y:=jN s6;by_cases s7:h=[94]
 ·subst s7;have hs3:(2:Int)<p.has->p.has=3:=by have:=Y.2.2.2.1;omega
  by_cases n:1<p.has
  ·have f:(0:Int)<p.has-1:=by omega
   by_cases C:p.n0=0
   ·have g:(p.n0==0)=true:=by simpa using C
    by_cases D:2<p.has
    ·have j:(1:Int)<p.has-1:=by omega
     have E:¬(2:Int)<p.has-1:=by have:=Y.2.2.2.1;omega
     by_cases H:p.n1=0
     ·have z:(p.n1==0)=true:=by simpa using H
      have o:kf p=2:=by simp[kf,n,f,D,j,E,C,H]
      have d:=u 2 (by omega);rw[show((2:Nat):Int)=2 from rfl]at d;simp[Zo.V,e,x,k,l,m,q,r,t,y,n,f,D,j,E,g,z,jR];rw[zR];simp[Zo.V,e,x,k,l,m,q,r,t,y,n,f,D,j,E,g,z];rw[zR];simp[Zo.V,e,x,k,l,m,q,r,t,y,n,f,D,j,E,g,z];rw[zR];simp[Zo.V,e,x,k,l,m,q,r,t,y,d,w,o,n,f,D,j,E,g,z,qv,qS,zt,zJ,zr,jR,qB,Kn,xi,qn,yu,wQ.V,Cut.V,We,f168]
     ·have A:=jN H;have o:kf p=1:=by simp[kf,n,f,D,j,C,H,A]
      have d:=u 1 (by omega);rw[show((1:Nat):Int)=1 from rfl]at d;simp[Zo.V,e,x,k,l,m,q,r,t,y,n,f,D,j,g,A,jR];rw[zR];simp[Zo.V,e,x,k,l,m,q,r,t,y,n,f,D,j,g,A];rw[zR];simp[Zo.V,e,x,k,l,m,q,r,t,y,d,w,o,n,f,D,j,g,A,qv,qS,zt,zJ,zr,jR,qB,Kn,xi,qn,yu,wQ.V,Cut.V,We,f168]
    ·have j:¬(1:Int)<p.has-1:=by omega
     have o:kf p=1:=by simp[kf,n,f,D,j,C]
     have d:=u 1 (by omega);rw[show((1:Nat):Int)=1 from rfl]at d;simp[Zo.V,e,x,k,l,m,q,r,t,y,n,f,D,j,g,jR];rw[zR];simp[Zo.V,e,x,k,l,m,q,r,t,y,n,f,D,j,g];rw[zR];simp[Zo.V,e,x,k,l,m,q,r,t,y,d,w,o,n,f,D,j,g,qv,qS,zt,zJ,zr,jR,qB,Kn,xi,qn,yu,wQ.V,Cut.V,We,f168]
   ·have F:=jN C;have o:kf p=0:=by simp[kf,n,f,C,F]
    have d:=u 0 (by omega);rw[show((0:Nat):Int)=0 from rfl]at d;simp[Zo.V,e,x,k,l,m,q,r,t,y,n,f,F,jR];rw[zR];simp[Zo.V,e,x,k,l,m,q,r,t,y,d,w,o,n,f,F,qv,qS,zt,zJ,zr,jR,qB,Kn,xi,qn,yu,wQ.V,Cut.V,We,f168]
  ·have f:¬(0:Int)<p.has-1:=by omega
   have o:kf p=0:=by simp[kf,n,f]
   have d:=u 0 (by omega);rw[show((0:Nat):Int)=0 from rfl]at d;simp[Zo.V,e,x,k,l,m,q,r,t,y,n,f,jR];rw[zR];simp[Zo.V,e,x,k,l,m,q,r,t,y,d,w,o,n,f,qv,qS,zt,zJ,zr,jR,qB,Kn,xi,qn,yu,wQ.V,Cut.V,We,f168]
 have e7:=jN s7;have Q:=fun Y Z=>WQ (Z4 p) (xe p) Y Z (Qy B) (Wz B)
 simp only[VI,Cut.V]at Q;simp only[jR]at J;have e1':=T;simp[Zo.V,e,G,Q,k,l,m,q,r,t,y,e7,J,T,W,X,s4,s5,s6,s7,qv,qS,zt,zJ,zr,jR,qB,Kn,xi,qn,yu,wQ.V,Cut.V,We,f168]
noncomputable def FCm (f:Zo->O):zb->Option O:=qd (α:=Zo) (fun c=>[.agg c.V]) Zo.ok f
theorem mf:zg prog 168 (qP [.g Bv] (FCm Kn)):=
 yf (fn:=f168) za9 (qX func168) _ _ fun args r h=>by obtain⟨c,rfl,a,rfl⟩:=zO h;obtain⟨b,d,e⟩:=o0 c a;exact⟨by simp[f168],b,d,e⟩
def wM:List za:=[[62,61],[60,61],[62],[60],[61],[126],[94]]
def wW:List za->za->za×za
 |[],s=>([],s)
 |g::l,s=>if g.isPrefixOf s=true then(g,s.drop g.length)else wW l s
def Nc(s:za):O:=.w5 [str (wW wM s).1,str (wW wM s).2]
noncomputable abbrev Cop:Ctx:=zV prog [(236,hP (Yx M8 fun _ _=>True))]
theorem zeZ:Gd Cop:=zW mixed ⟨l7,trivial⟩
theorem sz(s:za)(h:s.length<=zA):zv Cop f204 [str s]=some (Nc s):=by
 refine zn rfl ?_;have l:∀Y Z,zt prog Y Z 38 7 [(0,str [62,61]),(1,str [60,61]),(2,str [62]),(3,str [60]),(4,str [61]),(5,str [126]),(6,str [94])]=some (.own Z 0 7,qq Y Z (some ⟨9,1,true,zy wM⟩),Z+1):=fun Y Z=>by simp[zt,zJ,zr,wM,str]
 simp[str]at l;simp[l];refine zL (fun k σ Y Z=>σ 0=str s/\σ 8=.own 0 0 7/\σ 9=int 7/\σ 10=int k/\Y 0=some ⟨9,1,true,zy wM⟩/\wW wM s=wW (wM.drop k) s) 7 ⟨by simp,by simp,by simp,by simp,by simp,by simp⟩ ?_;rintro k σ Y Z p ⟨f,g,i,b,m,a⟩;by_cases c:k<7
 ·have e:k<wM.length:=c;have j:wM[k].length<=zA:=by
   have:∀q∈wM,q.length<=zA:=by decide
   exact this _ (zi e)
  have n:=fun Y Z=>LM s wM[k] Y Z h j
  have o:=qe k;have d:(k:Int)<7:=by omega
  rw[zc e]at a;simp only[wW]at a;by_cases Y:(wM[k]).isPrefixOf s=true
  ·rw[zd Y]at a;simp[f,g,i,b,m,d,c,e,n,Y,o,Nc,a,wK,f204]
  ·rw[ze Y]at a;have Y':(wM[k]).isPrefixOf s=false:=MG.2 Y;simp[f,g,i,b,m,d,c,e,n,Y',o];exact⟨by omega,a⟩
 ·obtain rfl:k=7:=by omega
  rw[show wM.drop 7=[]from rfl]at a;simp only[wW]at a;simp[f,g,i,b,Nc,a,wK, f204]
theorem o5:zg prog 204 (hP (PE Nc)):=
 vM zeZ func204 false [] fun l Y=>⟨by simp[f204],_,sz l Y,z8 _⟩
def r9(l:za):Bool:=l.isEmpty
theorem o6:zg prog 202 (hP (FS r9)):=
 vM je func202 false [] fun l Y=>⟨by simp[f202],_,zn rfl (by simp[wK,r9,f202]),z8 _⟩
def gF:Nat->List za->Int
 |_,[]=>-1
 |k,x::l=>if x=[]then k else gF (k+1) l
def mQ:O:=.fn (.func 202) [] []
noncomputable def FIx:zb->Option O:=qd (α:=List za) (fun l=>[.sl 1 (zy l),mQ]) v8 (fun l=>int (gF 0 l))
noncomputable abbrev Cixf:Ctx:=zV prog [(202,hP (FS r9))]
theorem zba:Gd Cixf:=zW mixed ⟨o6,trivial⟩
theorem mg(l:List za)(h:v8 l):zv Cixf f107 [.sl 1 (zy l),mQ]=some (int (gF 0 l)):=by
 refine zn rfl ?_;obtain⟨o,e⟩:=h;unfold zA at o;simp[mQ];refine zL (fun k σ Y Z=>σ 0=.sl 1 (zy l)/\σ 1=mQ/\σ 7=int l.length/\σ 8=int k/\gF 0 l=gF k (l.drop k)) l.length ⟨by simp,by simp[mQ],by simp,by simp,by simp⟩ ?_;rintro k σ Y Z p ⟨f,g,i,j,b⟩;by_cases a:k<l.length
 ·have m:=qe k;have n:=fun Y' Z=>vw r9 l[k] Y' Z (e _ (zi a))
  rw[zc a]at b;simp only[gF]at b;by_cases d:l[k]=[]
  ·rw[zd d]at b;have c:r9 l[k]=true:=by simpa[r9]using d
   simp[f,g,i,j,mQ,a,n,c,m,b,wK,f107]
  ·rw[ze d]at b;have c:r9 l[k]=false:=by simpa[r9]using d
   simp[f,g,i,j,mQ,a,n,c,m];exact⟨a,b⟩
 ·obtain rfl:k=l.length:=by omega
  rw[zp]at b;simp only[gF]at b;simp[f,g,i,j,b,wK,f107]
theorem Sy:∀a b:List za,[O.sl 1 (zy a),mQ]=[O.sl 1 (zy b),mQ]->a=b:=fun a b e=>by
 simp only[zj,zG]at e;injection e with _ e
 exact km e
theorem gG:zg prog 107 (hP FIx):=
 vM zba func107 false [] fun l Y=>⟨by simp[f107],_,mg l Y,z8 _⟩
theorem Sz(l:List za)(Y:Hp)(Z id:Nat)(h:v8 l)(b:Y id=some (VD l)):hP FIx [.own id 0 l.length,mQ] Y Z=some (int (gF 0 l),Y,Z):=by
 have c:(zy l).take l.length=zy l:=zZ (by simp);refine yI (show zC Y [.own id 0 l.length,mQ]=some ([.sl 1 (zy l),mQ],qq Y id none) by have:Y id=some ⟨9,1,true,zy l⟩:=b;simp[mQ,this,c]) (qD (V:=fun l:List za=>[O.sl 1 (zy l),mQ]) (a:=l) Sy h) (.inl rfl)
def wR(l:List za):List za:=l.filter fun x=>!r9 x
theorem ur:∀(l:List za) (k:Nat),(gF k l=-1/\wR l=l)\/∃i,∃h:i<l.length,gF k l=((k+i:Nat):Int)/\r9 l[i]=true/\wR (l.take i)=l.take i
 |[],k=>.inl ⟨rfl,rfl⟩
 |x::l,k=>by
  by_cases a:x=[]
  ·exact .inr ⟨0,by simp,by simp[gF,a],by simp[r9,a],by simp[wR]⟩
  ·have b:r9 x=false:=by simpa[r9]using a
   rcases ur l (k+1)with⟨c,d⟩|⟨i,h,c,d,e⟩
   ·exact .inl ⟨by simp[gF,a,c],by simp only[wR,List.filter_cons,b];simpa[wR]using d⟩
   ·refine .inr ⟨i+1,by simpa using h,by simp only[gF,ze a,c];congr 1;omega,by simpa using d,?_⟩;simp only[yE,wR,List.filter_cons,b];simpa[wR]using e
theorem VK{l:List za}{j:Nat}(h:j<l.length):wR (l.take (j+1))=if r9 l[j]=true then wR (l.take j)else wR (l.take j)++[l[j]]:=by rw[zQ h];simp only[wR,List.filter_append,List.filter_cons,List.filter_nil];cases r9 l[j]<;>simp
theorem lh(a b:List za):zy (a++b)=zy a++zy b:=by simp[zy]
theorem NN{l:List za}{i:Nat}(h:i<l.length):zy l=zy (l.take i)++[str l[i]]::zy (l.drop (i+1)):=by rw[<-aS,<-lh,<-zc h,xB]
noncomputable abbrev Cdf:Ctx:=zV prog [(202,hP (FS r9)),(107,hP FIx)]
theorem ze0:Gd Cdf:=zW mixed ⟨o6,gG,trivial⟩
theorem gH:zg prog 200 (wD Cdf f200):=kL ze0 func200
def DelQ(l:List za)(id:Nat)(Y:Hp)(Z:Nat)(x:O)(Y':Hp)(Z':Nat):Prop:=x=.own id 0 (wR l).length/\Z'=Z/\(∃a,Y' id=some ⟨9,1,true,zy (wR l)++a⟩)/\∀j,j≠id->Y' j=Y j
theorem Ia(l:List za)(E:Hp)(Z0 id:Nat)(h:v8 l)(F:E id=some (VD l)):∃x Y' Z',wD Cdf f200 [.own id 0 l.length,mQ] E Z0=some (x,Y',Z')/\DelQ l id E Z0 x Y' Z':=by
 unfold wD;rw[zd (by simp[f200])];refine qF rfl ?_;have n:=Sz l E Z0 id h F;obtain⟨hl,S⟩:=h;unfold zA at hl;simp only[mQ]at n;have G:E id=some ⟨9,1,true,zy l⟩:=F;rcases ur l 0 with⟨T,H⟩|⟨i,hi,T,H,U⟩
 ·rw[T]at n;simp[mQ,n,DelQ,H,f200];exact⟨[],by simpa using G⟩
 ·rw[T]at n;have W:((i:Int)==-1)=false:=by simp
  have w:=qe i;simp[mQ,n,W,w];refine zL (fun k σ Y Z=>σ 0=.own id 0 l.length/\σ 1=mQ/\σ 5=int (wR (l.take (i+1+k))).length/\σ 6=int ((i:Int)+1+k)/\Z=Z0/\(∀j,j≠id->Y j=E j) /\
    ∃a,Y id=some ⟨9,1,true,zy (wR (l.take (i+1+k)))++a++zy (l.drop (i+1+k))⟩/\(wR (l.take (i+1+k))).length+a.length=i+1+k/\0<a.length/\∀c∈a,c.length=1) (l.length-(i+1))
   ⟨by simp,by simp[mQ],by simp[VK hi,H,U];omega,by simp,rfl,fun _ _=>rfl,[[str l[i]]],by simp[VK hi,H,U,G];exact NN hi,by simp[VK hi,H,U];omega,by simp,by simp⟩ ?_
  rintro k σ Y Z hk ⟨X,h1,I,h6,rfl,z,a,s,A,J,B⟩;obtain⟨j,hj⟩:=wZ (i+1+k);have C:σ 6=int j:=by rw[h6];congr 2;omega
  rw[hj]at I s A;by_cases g:j<l.length
  ·have hc:=fun Y' Z=>vw r9 l[j] Y' Z (S _ (zi g))
   have K:=qe j;have hww:=wq (((wR (l.take j)).length:Int)+1);have u:(zy (wR (l.take j))++a++zy (l.drop j))[j]?=some [str l[j]]:=by rw[zY (by simp;omega),zc g,aS];rw[show j-(zy (wR (l.take j))++a).length=0 by simp;omega];rfl
   have o:(zy (wR (l.take j))++a++zy (l.drop j)).length=l.length:=by simp;omega
   obtain⟨d,f⟩:=wZ (zy (wR (l.take j))++a++zy (l.drop j));rw[f]at s u o;have p:∀h:j<d.length,d[j]=[str l[j]]:=fun h=>(zk.1 u).2
   have t:=VK g;have L:i+1+(k+1)=j+1:=by omega
   have w:(wR (l.take j)).length<l.length:=by omega
   cases R:r9 l[j]
   ·rw[R,ze (by simp)]at t;obtain⟨y,b,rfl,D⟩:∃y b,a=[y]::b/\∀c∈b,c.length=1:=by
     cases a with
     |nil=>simp at J
     |cons x b=>
      have:=B x (by simp)
      match x,this with
      |[y],_=>exact⟨y,b,rfl,fun c hc=>B c (by simp[hc])⟩
    have hg3:∀h:(wR (l.take j)).length<d.length,d[(wR (l.take j)).length]=[y]:=fun h=>by
     have:d[(wR (l.take j)).length]?=some [y]:=by rw[<-f,qG,zY (by simp)];simp
     exact(zk.1 this).2
    have M:d.set (wR (l.take j)).length [str l[j]]=zy (wR (l.take j))++([str l[j]]::b++zy (l.drop j)):=by rw[<-f,qG,List.set_append_right _ _ (by simp)];simp
    simp only[zx]at A;simp[X,h1,I,C,mQ,g,s,p,hc,R,K,hww,w,o,hg3,M,L,t];refine⟨by omega,by omega,fun q N=>by rw[zz _ _ _ _ N];exact z q N,b++[[str l[j]]],?_,by simp;omega,by simp,?_⟩
    ·rw[lh];simp;rw[zc g,aS]
    ·intro c hc;rcases qi.1 hc with hc|hc
     ·exact D c hc
     ·simp at hc;subst hc;rfl
   ·rw[R,zd rfl]at t;simp[X,h1,I,C,mQ,g,s,p,hc,R,K,L,t,o];refine⟨by omega,by omega,z,a++[[str l[j]]],?_,by simp;omega,by simp,?_⟩
    ·rw[<-f];simp;rw[zc g,aS]
    ·intro c hc;rcases qi.1 hc with hc|hc
     ·exact B c hc
     ·simp at hc;subst hc;rfl
  ·obtain rfl:j=l.length:=by omega
   rw[qf]at I s A;rw[zp,D5,ku]at s;have hn1:¬(l.length:Int)<l.length:=by omega
   have v:(wR l).length<=l.length:=by omega
   have m:l.length-(wR l).length=a.length:=by omega
   have hcl:fV prog Y Z 38 (.own id (wR l).length a.length)=some (.w5 [],qq Y id (some ⟨9,1,true,zy (wR l)++List.replicate a.length [str []]⟩),Z):=by
    have ht:(zy (wR l)++a).take (wR l).length=zy (wR l):=by rw[List.take_append_of_le_length (by simp),ND]
    have hd:(zy (wR l)++a).drop ((wR l).length+a.length)=[]:=jF (by simp);simp[fV,s,ht,hd,J,str]
   have hs1:∀Y:Hp,Y id=some ⟨9,1,true,zy (wR l)++a⟩->jO prog Y 38 (.own id 0 l.length) (some (some (int (wR l).length))) none=some (.own id (wR l).length a.length):=fun Y F=>by
    have:¬l.length=(wR l).length:=by omega
    simp[jO,F,vD,v,m,this];intro e;rw[e]at m⊢;simp at m;simp[m]
   have hs2:∀(Y:Hp) (r:List zb),Y id=some ⟨9,1,true,r⟩->jO prog Y 38 (.own id 0 l.length) none (some (some (int (wR l).length)))=some (.own id 0 (wR l).length):=fun Y r F=>by simp[jO,F,vD,v]
   have P:=hs1 Y s;have Q:=hs2 (qq Y id (some ⟨9,1,true,zy (wR l)++List.replicate a.length [str []]⟩)) _ (by simp;rfl);simp[X,h1,I,C,mQ,s,P,Q,hcl,f200];exact⟨rfl,rfl,⟨_,by simp;rfl⟩,fun q N=>by rw[zz _ _ _ _ N];exact z q N⟩
def gI:Zo:=⟨jR,wO,wO⟩
def KR(a:za)(p:Part):Zo:=⟨a,p,wO⟩
def kZ(w:za)(l:List za):Option (Zo×List za):=
 if(wW wM w).1=[]/\yO (wW wM w).2=true then some (gI,l)
 else if(wW wM w).1≠[]/\(wW wM w).2=[]/\l≠[]then(match l with
  |r::l'=>if(zX r).2=true then some (KR (wW wM w).1 (zX r).1,l')else none
  |[]=>none)
 else if(zX (wW wM w).2).2=true then some (KR (wW wM w).1 (zX (wW wM w).2).1,l)else none
def yT:Nat->List za->Option (List Zo)
 | 0,_=>some []
 |_+1,[]=>some []
 |n+1,w::l=>match kZ w l with
  |some (c,l')=>(yT n l').map (c::·)
  |none=>none
theorem SA{w:za}{l l':List za}{c:Zo}(h:kZ w l=some (c,l')):l'.length<=l.length:=by
 unfold kZ at h;split at h
 ·injection h with h;injection h with _ h;subst h;exact zl _
 ·split at h
  ·split at h
   ·split at h
    ·injection h with h;injection h with _ h;subst h;simp
    ·cases h
   ·cases h
  ·split at h
   ·injection h with h;injection h with _ h;subst h;exact zl _
   ·cases h
def Wc(t:za):List Zo×Bool:=
 match wR (qy t [32])with
 |[a,b,c]=>if b=[45]then([⟨[45],(zX a).1,(zX c).1⟩],(zX a).2&&(zX c).2)else(match yT 3 [a,b,c]with
  |some l=>(l,!l.isEmpty)
  |none=>([],false))
 |ws=>match yT ws.length ws with
  |some l=>(l,!l.isEmpty)
  |none=>([],false)
def Z5(l:List Zo):List zb:=l.map Zo.V
def Bz(t:za):O:=.w5 [.sl 11 (Z5 (Wc t).1),wb (Wc t).2]
theorem VL:∀(gs:List za) (s:za),(wW gs s).2.length<=s.length
 |[],s=>zl _
 |g::l,s=>by
  simp only[wW];split
  ·simp
  ·exact VL l s
noncomputable abbrev Calt:Ctx:=zV prog [(201,jm [] FSp),(200,wD Cdf f200),(203,hP (bz kC)),(204,hP (PE Nc)),(205,hP (FS yO))]
theorem zbb:AM.Good Calt (fun g=>[205].contains g):=qC mixed ⟨Ya,by simp,gH,by simp,ek,by simp,o5,by simp,oG,fun _=>zu _ _,trivial⟩
def KS:O->Nat
 | .own _ _ n=>n
 |_=>0
def SB(a:List za)(b:List zb)(st:St):Prop:=∃f rest l xs,rest.length<=f/\xs.length+rest.length<=a.length/\a.drop (a.length-rest.length)=rest/\(rest=[]/\st.σ 4=.sl 1 []\/st.σ 4=.own 0 (a.length-rest.length) rest.length) /\
 qN st.Y st.Z 198 11 (st.σ 9) xs/\(∀n,st.σ 9≠.own 0 0 n)/\xs.map (QN Bv)=Z5 l/\1<=st.Z/\st.Y 0=some ⟨9,1,true,b⟩/\yT a.length a=(yT f rest).map (l++·)
theorem sl1(Y:Hp)(a:List zb)(o n:Nat)(b:Y 0=some ⟨9,1,true,a⟩):jO prog Y 38 (.own 0 o (n+1)) (some (some (int 1))) none=some (if n=0 then .sl 1 []else .own 0 (o+1) n):=by simp[jO,b,vD]
theorem Z6{b a}{f':Nat}{l':List za}{l:List Zo}{c:Zo}{xs:List zb}{d:zb}{st:St}{v4:O}(k:l'.length<=f')(r:xs.length+1+l'.length<=b.length)(f:b.drop (b.length-l'.length)=l')(m:st.σ 4=v4)(g:l'=[]/\v4=.sl 1 []\/v4=.own 0 (b.length-l'.length) l'.length)
  (o:qN st.Y st.Z 198 11 (st.σ 9) (xs++[d])) (h:∀n,st.σ 9≠.own 0 0 n) (e:QN Bv d=c.V) (i:xs.map (QN Bv)=Z5 l) (j:1<=st.Z) (p:st.Y 0=some ⟨9,1,true,a⟩) (q:yT b.length b=(yT f' l').map ((l++[c])++·)):SB b a st:=
 ⟨f',l',l++[c],xs++[d],k,by simp;omega,f,by rw[m];exact g,o,h,by simp[i,e,Z5],j,p,q⟩
theorem Ej(f:Nat):yT f []=some []:=by cases f<;>rfl
theorem gJ(t:za)(ht:t.length+1<=zA):∃r0,zv Calt f166 [str t]=some r0/\wL r0 (Bz t):=by
 refine ji (sh:=.s 11 Bv) rfl ?_;have hsp:=fun Y Z=>Qn t [32] Y Z (by omega) (by decide) (by decide)
 have hpl:∀p∈qy t [32],p.length+1<=zA:=fun p Y=>by have:=xM Y;omega
 have Pu:v8 (qy t [32]):=⟨by have:=Zu (s:=t) (sep:=[32]) (by simp);omega,fun p Y=>by have:=hpl p Y;omega⟩;obtain⟨x,Y1,nx1,Xc,hx,hnx,⟨pad,hb⟩,PN⟩:=Ia (qy t [32]) (qq (fun _=>none) 0 (some ⟨9,1,true,zy (qy t [32])⟩)) 1 0 Pu (by simp);subst hx;subst hnx;obtain⟨g,hws⟩:=wZ (wR (qy t [32]));have hwl:∀p∈g,p.length+1<=zA:=fun p Y=>hpl p (by rw[<-hws]at Y;exact(zdZ.1 Y).1)
 rw[hws]at Xc hb;simp only[mQ]at Xc;have D:g.length<=zA:=by
  have h1:=zfI (fun x=>!r9 x) (qy t [32]);have h2:=Zu (s:=t) (sep:=[32]) (by simp);have h3:g.length=(wR (qy t [32])).length:=by rw[hws]
  unfold wR at h3;omega
 have Dq:=fun(p:za) (Y:p.length+1<=zA) Y' Z=>ZM kC p Y' Z Y
 simp[hsp,Xc];by_cases hc:∃a c,g=[a,[45],c]
 ·obtain⟨a,c,rfl⟩:=hc;have ha:=fun Y' Z=>Dq a (hwl a (by simp)) Y' Z
  have hcc:=fun Y' Z=>Dq c (hwl c (by simp)) Y' Z
  simp only[kC,Part.V]at ha hcc;have m:Bz t=.w5 [.sl 11 (Z5 [⟨[45],(zX a).1,(zX c).1⟩]),wb ((zX a).2&&(zX c).2)]:=by simp only[Bz,Wc,hws,qV]
  rw[m];have hn:∀k,0<k->Y1 k=none:=fun k hk=>by rw[PN k (by omega),zz _ _ _ _ (by omega)]
  simp[hb,ha,hcc,qv,qS,zt,zJ,zr,qB,Z5,Zo.V,f166]
 ·have m:Bz t=(match yT g.length g with
   |some l=>.w5 [.sl 11 (Z5 l),wb (!l.isEmpty)]
   |none=>.w5 [.sl 11 [],wb false]):=by
   have hR:Wc t=(match yT g.length g with
    |some l=>(l,!l.isEmpty)
    |none=>([],false)):=by
    unfold Wc;rw[hws]
    match g,hc with
    |[],_=>rfl
    |[_],_=>rfl
    |[_,_],_=>rfl
    |[a,b,c],hc=>
     have:¬b=[45]:=fun e=>hc ⟨a,c,by rw[e]⟩
     simp only[ze this];rfl
    |_::_::_::_::_,_=>rfl
   unfold Bz;rw[hR];cases yT g.length g<;>rfl
  obtain⟨z,MM⟩:=wZ (zy g++pad);have hrl:g.length<=z.length:=by rw[<-MM];simp
  have hat:∀k (h:k<g.length) (h':k<z.length),z[k]=[str g[k]]:=fun k h h'=>by subst MM;rw[List.getElem_append_left (by simpa using h)];simp[zy]
  rw[MM]at hb;clear MM;by_cases h3:g.length=3
  ·have h31:=hat 1 (by omega) (by omega);have hne:(g[1]==[45])=false:=by
    match g,h3,hc with
    |[a,b,c],_,hc=>simpa using fun e=>hc ⟨a,c,by rw[e]⟩
   have h3l:1<z.length:=by omega
   have h33:((g.length:Int)==3)=true:=by simp[h3]
   simp[hb,h33,h3,h31,hne,h3l];refine Jl (SB g z) (fun st=>KS (st.σ 4)) ⟨g.length,g,[],[],zl _,by simp,by simp,.inr (by simp;try omega),.inl ⟨by simp,rfl⟩,by simp,rfl,by simp,by simpa using hb,by simp⟩ ?_;clear Xc PN hsp;rintro⟨σ,Y,Z⟩ ⟨f,rest,l,xs,hf,PO,PK,h4,R,hO0,E,hnx,I,Q⟩;simp only at h4 R hO0 hnx I;cases rest with
   |nil=>
    rw[Ej]at Q;simp only[zH,ku]at Q;rw[Q]at m;rw[m];have Xd:xs.length=l.length:=by have:=zo List.length E;simpa[Z5]using this
    have hb1:(decide ((0:Int)<(xs.length:Int)))=!l.isEmpty:=by rw[Xd];cases l<;>simp
    have hb2:(decide (0<xs.length))=!l.isEmpty:=by rw[Xd];cases l<;>simp
    have V8:σ 4=.sl 1 []\/σ 4=.own 0 g.length 0:=by
     rcases h4 with⟨_,h4⟩|h4
     ·exact .inl h4
     ·exact .inr (by simpa using h4)
    rcases R with⟨h9,rfl⟩|⟨id,hid,h9,hb9⟩
    ·simp[Z5]at E;subst E;rcases V8 with V8|V8<;>simp[V8,h9,qB,Z5,f166]
    ·rcases V8 with V8|V8<;>simp[V8,h9,hb9,hb1,hb2,E,qB,f166]
   |cons w l'=>
    obtain⟨f',rfl⟩:∃f',f=f'+1:=⟨f-1,by simp at hf;omega⟩;simp only[zx]at hf PO PK h4;obtain⟨o,ho⟩:=wZ (g.length-(l'.length+1));rw[ho]at PK h4;have V8:σ 4=.own 0 o (l'.length+1):=by
     rcases h4 with⟨h,_⟩|h
     ·cases h
     ·exact h
    have hol:o<g.length:=by omega
    have B:o<z.length:=by omega
    rw[zc hol]at PK;injection PK with hdw J
    have u:z[o]=[str w]:=by rw[hat o hol B,hdw]
    have hww:w.length+1<=zA:=hwl w (by rw[<-hdw];exact zi hol);have C:=fun Y' Z'=>ef Nc w Y' Z' (by omega) rfl
    simp only[Nc]at C;have S:(wW wM w).2.length+1<=zA:=by have:=VL wM w;omega
    have y:=fun Y' Z'=>vw yO (wW wM w).2 Y' Z' (by omega)
    obtain⟨v4,hv4⟩:=wZ (if l'.length=0 then O.sl 1 []else .own 0 (o+1) l'.length);have hs1:=fun Y' (hh:Y' 0=some _)=>sl1 Y' z o l'.length hh
    rw[hv4]at hs1;have n:=hs1 Y I;have T:o+1=g.length-l'.length:=by omega
    have A:l'=[]/\v4=.sl 1 []\/v4=.own 0 (g.length-l'.length) l'.length:=by
     rw[<-hv4,<-T];by_cases h:l'.length=0
     ·exact .inl ⟨qo.1 h,zd h⟩
     ·exact .inr (ze h)
    have U:KS v4<l'.length+1:=by rcases A with⟨_,h⟩|h<;>rw[h]<;>simp[KS]
    have hl4:Vi prog 38 v4=some (int l'.length):=by
     rcases A with⟨h1,h⟩|h
     ·subst h1;rw[h];simp
     ·rw[h];simp
    rw[T]at J;have tp:=fun c R=>qN.yx (Y:=Y) (Z:=Z) (v:=σ 9) (xs:=xs) (P:=prog) (t:=190) (c:=c) R bX bY bZ b4 rfl (by omega) (by unfold maxLen;unfold zA at D;omega) (by unfold zA at D;omega)
    by_cases W:(wW wM w).1=[]/\yO (wW wM w).2=true
    ·have K:kZ w l'=some (gI,l'):=by unfold kZ;rw[zd W]
     have i:yT g.length g=(yT f' l').map ((l++[gI])++·):=by rw[Q];simp only[yT,K];cases yT f' l'<;>simp
     have XE:=tp [str jR,int 0,int 0,int 0,int 0,.nil,int 0,int 0,int 0,int 0,.nil] R;obtain⟨hA1,hA2⟩:=W;simp only[jR]at XE;simp[V8,I,B,u,C,y,n,hA1,hA2,XE,qv,qS,zt,zJ,zr];have n0:¬0=Z:=by omega
     have n1:¬0=Z+1:=by omega
     have n2:¬0=Z+2:=by omega
     have N:=fun Y'=>yr R Y' 0 hO0
     exact⟨Z6 (v4:=v4) (c:=gI) (f':=f') (l':=l') (l:=l) (xs:=xs) (by omega) (by omega) J (by simp) A (by simpa using qN.after) (by simp<;>omega) rfl E (by simp) (by simp[N,n0,n1,n2,I]) i,by simpa[KS]using U⟩
    have n0:¬0=Z:=by omega
    have n1:¬0=Z+1:=by omega
    have n2:¬0=Z+2:=by omega
    have N:=fun Y'=>yr R Y' 0 hO0
    by_cases X:(wW wM w).1=[]
    ·have F:((wW wM w).1==[])=true:=by simpa using X
     have G:(wW wM w).1.isEmpty=true:=by simpa using X
     have H:((wW wM w).1 != [])=false:=by simpa using X
     have hOp:yO (wW wM w).2=false:=by
      cases h:yO (wW wM w).2
      ·rfl
      ·exact absurd ⟨X,h⟩ W
     have q:=fun Y' Z'=>Dq (wW wM w).2 S Y' Z'
     simp only[kC,Part.V]at q;cases d:(zX (wW wM w).2).2
     ·have K:kZ w l'=none:=by unfold kZ;rw[ze W,ze (fun h=>h.1 X),ze (by rw[d];simp)]
      have i:yT g.length g=none:=by rw[Q];simp only[yT,K];rfl
      rw[i]at m;simp[V8,I,B,u,C,y,n,F,G,H,hOp,q,d,qv,qS,m,Z5,qB,f166]
     ·have K:kZ w l'=some (KR (wW wM w).1 (zX (wW wM w).2).1,l'):=by unfold kZ;rw[ze W,ze (fun h=>h.1 X),zd d]
      have i:yT g.length g=(yT f' l').map ((l++[KR (wW wM w).1 (zX (wW wM w).2).1])++·):=by rw[Q];simp only[yT,K];cases yT f' l'<;>simp
      have j:=qN.yx (P:=prog) (t:=190) (c:=[str (wW wM w).1,int (zX (wW wM w).2).1.n0,int (zX (wW wM w).2).1.n1,int (zX (wW wM w).2).1.n2,int (zX (wW wM w).2).1.has,.sl 1 (zy (zX (wW wM w).2).1.pre),int 0,int 0,int 0,int 0,.nil]) (R.more (some ⟨196,5,false,[(zX (wW wM w).2).1.V]⟩)) bX bY bZ b4 rfl (by omega) (by unfold maxLen;unfold zA at D;omega) (by unfold zA at D;omega);simp only[Part.V]at j;simp[V8,I,B,u,C,y,n,F,G,H,hOp,q,d,j,qv,qS,zt,zJ,zr];exact⟨Z6 (v4:=v4) (c:=KR (wW wM w).1 (zX (wW wM w).2).1) (f':=f') (l':=l') (l:=l) (xs:=xs) (by omega) (by omega) J (by simp) A (by simpa using qN.after) (by simp<;>omega) rfl E (by simp) (by simp[N,n0,n1,n2,I]) i,by simpa[KS]using U⟩
    have F:=jN X;have G:(wW wM w).1.isEmpty=false:=by simpa using X
    have H:((wW wM w).1 != [])=true:=by simpa using X
    by_cases hR:(wW wM w).2=[]
    ·have L:((wW wM w).2==[])=true:=by simpa using hR
     have M:(wW wM w).2.isEmpty=true:=by simpa using hR
     by_cases hL:l'=[]
     ·have hLz:l'.length=0:=by rw[hL];rfl
      have hLp:¬0<l'.length:=by omega
      have hLq:¬(0:Int)<(l'.length:Int):=by omega
      have q:=fun Y' Z'=>Dq (wW wM w).2 S Y' Z'
      simp only[kC,Part.V]at q;cases d:(zX (wW wM w).2).2
      ·have K:kZ w l'=none:=by unfold kZ;rw[ze W,ze (fun h=>h.2.2 hL),ze (by rw[d];simp)]
       have i:yT g.length g=none:=by rw[Q];simp only[yT,K];rfl
       rw[i]at m;simp[V8,I,B,u,C,y,n,F,G,H,L,M,hl4,hLp,hLq,q,d,qv,qS,m,Z5,qB,f166]
      ·have K:kZ w l'=some (KR (wW wM w).1 (zX (wW wM w).2).1,l'):=by unfold kZ;rw[ze W,ze (fun h=>h.2.2 hL),zd d]
       have i:yT g.length g=(yT f' l').map ((l++[KR (wW wM w).1 (zX (wW wM w).2).1])++·):=by rw[Q];simp only[yT,K];cases yT f' l'<;>simp
       have j:=qN.yx (P:=prog) (t:=190) (c:=[str (wW wM w).1,int (zX (wW wM w).2).1.n0,int (zX (wW wM w).2).1.n1,int (zX (wW wM w).2).1.n2,int (zX (wW wM w).2).1.has,.sl 1 (zy (zX (wW wM w).2).1.pre),int 0,int 0,int 0,int 0,.nil]) (R.more (some ⟨196,5,false,[(zX (wW wM w).2).1.V]⟩)) bX bY bZ b4 rfl (by omega) (by unfold maxLen;unfold zA at D;omega) (by unfold zA at D;omega);simp only[Part.V]at j;simp[V8,I,B,u,C,y,n,F,G,H,L,M,hl4,hLp,hLq,q,d,j,qv,qS,zt,zJ,zr];exact⟨Z6 (v4:=v4) (c:=KR (wW wM w).1 (zX (wW wM w).2).1) (f':=f') (l':=l') (l:=l) (xs:=xs) (by omega) (by omega) J (by simp) A (by simpa using qN.after) (by simp<;>omega) rfl E (by simp) (by simp[N,n0,n1,n2,I]) i,by simpa[KS]using U⟩
     ·obtain⟨r,l2,rfl⟩:∃r l2,l'=r::l2:=by
       cases l' with
       |nil=>exact absurd rfl hL
       |cons r l2=>exact⟨r,l2,rfl⟩
      have hv:v4=.own 0 (o+1) (l2.length+1):=by
       rcases A with⟨h,_⟩|h
       ·cases h
       ·rw[h,<-T];rfl
      subst hv;simp only[zx]at hf PO ho V8 n T J U;have Lt:o+1<g.length:=by omega
      have Lu:o+1<z.length:=by omega
      rw[<-T,zc Lt]at J;injection J with XH XI
      have GK:z[o+1]=[str r]:=by rw[hat (o+1) Lt Lu,XH]
      have ho2:o+1+1=g.length-l2.length:=by omega
      obtain⟨v5,hv5⟩:=wZ (if l2.length=0 then O.sl 1 []else .own 0 (o+1+1) l2.length);have Lv:=sl1 Y z (o+1) l2.length I;rw[hv5]at Lv;have aL:l2=[]/\v5=.sl 1 []\/v5=.own 0 (g.length-l2.length) l2.length:=by
       rw[<-hv5,<-ho2];by_cases h:l2.length=0
       ·exact .inl ⟨qo.1 h,zd h⟩
       ·exact .inr (ze h)
      have hmu5:KS v5<l2.length+1+1:=by rcases aL with⟨_,h⟩|h<;>rw[h]<;>simp[KS];omega
      rw[ho2]at XI;have GJ:(0:Int)<(l2.length:Int)+1:=by omega
      have GL:(0:Int)<(l2.length:Int)+1+1:=by omega
      have q:=fun Y' Z'=>Dq r (hwl r (by rw[<-XH];exact zi Lt)) Y' Z'
      simp only[kC,Part.V]at q;cases d:(zX r).2
      ·have K:kZ w (r::l2)=none:=by unfold kZ;rw[ze W,zd ⟨X,hR,by simp⟩];simp only[d];rfl
       have i:yT g.length g=none:=by rw[Q];simp only[yT,K];rfl
       rw[i]at m;simp[V8,I,B,u,C,y,n,Lv,Lu,GK,F,G,H,L,M,GJ,GL,q,d,qv,qS,m,Z5,qB,f166]
      ·have K:kZ w (r::l2)=some (KR (wW wM w).1 (zX r).1,l2):=by unfold kZ;rw[ze W,zd ⟨X,hR,by simp⟩];simp only[d,qV]
       have i:yT g.length g=(yT f' l2).map ((l++[KR (wW wM w).1 (zX r).1])++·):=by rw[Q];simp only[yT,K];cases yT f' l2<;>simp
       have j:=qN.yx (P:=prog) (t:=190) (c:=[str (wW wM w).1,int (zX r).1.n0,int (zX r).1.n1,int (zX r).1.n2,int (zX r).1.has,.sl 1 (zy (zX r).1.pre),int 0,int 0,int 0,int 0,.nil]) (R.more (some ⟨196,5,false,[(zX r).1.V]⟩)) bX bY bZ b4 rfl (by omega) (by unfold maxLen;unfold zA at D;omega) (by unfold zA at D;omega);simp only[Part.V]at j;simp[V8,I,B,u,C,y,n,Lv,Lu,GK,F,G,H,L,M,GJ,GL,q,d,j,qv,qS,zt,zJ,zr];exact⟨Z6 (v4:=v5) (c:=KR (wW wM w).1 (zX r).1) (f':=f') (l':=l2) (l:=l) (xs:=xs) (by omega) (by omega) XI (by simp) aL (by simpa using qN.after) (by simp<;>omega) rfl E (by simp) (by simp[N,n0,n1,n2,I]) i,by simpa[KS]using hmu5⟩
    ·have L:=jN hR;have M:(wW wM w).2.isEmpty=false:=by simpa using hR
     have q:=fun Y' Z'=>Dq (wW wM w).2 S Y' Z'
     simp only[kC,Part.V]at q;cases d:(zX (wW wM w).2).2
     ·have K:kZ w l'=none:=by unfold kZ;rw[ze W,ze (fun h=>hR h.2.1),ze (by rw[d];simp)]
      have i:yT g.length g=none:=by rw[Q];simp only[yT,K];rfl
      rw[i]at m;simp[V8,I,B,u,C,y,n,F,G,H,L,M,q,d,qv,qS,m,Z5,qB,f166]
     ·have K:kZ w l'=some (KR (wW wM w).1 (zX (wW wM w).2).1,l'):=by unfold kZ;rw[ze W,ze (fun h=>hR h.2.1),zd d]
      have i:yT g.length g=(yT f' l').map ((l++[KR (wW wM w).1 (zX (wW wM w).2).1])++·):=by rw[Q];simp only[yT,K];cases yT f' l'<;>simp
      have j:=qN.yx (P:=prog) (t:=190) (c:=[str (wW wM w).1,int (zX (wW wM w).2).1.n0,int (zX (wW wM w).2).1.n1,int (zX (wW wM w).2).1.n2,int (zX (wW wM w).2).1.has,.sl 1 (zy (zX (wW wM w).2).1.pre),int 0,int 0,int 0,int 0,.nil]) (R.more (some ⟨196,5,false,[(zX (wW wM w).2).1.V]⟩)) bX bY bZ b4 rfl (by omega) (by unfold maxLen;unfold zA at D;omega) (by unfold zA at D;omega);simp only[Part.V]at j;simp[V8,I,B,u,C,y,n,F,G,H,L,M,q,d,j,qv,qS,zt,zJ,zr];exact⟨Z6 (v4:=v4) (c:=KR (wW wM w).1 (zX (wW wM w).2).1) (f':=f') (l':=l') (l:=l) (xs:=xs) (by omega) (by omega) J (by simp) A (by simpa using qN.after) (by simp<;>omega) rfl E (by simp) (by simp[N,n0,n1,n2,I]) i,by simpa[KS]using U⟩
  ·have h33:((g.length:Int)==3)=false:=by simp;omega
   simp[hb,h33];refine Jl (SB g z) (fun st=>KS (st.σ 4)) ⟨g.length,g,[],[],zl _,by simp,by simp,.inr (by simp;try omega),.inl ⟨by simp,rfl⟩,by simp,rfl,by simp,by simpa using hb,by simp⟩ ?_;clear Xc PN hsp;rintro⟨σ,Y,Z⟩ ⟨f,rest,l,xs,hf,PO,PK,h4,R,hO0,E,hnx,I,Q⟩;simp only at h4 R hO0 hnx I;cases rest with
   |nil=>
    rw[Ej]at Q;simp only[zH,ku]at Q;rw[Q]at m;rw[m];have Xd:xs.length=l.length:=by have:=zo List.length E;simpa[Z5]using this
    have hb1:(decide ((0:Int)<(xs.length:Int)))=!l.isEmpty:=by rw[Xd];cases l<;>simp
    have hb2:(decide (0<xs.length))=!l.isEmpty:=by rw[Xd];cases l<;>simp
    have V8:σ 4=.sl 1 []\/σ 4=.own 0 g.length 0:=by
     rcases h4 with⟨_,h4⟩|h4
     ·exact .inl h4
     ·exact .inr (by simpa using h4)
    rcases R with⟨h9,rfl⟩|⟨id,hid,h9,hb9⟩
    ·simp[Z5]at E;subst E;rcases V8 with V8|V8<;>simp[V8,h9,qB,Z5,f166]
    ·rcases V8 with V8|V8<;>simp[V8,h9,hb9,hb1,hb2,E,qB,f166]
   |cons w l'=>
    obtain⟨f',rfl⟩:∃f',f=f'+1:=⟨f-1,by simp at hf;omega⟩;simp only[zx]at hf PO PK h4;obtain⟨o,ho⟩:=wZ (g.length-(l'.length+1));rw[ho]at PK h4;have V8:σ 4=.own 0 o (l'.length+1):=by
     rcases h4 with⟨h,_⟩|h
     ·cases h
     ·exact h
    have hol:o<g.length:=by omega
    have B:o<z.length:=by omega
    rw[zc hol]at PK;injection PK with hdw J
    have u:z[o]=[str w]:=by rw[hat o hol B,hdw]
    have hww:w.length+1<=zA:=hwl w (by rw[<-hdw];exact zi hol);have C:=fun Y' Z'=>ef Nc w Y' Z' (by omega) rfl
    simp only[Nc]at C;have S:(wW wM w).2.length+1<=zA:=by have:=VL wM w;omega
    have y:=fun Y' Z'=>vw yO (wW wM w).2 Y' Z' (by omega)
    obtain⟨v4,hv4⟩:=wZ (if l'.length=0 then O.sl 1 []else .own 0 (o+1) l'.length);have hs1:=fun Y' (hh:Y' 0=some _)=>sl1 Y' z o l'.length hh
    rw[hv4]at hs1;have n:=hs1 Y I;have T:o+1=g.length-l'.length:=by omega
    have A:l'=[]/\v4=.sl 1 []\/v4=.own 0 (g.length-l'.length) l'.length:=by
     rw[<-hv4,<-T];by_cases h:l'.length=0
     ·exact .inl ⟨qo.1 h,zd h⟩
     ·exact .inr (ze h)
    have U:KS v4<l'.length+1:=by rcases A with⟨_,h⟩|h<;>rw[h]<;>simp[KS]
    have hl4:Vi prog 38 v4=some (int l'.length):=by
     rcases A with⟨h1,h⟩|h
     ·subst h1;rw[h];simp
     ·rw[h];simp
    rw[T]at J;have tp:=fun c R=>qN.yx (Y:=Y) (Z:=Z) (v:=σ 9) (xs:=xs) (P:=prog) (t:=190) (c:=c) R bX bY bZ b4 rfl (by omega) (by unfold maxLen;unfold zA at D;omega) (by unfold zA at D;omega)
    by_cases W:(wW wM w).1=[]/\yO (wW wM w).2=true
    ·have K:kZ w l'=some (gI,l'):=by unfold kZ;rw[zd W]
     have i:yT g.length g=(yT f' l').map ((l++[gI])++·):=by rw[Q];simp only[yT,K];cases yT f' l'<;>simp
     have XE:=tp [str jR,int 0,int 0,int 0,int 0,.nil,int 0,int 0,int 0,int 0,.nil] R;obtain⟨hA1,hA2⟩:=W;simp only[jR]at XE;simp[V8,I,B,u,C,y,n,hA1,hA2,XE,qv,qS,zt,zJ,zr];have n0:¬0=Z:=by omega
     have n1:¬0=Z+1:=by omega
     have n2:¬0=Z+2:=by omega
     have N:=fun Y'=>yr R Y' 0 hO0
     exact⟨Z6 (v4:=v4) (c:=gI) (f':=f') (l':=l') (l:=l) (xs:=xs) (by omega) (by omega) J (by simp) A (by simpa using qN.after) (by simp<;>omega) rfl E (by simp) (by simp[N,n0,n1,n2,I]) i,by simpa[KS]using U⟩
    have n0:¬0=Z:=by omega
    have n1:¬0=Z+1:=by omega
    have n2:¬0=Z+2:=by omega
    have N:=fun Y'=>yr R Y' 0 hO0
    by_cases X:(wW wM w).1=[]
    ·have F:((wW wM w).1==[])=true:=by simpa using X
     have G:(wW wM w).1.isEmpty=true:=by simpa using X
     have H:((wW wM w).1 != [])=false:=by simpa using X
     have hOp:yO (wW wM w).2=false:=by
      cases h:yO (wW wM w).2
      ·rfl
      ·exact absurd ⟨X,h⟩ W
     have q:=fun Y' Z'=>Dq (wW wM w).2 S Y' Z'
     simp only[kC,Part.V]at q;cases d:(zX (wW wM w).2).2
     ·have K:kZ w l'=none:=by unfold kZ;rw[ze W,ze (fun h=>h.1 X),ze (by rw[d];simp)]
      have i:yT g.length g=none:=by rw[Q];simp only[yT,K];rfl
      rw[i]at m;simp[V8,I,B,u,C,y,n,F,G,H,hOp,q,d,qv,qS,m,Z5,qB,f166]
     ·have K:kZ w l'=some (KR (wW wM w).1 (zX (wW wM w).2).1,l'):=by unfold kZ;rw[ze W,ze (fun h=>h.1 X),zd d]
      have i:yT g.length g=(yT f' l').map ((l++[KR (wW wM w).1 (zX (wW wM w).2).1])++·):=by rw[Q];simp only[yT,K];cases yT f' l'<;>simp
      have j:=qN.yx (P:=prog) (t:=190) (c:=[str (wW wM w).1,int (zX (wW wM w).2).1.n0,int (zX (wW wM w).2).1.n1,int (zX (wW wM w).2).1.n2,int (zX (wW wM w).2).1.has,.sl 1 (zy (zX (wW wM w).2).1.pre),int 0,int 0,int 0,int 0,.nil]) (R.more (some ⟨196,5,false,[(zX (wW wM w).2).1.V]⟩)) bX bY bZ b4 rfl (by omega) (by unfold maxLen;unfold zA at D;omega) (by unfold zA at D;omega);simp only[Part.V]at j;simp[V8,I,B,u,C,y,n,F,G,H,hOp,q,d,j,qv,qS,zt,zJ,zr];exact⟨Z6 (v4:=v4) (c:=KR (wW wM w).1 (zX (wW wM w).2).1) (f':=f') (l':=l') (l:=l) (xs:=xs) (by omega) (by omega) J (by simp) A (by simpa using qN.after) (by simp<;>omega) rfl E (by simp) (by simp[N,n0,n1,n2,I]) i,by simpa[KS]using U⟩
    have F:=jN X;have G:(wW wM w).1.isEmpty=false:=by simpa using X
    have H:((wW wM w).1 != [])=true:=by simpa using X
    by_cases hR:(wW wM w).2=[]
    ·have L:((wW wM w).2==[])=true:=by simpa using hR
     have M:(wW wM w).2.isEmpty=true:=by simpa using hR
     by_cases hL:l'=[]
     ·have hLz:l'.length=0:=by rw[hL];rfl
      have hLp:¬0<l'.length:=by omega
      have hLq:¬(0:Int)<(l'.length:Int):=by omega
      have q:=fun Y' Z'=>Dq (wW wM w).2 S Y' Z'
      simp only[kC,Part.V]at q;cases d:(zX (wW wM w).2).2
      ·have K:kZ w l'=none:=by unfold kZ;rw[ze W,ze (fun h=>h.2.2 hL),ze (by rw[d];simp)]
       have i:yT g.length g=none:=by rw[Q];simp only[yT,K];rfl
       rw[i]at m;simp[V8,I,B,u,C,y,n,F,G,H,L,M,hl4,hLp,hLq,q,d,qv,qS,m,Z5,qB,f166]
      ·have K:kZ w l'=some (KR (wW wM w).1 (zX (wW wM w).2).1,l'):=by unfold kZ;rw[ze W,ze (fun h=>h.2.2 hL),zd d]
       have i:yT g.length g=(yT f' l').map ((l++[KR (wW wM w).1 (zX (wW wM w).2).1])++·):=by rw[Q];simp only[yT,K];cases yT f' l'<;>simp
       have j:=qN.yx (P:=prog) (t:=190) (c:=[str (wW wM w).1,int (zX (wW wM w).2).1.n0,int (zX (wW wM w).2).1.n1,int (zX (wW wM w).2).1.n2,int (zX (wW wM w).2).1.has,.sl 1 (zy (zX (wW wM w).2).1.pre),int 0,int 0,int 0,int 0,.nil]) (R.more (some ⟨196,5,false,[(zX (wW wM w).2).1.V]⟩)) bX bY bZ b4 rfl (by omega) (by unfold maxLen;unfold zA at D;omega) (by unfold zA at D;omega);simp only[Part.V]at j;simp[V8,I,B,u,C,y,n,F,G,H,L,M,hl4,hLp,hLq,q,d,j,qv,qS,zt,zJ,zr];exact⟨Z6 (v4:=v4) (c:=KR (wW wM w).1 (zX (wW wM w).2).1) (f':=f') (l':=l') (l:=l) (xs:=xs) (by omega) (by omega) J (by simp) A (by simpa using qN.after) (by simp<;>omega) rfl E (by simp) (by simp[N,n0,n1,n2,I]) i,by simpa[KS]using U⟩
     ·obtain⟨r,l2,rfl⟩:∃r l2,l'=r::l2:=by
       cases l' with
       |nil=>exact absurd rfl hL
       |cons r l2=>exact⟨r,l2,rfl⟩
      have hv:v4=.own 0 (o+1) (l2.length+1):=by
       rcases A with⟨h,_⟩|h
       ·cases h
       ·rw[h,<-T];rfl
      subst hv;simp only[zx]at hf PO ho V8 n T J U;have Lt:o+1<g.length:=by omega
      have Lu:o+1<z.length:=by omega
      rw[<-T,zc Lt]at J;injection J with XH XI
      have GK:z[o+1]=[str r]:=by rw[hat (o+1) Lt Lu,XH]
      have ho2:o+1+1=g.length-l2.length:=by omega
      obtain⟨v5,hv5⟩:=wZ (if l2.length=0 then O.sl 1 []else .own 0 (o+1+1) l2.length);have Lv:=sl1 Y z (o+1) l2.length I;rw[hv5]at Lv;have aL:l2=[]/\v5=.sl 1 []\/v5=.own 0 (g.length-l2.length) l2.length:=by
       rw[<-hv5,<-ho2];by_cases h:l2.length=0
       ·exact .inl ⟨qo.1 h,zd h⟩
       ·exact .inr (ze h)
      have hmu5:KS v5<l2.length+1+1:=by rcases aL with⟨_,h⟩|h<;>rw[h]<;>simp[KS];omega
      rw[ho2]at XI;have GJ:(0:Int)<(l2.length:Int)+1:=by omega
      have GL:(0:Int)<(l2.length:Int)+1+1:=by omega
      have q:=fun Y' Z'=>Dq r (hwl r (by rw[<-XH];exact zi Lt)) Y' Z'
      simp only[kC,Part.V]at q;cases d:(zX r).2
      ·have K:kZ w (r::l2)=none:=by unfold kZ;rw[ze W,zd ⟨X,hR,by simp⟩];simp only[d];rfl
       have i:yT g.length g=none:=by rw[Q];simp only[yT,K];rfl
       rw[i]at m;simp[V8,I,B,u,C,y,n,Lv,Lu,GK,F,G,H,L,M,GJ,GL,q,d,qv,qS,m,Z5,qB,f166]
      ·have K:kZ w (r::l2)=some (KR (wW wM w).1 (zX r).1,l2):=by unfold kZ;rw[ze W,zd ⟨X,hR,by simp⟩];simp only[d,qV]
       have i:yT g.length g=(yT f' l2).map ((l++[KR (wW wM w).1 (zX r).1])++·):=by rw[Q];simp only[yT,K];cases yT f' l2<;>simp
       have j:=qN.yx (P:=prog) (t:=190) (c:=[str (wW wM w).1,int (zX r).1.n0,int (zX r).1.n1,int (zX r).1.n2,int (zX r).1.has,.sl 1 (zy (zX r).1.pre),int 0,int 0,int 0,int 0,.nil]) (R.more (some ⟨196,5,false,[(zX r).1.V]⟩)) bX bY bZ b4 rfl (by omega) (by unfold maxLen;unfold zA at D;omega) (by unfold zA at D;omega);simp only[Part.V]at j;simp[V8,I,B,u,C,y,n,Lv,Lu,GK,F,G,H,L,M,GJ,GL,q,d,j,qv,qS,zt,zJ,zr];exact⟨Z6 (v4:=v5) (c:=KR (wW wM w).1 (zX r).1) (f':=f') (l':=l2) (l:=l) (xs:=xs) (by omega) (by omega) XI (by simp) aL (by simpa using qN.after) (by simp<;>omega) rfl E (by simp) (by simp[N,n0,n1,n2,I]) i,by simpa[KS]using hmu5⟩
    ·have L:=jN hR;have M:(wW wM w).2.isEmpty=false:=by simpa using hR
     have q:=fun Y' Z'=>Dq (wW wM w).2 S Y' Z'
     simp only[kC,Part.V]at q;cases d:(zX (wW wM w).2).2
     ·have K:kZ w l'=none:=by unfold kZ;rw[ze W,ze (fun h=>hR h.2.1),ze (by rw[d];simp)]
      have i:yT g.length g=none:=by rw[Q];simp only[yT,K];rfl
      rw[i]at m;simp[V8,I,B,u,C,y,n,F,G,H,L,M,q,d,qv,qS,m,Z5,qB,f166]
     ·have K:kZ w l'=some (KR (wW wM w).1 (zX (wW wM w).2).1,l'):=by unfold kZ;rw[ze W,ze (fun h=>hR h.2.1),zd d]
      have i:yT g.length g=(yT f' l').map ((l++[KR (wW wM w).1 (zX (wW wM w).2).1])++·):=by rw[Q];simp only[yT,K];cases yT f' l'<;>simp
      have j:=qN.yx (P:=prog) (t:=190) (c:=[str (wW wM w).1,int (zX (wW wM w).2).1.n0,int (zX (wW wM w).2).1.n1,int (zX (wW wM w).2).1.n2,int (zX (wW wM w).2).1.has,.sl 1 (zy (zX (wW wM w).2).1.pre),int 0,int 0,int 0,int 0,.nil]) (R.more (some ⟨196,5,false,[(zX (wW wM w).2).1.V]⟩)) bX bY bZ b4 rfl (by omega) (by unfold maxLen;unfold zA at D;omega) (by unfold zA at D;omega);simp only[Part.V]at j;simp[V8,I,B,u,C,y,n,F,G,H,L,M,q,d,j,qv,qS,zt,zJ,zr];exact⟨Z6 (v4:=v4) (c:=KR (wW wM w).1 (zX (wW wM w).2).1) (f':=f') (l':=l') (l:=l) (xs:=xs) (by omega) (by omega) J (by simp) A (by simpa using qN.after) (by simp<;>omega) rfl E (by simp) (by simp[N,n0,n1,n2,I]) i,by simpa[KS]using U⟩
theorem eA:zg prog 166 (hP (bz Bz)):=
 W6 (fn:=f166) zbb (qX func166) false [] _ fun args r h w S vs a=>by obtain⟨l,rfl,Y,rfl⟩:=zO h;obtain⟨b,c,d⟩:=gJ l Y;exact⟨_,b,a,by simp[f166],c,d⟩
noncomputable def xj (s:wQ) (c:Cut):Bool:=decide (wV s.lo c<=0)&&(s.vW||decide (wV c s.hi<0))
def wQ.small(s:wQ):Prop:=s.lo.v.small/\s.hi.v.small
theorem KT(x y:Cut)(Y:Hp)(Z:Nat)(a:x.v.small)(b:y.v.small):qP [.g kn,.g kn] (Ee fun v w=>int (wV v w)) [.agg x.V,.agg y.V] Y Z=some (int (wV x y),Y,Z):=Bs x y (.agg x.V) (.agg y.V) Y Z (Bx x) (Bx y) (by simp only[zC,Sx]) a b
noncomputable abbrev LY:Ctx:=zV prog [(212,qP [.g kn,.g kn] (Ee fun v w=>int (wV v w)))]
theorem SC:AM.Good LY (fun g=>[212].contains g):=qC mixed ⟨QU,fun _=>jD _ _,trivial⟩
theorem Ib:zg prog 241 (wD LY f241):=kL SC func241
theorem SD(s:wQ)(c:Cut)(hs:s.small)(a:c.v.small)(Y:Hp)(Z id:Nat)(hid:id<Z)(b:Y id=some ⟨206,5,false,[c.V]⟩) :
  wD LY f241 [.agg s.V,.ref id 0 0] Y Z=some (wb (xj s c),qq Y Z (some ⟨208,11,false,[s.V]⟩),Z+1):=by
 unfold wD;rw[zd (by simp[f241])];refine jf rfl ?_;have d:=fun Y Z=>KT s.lo c Y Z hs.1 a
 have e:=fun Y Z=>KT c s.hi Y Z a hs.2
 have f:¬id=Z:=by omega
 simp only[Cut.V]at d e b;by_cases g:wV s.lo c<=0<;>cases h:s.vW <;>
  simp[wQ.V,Cut.V,d,e,b,f,g,h,xj,f241]
noncomputable def gK (c:Cut):Nat->List wQ->Int
 |_,[]=>-1
 |k,s::l=>if xj s c=true then k else gK c (k+1) l
theorem Ek(c:Cut):∀(l:List wQ) (k:Nat),decide (0<=gK c k l)=l.any (xj · c)
 |[],k=>by simp[gK]
 |s::l,k=>by
  by_cases h:xj s c=true
  ·have e:gK c k (s::l)=k:=by simp only[gK,zd h]
   rw[e,wX,h];simp
  ·have e:gK c k (s::l)=gK c (k+1) l:=by simp only[gK,ze h]
   rw[e,Ek c l (k+1),wX,MG.2 h];rfl
noncomputable abbrev Rc:Ctx:=zV prog [(241,wD LY f241)]
theorem zbc:Gd Rc:=zW mixed ⟨Ib,trivial⟩
theorem NO:zg prog 283 (wD Rc f283):=kL zbc func283
def nJ(id:Nat):O:=.fn (.func 241) [] [.ref id 0 0]
def o7(r:O)(Y:Hp)(Z:Nat)(x:O)(Y':Hp)(Z':Nat):Prop:=x=r/\Z<=Z'/\∀j,j<Z->Y' j=Y j
theorem zbd(l:List wQ)(c:Cut)(w:l.length<=zA)(hs:∀s∈l,s.small)(y:c.v.small)(i:Hp)(Z0 id:Nat)(hid:id<Z0)(z:i id=some ⟨206,5,false,[c.V]⟩) :
  ∃x Y' Z',wD Rc f283 [.sl 11 (qn l),nJ id] i Z0=some (x,Y',Z')/\o7 (int (gK c 0 l)) i Z0 x Y' Z':=by
 unfold wD;rw[zd (by simp[f283])];refine qF rfl ?_;unfold zA at w;have f:(qn l).length=l.length:=by simp[qn]
 simp[nJ,f];refine zL (fun k σ Y Z=>σ 0=.sl 11 (qn l)/\σ 1=nJ id/\σ 7=int l.length/\σ 8=int k/\Z0<=Z/\(∀j,j<Z0->Y j=i j)/\gK c 0 l=gK c k (l.drop k)) l.length ⟨by simp,by simp[nJ],by simp,by simp,zl _,fun _ _=>rfl,by simp⟩ ?_;rintro k σ Y Z A ⟨n,o,p,q,r,d,e⟩;by_cases b:k<l.length
 ·have u:=qe k;have a:=SD l[k] c (hs _ (zi b)) y Y Z id (by omega) (by rw[d id hid];exact z);have g:∀h:k<(qn l).length,(qn l)[k]=l[k].V:=fun h=>by simp[qn]
  simp only[wQ.V,Cut.V,wB,w7]at a g;rw[zc b]at e;simp only[gK]at e;cases m:xj l[k] c
  ·rw[m,ze (by simp)]at e;rw[m]at a;simp[n,o,p,q,nJ,b,f,g,a,u];exact⟨b,by omega,fun j t=>by rw[zz _ _ _ _ (by omega)];exact d j t,e⟩
  ·rw[m,zd rfl]at e;rw[m]at a;simp[n,o,p,q,nJ,b,f,g,a,u,f283];exact⟨by rw[e],by omega,fun j t=>by rw[zz _ _ _ _ (by omega)];exact d j t⟩
 ·obtain rfl:k=l.length:=by omega
  rw[zp]at e;simp only[gK]at e;simp[n,o,p,q,f283];exact⟨by rw[e],r,d⟩
noncomputable abbrev Rf:Ctx:=zV prog [(283,wD Rc f283)]
theorem zbe:Gd Rf:=zW mixed ⟨NO,trivial⟩
theorem NP:zg prog 240 (wD Rf f240):=kL zbe func240
noncomputable def yP (l:List wQ) (c:Cut):Bool:=l.any (xj · c)
theorem zbf(l:List wQ)(c:Cut)(d:l.length<=zA)(hs:∀s∈l,s.small)(e:c.v.small)(a:Hp)(Z0 id:Nat)(hid:id<Z0)(f:a id=some ⟨206,5,false,[c.V]⟩) :
  ∃x Y' Z',wD Rf f240 [.sl 11 (qn l),nJ id] a Z0=some (x,Y',Z')/\o7 (wb (yP l c)) a Z0 x Y' Z':=by
 unfold wD;rw[zd (by simp[f240])];refine qF rfl ?_;obtain⟨x,Y',Z',b,g,h,i⟩:=zbd l c d hs e a Z0 id hid f;subst g;have j:=Ek c l 0;simp only[nJ]at b;simp[nJ,b,j,o7,yP,h,f240];exact i
noncomputable abbrev Ccov:Ctx:=zV prog [(240,wD Rf f240)]
theorem zbg:Gd Ccov:=zW mixed ⟨NP,trivial⟩
def kz(l:List wQ):Prop:=l.length<=zA/\∀s∈l,s.small
theorem o8{a b:wQ}(h:a.V=b.V):a=b:=by obtain⟨⟨⟨s,t,u,v⟩,w⟩,⟨⟨x,y,z,A⟩,g⟩,i⟩:=a;obtain⟨⟨⟨B,C,D,E⟩,F⟩,⟨⟨G,H,I,J⟩,j⟩,k⟩:=b;simp only[wQ.V,Cut.V,wB,w7,zj,zG]at h;obtain⟨l,m,n,c,o,p,q,r,d,e,f⟩:=h;injection c with _ c;injection d with _ d;rw[qR l,qR m,qR n,km c,Wt o,qR p,qR q,qR r,km d,Wt e,Wt f]
theorem Qo{a b:List wQ}(h:qn a=qn b):a=b:=jZ (fun _ _ e=>o8 e) h
noncomputable def FRC (f:List wQ->Cut->O):zb->Option O:=qd (α:=List wQ×Cut) (fun a=>[.sl 11 (qn a.1),.agg a.2.V]) (fun a=>kz a.1/\a.2.v.small) (fun a=>f a.1 a.2)
theorem ze1:∀a b:List wQ×Cut,[O.sl 11 (qn a.1),.agg a.2.V]=[O.sl 11 (qn b.1),.agg b.2.V]->a=b:=by rintro⟨f,g⟩ ⟨h,i⟩ e;simp only[zj,zG]at e;obtain⟨c,d⟩:=e;injection c with _ c;injection d with d;rw[Qo c,Wx d]
theorem El(l:List wQ)(c:Cut)(a:kz l)(d:c.v.small):zv Ccov f213 [.sl 11 (qn l),.agg c.V]=some (wb (yP l c)):=by refine zn rfl ?_;obtain⟨x,Y',Z',b,e,f,g⟩:=zbf l c a.1 a.2 d (qq (fun _=>none) 0 (some ⟨206,5,false,[c.V]⟩)) 1 0 (by omega) (by simp);subst e;simp only[nJ,Cut.V]at b;simp[Cut.V,b,wK,f213]
theorem BA:zg prog 213 (qP [.s 11 jW,.g kn] (FRC fun l c=>wb (yP l c))):=
 yf (fn:=f213) zbg (qX func213) _ _ fun args r h=>by obtain⟨⟨l,c⟩,rfl,⟨a,b⟩,rfl⟩:=zO h;exact⟨by simp[f213],_,El l c a b,wL.refl _⟩
structure TO {α:Type} (c:α->α->Int):Prop where
 refl:∀x,c x x=0
 flip:∀x y,c x y<0↔0<c y x
 tr:∀x y z,c x y<=0->c y z<=0->c x z<=0
theorem TO.le{α:Type}{c:α->α->Int}(h:TO c)(x y:α):c x y<=0↔0<=c y x:=by have:=h.flip y x;omega
theorem TO.eq{α:Type}{c:α->α->Int}(h:TO c)(x y:α):c x y=0↔c y x=0:=by have a:=h.flip y x;have b:=h.flip x y;omega
theorem TO.trans{α:Type}{c:α->α->Int}(h:TO c){x y z:α}(e:c x y<0)(b:c y z<0):c x z<0:=by
 have d:=h.tr x y z (by omega) (by omega);rcases bN d with a|a
 ·exact a
 ·have f:=(h.eq x z).1 a;have g:=h.tr z x y (by omega) (by omega);have:=(h.flip y z).1 b;omega
theorem TO.ntrans{α:Type}{c:α->α->Int}(h:TO c){x y z:α}(a:0<=c x y)(b:0<=c y z):0<=c x z:=
 (h.le z x).1 (h.tr z y x ((h.le z y).2 b) ((h.le y x).2 a))
theorem TO.pull{α a:Type}{c:a->a->Int}(h:TO c)(f:α->a):TO fun x y=>c (f x) (f y):=⟨fun _=>h.refl _,fun _ _=>h.flip _ _,fun _ _ _=>h.tr _ _ _⟩
def Ju{α:Type}(c d:α->α->Int)(x y:α):Int:=if c x y=0 then d x y else c x y
theorem TO.lex{α:Type}{c d:α->α->Int}(f:TO c)(hd:TO d):TO (Ju c d) where
 refl x:=by simp[Ju,f.refl,hd.refl]
 flip x y:=by
  unfold Ju;have g:=f.flip x y;have i:=f.flip y x;have l:=hd.flip x y;by_cases h:c x y=0
  ·rw[zd h,zd ((f.eq x y).1 h)];exact l
  ·rw[ze h,ze (fun e=>h ((f.eq x y).2 e))];exact g
 tr x y z:=by
  unfold Ju;intro g i;by_cases a:c x y=0<;>by_cases b:c y z=0
  ·rw[zd a]at g;rw[zd b]at i;have j:=f.tr x y z (by omega) (by omega);have k:=f.tr z y x (by have:=(f.eq y z).1 b;omega) (by have:=(f.eq x y).1 a;omega);have m:=(f.le z x).1 k;rw[zd (by omega)];exact hd.tr x y z g i
  ·rw[ze b]at i;have j:=f.tr x y z (by omega) i;by_cases e:c x z=0
   ·exfalso;have k:=f.tr z x y (by have:=(f.eq x z).1 e;omega) (by omega);have:=(f.flip y z).1 (by omega);omega
   ·rw[ze e];exact j
  ·rw[ze a]at g;have j:=f.tr x y z g (by omega);by_cases e:c x z=0
   ·exfalso;have k:=f.tr y z x (by omega) (by have:=(f.eq x z).1 e;omega);have:=(f.flip x y).1 (by omega);omega
   ·rw[ze e];exact j
  ·rw[ze a]at g;rw[ze b]at i;have:=f.trans (x:=x) (y:=y) (z:=z) (by omega) (by omega);rw[ze (by omega)];omega
theorem LZ{α:Type}{c:α->α->Int}(h:TO c):TO (y0 c) where
 refl l:=by
  induction l with
  |nil=>rfl
  |cons x l f=>simp[y0,h.refl,f]
 flip a b:=by
  induction a generalizing b with
  |nil=>cases b<;>simp[y0]
  |cons x a f=>
   cases b with
   |nil=>simp[y0]
   |cons y b=>
    simp only[y0];by_cases e:c x y=0
    ·rw[zd e,zd ((h.eq x y).1 e)];exact f b
    ·rw[ze e,ze (fun m=>e ((h.eq x y).2 m))];exact h.flip x y
 tr a b d:=by
  induction a generalizing b d with
  |nil=>cases d<;>simp[y0]
  |cons x a f=>
   cases b with
   |nil=>simp[y0]
   |cons y b=>
    cases d with
    |nil=>simp[y0]
    |cons z d=>
     simp only[y0];intro g i;by_cases p:c x y=0<;>by_cases q:c y z=0
     ·rw[zd p]at g;rw[zd q]at i;have j:=h.tr x y z (by omega) (by omega);have k:=h.tr z y x (by have:=(h.eq y z).1 q;omega) (by have:=(h.eq x y).1 p;omega);have n:=(h.le z x).1 k;rw[zd (by omega)];exact f b d g i
     ·rw[ze q]at i;have j:=h.tr x y z (by omega) i;by_cases e:c x z=0
      ·exfalso;have k:=h.tr z x y (by have:=(h.eq x z).1 e;omega) (by omega);have:=(h.flip y z).1 (by omega);omega
      ·rw[ze e];exact j
     ·rw[ze p]at g;have j:=h.tr x y z g (by omega);by_cases e:c x z=0
      ·exfalso;have k:=h.tr y z x (by omega) (by have:=(h.eq x z).1 e;omega);have:=(h.flip x y).1 (by omega);omega
      ·rw[ze e];exact j
     ·rw[ze p]at g;rw[ze q]at i;have:=h.trans (x:=x) (y:=y) (z:=z) (by omega) (by omega);rw[ze (by omega)];omega
theorem Ke:TO w8:=⟨fun x=>by simp[w8],fun x y=>by unfold w8;split<;>split<;>(try split)<;>omega,fun x y z=>by unfold w8;repeat' split<;>omega⟩
theorem Em:∀a b:za,jE a b=y0 (fun x y:UInt8=>w8 x.toNat y.toNat) a b
 |[],[]=>rfl
 |[],_::_=>rfl
 |_::_,[]=>rfl
 |x::a,y::b=>by
  have f:=Em a b;simp only[y0];unfold jE at f⊢;simp only[Lib.compareBytes];rcases Nat.lt_trichotomy x.toNat y.toNat with h|h|h
  ·have c:x<y:=h;have e:w8 x.toNat y.toNat=-1:=by unfold w8;rw[zd (by omega)]
   simp[c,e]
  ·have e:w8 x.toNat y.toNat=0:=by unfold w8;rw[ze (by omega),ze (by omega)]
   have c:¬x<y:=by show¬x.toNat<y.toNat;omega
   have d:¬y<x:=by show¬y.toNat<x.toNat;omega
   simp[c,d,e,f]
  ·have c:¬x<y:=by show¬x.toNat<y.toNat;omega
   have d:y<x:=h;have e:w8 x.toNat y.toNat=1:=by unfold w8;rw[ze (by omega),zd (by omega)]
   simp[c,d,e]
theorem C3:TO jE:=by
 have:jE=y0 (fun x y:UInt8=>w8 x.toNat y.toNat):=by funext a b;exact Em a b
 rw[this];exact LZ (Ke.pull fun x:UInt8=>(x.toNat:Int))
noncomputable def gL (a:za):Int×Int×za×za:=if Zi a=true then(0,(Lib.trimLeftB a 48).length,Lib.trimLeftB a 48,[])else(1,0,[],a)
theorem En(a b:za):yc a b=Ju (fun x y=>w8 x.1 y.1) (Ju (fun x y=>w8 x.2.1 y.2.1) (Ju (fun x y=>jE x.2.2.1 y.2.2.1) fun x y=>jE x.2.2.2 y.2.2.2)) (gL a) (gL b):=by
 unfold yc gL Ju;have r:=C3.refl [];have e:w8 0 0=0:=rfl;have f:w8 1 1=0:=rfl;by_cases c:Zi a=true<;>by_cases d:Zi b=true
 ·simp only[c,d,qV,e,r,Xq]
 ·simp[c,d,w8]
 ·simp[c,d,w8]
 ·simp[c,d,e,f,r]
theorem Ic:TO yc:=by
 have:yc=fun a b=>Ju (fun x y=>w8 x.1 y.1) (Ju (fun x y=>w8 x.2.1 y.2.1) (Ju (fun x y=>jE x.2.2.1 y.2.2.1) fun x y=>jE x.2.2.2 y.2.2.2)) (gL a) (gL b):=by funext a b;exact En a b
 rw[this];exact TO.pull (TO.lex (Ke.pull fun x:Int×Int×za×za=>x.1) (TO.lex (Ke.pull fun x:Int×Int×za×za=>x.2.1) (TO.lex (C3.pull fun x:Int×Int×za×za=>x.2.2.1) (C3.pull fun x:Int×Int×za×za=>x.2.2.2)))) gL
def eB(v:yK):Int:=if v.pre.length=0 then 1 else 0
theorem SE(v w:yK):Wb v w=Ju (fun x y=>w8 x.a y.a) (Ju (fun x y=>w8 x.b y.b) (Ju (fun x y=>w8 x.c y.c) (Ju (fun x y=>w8 (eB x) (eB y)) fun x y=>y0 yc x.pre y.pre))) v w:=by
 unfold Wb Ju;by_cases d:w8 v.a w.a=0
 ·by_cases e:w8 v.b w.b=0
  ·by_cases f:w8 v.c w.c=0
   ·simp only[Xq,d,e,f,qV];by_cases p:v.pre.length=0<;>by_cases q:w.pre.length=0
    ·have g:v.pre=[]:=qo.1 p;have h:w.pre=[]:=qo.1 q;simp[eB,p,q,w8,g,h,y0]
    ·simp[eB,p,q,w8]
    ·simp[eB,p,q,w8]
    ·simp[eB,p,q,w8]
   ·simp[Xq,d,e,f]
  ·simp[Xq,d,e]
 ·simp[Xq,d]
theorem zc4:TO Wb:=by
 have:Wb=Ju (fun x y=>w8 x.a y.a) (Ju (fun x y=>w8 x.b y.b) (Ju (fun x y=>w8 x.c y.c) (Ju (fun x y=>w8 (eB x) (eB y)) fun x y=>y0 yc x.pre y.pre))):=by funext a b;exact SE a b
 rw[this];exact TO.lex (Ke.pull fun x:yK=>x.a) (TO.lex (Ke.pull fun x:yK=>x.b) (TO.lex (Ke.pull fun x:yK=>x.c) (TO.lex (Ke.pull eB) ((LZ Ic).pull fun x:yK=>x.pre))))
def NQ(c:Cut):Int:=if c.after=true then 1 else 0
theorem SF(a b:Cut):wV a b=Ju (fun x y=>Wb x.v y.v) (fun x y=>w8 (NQ x) (NQ y)) a b:=by
 unfold wV Ju;by_cases h:Wb a.v b.v=0
 ·simp only[h,qV];cases c:a.after<;>cases d:b.after<;>simp[NQ,c,d,w8]
 ·simp[h]
theorem wN:TO wV:=by
 have:wV=Ju (fun x y=>Wb x.v y.v) (fun x y=>w8 (NQ x) (NQ y)):=by funext a b;exact SF a b
 rw[this];exact TO.lex (zc4.pull fun x:Cut=>x.v) (Ke.pull NQ)
end Go.Q
namespace Go.Q
open Classical in
noncomputable def SH (x y:zb):Int:=if h:∃a b:Cut,x=a.V/\y=b.V then wV (Classical.choose h) (Classical.choose (jX h))else 0
theorem YX(a b:Cut):SH a.V b.V=wV a b:=by have h:∃c d:Cut,a.V=c.V/\b.V=d.V:=⟨a,b,rfl,rfl⟩;unfold SH;rw[zcP h];have e:=jX (jX h);exact congr (zo wV (Wx e.1).symm) (Wx e.2).symm
def wE(l:List Cut):List zb:=l.map Cut.V
theorem SI(l:List Cut):V7 SH (wE l) where
 irrefl x d:=by obtain⟨a,_,rfl⟩:=q9.1 d;rw[YX,wN.refl];exact ziM _
 trans x d y e z f:=by obtain⟨a,_,rfl⟩:=q9.1 d;obtain⟨b,_,rfl⟩:=q9.1 e;obtain⟨c,_,rfl⟩:=q9.1 f;rw[YX,YX,YX];exact wN.trans
 ntrans x d y e z f:=by obtain⟨a,_,rfl⟩:=q9.1 d;obtain⟨b,_,rfl⟩:=q9.1 e;obtain⟨c,_,rfl⟩:=q9.1 f;rw[YX,YX,YX];exact wN.ntrans
def Rh(x:zb):Prop:=∃a:Cut,x=a.V/\a.v.small
theorem zfa:zdi prog 212 5 SH Rh:=by
 refine⟨fun args w=>?_,_,QU,fun x y _ _ c d=>?_⟩
 ·have h:prog.funcs[212]?=some f212:=func212;simp[callFunc,h,f212]
 ·obtain⟨a,rfl,e⟩:=c;obtain⟨b,rfl,f⟩:=d;rw[YX];exact KT a b _ _ e f
open Classical in
noncomputable def Ie (x:zb):Cut:=if h:∃a:Cut,x=a.V then Classical.choose h else wv
theorem SJ(a:Cut):Ie a.V=a:=by have h:∃c:Cut,a.V=c.V:=⟨a,rfl⟩;unfold Ie;rw[zcP h];exact(Wx (jX h)).symm
theorem XZ(l:List Cut):(wE l).map Ie=l:=by
 induction l with
 |nil=>rfl
 |cons a l b=>show Ie a.V::(wE l).map Ie=_;rw[SJ,b]
theorem X0(l:List Cut):∃s:List Cut,W5 SH (wE l)=wE s/\s.Perm l/\s.Pairwise fun a b=>wV a b<=0:=by
 have Y:=cE (SI l);have hs:=AN (SI l);have c:∀(r:List zb),(∀x∈r,∃a:Cut,x=a.V)->∃s:List Cut,r=wE s:=by
  intro r
  induction r with
  |nil=>intro _;exact⟨[],rfl⟩
  |cons x r d=>
   intro h;obtain⟨a,rfl⟩:=h x (by simp);obtain⟨s,rfl⟩:=d fun y f=>h y (by simp[f])
   exact⟨a::s,rfl⟩
 obtain⟨s,e⟩:=c (W5 SH (wE l)) fun x g=>by have:=Y.mem_iff.1 g;obtain⟨a,_,rfl⟩:=q9.1 this;exact⟨a,rfl⟩
 rw[e]at Y hs;refine⟨s,e,?_,?_⟩
 ·have:=Y.map Ie;rwa [XZ,XZ]at this
 ·rw[wE,List.pairwise_map]at hs;refine hs.imp fun{a b} h=>?_
  rw[YX]at h;exact(wN.le a b).2 h
end Go.Q
namespace Go.Q
def QW(out:List wQ)(c:Cut):List wQ:=match out.getLast? with
 |some s=>out.dropLast++[⟨s.lo,c,false⟩]
 |none=>out
def ca(a:Cut->Bool)(st:Bool×List wQ)(c:Cut):Bool×List wQ:=(a c,if(a c&&!st.1)=true then st.2++[yu c]else if(!a c&&st.1)=true then QW st.2 c else st.2)
theorem NR(a:Cut->Bool)(st:Bool×List wQ)(c:Cut):ca a (ca a st c) c=ca a st c:=by unfold ca;cases a c<;>simp
def Xi(a:Cut->Bool)(l:List Cut)(st:Bool×List wQ):Bool×List wQ:=l.foldl (ca a) st
open Classical in
noncomputable def eC:List Cut->List Cut
 |[]=>[]
 |a::l=>match eC l with
  |[]=>[a]
  |b::r=>if a=b then b::r else a::b::r
theorem o9(c:Cut->Bool):∀(l:List Cut) (st:Bool×List wQ),Xi c l st=Xi c (eC l) st
 |[],st=>rfl
 |a::l,st=>by
  have d:=o9 c l (ca c st a);show Xi c l (ca c st a)=_;rw[d];simp only[eC];split
  ·rename_i e;rw[e];rfl
  ·rename_i b r e;rw[e];split
   ·rename_i h;subst h;show Xi c r (ca c (ca c st a) a)=Xi c r (ca c st a);rw[NR]
   ·rfl
theorem gM:∀(l:List Cut) (c:Cut),c∈eC l↔c∈l
 |[],c=>by simp[eC]
 |a::l,c=>by
  have d:=gM l c;simp only[eC];split
  ·rename_i e;rw[e]at d;simp only[zw,mE,or_false];rw[<-d];simp
  ·rename_i b r e;rw[e]at d;split
   ·rename_i h;subst h;rw[zw (b:=a) (l:=l),<-d];simp
   ·rw[zw,zw (b:=a) (l:=l),d]
theorem eD:∀(l:List Cut) (_:∀a∈l,∀b∈l,wV a b=0->a=b),(l.Pairwise fun a b=>wV a b<=0)->(eC l).Pairwise fun a b=>wV a b<0
 |[],_,_=>.nil
 |a::l,j,hs=>by
  obtain⟨m,n⟩:=yj.1 hs;have f:=eD l (fun x o y p=>j x (by simp[o]) y (by simp[p])) n;simp only[eC];split
  ·simp
  ·rename_i b r e;rw[e]at f;split
   ·exact f
   ·rename_i g;refine yj.2 ⟨fun c i=>?_,f⟩;have k:b∈l:=(gM l b).1 (by rw[e];simp);have d:wV a b<0:=by
     rcases bN (m b k)with h|h
     ·exact h
     ·exact absurd (j a (by simp) b (by simp[k]) h) g
    rcases zw.1 i with rfl|i
    ·exact d
    ·exact wN.trans d ((yj.1 f).1 c i)
theorem uu:∀(x y:List Cut),(x.Pairwise fun a b=>wV a b<0)->(y.Pairwise fun a b=>wV a b<0)->(∀c,c∈x↔c∈y)->x=y
 |[],[],_,_,_=>rfl
 |[],b::y,_,_,h=>absurd ((h b).2 (by simp)) (by simp)
 |a::x,[],_,_,h=>absurd ((h a).1 (by simp)) (by simp)
 |a::x,b::y,l,m,h=>by
  obtain⟨j,n⟩:=yj.1 l;obtain⟨k,o⟩:=yj.1 m;have d:∀c:Cut,¬wV c c<0:=fun c=>by rw[wN.refl];omega
  have i:a=b:=by
   rcases zw.1 ((h a).1 (by simp))with e|p
   ·exact e
   ·rcases zw.1 ((h b).2 (by simp))with e|q
    ·exact e.symm
    ·exact absurd (wN.trans (j b q) (k a p)) (d a)
  subst i;rw[uu x y n o fun c=>?_];constructor
  ·intro g;rcases zw.1 ((h c).1 (by simp[g]))with e|f
   ·subst e;exact absurd (j c g) (d c)
   ·exact f
  ·intro g;rcases zw.1 ((h c).2 (by simp[g]))with e|f
   ·subst e;exact absurd (k c g) (d c)
   ·exact f
def wu:List wQ->List Cut
 |[]=>[]
 |s::l=>(if s.vW=true then[s.lo]else[s.lo,s.hi])++wu l
theorem WR(a b:List wQ):wu (a++b)=wu a++wu b:=by
 induction a with
 |nil=>rfl
 |cons s a c=>simp only[wB,wu,c,qG]
theorem Qp(a:List wQ):(wu a).length<=2*a.length:=by
 induction a with
 |nil=>simp[wu]
 |cons s a b=>simp only[wu,zm,zx];split<;>simp<;>omega
theorem Jv{Q:Cut->Prop}{a:List wQ}(h:∀s∈a,Q s.lo/\Q s.hi):∀c∈wu a,Q c:=by
 induction a with
 |nil=>intro c hc;cases hc
 |cons s a d=>
  intro c hc;obtain⟨b,e⟩:=h s (by simp);simp only[wu,qi]at hc;rcases hc with hc|hc
  ·split at hc
   ·rw[wG]at hc;rw[hc];exact b
   ·simp only[zw,mE,or_false]at hc;rcases hc with rfl|rfl
    ·exact b
    ·exact e
  ·exact d (fun x f=>h x (by simp[f])) c hc
noncomputable def QX (l:List Cut):List Cut:=(W5 SH (wE l)).map Ie
theorem Ig(l:List Cut):W5 SH (wE l)=wE (QX l):=by obtain⟨s,h,_⟩:=X0 l;unfold QX;rw[h,XZ]
theorem Zv(l:List Cut):(QX l).Perm l:=by obtain⟨s,h,a,_⟩:=X0 l;unfold QX;rw[h,XZ];exact a
theorem sA(l:List Cut):(QX l).Pairwise fun a b=>wV a b<=0:=by obtain⟨s,h,_,c⟩:=X0 l;unfold QX;rw[h,XZ];exact c
noncomputable def vr (f:Bool->Bool->Bool) (a b:List wQ):List wQ:=(Xi (fun c=>f (yP a c) (yP b c)) (QX (wu a++wu b)) (false,[])).2
theorem Eo(out:List wQ)(c:Cut):(QW out c).length=out.length:=by
 unfold QW;split
 ·rename_i s h;have:out≠[]:=by rintro rfl;cases h
  have:=jV.2 this;simp;omega
 ·rfl
theorem L0(a:Cut->Bool):∀(l:List Cut) (st:Bool×List wQ),2*(Xi a l st).2.length+(if st.1=true then 1 else 0)<=2*st.2.length+l.length+(if(Xi a l st).1=true then 1 else 0)
 |[],st=>by show 2*st.2.length+(if st.1=true then 1 else 0)<=2*st.2.length+0+(if st.1=true then 1 else 0);omega
 |c::l,st=>by
  have b:=L0 a l (ca a st c);have e:Xi a (c::l) st=Xi a l (ca a st c):=rfl;rw[e];have hs:2*(ca a st c).2.length+(if st.1=true then 1 else 0)<=2*st.2.length+1+(if(ca a st c).1=true then 1 else 0):=by obtain⟨o,out⟩:=st;unfold ca;cases a c<;>cases o<;>simp[Eo]<;>omega
  simp only[zx];omega
theorem KU(f:Bool->Bool->Bool)(a b:List wQ):(vr f a b).length<=a.length+b.length:=by have h:=L0 (fun c=>f (yP a c) (yP b c)) (QX (wu a++wu b)) (false,[]);have d:=(Zv (wu a++wu b)).length_eq;have e:=Qp a;have g:=Qp b;rw[zm]at d;unfold vr;simp only[zP,wF,qj]at h;split at h<;>omega
theorem Ep{Q:Cut->Prop}{out:List wQ}{c:Cut}(h:∀s∈out,Q s.lo/\Q s.hi)(b:Q c):∀s∈QW out c,Q s.lo/\Q s.hi:=by
 unfold QW;split
 ·rename_i s hs;intro x a;rcases qi.1 a with a|a
  ·exact h x (List.dropLast_subset _ a)
  ·rw[wG]at a;rw[a];exact⟨(h s (List.mem_of_getLast? hs)).1,b⟩
 ·exact h
theorem L1{Q:Cut->Prop}(b:Q We)(a:Cut->Bool):∀(l:List Cut) (st:Bool×List wQ),(∀c∈l,Q c)->(∀s∈st.2,Q s.lo/\Q s.hi)->∀s∈(Xi a l st).2,Q s.lo/\Q s.hi
 |[],st,_,h=>h
 |c::l,st,d,h=>by
  refine L1 b a l (ca a st c) (fun x f=>d x (by simp[f])) ?_;have e:=d c (by simp);unfold ca;dsimp only;split
  ·intro s hs;rcases qi.1 hs with hs|hs
   ·exact h s hs
   ·rw[wG]at hs;rw[hs];exact⟨e,b⟩
  ·split
   ·exact Ep h e
   ·exact h
theorem uv{Q:Cut->Prop}(d:Q We)(f:Bool->Bool->Bool){a b:List wQ}(e:∀s∈a,Q s.lo/\Q s.hi)(g:∀s∈b,Q s.lo/\Q s.hi):∀s∈vr f a b,Q s.lo/\Q s.hi:=
 L1 d _ _ _ (fun c i=>by
  have:=(Zv _).mem_iff.1 i;rcases qi.1 this with h|h
  ·exact Jv e c h
  ·exact Jv g c h) (fun s hs=>by cases hs)
end Go.Q
namespace Go.AM
variable{dr:Prop}
def gN(p:List (Option Nat))(b:Blk):Blk:=⟨b.e,b.s,b.arr,b.es.map (QN p)⟩
theorem xc.fixed{P:Program}{w:World}{S:Nat->Prop}{G:Nat->GI}{Z:Nat}{g:GI}{b:Blk}(h:xc P w S G Z g b)(e:0<g.s)(n:b.arr=true)(p:List (Option Nat)):xc P w S G Z g (gN p b):=by
 refine xc.xp e h.bs ⟨h.size e,fun c o=>?_,by simpa[gN]using h.fit e,?_⟩
 ·obtain⟨a,d,rfl⟩:=q9.1 o;rw[xG];exact h.len e a d
 ·obtain⟨cur,q,r,t⟩:=h.row e;refine⟨cur,q,r,fun i j c z hi k=>?_⟩;simp only[gN,qz]at hi;obtain⟨a,d,rfl⟩:∃a,b.es[i]?=some a/\QN p a=c:=by
   cases l:b.es[i]? with
   |none=>rw[l]at hi;cases hi
   |some a=>rw[l]at hi;injection hi with hi;exact⟨a,rfl,hi⟩
  have f:j<a.length:=by have:=(zk.1 k).1;rwa [xG]at this
  obtain⟨u,v,x,_,y⟩:=t i j a a[j] d (zq f);have m:=(ZI p a).get (zq f) k _ _ _ (x n);exact⟨u,v,fun _=>m,.c m,y⟩
theorem kW.fixed{P:Program}{Y:Hp}{Z:Nat}{S:Nat->Prop}{G:Nat->GI}{w:World}{Y2:Hp}{g:Nat}{m:Nat->Prop}{j:Nat->GI}{n:World}(k:kW dr P Y Z S G w Y2 g m j n)
  {id:Nat} {b:Blk} (o:Y2 id=some b) (r:b.arr=true) (t:0<(j id).s) (p:List (Option Nat)):kW dr P Y Z S G w (qq Y2 id (some (gN p b))) g m j n:=by
 have d:∀k c,qq Y2 id (some (gN p b)) k=some c->∃f,Y2 k=some f:=fun k c q=>by
  by_cases e:k=id
  ·subst e;exact⟨b,o⟩
  ·rw[zD _ _ _ _ e]at q;exact⟨c,q⟩
 refine⟨⟨k.inv.st,fun i c a=>?_,fun i c a=>?_,fun i c a=>?_,fun i i' c u a l v=>?_,k.inv.fS⟩,k.up,k.loc,k.keep,k.from_,fun i c a=>?_,k.fr⟩
 ·obtain⟨f,h⟩:=d i c a;exact k.inv.top i f h
 ·by_cases e:i=id
  ·subst e;rw[wU]at a;injection a with a
   subst a;exact(k.inv.live i b o).fixed t r p
  ·rw[zD _ _ _ _ e]at a;exact k.inv.live i c a
 ·obtain⟨f,h⟩:=d i c a;exact k.inv.apart i f h
 ·obtain⟨f,h⟩:=d i c a;obtain⟨x,y⟩:=d i' u l;exact k.inv.inj i i' f x h y v
 ·obtain⟨f,h⟩:=d i c a;exact k.own i f h
def xo(a:List Sh)(F:zb->Option (Option Blk)):AM.Spec:=jm [] fun args=>F (dU a args)
def Er(p:List (Option Nat))(r:Option Blk)(x:O)(Y:Hp)(_:Nat):Prop:=match r with
 |none=>x=.nil
 |some b=>∃id a,x=.own id 0 a.es.length/\Y id=some a/\a.arr=true/\b=gN p a
section
variable{C:Ctx}{pf:FuncId->Bool}{f:FuncId}{fn:Func}{code:Code}
theorem Ko(R:kB dr C pf)(l:Vx C pf f fn)(z:List Sh)(p:List (Option Nat))(F:zb->Option (Option Blk))(T:∀args r,F args=some r->args.length<=fn.ntmps/\∃x Y Z,yR C fn args (fun _=>none) 0=some (x,Y,Z)/\Er p r x Y Z) :
  yY dr C.P f (xo z F):=by
 obtain⟨_,l⟩:=l;refine⟨⟨fn,l.func,l.name,by rw[l.body];rfl⟩,?_⟩;intro args Y Z r Y' Z' h w S G vs hi W;unfold xo jm at h;split at h
 ·rename_i X Y1 A;obtain⟨S1,g,t,_⟩:=jJ (dr:=dr) hi A W;have j:∀id b,Y1 id=some b->Y1 id=some b/\¬False:=fun id b h=>⟨h,fun h=>h⟩
  split at h
  ·rename_i m;obtain⟨B,x,hpe,nxe,n,d⟩:=T _ none m;injection h with h
   injection h with E h;injection h with H I;subst E;subst H;subst I;simp only[Er]at d;subst d;refine(Qk R l n B g.inv.st g.inv.fS (KG (W4 t))).mono fun e w' J=>?_
   obtain⟨v,S',G',K,L,a,M,o,q,_⟩:=J;have N:=aO (dr:=dr) (D:=fun _=>False) (Y2:=Y1) g.inv j (fun _ h=>h.elim) L a o (fun b Q=>(q b Q).imp (fun h=>h) .inr);have:=M.xQ;subst this;exact⟨_,_,_,K,g.trans N,.c .nil⟩
  ·rename_i b m;obtain⟨B,x,hpe,nxe,n,d⟩:=T _ (some b) m;injection h with h
   injection h with E h;injection h with H I;subst E;subst H;subst I;obtain⟨id,s,rfl,hid,k,rfl⟩:=d;refine(Qk R l n B g.inv.st g.inv.fS (KG (W4 t))).mono fun e w' J=>?_
   obtain⟨v,S',G',K,L,a,M,o,q,u⟩:=J;have N:=nR (dr:=dr) (D:=fun _=>False) (Y2:=Y1) g.inv j (fun _ h=>h.elim) L a o (fun b Q=>(q b Q).imp (fun h=>h) .inr) hid k (.inr (u id s hid));have y:=nS (Z:=Z) (G:=G) M;have U:=N.fixed (id:=Z) (by simp) k y.vy p;rw[show qq (qq Y1 Z (some s)) Z (some (gN p s))=qq Y1 Z (some (gN p s)) by funext i;unfold qq;split<;>rfl]at U;refine⟨_,_,_,K,g.trans U,?_⟩;rw[show(gN p s).es.length=s.es.length by simp[gN]];exact y
  ·cases h
 ·cases h
end
end Go.AM
namespace Go.Proofs
open Go.Shelf
def Tryz.Pv:Go.Shelf.Ren:=⟨fun|6=>211|15=>156|14=>238|28=>193|29=>133|20=>273|21=>274|22=>275|23=>276|24=>277|25=>278|26=>279|27=>280|46=>314|47=>227|48=>228|49=>315|50=>316|57=>334|n=>n,fun|22=>238|24=>206|25=>241|3=>3|39=>165|0=>0|53=>163|55=>133|4=>4|46=>216|45=>215|50=>112|5=>5|9=>9|66=>250|70=>254|76=>291|77=>102|n=>n,fun|n=>n⟩
theorem Tryz.zd1:Go.Proofs.SlLaysF0.n6 prog Tryz.Pv:={
 mixed:=by kernel_rfl
 f6:=⟨f211.name,by decide,Xb func211⟩
 f14:=⟨f238.name,by decide,Xb func238⟩
 f15:=Xb func156
 f20:=⟨f273.name,by decide,Xb func273⟩
 f21:=⟨f274.name,by decide,Xb func274⟩
 f22:=⟨f275.name,by decide,Xb func275⟩
 f23:=⟨f276.name,by decide,Xb func276⟩
 f24:=⟨f277.name,by decide,Xb func277⟩
 f25:=⟨f278.name,by decide,Xb func278⟩
 f26:=⟨f279.name,by decide,Xb func279⟩
 f27:=⟨f280.name,by decide,Xb func280⟩
 f28:=Xb func193
 f29:=Xb func133
 f46:=⟨f314.name,by decide,Xb func314⟩
 f47:=Xb func227
 f48:=Xb func228
 f49:=⟨f315.name,by decide,Xb func315⟩
 f50:=⟨f316.name,by decide,Xb func316⟩
 f57:=⟨f334.name,by decide,Xb func334⟩
 t0:=underlying0
 a0:=isAgg0
 z0:=sizeOf0
 v0:=zeroValue0
 t3:=underlying3
 a3:=isAgg3
 z3:=sizeOf3
 v3:=zeroValue3
 t4:=underlying4
 a4:=isAgg4
 z4:=sizeOf4
 v4:=zeroValue4
 t5:=underlying5
 a5:=isAgg5
 z5:=sizeOf5
 v5:=zeroValue5
 t9:=underlying9
 a9:=isAgg9
 z9:=sizeOf9
 v9:=zeroValue9
 t22:=underlying238
 a22:=isAgg238
 z22:=sizeOf238
 v22:=zeroValue238
 t25:=underlying241
 a25:=isAgg241
 z25:=sizeOf241
 v25:=zeroValue241
 t39:=underlying165
 a39:=isAgg165
 z39:=sizeOf165
 v39:=zeroValue165
 t45:=underlying215
 a45:=isAgg215
 z45:=sizeOf215
 v45:=zeroValue215
 t46:=underlying216
 a46:=isAgg216
 z46:=sizeOf216
 v46:=zeroValue216
 t50:=underlying112
 a50:=isAgg112
 z50:=sizeOf112
 v50:=zeroValue112
 t53:=underlying163
 a53:=isAgg163
 z53:=sizeOf163
 v53:=zeroValue163
 t55:=underlying133
 a55:=isAgg133
 z55:=sizeOf133
 v55:=zeroValue133
 t66:=underlying250
 a66:=isAgg250
 z66:=sizeOf250
 v66:=zeroValue250
 t70:=underlying254
 a70:=isAgg254
 z70:=sizeOf254
 v70:=zeroValue254
 t76:=underlying291
 a76:=isAgg291
 z76:=sizeOf291
 v76:=zeroValue291
 t77:=underlying102
 a77:=isAgg102
 z77:=sizeOf102
 v77:=zeroValue102}
theorem Tryz.zae:RB prog 211 5:=⟨fun _ _ V e f h i g blk off cap d w j a k b c=>AnyQ.slices_SortFunc_eq Tryz.zd1 5 isAgg206 sizeOf206 V e f h i g #[] blk off cap d w j a k b c,
 fun p cap l w=>AnyF.slices_SortFunc_none Tryz.zd1 p cap l w⟩
end Go.Proofs
namespace Go.Q
theorem pa:zg prog 211 (nV 5 212 SH Rh):=
 DD (by decide) ⟨_,func211,by kernel_rfl,by kernel_rfl⟩ Tryz.zae zfa
noncomputable def FBB (f:Bool->Bool->Bool):zb->Option O:=qd (α:=Bool×Bool) (fun a=>[wb a.1,wb a.2]) (fun _=>True) (fun a=>wb (f a.1 a.2))
theorem Es(f:Bool->Bool->Bool)(a b:Bool)(Y:Hp)(Z:Nat):hP (FBB f) [wb a,wb b] Y Z=some (wb (f a b),Y,Z):=
 QL (a,b) _ _ rfl (fun x y e=>by obtain⟨c,d⟩:=x;obtain⟨g,h⟩:=y;simp only[zj,zG]at e;rw[Wt e.1,Wt e.2]) trivial (.inl rfl)
theorem Et:zg prog 170 (hP (FBB and)):=
 vM je func170 false [] fun⟨a,b⟩ _=>⟨by simp[f170],_,zn rfl (by cases a<;>simp[wK,f170]),z8 _⟩
theorem Ih:zg prog 171 (hP (FBB or)):=
 vM je func171 false [] fun⟨a,b⟩ _=>⟨by simp[f171],_,zn rfl (by cases a<;>simp[wK,f171]),z8 _⟩
theorem sC{Y:Hp}{Z:Nat}{v:O}{l:List Cut}(h:qN Y Z 206 5 v (wE l))(hs:∀c∈l,c.v.small)(k:l.length<4611686018427387904) :
  ∃Y',nV 5 212 SH Rh [v,.fn (.func 212) [] []] Y Z=some (.w5 [],Y',Z)/\qN Y' Z 206 5 v (wE (QX l))/\∀j,(∀n,v≠.own j 0 n)->Y' j=Y j:=by
 have a:(wE (QX l)).length=(wE l).length:=by have:=(Zv l).length_eq;simpa[wE]using this
 rcases h with⟨rfl,m⟩|⟨id,f,rfl,b⟩
 ·refine⟨Y,rfl,.inl ⟨rfl,?_⟩,fun _ _=>rfl⟩;rw[m]at a;exact qo.1 a
 ·by_cases d:(wE l).length=0
  ·refine⟨Y,by simp only[nV,zd d],?_,fun _ _=>rfl⟩;have g:wE l=[]:=qo.1 d;rw[g]at a b;have o:=qo.1 a;rw[g,o];exact .inr ⟨id,f,rfl,b⟩
  ·refine⟨qq Y id (some ⟨206,5,true,wE (QX l)⟩),?_,.inr ⟨id,f,by rw[a],by simp⟩,fun j p=>zz _ _ _ _ fun e=>p (wE l).length (by subst e;rfl)⟩;unfold nV;simp only[ze d,b];rw[zd ⟨rfl,rfl,rfl,by simp,by simpa[wE]using k,by simpa using SI l,fun x i=>by simp only[wY,qf]at i;obtain⟨c,q,rfl⟩:=q9.1 i;exact⟨c,rfl,hs c q⟩⟩]
   simp[Ig]
theorem uw{c:zb}{s:wQ}(h:QN jW c=s.V):∃d k l m n o e,c=[int s.lo.v.a,int s.lo.v.b,int s.lo.v.c,d,wb s.lo.after,k,l,m,n,o,e]/\n1 1 d=.sl 1 (zy s.lo.v.pre)/\d.yk=true:=by
 have f:=xG jW c;rw[h]at f;simp[wQ.V,Cut.V]at f
 match c,f with
 |[B,C,D,i,E,p,q,r,t,u,g],_=>simp[wQ.V,Cut.V]at h;obtain⟨w,x,y,j,z,F,G,H,I,J,A⟩:=h;subst w;subst x;subst y;subst z;refine⟨i,p,q,r,t,u,g,rfl,j,?_⟩;cases i<;>first|rfl|(simp[n1]at j)
theorem lj{out:List wQ}{m:Nat}(b:m<out.length)(g:out.length=m+1)(c:Cut):QW out c=out.set m ⟨out[m].lo,c,false⟩:=by
 unfold QW;have a:out≠[]:=by rintro rfl;simp at b
 rw[List.getLast?_eq_some_getLast a];have d:out.getLast a=out[m]:=by rw[List.getLast_eq_getElem];congr 1;omega
 simp only[d];apply List.ext_getElem
 ·simp;omega
 ·intro i hi f;rw[List.getElem_set];split
  ·rename_i e;subst e;rw[List.getElem_append_right (by simp;omega)];simp
  ·rw[List.getElem_append_left (by simp at hi⊢;omega)];simp
theorem Eu(a:Cut->Bool)(st:Bool×List wQ)(c:Cut)(h:st.1=true->st.2≠[]):(ca a st c).1=true->(ca a st c).2≠[]:=by obtain⟨o,out⟩:=st;unfold ca;cases a c<;>cases o<;>simp at h⊢<;>assumption
theorem eE(l:List wQ)(c:Cut)(Y:Hp)(Z:Nat)(b:kz l)(d:c.v.small):qP [.s 11 jW,.g kn] (FRC fun l c=>wb (yP l c)) [.sl 11 (qn l),.agg c.V] Y Z=some (wb (yP l c),Y,Z):=
 xv (show zC Y [.sl 11 (qn l),.agg c.V]=some ([.sl 11 (qn l),.agg c.V],Y) by simp[Cut.V]) (by
  have e:(Sh.s 11 jW).fix (.sl 11 (qn l))=.sl 11 (qn l):=by simp only[Sh.rY,qn,List.map_map];congr 1
  have f:(Sh.g kn).fix (.agg c.V)=.agg c.V:=by simp[Cut.V]
  show FRC _ [(Sh.s 11 jW).fix (.sl 11 (qn l)),(Sh.g kn).fix (.agg c.V)]=_;rw[e,f];exact qD (V:=fun a:List wQ×Cut=>[O.sl 11 (qn a.1),.agg a.2.V]) (a:=(l,c)) ze1 ⟨b,d⟩) (.inl rfl)
noncomputable abbrev Ccmb:Ctx:=zV prog [(211,nV 5 212 SH Rh),(213,qP [.s 11 jW,.g kn] (FRC fun l c=>wb (yP l c))),
 (170,hP (FBB and)),(171,hP (FBB or))]
theorem zbh:AM.Good Ccmb (fun g=>[213].contains g):=qC mixed ⟨pa,by simp,BA,fun _=>jD _ _,Et,by simp,Ih,by simp,trivial⟩
theorem ux{l:List wQ}{k:Nat}(h:k<l.length):wu (l.take (k+1))=wu (l.take k)++(if l[k].vW=true then[l[k].lo]else[l[k].lo,l[k].hi]):=by rw[zQ h,WR];simp[wu]
theorem Ev(a:Cut->Bool){l:List Cut}{k:Nat}(h:k<l.length)(st:Bool×List wQ):Xi a (l.take (k+1)) st=ca a (Xi a (l.take k) st) l[k]:=by unfold Xi;rw[zQ h,List.foldl_append];rfl
theorem uy(a b:List Cut):wE (a++b)=wE a++wE b:=by simp[wE]
noncomputable def Yc (f:Bool->Bool->Bool) (a b:List wQ):Option Blk:=if vr f a b=[]then none else some ⟨208,11,true,qn (vr f a b)⟩
theorem NS(i o n:Nat)(Y:Hp):Qx (.own i o n) Y=qq Y i none:=rfl
theorem Ew{Y:Hp}{Z e s:Nat}{v:O}{xs:List zb}(h:qN Y Z e s v xs){j:Nat}(a:Z<=j):∀n,v≠.own j 0 n:=by
 rcases h with⟨rfl,_⟩|⟨id,b,rfl,_⟩
 ·intro n e;cases e
 ·intro n e;injection e with e;omega
theorem eF(f:Bool->Bool->Bool)(hv:O)(zaa:∀x y Y Z,kg Ccmb Y Z (some hv) [wb x,wb y]=some (wb (f x y),Y,Z))(a b:List wQ)(ha:kz a)(hb:kz b) :
  ∃x Y Z,yR Ccmb f169 [.sl 11 (qn a),.sl 11 (qn b),hv] (fun _=>none) 0=some (x,Y,Z)/\Er jW (Yc f a b) x Y Z:=by
 refine qF rfl ?_;have hsa:=ha;have hsb:=hb;obtain⟨ha1,ha2⟩:=ha;obtain⟨hb1,hb2⟩:=hb;unfold zA at ha1 hb1;obtain⟨ls,hls⟩:∃ls:List (List wQ),[a,b]=ls:=⟨_,rfl⟩;obtain⟨rows,S⟩:∃rows:List zb,[[O.sl 11 (qn a)],[.sl 11 (qn b)]]=rows:=⟨_,rfl⟩;have K:∀i,i<2->∃l:List wQ,(wu (ls.take (i+1)).flatten=wu (ls.take i).flatten++wu l)/\rows[i]?=some [O.sl 11 (qn l)]/\l.length<=268435456/\(∀s∈l,s.small)/\(wu (ls.take i).flatten).length<=536870912:=by
  intro i hi;rw[<-hls,<-S];rcases(by omega:i=0\/i=1)with rfl|rfl
  ·exact⟨a,by simp[wu],rfl,ha1,ha2,by simp[wu]⟩
  ·exact⟨b,by simp[WR],rfl,hb1,hb2,by have:=Qp a;simp;omega⟩
 simp[zt,zJ,zr,S];refine zL (fun i σ Y Z=>σ 0=.sl 11 (qn a)/\σ 1=.sl 11 (qn b)/\σ 2=hv/\σ 19=.own 0 0 2/\σ 20=int 2/\σ 21=int i/\1<=Z/\Y 0=some ⟨169,1,true,rows⟩/\(∀n,σ 7≠.own 0 0 n)/\qN Y Z 206 5 (σ 7) (wE (wu (ls.take i).flatten))) 2
  ⟨by simp,by simp,by simp,by simp,by simp,by simp,by simp,by simp,by simp,.inl ⟨by simp,by simp[wu,wE]⟩⟩ ?_
 rintro i σ Y Z hi ⟨E,F,G,u,w,z,T,b0,L,A⟩;by_cases hlt:i<2
 ·obtain⟨l,hl,hr,hll,hls2,hcl⟩:=K i hlt;obtain⟨hr1,hr2⟩:=zk.1 hr;have hw:=qe i;have p:(qn l).length=l.length:=by simp[qn]
  have hltI:(i:Int)<2:=by omega
  simp[E,F,G,u,w,z,hltI,hlt,b0,hr1,hr2,p];refine zL (fun k σ Y Z=>σ 0=.sl 11 (qn a)/\σ 1=.sl 11 (qn b)/\σ 2=hv/\σ 19=.own 0 0 2/\σ 20=int 2/\σ 21=int i/\1<=Z/\Y 0=some ⟨169,1,true,rows⟩/\(∀n,σ 7≠.own 0 0 n)/\qN Y Z 206 5 (σ 7) (wE (wu (ls.take i).flatten++wu (l.take k))) /\
   σ 25=.sl 11 (qn l)/\σ 26=int l.length/\σ 27=int k) l.length
   ⟨by simp[E],by simp[F],by simp[G],by simp[u],by simp[w],by simp[z],T,b0,by simpa using L,by simpa[wu]using A,by simp,by simp,by simp⟩ ?_
  clear E F G u w z T b0 L A hi σ Y Z;rintro k σ Y Z hk ⟨E,F,G,u,w,z,T,b0,L,A,h25,h26,h27⟩;by_cases j:k<l.length
  ·have H:=qe k;have r:∀h:k<(qn l).length,(qn l)[k]=l[k].V:=fun h=>by simp[qn]
   have hcn:=Qp (l.take k);rw[ju]at hcn;have hct:=ux j;obtain⟨xs,g⟩:=wZ (wE (wu (ls.take i).flatten++wu (l.take k)));have B:xs.length<=1073741824+2:=by rw[<-g];simp[wE];omega
   rw[g]at A;have hE:wE (wu (ls.take i).flatten++wu (l.take (k+1)))=xs++(if l[k].vW=true then[l[k].lo]else[l[k].lo,l[k].hi]).map Cut.V:=by rw[hct,<-qG,uy,g];rfl
   have PQ:=fun Y'=>yr A Y' Z (Ew A (zl _))
   have hk0:=fun Y'=>yr A Y' 0 L
   obtain⟨s,hs⟩:=wZ (l[k]);rw[hs]at hct r hE;have q:=qN.yx (P:=prog) (t:=238) (c:=s.lo.V) (A.more (some ⟨208,11,false,[s.V]⟩)) iU dV tS tT rfl (by omega) (by unfold maxLen;omega) (by omega);have U:=qN.after (Y:=qq Y Z (some ⟨208,11,false,[s.V]⟩)) (Z:=Z+1) (e:=206) (s:=5) (v:=σ 7) (xs:=xs) (c:=s.lo.V) (tmp:=some ⟨206,5,true,[s.lo.V]⟩);have C:=qN.yx (P:=prog) (t:=238) (c:=s.hi.V) U iU dV tS tT rfl (by omega) (by simp;unfold maxLen;omega) (by simp;omega);rw[show(xs++[s.lo.V]).length=xs.length+1 by simp,qG,show[s.lo.V]++[s.hi.V]=[s.lo.V,s.hi.V]from rfl]at C;have W:=qN.after (Y:=qq (Qx (σ 7) (qq (qq Y Z (some ⟨208,11,false,[s.V]⟩)) (Z+1) (some ⟨206,5,true,[s.lo.V]⟩))) (Z+1+1) (some ⟨206,5,true,xs++[s.lo.V]⟩)) (Z:=Z+1+2) (e:=206) (s:=5) (v:=.own (Z+1+1) 0 (xs.length+1)) (xs:=xs++[s.lo.V]) (c:=s.hi.V) (tmp:=some ⟨206,5,true,[s.hi.V]⟩);rw[show(xs++[s.lo.V]).length=xs.length+1 by simp,qG,show[s.lo.V]++[s.hi.V]=[s.lo.V,s.hi.V]from rfl]at W;simp only[wQ.V,Cut.V,wB,w7]at q C U W r;have m1:¬Z=Z+1+1:=by omega
   have m2:¬Z=Z+1+2:=by omega
   have m3:¬Z=Z+1+2+1:=by omega
   have n1:¬0=Z:=by omega
   have n2:¬0=Z+1:=by omega
   have n3:¬0=Z+2:=by omega
   have n4:¬0=Z+3:=by omega
   have n5:¬0=Z+4:=by omega
   cases M:s.vW
   ·rw[M]at hct;rw[M]at q C U W r;simp[E,F,G,u,w,z,h25,h26,h27,j,p,r,q,C,PQ,H,m1,m2,m3,zt,zJ,zr];refine⟨by omega,?_,?_⟩
    ·simp[NS,hk0,b0,n1]
    ·rw[hE,M];simp only[zP,wF,z6,yX,Cut.V];exact W
   ·rw[M]at hct;rw[M]at q C U W r;simp[E,F,G,u,w,z,h25,h26,h27,j,p,r,q,PQ,H,m1,m2,m3,zt,zJ,zr];refine⟨by omega,?_,?_⟩
    ·simp[hk0,b0,n1]
    ·rw[hE,M];simp only[qV,z6,yX,Cut.V];exact U
  ·obtain rfl:k=l.length:=by omega
   rw[qf,<-hl]at A;simp[E,F,G,u,w,z,h25,h26,h27,hw];exact⟨by omega,T,b0,L,A⟩
 ·obtain rfl:i=2:=by omega
  have hls3:(ls.take 2).flatten=a++b:=by rw[<-hls];simp
  rw[hls3]at A;have Pu:∀c∈wu (a++b),c.v.small:=Jv (Q:=fun c=>c.v.small) fun s hs=>by
   rcases qi.1 hs with h|h
   ·exact ha2 s h
   ·exact hb2 s h
  have hcl:=Qp (a++b);rw[zm]at hcl;obtain⟨Y',I,X,hfr'⟩:=sC A Pu (by omega);obtain⟨v,hv7⟩:=wZ (σ 7);obtain⟨cs,hcs⟩:=wZ (QX (wu (a++b)));have hcsl:cs.length<=1073741824:=by rw[<-hcs,(Zv _).length_eq];omega
  have hcsm:∀c∈cs,c.v.small:=fun c hc=>Pu c ((Zv _).mem_iff.1 (by rw[hcs];exact hc))
  have hfin:vr f a b=(Xi (fun c=>f (yP a c) (yP b c)) cs (false,[])).2:=by rw[<-hcs,WR];rfl
  obtain⟨is,his⟩:∃is:Cut->Bool,(fun c=>f (yP a c) (yP b c))=is:=⟨_,rfl⟩;have hisc:∀c,f (yP a c) (yP b c)=is c:=fun c=>by rw[<-his]
  rw[his]at hfin;rw[hv7]at I X;rw[hcs]at X;clear A hcs Pu K hls3;have hlen:=X.len iU;have p:(wE cs).length=cs.length:=by simp[wE]
  rw[p]at hlen;simp[E,F,G,u,w,z,hv7,I,hlen];refine zL (fun k σ Y Z=>σ 0=.sl 11 (qn a)/\σ 1=.sl 11 (qn b)/\σ 2=hv/\σ 48=v/\σ 49=int cs.length/\σ 50=int k/\qN Y Z 206 5 v (wE cs)/\∃xs,qN Y Z 208 11 (σ 12) xs/\xs.map (QN jW)=qn (Xi is (cs.take k) (false,[])).2 /\
    σ 13=wb (Xi is (cs.take k) (false,[])).1/\(∀id n m,v=.own id 0 n->σ 12≠.own id 0 m)/\((Xi is (cs.take k) (false,[])).1=true->(Xi is (cs.take k) (false,[])).2≠[])/\xs.length<=k/\(xs=[]->σ 12=.nil)) cs.length
   ⟨by simp[E],by simp[F],by simp[G],by simp,by simp,by simp,X,[],.inl ⟨by simp,rfl⟩,by simp[Xi,qn],by simp[Xi],by simp,by simp[Xi],by simp,by simp⟩ ?_
  clear E F G u w z T b0 L X hi σ Y Z hlt I hlen hfr' hv7 Y';rintro k σ Y Z hk ⟨E,F,G,h48,h49,h50,A,xs,hX,g,N,tp,PM,hxk,Hi⟩;by_cases j:k<cs.length
  ·have H:=qe k;obtain⟨id,hid,rfl,hh⟩:=A.at_ (by rw[p];omega);have o:=Ev is j (false,[]);obtain⟨st,bT⟩:=wZ (Xi is (cs.take k) (false,[]));obtain⟨c,hc⟩:=wZ (cs[k]);rw[hc,bT]at o;rw[bT]at g N PM;have hopn:=Eu is st c PM;have D:c.v.small:=hcsm c (by rw[<-hc];exact zi j);have r:∀h:k<(wE cs).length,(wE cs)[k]=c.V:=fun h=>by simp[wE,hc]
   have hca:=fun Y Z=>eE a c Y Z hsa D
   have hcb:=fun Y Z=>eE b c Y Z hsb D
   have d:=fun Y Z=>zaa (yP a c) (yP b c) Y Z
   rw[hisc c]at d;simp only[Cut.V]at hca hcb r;have m0:¬id=Z:=by omega
   have m1:¬id=Z+1:=by omega
   have m2:¬id=Z+1+1:=by omega
   rw[p]at A;have hki:=fun Y'=>yr hX Y' id (fun n=>tp id _ n rfl)
   have bU:ca is st c=(is c,if(is c&&!st.1)=true then st.2++[yu c]else if(!is c&&st.1)=true then QW st.2 c else st.2):=rfl;rw[bU]at o;rw[bU]at hopn;simp only at hopn;obtain⟨op,out⟩:=st;simp only at g N PM hopn;cases hb:is c<;>cases op
   ·rw[hb]at d o;simp at o;simp[E,F,G,h48,h49,h50,p,j,hh,r,hca,hcb,d,N,H,m0,o];exact⟨by omega,A.more _,xs,hX.more _,g,fun i n m e _=>tp i _ m (by rw[e]),by omega,Hi⟩
   ·rw[hb]at d o;simp at o;have hne:=PM rfl;obtain⟨m,hm⟩:∃m,out.length=m+1:=⟨out.length-1,by have:=jV.2 hne;omega⟩;have B:xs.length=m+1:=by have:=zo List.length g;simp[qn]at this;omega
    obtain⟨R,hid2,J,hh2⟩:=hX.at_ (by omega);have GM:¬R=id:=fun e=>tp id _ _ rfl (by rw[J,e])
    have zaf:¬id=R:=fun e=>GM e.symm
    have p0:¬R=Z:=by omega
    rw[B]at J;have hlm:m<xs.length:=by omega
    have MN:m<out.length:=by omega
    have hrm:QN jW xs[m]=out[m].V:=by
     have e1:(xs.map (QN jW))[m]?=(qn out)[m]?:=by rw[g]
     simp only[qz,zq hlm,qn,zq MN,zH,qa]at e1;exact e1
    obtain⟨x3,x5,x6,x7,x8,x9,x10,K,hn3,GN⟩:=uw hrm;have wm:=wq (m:Int);have wm1:IntKind.i64.wrap ((m:Int)+1-1)=(m:Int):=by rw[wS (by omega) (by omega)];omega
    simp[E,F,G,h48,h49,h50,p,j,hh,r,hca,hcb,d,N,H,m0,o,J,hh2,p0,wm,wm1,hlm,K,GN,js];refine⟨by omega,.inr ⟨id,by omega,by rw[p],by simp[zaf,m0,hh]⟩,xs.set m [int out[m].lo.v.a,int out[m].lo.v.b,int out[m].lo.v.c,x3,wb out[m].lo.after,int c.v.a,int c.v.b,int c.v.c,.sl 1 (zy c.v.pre),wb c.after,wb false],.inr ⟨R,by omega,by simp[B],by simp⟩,?_,fun i n k' e _ e2=>absurd (e2.trans e.symm) GM,by simp;omega,fun e=>by have:=zo List.length e;rw[bt,B]at this;cases this⟩;rw[List.map_set,g,lj MN hm c,qn,qn,List.map_set];simp[hn3,wQ.V,Cut.V]
   ·rw[hb]at d o;simp at o;have q:=qN.yx (P:=prog) (t:=169) (c:=[int c.v.a,int c.v.b,int c.v.c,.sl 1 (zy c.v.pre),wb c.after,int 0,int 0,int 0,.nil,wb false,wb true]) (hX.more (some ⟨206,5,false,[c.V]⟩)) LL tU DK DL rfl (by omega) (by unfold maxLen;omega) (by omega);simp only[Cut.V]at q;simp[E,F,G,h48,h49,h50,p,j,hh,r,hca,hcb,d,N,H,m0,o,q,qv,qS,zt,zJ,zr];refine⟨by omega,.inr ⟨id,by omega,by rw[p],by simp[hki,hh,m0,m1,m2]⟩,xs++[[int c.v.a,int c.v.b,int c.v.c,.sl 1 (zy c.v.pre),wb c.after,int 0,int 0,int 0,.nil,wb false,wb true]],by simpa using qN.after,?_,fun i n m e _ e2=>by omega,by simp;omega⟩;rw[JH,g];simp[qn,yu,wQ.V,Cut.V,We,zy]
   ·rw[hb]at d o;simp at o;simp[E,F,G,h48,h49,h50,p,j,hh,r,hca,hcb,d,N,H,m0,o];exact⟨by omega,A.more _,xs,hX.more _,g,fun i n m e _=>tp i _ m (by rw[e]),PM rfl,by omega,Hi⟩
  ·obtain rfl:k=cs.length:=by omega
   rw[qf]at g;rw[<-hfin]at g;have B:xs.length=(vr f a b).length:=by have:=zo List.length g;simpa[qn]using this
   simp[E,F,G,h48,h49,h50,f169];unfold Yc;rcases hX with⟨J,rfl⟩|⟨R,hid2,J,hh2⟩
   ·rw[zd (qo.1 B.symm)];exact J
   ·by_cases hz:vr f a b=[]
    ·rw[zd hz];rw[hz]at B;exact Hi (qo.1 B)
    ·rw[ze hz];refine⟨R,_,J,hh2,rfl,?_⟩;simp only[gN,g]
theorem KV(l:List wQ):(Sh.s 11 jW).fix (.sl 11 (qn l))=.sl 11 (qn l):=by simp only[Sh.rY,qn,List.map_map];congr 1
noncomputable def Ex:zb->Option (Option Blk):=fun args=>
 match qd (α:=List wQ×List wQ) (fun a=>[.sl 11 (qn a.1),.sl 11 (qn a.2),.fn (.func 170) [] []]) (fun a=>kz a.1/\kz a.2) (fun a=>Yc and a.1 a.2) args with
 |some r=>some r
 |none=>qd (α:=List wQ×List wQ) (fun a=>[.sl 11 (qn a.1),.sl 11 (qn a.2),.fn (.func 171) [] []]) (fun a=>kz a.1/\kz a.2) (fun a=>Yc or a.1 a.2) args
theorem L2(g:O):∀a b:List wQ×List wQ,[O.sl 11 (qn a.1),.sl 11 (qn a.2),g]=[.sl 11 (qn b.1),.sl 11 (qn b.2),g]->a=b:=by rintro⟨f,h⟩ ⟨i,j⟩ e;simp only[zj,zG]at e;obtain⟨c,d⟩:=e;injection c with _ c;injection d with _ d;rw[Qo c,Qo d]
theorem sD:zg prog 169 (xo [.s 11 jW,.s 11 jW] Ex):=
 Ko (fn:=f169) zbh (qX func169) _ jW _ fun args r h=>by
  unfold Ex at h;split at h
  ·rename_i f e;injection h with h;subst h
   obtain⟨⟨a,b⟩,rfl,⟨c,d⟩,rfl⟩:=zO e;exact⟨by simp[f169],eF and _ (fun x y Y Z=>by simp[Es]) a b c d⟩
  ·obtain⟨⟨a,b⟩,rfl,⟨c,d⟩,rfl⟩:=zO h;exact⟨by simp[f169],eF or _ (fun x y Y Z=>by simp[Es]) a b c d⟩
theorem Ey(args:zb)(r:Option Blk)(h:QT 9 1 args=some r):args.length<=f126.ntmps/\∃x Y Z,yR C0 f126 args (fun _=>none) 0=some (x,Y,Z)/\XJ r x Y Z:=by
 unfold QT at h;split at h
 ·injection h with h;subst h;exact⟨by simp[f126],qF rfl (by simp[Qi,Vh,f126,XJ])⟩
 ·injection h with h;subst h;exact⟨by simp[f126],qF rfl (by simp[Qi,Vh,f126,XJ,zt,jb,AM.view,maxLen,zJ,zr])⟩
 ·rename_i es;split at h
  ·rename_i d;obtain⟨rfl,a,b⟩:=d;injection h with h;subst h
   cases es with
   |nil=>exact absurd rfl a
   |cons c es=>
    unfold zA at b;simp at b;have e:es.length+1<=maxLen:=by unfold maxLen;omega
    have f:(es.length+1)*16<=140737488355328:=by omega
    refine⟨by simp[f126],qF rfl ?_⟩;simp[Qi,Vh,f126,XJ,zt,jb,AM.view,zJ,zr,e,f]
  ·cases h
 ·cases h
theorem eG:zg prog 126 (jm [] (QT 9 1)):=
 QK (fn:=f126) (code:=_) je ⟨func126,by kernel_rfl,rfl,by kernel_rfl⟩ [] _ Ey
def idV(v:yK):O:=.agg v.V
def idS(s:wQ):O:=.agg s.V
noncomputable def FVe (f:yK->O):zb->Option O:=qd (α:=yK) (fun v=>[.agg v.V]) (fun v=>v.pre.length<=zA) f
theorem Ez(f:yK->O)(v:yK)(Y:Hp)(Z:Nat)(h:v.pre.length<=zA):qP [.g vO] (FVe f) [.agg v.V] Y Z=some (f v,Y,Z):=
 xv (show zC Y [.agg v.V]=some ([.agg v.V],Y) by simp[yK.V]) (by
  have c:(Sh.g vO).fix (.agg v.V)=.agg v.V:=by simp[yK.V]
  show FVe f [(Sh.g vO).fix (.agg v.V)]=_;rw[c];exact qD (V:=fun v:yK=>[O.agg v.V]) (a:=v) (fun a b e=>by simp only[zj,zG]at e;injection e with e;exact KM e) h) (.inr (by simp[yK.V]))
noncomputable abbrev Ccpv:Ctx:=zV prog [(126,jm [] (QT 9 1))]
theorem zbi:Gd Ccpv:=zW mixed ⟨eG,trivial⟩
theorem gO(v:yK)(y:O)(f:iD 1 (zy v.pre) y)(h:v.pre.length<=zA):∃i,zv Ccpv f214 [.agg [int v.a,int v.b,int v.c,y]]=some i/\wL i (.agg v.V):=by
 obtain⟨a,b,c,p⟩:=v;refine QO (sh:=.g vO) rfl ?_;simp only at h f;generalize e:zy p=T at f;have d:T.length<=zA:=by rw[<-e];simpa[zy]using h
 cases f with
 |nil=>simp[jm,yS,QT,XP,yK.V,e,f214]
 |em=>simp[jm,yS,QT,XP,yK.V,e,f214]
 |sl=>rename_i j es;simp only[zx]at d;simp[jm,yS,QT,XP,yK.V,e,d,f214]
theorem eH:zg prog 214 (qP [.g vO] (FVe idV)):=
 W6 (fn:=f214) zbi (qX func214) false [] _ fun args r h w S vs c=>by obtain⟨v,e,d,rfl⟩:=zO h;have a:=KG (hs:=[.g vO]) c;rw[e]at a;obtain⟨u,f,i⟩:=YS a;subst f;obtain⟨y,k,b⟩:=iT i (j:=3) (s:=1) (es:=zy v.pre) (by simp[yK.V]);obtain⟨l,m,n⟩:=gO v y k d;exact⟨_,l,.cons b .nil,by simp[f214],by simpa[yK.V]using m,n⟩
noncomputable def FSt (f:wQ->O):zb->Option O:=qd (α:=wQ) (fun s=>[.agg s.V]) wQ.small f
theorem SK(f:wQ->O)(s:wQ)(u:O)(Y:Hp)(Z:Nat)(h:s.small)(c:(Sh.g jW).fix u=.agg s.V)(d:qt Y u=some (u,Y))(i:u.noOwn=true):qP [.g jW] (FSt f) [u] Y Z=some (f s,Y,Z):=
 xv (show zC Y [u]=some ([u],Y) by simp only[zC,d]) (by show FSt f [(Sh.g jW).fix u]=_;rw[c];exact qD (V:=fun v:wQ=>[O.agg v.V]) (a:=s) (fun a b e=>by simp only[zj,zG]at e;injection e with e;exact o8 e) h) (.inr (by rw[wi,i];rfl))
noncomputable abbrev Ccps:Ctx:=zV prog [(214,qP [.g vO] (FVe idV))]
theorem zbj:AM.Good Ccps (fun g=>[214].contains g):=qC mixed ⟨eH,fun _=>jD _ _,trivial⟩
theorem gP(s:wQ)(hs:s.small):zv Ccps f172 [.agg s.V]=some (.agg s.V):=by
 refine zn rfl ?_;have d:∀Y Z,qP [.g vO] (FVe idV) [.agg [int s.lo.v.a,int s.lo.v.b,int s.lo.v.c,.sl 1 (zy s.lo.v.pre)]] Y Z=some (.agg [int s.lo.v.a,int s.lo.v.b,int s.lo.v.c,.sl 1 (zy s.lo.v.pre)],Y,Z):=fun Y Z=>Ez idV s.lo.v Y Z hs.1.1
 have e:∀Y Z,qP [.g vO] (FVe idV) [.agg [int s.hi.v.a,int s.hi.v.b,int s.hi.v.c,.sl 1 (zy s.hi.v.pre)]] Y Z=some (.agg [int s.hi.v.a,int s.hi.v.b,int s.hi.v.c,.sl 1 (zy s.hi.v.pre)],Y,Z):=fun Y Z=>Ez idV s.hi.v Y Z hs.2.1
 simp[wQ.V,Cut.V,d,e,wK,f172,js]
theorem eI:zg prog 172 (qP [.g jW] (FSt idS)):=
 yf (fn:=f172) zbj (qX func172) _ _ fun args r h=>by obtain⟨s,rfl,a,rfl⟩:=zO h;exact⟨by simp[f172],_,gP s a,wL.refl _⟩
theorem VM{l:za}{n:Int}(h:Zm l=some n):0<=n/\n<=999999:=by
 unfold Zm at h;split at h
 ·rename_i a;injection h with h
  obtain⟨b,c⟩:=oH a.1;obtain⟨m,d,e⟩:=VF l 0 c;have f:Lib.decNat l=some m:=by unfold Lib.decNat;rw[ze (by simpa using b)];exact d
  have g:m<10 ^ 6:=ja (by simpa using e) (Nat.pow_le_pow_right (by omega) a.2);have i:n=(m:Int):=by rw[<-h];unfold Bc;rw[f];rfl
  omega
 ·cases h
theorem NT{v:yK}(h:JK v=0):(0<=v.a/\v.a<=999999)/\(0<=v.b/\v.b<=999999)/\(0<=v.c/\v.c<=999999)/\v.pre.length<=10/\∀p∈v.pre,yG p=false:=by
 unfold JK at h;split at h
 ·rename_i d;simp only[jG,zE,zS]at d;split at h
  ·cases h
  ·rename_i g;split at h
   ·cases h
   ·rename_i e;refine⟨d.1,d.2.1,d.2.2,by omega,fun p Y=>?_⟩;cases f:yG p with
    |false=>rfl
    |true=>exact absurd (Yo.2 ⟨p,Y,f⟩) e
 ·cases h
theorem zbk{t:za}{v:yK}(h:Bf t=some v):JK v=0:=by
 unfold Bf at h;split at h
 ·split at h
  ·split at h
   ·rename_i a;injection h with h
    rw[<-h];exact a
   ·cases h
  ·cases h
 ·cases h
theorem Ii{p:za}(h:yG p=false):p.length<=20:=by simp only[yG,wP,kd]at h;omega
theorem mR:∀(l:List za) (p q:Part) (i:Nat),yC p i l=some q->(0<=p.n0/\p.n0<=999999)/\(0<=p.n1/\p.n1<=999999)/\(0<=p.n2/\p.n2<=999999)/\0<=p.has/\p.has<=i/\(1<=i->1<=p.has)/\p.pre=[] ->
  (0<=q.n0/\q.n0<=999999)/\(0<=q.n1/\q.n1<=999999)/\(0<=q.n2/\q.n2<=999999)/\0<=q.has/\q.has<=i+l.length/\(1<=i+l.length->1<=q.has)/\q.pre=[]
 |[],p,q,i,h,Y=>by
  simp only[yC]at h;injection h with h
  subst h;simpa using Y
 |t::l,p,q,i,h,Y=>by
  simp only[yC]at h;split at h
  ·rename_i r hs;obtain⟨a,b,c,d,e,f,g⟩:=Y;have m:(0<=r.n0/\r.n0<=999999)/\(0<=r.n1/\r.n1<=999999)/\(0<=r.n2/\r.n2<=999999)/\0<=r.has/\r.has<=(i+1:Nat)/\(1<=i+1->1<=r.has)/\r.pre=[]:=by
    unfold yb at hs;split at hs
    ·rename_i j;injection hs with hs
     obtain⟨n,k⟩:=Option.isSome_iff_exists.1 j.1;have o:=VM k;rw[k]at hs;simp only[Yn]at hs;subst hs;have s:=j.2;unfold Part.put;split<;>simp only<;>refine⟨?_,?_,?_,?_,?_,?_,g⟩<;>first|assumption|omega
    ·split at hs
     ·rename_i u;injection hs with hs
      subst hs;exact⟨a,b,c,d,by omega,fun _=>f (by omega),g⟩
     ·cases hs
   have:=mR l r q (i+1) h m;rw[zx];refine⟨this.1,this.2.1,this.2.2.1,this.2.2.2.1,?_,?_,this.2.2.2.2.2.2⟩
   ·have:=this.2.2.2.2.1;omega
   ·intro _;exact this.2.2.2.2.2.1 (by omega)
  ·cases h
def QY(l:List za):Prop:=l.length<=10/\∀p∈l,yG p=false
theorem Kp{l:List za}(h:QY l):v8 l:=⟨by have:=h.1;unfold zA;omega,fun p Y=>by have:=Ii (h.2 p Y);unfold zA;omega⟩
theorem uz(s sep:za):qy s sep≠[]:=by
 unfold qy Lib.split;intro h;cases a:Lib.count s sep with
 |zero=>rw[a]at h;cases h
 |succ n=>rw[a]at h;simp only[Lib.splitK]at h;split at h<;>cases h
theorem KW{t:za}(h:(zX t).2=true):(zX t).1.ok/\QY (zX t).1.pre:=by
 unfold zX at h⊢;split at h
 ·rename_i a;rw[zd a];split at h
  ·rename_i v i;obtain⟨b,c,d,e,f⟩:=NT (zbk i);exact⟨⟨b,c,d,⟨by simp,by simp⟩,Kp ⟨e,f⟩⟩,e,f⟩
  ·cases h
 ·rename_i a;rw[ze a];split at h
  ·cases h
  ·rename_i j;rw[ze j];split at h
   ·rename_i p Y;have:=mR _ wO p 0 Y (by simp[wO]);obtain⟨b,c,d,e,f,k,l⟩:=this;have m:=jV.2 (uz t [46]);have g:QY p.pre:=by rw[l];exact⟨by simp,by simp⟩
    exact⟨⟨b,c,d,⟨k (by omega),by show p.has<=3;omega⟩,Kp g⟩,g⟩
   ·cases h
def Zo.xR(c:Zo):Prop:=c.sign.length<=3/\(c.sign=jR\/((c.p.ok/\QY c.p.pre)/\(c.sign=[45]->c.tu.ok/\QY c.tu.pre)))
theorem Zo.xR.ok{c:Zo}(h:c.xR):c.ok:=⟨by have:=h.1;unfold zA;omega,h.2.imp id fun⟨a,b⟩=>⟨a.1,fun e=>(b e).1⟩⟩
theorem KX:∀(gs:List za) (s:za),(wW gs s).1=[]\/(wW gs s).1∈gs
 |[],s=>.inl rfl
 |g::l,s=>by
  simp only[wW];split
  ·exact .inr (by simp)
  ·exact(KX l s).imp id fun h=>by simp[h]
theorem EA{s:za}(h:s=[]\/s∈wM):s.length<=3/\s≠[45]:=by
 rcases h with rfl|h
 ·simp
 ·simp only[wM,zw,mE,or_false]at h;rcases h with rfl|rfl|rfl|rfl|rfl|rfl|rfl<;>simp
theorem NU{w:za}{l l':List za}{c:Zo}(h:kZ w l=some (c,l')):c.xR/\l'.length<=l.length:=by
 refine⟨?_,SA h⟩;have a:=EA (KX wM w);unfold kZ at h;split at h
 ·injection h with h;injection h with h _;subst h;exact⟨by simp[gI,jR],.inl rfl⟩
 ·split at h
  ·split at h
   ·split at h
    ·rename_i b;injection h with h;injection h with h _;subst h
     exact⟨a.1,.inr ⟨KW b,fun e=>absurd e a.2⟩⟩
    ·cases h
   ·cases h
  ·split at h
   ·rename_i b;injection h with h;injection h with h _;subst h
    exact⟨a.1,.inr ⟨KW b,fun e=>absurd e a.2⟩⟩
   ·cases h
theorem uA:∀(n:Nat) (a:List za) (l:List Zo),yT n a=some l->(∀c∈l,c.xR)/\l.length<=a.length
 | 0,a,l,h=>by
  simp only[yT]at h;injection h with h;subst h
  exact⟨by simp,by simp⟩
 |n+1,[],l,h=>by
  simp only[yT]at h;injection h with h;subst h
  exact⟨by simp,by simp⟩
 |n+1,w::a,l,h=>by
  simp only[yT]at h;split at h
  ·rename_i c l' hs;obtain⟨e,g⟩:=NU hs;cases b:yT n l' with
   |none=>rw[b]at h;cases h
   |some r=>
    rw[b]at h;simp only[zH,qa]at h;subst h;obtain⟨f,i⟩:=uA n l' r b;refine⟨fun x d=>?_,by simp;omega⟩;rcases zw.1 d with rfl|d
    ·exact e
    ·exact f x d
  ·cases h
theorem NV{t:za}(h:(Wc t).2=true):(∀c∈(Wc t).1,c.xR)/\(Wc t).1.length<=t.length+1:=by
 have n:(wR (qy t [32])).length<=t.length+1:=zI (zfI _ _) (Zu (by simp));have f:∀d:List za,d=wR (qy t [32])->((match yT d.length d with
   |some l=>(l,!l.isEmpty)
   |none=>([],false)):List Zo×Bool).2=true->(∀c∈((match yT d.length d with
   |some l=>(l,!l.isEmpty)
   |none=>([],false)):List Zo×Bool).1,c.xR)/\((match yT d.length d with
   |some l=>(l,!l.isEmpty)
   |none=>([],false)):List Zo×Bool).1.length<=t.length+1:=by
  intro d e i;cases j:yT d.length d with
  |none=>rw[j]at i;cases i
  |some l=>obtain⟨o,k⟩:=uA _ _ _ j;exact⟨o,by rw[e]at k;exact zI k n⟩
 unfold Wc at h⊢;split at h
 ·rename_i a b c e;split at h
  ·rename_i g;simp only[zE]at h;rw[zd g];refine⟨fun x m=>?_,by simp⟩;simp only[wG]at m;subst m;exact⟨by simp,.inr ⟨KW h.1,fun _=>KW h.2⟩⟩
  ·rename_i g;rw[ze g];have:=f [a,b,c] (by rw[e]) h;exact this
 ·exact f _ rfl h
def Cut.xR(c:Cut):Prop:=QY c.v.pre
theorem Cut.xR.small{c:Cut}(h:c.xR):c.v.small:=Kp h
theorem uB:We.xR:=⟨by simp[We],by simp[We]⟩
theorem xH:wv.xR:=⟨by simp[wv],by simp[wv,yG,gq,KK,vN,yZ,VE,pr]⟩
theorem X1(p:Part)(i:Nat):(jL p i).xR:=by
 have h:(jL p i).v.pre=[[48]]:=by unfold jL;split<;>rfl
 have:=xH;unfold Cut.xR at this⊢;rw[h];exact this
theorem pb{p:Part}(h:QY p.pre):(Z4 p).xR:=h
theorem aW{p:Part}(h:QY p.pre):(xe p).xR:=by
 unfold xe;split
 ·exact X1 _ _
 ·exact h
theorem Yd{a b:Cut}(c:a.xR)(d:b.xR):(gD a b).length<=1/\∀s∈gD a b,s.lo.xR/\s.hi.xR:=by
 unfold gD;split
 ·exact⟨by simp,by simp⟩
 ·refine⟨by simp,fun s hs=>?_⟩;simp only[wG]at hs;subst hs;exact⟨c,d⟩
theorem WA{a:Cut}(b:a.xR):([yu a]:List wQ).length<=1/\∀s∈[yu a],s.lo.xR/\s.hi.xR:=by refine⟨by simp,fun s hs=>?_⟩;simp only[wG]at hs;subst hs;exact⟨b,uB⟩
theorem aX{c:Zo}(b:c.xR):(xi c).1.length<=1/\∀s∈(xi c).1,s.lo.xR/\s.hi.xR:=by
 obtain⟨_,b⟩:=b;unfold xi;by_cases d:c.sign=jR
 ·rw[zd d];exact WA xH
 rw[ze d];obtain⟨⟨_,Y⟩,g⟩:=b.resolve_left d;have a:=pb Y;have f:=aW Y;split
 ·exact WA a
 split
 ·exact Yd xH a
 split
 ·exact WA f
 split
 ·exact Yd xH f
 split
 ·rename_i e;exact Yd a (aW (g e).2)
 split
 ·exact Yd a (X1 _ _)
 split
 ·exact Yd a (X1 _ _)
 ·exact Yd a f
def kb(l:List wQ):Prop:=∀s∈l,s.lo.xR/\s.hi.xR
theorem kb.small{l:List wQ}(h:kb l)(a:l.length<=zA):kz l:=⟨a,fun s hs=>⟨(h s hs).1.small,(h s hs).2.small⟩⟩
theorem xN(f:Bool->Bool->Bool){a b:List wQ}(c:kb a)(d:kb b):kb (vr f a b):=uv uB f c d
def sa:List za->Option (List (List Zo))
 |[]=>some []
 |s::l=>if(Wc s).2=true then(sa l).map ((Wc s).1::·)else none
noncomputable def Xj:List Zo->List wQ->Option (List wQ)
 |[],m=>some m
 |c::l,m=>if(xi c).2=true then Xj l (vr and m (xi c).1)else none
noncomputable def eJ:List (List Zo)->List wQ->Option (List wQ)
 |[],o=>some o
 |l::a,o=>match Xj l [yu wv]with
  |some m=>eJ a (vr or o m)
  |none=>none
noncomputable def QZ (t:za):List wQ×Int:=if(400:Int)<t.length then([],2)else match sa (qy t [124,124])with
 |none=>([],10)
 |some a=>match eJ a []with
  |none=>([],1)
  |some o=>if(100:Int)<o.length then([],2)else(o,0)
theorem EB:∀(l:List za) (d:List (List Zo)) (n:Nat),(∀s∈l,s.length<=n)->sa l=some d->(∀a∈d,(∀c∈a,c.xR)/\a.length<=n+1)/\d.length=l.length
 |[],d,n,_,h=>by
  simp only[sa]at h;injection h with h;subst h
  exact⟨by simp,rfl⟩
 |s::l,d,n,e,h=>by
  simp only[sa]at h;split at h
  ·rename_i hs;cases b:sa l with
   |none=>rw[b]at h;cases h
   |some r=>
    rw[b]at h;simp only[zH,qa]at h;subst h;obtain⟨f,g⟩:=EB l r n (fun x i=>e x (by simp[i])) b;obtain⟨j,k⟩:=NV hs;have:=e s (by simp);refine⟨fun a b=>?_,by simp[g]⟩;rcases zw.1 b with rfl|b
    ·exact⟨j,by omega⟩
    ·exact f a b
  ·cases h
attribute [local go_sem] Oper.semAt_some
theorem Ij{P:Program}{g:FuncId}{F:zb->Option O}{us:List Value}{v:Value}(h:yY True P g (hP F))(d:hP F (us.map O.v) (fun _=>none) 0=some (.v v,fun _=>none,0))(f:∀u∈us,lit u=true){W:World}(j:MH P W fun b=>b<W.heap.size) :
  Calls P g us.toArray W fun e w'=>e=.returned v/\Fr True W (fun _=>False) w':=by
 have l:Zip (qw W (fun b=>b<W.heap.size) (fun _=>⟨0,0,0⟩) 0) (us.map O.v) us:=by
  induction us with
  |nil=>exact .nil
  |cons u us i=>exact .cons (.c (.v (f u (by simp)))) (by
    clear d;have:∀us:List Value,(∀u∈us,lit u=true)->Zip (qw W (fun b=>b<W.heap.size) (fun _=>⟨0,0,0⟩) 0) (us.map O.v) us:=by
     intro us
     induction us with
     |nil=>intro _;exact .nil
     |cons u us i=>intro h;exact .cons (.c (.v (h u (by simp)))) (i fun x a=>h x (by simp[a]))
    exact this us fun x a=>f x (by simp[a]))
 refine(h.2 _ _ _ _ _ _ d W (fun b=>b<W.heap.size) (fun _=>⟨0,0,0⟩) us (aN _ (fun b m=>m) j) l).mono fun e w' n=>?_
 obtain⟨x,S',G',rfl,st,a⟩:=n;obtain⟨rfl,_⟩:=a.yi;exact⟨rfl,⟨st.fr.os,st.fr.tape,st.fr.output,st.fr.size,st.fr.drawn,fun k o _=>st.fr.block k o fun⟨_,_,h,_⟩=>by cases h⟩⟩
theorem mS{W b:World}{L:Nat->Prop}(h:Fr True W L b){a:Addr}{v:Value}(c:W.cell? a=some v)(d:¬L a.block):b.cell? a=some v:=by rw[<-c];exact aE (h.block _ (Lw c) d)
def bA(l:List za):List Value:=l.map fun p=>.string ⟨p.toArray⟩
def SL(w:World)(b:Nat):Nat:=match w.cell? ⟨b,0,none⟩with
 |some (.string s)=>s.size
 |_=>0
def xd(w:World)(b:Nat)(v:Value):Prop:=∃cs ty,w.heap[b]?=some (.cells cs ty (0,0))/\cs[0]?=some v
theorem xd.cell{w:World}{b:Nat}{v:Value}(h:xd w b v):w.cell? ⟨b,0,none⟩=some v:=by obtain⟨cs,ty,a,c⟩:=h;simp[World.cell?,a,c]
theorem xd.free{w:World}{b:Nat}{v:Value}(h:xd w b v):w.frozen? ⟨b,0,none⟩=false:=by obtain⟨cs,ty,a,c⟩:=h;simp[World.frozen?,a]
theorem xd.same{w w':World}{b:Nat}{v:Value}(h:xd w b v)(e:w'.heap[b]?=w.heap[b]?):xd w' b v:=by obtain⟨cs,ty,a,c⟩:=h;exact⟨cs,ty,e.trans a,c⟩
theorem xd.lt{w:World}{b:Nat}{v:Value}(h:xd w b v):b<w.heap.size:=by obtain⟨cs,ty,a,c⟩:=h;exact(zM.1 a).1
theorem xd.set{w:World}{b:Nat}{v:Value}(u:Value)(h:xd w b v):xd (w.setCell ⟨b,0,none⟩ u) b u:=by obtain⟨cs,ty,a,c⟩:=h;have d:=(zM.1 c).1;refine⟨cs.setIfInBounds 0 u,ty,?_,by simp[d]⟩;simp[World.setCell,kS,a]
theorem xd.zag{w:World}{b:Nat}(u:Value)(B:Nat->Prop)(a:B b):Fr True w B (w.setCell ⟨b,0,none⟩ u):=
 ⟨rfl,rfl,rfl,by simp[World.setCell],fun _=>zl _,fun k _ c=>by
  have:¬b=k:=fun e=>c (e ▸ a)
  simp[World.setCell,kS,this]⟩
theorem xd.str{w:World}{b:Nat}{s:ByteArray}(h:xd w b (.string s)):SL w b=s.size:=by unfold SL;rw[h.cell]
theorem BB(n l B1 B2 B3:Nat)(sep t:za)(hs1:1<=sep.length)(hs2:sep.length<=zA)(ht:t.length<=zA)(h12:B1≠B2)(h23:B3≠B2)(J Jx:List Value->World->Prop)
  (hJ:∀pre W W',J pre W->Fr True W (fun b=>b=B1\/b=B2\/b=B3) W'->J pre W') (hGl:∀pre W,J pre W->MH prog W fun b=>b<W.heap.size)
  (hY:∀pre x W,J pre W->(bA (qy t sep))[pre.length]?=some x->YieldAt Fence.wide n prog l #[x] W fun e W'=>(e=.returned (.bool true)/\J (pre++[x]) W'/\(∀b,(b=B1\/b=B2\/b=B3)->W'.heap[b]?=W.heap[b]?)/\W.heap.size<=W'.heap.size)\/(e=.returned (.bool false)/\Jx (pre++[x]) W'))
  (W:World) (h0:J [] W) (h1:W.cell? ⟨B1,0,none⟩=some (.string ⟨sep.toArray⟩)) (h2:xd W B2 (.string ⟨t.toArray⟩)) (h3:W.cell? ⟨B3,0,none⟩=some (.int .i64 0)) :
  CallsIn Fence.wide (n+1) prog 231 #[.func (.yield l) #[] #[],.pointer (some ⟨B1,0,none⟩),.pointer (some ⟨B2,0,none⟩),.pointer (some ⟨B3,0,none⟩)] W fun e W'=>(∃v,e=.returned v)/\(J (bA (qy t sep)) W'\/∃pre,Jx pre W'):=by
 refine callsIn_of_wp func231 rfl trivial ?_ rfl;simp only[Tryz.ntmps231,j9,zx,qj,Nat.reduceAdd,Nat.reduceSub,Array.replicate_succ,Array.replicate_zero,List.push_toArray,List.append_toArray,w7,wB];have h2c:=h2.cell;have hse:((sep.length:Int)==0)=false:=qQ.2 (by omega)
 gi_wp2
 try simp only[hse]
 have hx:∀cur:za,cur.length<=zA->∀wr:World,MH prog wr (fun b=>b<wr.heap.size)->Calls prog 223 #[.string ⟨cur.toArray⟩,.string ⟨sep.toArray⟩] wr fun e w'=>e=.returned (.int .i64 (Lib.index cur sep))/\Fr True wr (fun _=>False) w':=fun cur hc wr hg=>by exact Ij (us:=[.string ⟨cur.toArray⟩,.string ⟨sep.toArray⟩]) dX (KH cur sep _ _ hc hs2) (by simp[lit]) hg
 gi_loopw [] (fun wr=>∃(done:List za) (cur:za),qy t sep=done++qy cur sep/\cur.length<=t.length/\J (bA done) wr/\wr.cell? ⟨B1,0,none⟩=some (.string ⟨sep.toArray⟩)/\xd wr B2 (.string ⟨cur.toArray⟩)/\wr.cell? ⟨B3,0,none⟩=some (.int .i64 0))
  (fun wr=>SL wr B2)
 case atStart=>exact⟨[],t,rfl,zl _,h0,h1,h2,h3⟩
 case round=>
  obtain⟨done,cur,hsp,hcl,hJs,c1,k2,c3⟩:=hrel;have c2:=k2.cell;have hg:=hGl _ _ hJs
  gi_wp2
  refine⟨trivial,rW.2 ((hx cur (zI hcl ht) wr hg).mono ?_)⟩;rintro e w1 ⟨rfl,fr⟩;dsimp only;have d1:=mS fr c1 (fun h=>h);have m2:=k2.same (fr.block _ k2.lt fun h=>h);have d2:=m2.cell;have d3:=mS fr c3 (fun h=>h);have hJ1:=hJ _ _ _ hJs ⟨fr.os,fr.tape,fr.output,fr.size,fr.drawn,fun k hk _=>fr.block k hk fun h=>h⟩;have hel:(bA done).length=done.length:=by simp[bA]
  by_cases hneg:Lib.index cur sep<0
  ·have hsk:qy cur sep=[cur]:=by
    have hm:Lib.index cur sep=-1:=by
     rcases Lib.index_spec cur sep with⟨h,_⟩|⟨i,h,_⟩
     ·exact h
     ·omega
    unfold qy Lib.split;rw[U5 hm];rfl
   have hu:(bA (qy t sep))[(bA done).length]?=some (.string ⟨cur.toArray⟩):=by rw[hsp,hsk,hel];simp[bA]
   obtain⟨fn,tmps,assign,body,hy,hR⟩:=hY _ _ w1 hJ1 hu
   gi_wp2
   refine hR.mono ?_;rintro e W3 (⟨rfl,hJ3,hk3,hz3⟩|⟨rfl,hJx3⟩)
   ·gi_wp2
    go_end0
    refine⟨⟨_,rfl⟩,.inl ?_⟩;rw[hsp,hsk];simpa[bA]using hJ3
   ·gi_wp2
    go_end0
    exact⟨⟨_,rfl⟩,.inr ⟨_,hJx3⟩⟩
  ·obtain⟨i,hi⟩:∃i:Nat,Lib.index cur sep=i:=⟨(Lib.index cur sep).toNat,by omega⟩;have hne:sep≠[]:=by rintro rfl;simp at hs1
   have hsk:qy cur sep=cur.take i::qy (cur.drop (i+sep.length)) sep:=by unfold qy Lib.split;rw[zfK hne hi,Q5 1,cI hi]
   have htk:(cur.drop (i+sep.length)).take (cur.length-(i+sep.length))=cur.drop (i+sep.length):=zZ (by simp);have hroom:=Lib.index_room cur sep (by omega);rw[hi]at hroom;unfold zA at ht hs2;have hwi:wrap64 (i:Int)=(i:Int):=by unfold wrap64;omega
   have hu:(bA (qy t sep))[(bA done).length]?=some (.string ⟨(cur.take i).toArray⟩):=by rw[hsp,hsk,hel];simp[bA]
   obtain⟨fn,tmps,assign,body,hy,hR⟩:=hY _ _ w1 hJ1 hu;rw[hi]
   gi_wp2
   refine hR.mono ?_;rintro e W3 (⟨rfl,hJ3,hk3,hz3⟩|⟨rfl,hJx3⟩)
   ·have e1:W3.cell? ⟨B1,0,none⟩=some (.string ⟨sep.toArray⟩):=by rw[<-d1];exact aE (hk3 B1 (.inl rfl))
    have o2:=m2.same (hk3 B2 (.inr (.inl rfl)));have e2:=o2.cell;have e4:=o2.free;have e3:W3.cell? ⟨B3,0,none⟩=some (.int .i64 0):=by rw[<-d3];exact aE (hk3 B3 (.inr (.inr rfl)))
    gi_wp2
    go_roundw
    case rel=>
     refine⟨done++[cur.take i],cur.drop (i+sep.length),by rw[hsp,hsk];simp,by simp;omega,?_,?_,?_,?_⟩
     ·have:=hJ _ _ _ hJ3 (xd.zag (w:=W3) (b:=B2) (.string ⟨(cur.drop (i+sep.length)).toArray⟩) (fun b=>b=B1\/b=B2\/b=B3) (.inr (.inl rfl)));simpa[bA]using this
     ·exact mS (xd.zag (w:=W3) (b:=B2) _ (fun b=>b=B2) rfl) e1 h12
     ·exact o2.set (.string ⟨(cur.drop (i+sep.length)).toArray⟩)
     ·exact mS (xd.zag (w:=W3) (b:=B2) _ (fun b=>b=B2) rfl) e3 h23
    case measure=>have:=o2.set (.string ⟨(cur.drop (i+sep.length)).toArray⟩);rw[this.str,k2.str];simp;omega
   ·gi_wp2
    refine bodyPost_ret (results_none rfl _ _ _) rfl ?_;exact⟨⟨_,rfl⟩,.inr ⟨_,hJx3⟩⟩
def eK:QG:=fun cap Y=>match cap with
 |[.ref b 0 0,.ref a 0 0,.ref c 0 0]=>match Y b,Y a,Y c with
  |some ⟨_,1,false,[[.v (.string sep)]]⟩,some ⟨_,1,false,[[.v (.string t)]]⟩,some ⟨_,1,false,[[.v (.int .i64 0)]]⟩=>
   if b≠a/\c≠a/\1<=sep.data.toList.length/\sep.data.toList.length<=zA/\t.data.toList.length<=zA then some ((qy t.data.toList sep.data.toList).map str,qq (qq (qq Y b none) a none) c none)else none
  |_,_,_=>none
 |_=>none
theorem gQ{P:Program}{w:World}{S:Nat->Prop}{G:Nat->GI}{Y:Hp}{Z id e:Nat}{u:Value}(hi:Inv P w S G Y Z)(b:Y id=some ⟨e,1,false,[[.v u]]⟩):xd w (G id).g u:=by have a:=hi.live id _ b;have hs:(G id).s=1:=a.bs.symm;obtain⟨cur,c,i,d⟩:=a.row (by omega);obtain⟨x,f,h⟩:=d 0 0 [.v u] (.v u) rfl rfl;obtain⟨rfl,_⟩:=h.2.1.yi;exact⟨cur,e,c,by simpa[hs]using f⟩
theorem Ik:Dz True prog 231 eK:=by
 refine⟨⟨_,func231,by kernel_rfl,by kernel_rfl⟩,fun cap Y Z xs Y1 h=>?_⟩;unfold eK at h;split at h
 case h_2=>cases h
 rename_i d c i3;split at h
 case h_2=>cases h
 rename_i e1 sep e2 t e3 r q s;split at h
 case isFalse=>cases h
 rename_i E;obtain⟨u,v,x,y,F⟩:=E;injection h with h
 injection h with H a;subst H;subst a;have f:∀id b,qq (qq (qq Y d none) c none) i3 none id=some b->Y id=some b/\id≠d/\id≠c/\id≠i3:=fun id b a=>by
  by_cases m:id=i3
  ·subst m;rw[wU]at a;cases a
  rw[zD _ _ _ _ m]at a;by_cases o:id=c
  ·subst o;rw[wU]at a;cases a
  rw[zD _ _ _ _ o]at a;by_cases p:id=d
  ·subst p;rw[wU]at a;cases a
  rw[zD _ _ _ _ p]at a;exact⟨a,p,o,m⟩
 refine⟨bA (qy t.data.toList sep.data.toList),by simp[bA],by simp[bA,lit],fun id b a=>(f id b a).1,fun w S G vs hi j=>?_⟩;obtain⟨v1,r1,rfl,I,j⟩:=j.y9;obtain⟨v2,r2,rfl,K,j⟩:=j.y9;obtain⟨v3,r3,rfl,L,j⟩:=j.y9;obtain rfl:=j.Yq;have M:=gQ hi r;have N:=gQ hi q;have P:=gQ hi s;obtain⟨_,rfl⟩:=I.xq;obtain⟨_,rfl⟩:=K.xq;obtain⟨_,rfl⟩:=L.xq;have z:(G d).g≠(G c).g:=fun e=>u (hi.inj _ _ _ _ r q e)
 have A:(G i3).g≠(G c).g:=fun e=>v (hi.inj _ _ _ _ s q e)
 refine⟨fun b=>b=(G d).g\/b=(G c).g\/b=(G i3).g,?_,?_⟩
 ·have k:∀i blk,Y i=some blk->(i=d\/i=c\/i=i3)->ke Y G (G i).g/\Xx S G (qq (qq (qq Y d none) c none) i3 none) (G i).g:=fun i blk a B=>
   ⟨⟨i,blk,a,rfl⟩,hi.apart i blk a,fun id Q hid e=>by
     obtain⟨R,p,o,m⟩:=f id Q hid;have:=hi.inj _ _ _ _ R a e;subst this;rcases B with h|h|h
     ·exact p h
     ·exact o h
     ·exact m h⟩
  rintro b (rfl|rfl|rfl)
  ·exact k d _ r (.inl rfl)
  ·exact k c _ q (.inr (.inl rfl))
  ·exact k i3 _ s (.inr (.inr rfl))
 ·intro n l J T U X C hY W h0 D _;have:=BB n l (G d).g (G c).g (G i3).g sep.data.toList t.data.toList x y F z A J T U C hY W h0 (M.same (D _ (.inl rfl))).cell (N.same (D _ (.inr (.inl rfl)))) (P.same (D _ (.inr (.inr rfl)))).cell;simpa using this
end Go.Q
