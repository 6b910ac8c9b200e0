/- Lemmas. -/
import Derived.Test.YtnbicamkimignaaGreatDoorG13
set_option maxRecDepth 100000
set_option maxHeartbeats 4000000
open Go Proofs Proofs.YtnbicamkimignaaGreatDoor Proofs.Tryz RowKit AM SpanLaw Q Zz
open Go.IntKind renaming i64→i6
namespace Go.Q
structure Zg where
 sign:List UInt8
 p:Part
 tu:Part
def Zg.V(c:Zg):zc:=[str c.sign,int c.p.n0,int c.p.n1,int c.p.n2,int c.p.has,.sl 1 (qd c.p.pre),int c.tu.n0,int c.tu.n1,int c.tu.n2,int c.tu.has,.sl 1 (qd c.tu.pre)]
abbrev Aj:List (Option Nat):=[none,none,none,none,none,some 1,none,none,none,none,some 1]
theorem Mh{a b:Zg}(h:a.V=b.V):a=b:=by obtain⟨q,⟨r,s,t,u,v⟩,⟨w,x,y,z,e⟩⟩:=a;obtain⟨A,⟨B,C,D,E,F⟩,⟨G,H,I,J,f⟩⟩:=b;simp only[Zg.V,zh,zK]at h;obtain⟨g,i,j,k,l,d,m,n,o,p,c⟩:=h;injection d with _ d;injection c with _ c;rw[wx g,qn i,qn j,qn k,qn l,vf d,qn m,qn n,qn o,qn p,vf c]
def jI:za:=[97,108,108]
def Zg.ok(c:Zg):Prop:=c.sign.length≤zG∧(c.sign=jI∨(c.p.ok∧(c.sign=[45]→c.tu.ok)))
def j6(p:Part):Nat:=if 1<p.has∧p.n0=0 then(if 2<p.has∧p.n1=0 then 2 else 1)else 0
theorem Mi(p:Part):j6 p<3:=by unfold j6;split<;>(try split)<;>omega
noncomputable def vW (c:Zg):List wR×Bool:=
 if c.sign=jI then([yw wA],true)
 else if c.sign=[62,61]then([yw (ZN c.p)],true)
 else if c.sign=[60]then(fv wA (ZN c.p),true)
 else if c.sign=[62]then([yw (vS c.p)],QF c.p)
 else if c.sign=[60,61]then(fv wA (vS c.p),QF c.p)
 else if c.sign=[45]then(fv (ZN c.p) (vS c.tu),QF c.tu)
 else if c.sign=[126]then(fv (ZN c.p) (jF c.p (min (c.p.has-1) 1).toNat),v7 c.p (min (c.p.has-1) 1).toNat)
 else if c.sign=[94]then(fv (ZN c.p) (jF c.p (j6 c.p)),v7 c.p (j6 c.p))
 else(fv (ZN c.p) (vS c.p),QF c.p)
noncomputable def JY (c:Zg):O:=.yb [.sl 11 (qz (vW c).1),wq (vW c).2]
def lowP(p:Part):O:=.agg (ZN p).V
def fw:O:=.agg wA.V
noncomputable abbrev Cstt:Ctx:=qb prog [(234,qh [.g Xt] (FPt lowP)),(236,qh [.g Xt] (FPa Jz)),(237,qh [.g Xt] (FPi vE)),(233,qh [] (YU fw)),(210,qh [] (YU cd)),(235,qh [.g ka,.g ka] (CU Vj))]
theorem UX:AM.Good Cstt (fun g=>[233,235].contains g):=zI mixed ⟨Mf,by simp,Gx,by simp,dx,by simp,gP,fun _=>jx _ _,Kv,by simp,pU,fun _=>jx _ _,trivial⟩
theorem Ak:wA.v.small:=⟨by decide,fun p Y=>by simp[wA]at Y;subst Y;decide⟩
theorem Vk(p:Part)(i:Nat):(jF p i).v.small:=by
 have h:(jF p i).v.pre=[[48]]:=by unfold jF;split<;>rfl
 exact⟨by rw[h];decide,fun q a=>by rw[h]at a;simp at a;subst a;decide⟩
theorem Qg{p:Part}(h:vP p.pre):(ZN p).v.small:=h
theorem Wf{p:Part}(h:vP p.pre):(vS p).v.small:=by
 unfold vS;split
 ·exact Vk _ _
 ·exact h
theorem Al(c:Cut):(Sh.g ka).fix (.agg c.V)=.agg c.V:=by simp[Cut.V]
theorem PD(c:Cut)(Y:Hp):qf Y (.agg c.V)=some (.agg c.V,Y):=by simp[Cut.V]
theorem Ww(x y:Cut)(Y:Hp)(Z:Nat)(b:x.v.small)(c:y.v.small):qh [.g ka,.g ka] (CU Vj) [.agg x.V,.agg y.V] Y Z=some (Vj x y,Y,Z):=
 ju (show zA Y [.agg x.V,.agg y.V]=some ([.agg x.V,.agg y.V],Y) by simp only[zA,PD]) (by show CU _ [(Sh.g ka).fix (.agg x.V),(Sh.g ka).fix (.agg y.V)]=_;rw[Al,Al];exact zJ (V:=fun a:Cut×Cut=>[O.agg a.1.V,.agg a.2.V]) (a:=(x,y)) Pw ⟨b,c⟩) (.inr (by simp[Cut.V]))
theorem nq(c:Zg)(R:c.ok):∃r0,zz Cstt f211 [.agg c.V]=some r0∧qM r0 (JY c):=by
 obtain⟨e,p,S⟩:=c;obtain⟨_,R⟩:=R;simp only at R;refine y8 (sh:=.s 11 jM) rfl ?_;have f:=fun Y Z=>PB lowP p Y Z
 have I:∀(Y:Hp) (Z:Nat),qh [] (YU fw) [] Y Z=some (.agg [int wA.v.a,int wA.v.b,int wA.v.c,.sl 1 (qd wA.v.pre),wq wA.after],Y,Z):=fun Y Z=>We _ Y Z
 have U:∀(Y:Hp) (Z:Nat),qh [] (YU cd) [] Y Z=some (.sl 11 (qz [yw wA]),Y,Z):=fun Y Z=>We _ Y Z
 simp only[lowP,Part.V,Cut.V]at f;by_cases J:e=jI
 ·subst J;simp[Zg.V,f,U,jI,qL,JY,vW,qz,yw,wR.V,Cut.V,QV,f211]
 obtain⟨Y,ht⟩:=R.resolve_left J;have B:vP p.pre:=Y.2.2.2.2;have k:(e==[97,108,108])=false:=by simpa[jI]using J
 by_cases T:e=[62,61]
 ·subst T;simp[Zg.V,f,k,zR,qc,zv,zN,zy,jI,qL,JY,vW,qz,yw,wR.V,Cut.V,QV,f211]
 have l:(e==[62,61])=false:=by simpa using T
 have K:=fun Y Z=>Ww wA (ZN p) Y Z Ak (Qg B)
 have L:=fun Y Z=>Ww wA (vS p) Y Z Ak (Wf B)
 have G:=fun Y' Z=>CW Jz p (.agg p.V) Y' Z Y (by simp[Part.V]) (lI p Y') (by simp[Part.V])
 simp only[Vj,Jz,Part.V,Cut.V]at K L G;by_cases W:e=[60]
 ·subst W;simp[Zg.V,f,I,K,k,l,jI,qL,JY,vW,qz,wR.V,Cut.V,f211]
 have m:(e==[60])=false:=by simpa using W
 by_cases X:e=[62]
 ·subst X;simp[Zg.V,f,G,k,l,m,zR,qc,zv,zN,zy,jI,qL,JY,vW,qz,yw,wR.V,Cut.V,QV,f211]
 have q:(e==[62])=false:=by simpa using X
 by_cases s4:e=[60,61]
 ·subst s4;simp[Zg.V,f,G,I,L,k,l,m,q,zR,qc,zv,zN,zy,jI,qL,JY,vW,qz,yw,wR.V,Cut.V,QV,f211]
 have r:(e==[60,61])=false:=by simpa using s4
 by_cases s5:e=[45]
 ·subst s5;have M:=ht rfl;have N:=fun Y Z=>Ww (ZN p) (vS S) Y Z (Qg B) (Wf M.2.2.2.2)
  have P:=fun Y' Z=>CW Jz S (.agg S.V) Y' Z M (by simp[Part.V]) (lI S Y') (by simp[Part.V])
  simp only[Vj,Jz,Part.V,Cut.V]at N P;simp[Zg.V,f,P,N,k,l,m,q,r,zR,qc,zv,zN,zy,jI,qL,JY,vW,qz,yw,wR.V,Cut.V,QV,f211]
 have t:(e==[45])=false:=by simpa using s5
 have u:=fun i (hi:i<3) Y' Z=>CY vE p i (.agg p.V) Y' Z Y hi (by simp[Part.V]) (lI p Y') (by simp[Part.V])
 have w:=fun i Y Z=>Ww (ZN p) (jF p i) Y Z (Qg B) (Vk p i)
 simp only[Vj,vE,Part.V,Cut.V]at u w;have x:i6.wrap (p.has-1)=p.has-1:=zn (by have:=Y.2.2.2.1;omega) (by have:=Y.2.2.2.1;omega);by_cases s6:e=[126]
 ·subst s6;have hm:(if 1<p.has-1 then 1 else p.has-1)=(((min (p.has-1) 1).toNat:Nat):Int):=by have:=Y.2.2.2.1;split<;>omega
  have d:=u (min (p.has-1) 1).toNat (by omega);rw[←hm]at d;simp[Zg.V,f,d,w,x,k,l,m,q,r,t,zR,qc,zv,zN,zy,jI,qL,JY,vW,qz,yw,wR.V,Cut.V,QV,f211]
 have y:(e==[126])=false:=by simpa using s6
 by_cases s7:e=[94]
 ·subst s7;have hs3:(2:Int)<p.has→p.has=3:=by have:=Y.2.2.2.1;omega
  by_cases n:1<p.has
  ·have g:(0:Int)<p.has-1:=by omega
   by_cases C:p.n0=0
   ·have h:(p.n0==0)=true:=by simpa using C
    by_cases D:2<p.has
    ·have j:(1:Int)<p.has-1:=by omega
     have E:¬(2:Int)<p.has-1:=by have:=Y.2.2.2.1;omega
     by_cases H:p.n1=0
     ·have z:(p.n1==0)=true:=by simpa using H
      have o:j6 p=2:=by simp[j6,n,g,D,j,E,C,H]
      have d:=u 2 (by omega);rw[show((2:Nat):Int)=2 from rfl]at d;simp[Zg.V,f,x,k,l,m,q,r,t,y,n,g,D,j,E,h,z,jI];rw[zW];simp[Zg.V,f,x,k,l,m,q,r,t,y,n,g,D,j,E,h,z];rw[zW];simp[Zg.V,f,x,k,l,m,q,r,t,y,n,g,D,j,E,h,z];rw[zW];simp[Zg.V,f,x,k,l,m,q,r,t,y,d,w,o,n,g,D,j,E,h,z,zR,qc,zv,zN,zy,jI,qL,JY,vW,qz,yw,wR.V,Cut.V,QV,f211]
     ·have A:(p.n1==0)=false:=by simpa using H
      have o:j6 p=1:=by simp[j6,n,g,D,j,C,H,A]
      have d:=u 1 (by omega);rw[show((1:Nat):Int)=1 from rfl]at d;simp[Zg.V,f,x,k,l,m,q,r,t,y,n,g,D,j,h,A,jI];rw[zW];simp[Zg.V,f,x,k,l,m,q,r,t,y,n,g,D,j,h,A];rw[zW];simp[Zg.V,f,x,k,l,m,q,r,t,y,d,w,o,n,g,D,j,h,A,zR,qc,zv,zN,zy,jI,qL,JY,vW,qz,yw,wR.V,Cut.V,QV,f211]
    ·have j:¬(1:Int)<p.has-1:=by omega
     have o:j6 p=1:=by simp[j6,n,g,D,j,C]
     have d:=u 1 (by omega);rw[show((1:Nat):Int)=1 from rfl]at d;simp[Zg.V,f,x,k,l,m,q,r,t,y,n,g,D,j,h,jI];rw[zW];simp[Zg.V,f,x,k,l,m,q,r,t,y,n,g,D,j,h];rw[zW];simp[Zg.V,f,x,k,l,m,q,r,t,y,d,w,o,n,g,D,j,h,zR,qc,zv,zN,zy,jI,qL,JY,vW,qz,yw,wR.V,Cut.V,QV,f211]
   ·have F:(p.n0==0)=false:=by simpa using C
    have o:j6 p=0:=by simp[j6,n,g,C,F]
    have d:=u 0 (by omega);rw[show((0:Nat):Int)=0 from rfl]at d;simp[Zg.V,f,x,k,l,m,q,r,t,y,n,g,F,jI];rw[zW];simp[Zg.V,f,x,k,l,m,q,r,t,y,d,w,o,n,g,F,zR,qc,zv,zN,zy,jI,qL,JY,vW,qz,yw,wR.V,Cut.V,QV,f211]
  ·have g:¬(0:Int)<p.has-1:=by omega
   have o:j6 p=0:=by simp[j6,n,g]
   have d:=u 0 (by omega);rw[show((0:Nat):Int)=0 from rfl]at d;simp[Zg.V,f,x,k,l,m,q,r,t,y,n,g,jI];rw[zW];simp[Zg.V,f,x,k,l,m,q,r,t,y,d,w,o,n,g,zR,qc,zv,zN,zy,jI,qL,JY,vW,qz,yw,wR.V,Cut.V,QV,f211]
 have e7:(e==[94])=false:=by simpa using s7
 have Q:=fun Y Z=>Ww (ZN p) (vS p) Y Z (Qg B) (Wf B)
 simp only[Vj,Cut.V]at Q;simp only[jI]at J;have e1':=T;simp[Zg.V,f,G,Q,k,l,m,q,r,t,y,e7,J,T,W,X,s4,s5,s6,s7,zR,qc,zv,zN,zy,jI,qL,JY,vW,qz,yw,wR.V,Cut.V,QV,f211]
noncomputable def FCm (f:Zg→O):zc→Option O:=qv (α:=Zg) (fun c=>[.agg c.V]) Zg.ok f
theorem iV:zg prog 211 (qh [.g Aj] (FCm JY)):=
 wo (fn:=f211) UX ⟨_,func211,by kernel_rfl,rfl,by kernel_rfl⟩ _ _ fun args r h=>by obtain⟨c,rfl,a,rfl⟩:=zr h;obtain⟨b,d,e⟩:=nq c a;exact⟨by simp[f211],b,d,e⟩
def wI:List za:=[[62,61],[60,61],[62],[60],[61],[126],[94]]
def wW:List za→za→za×za
 |[],s=>([],s)
 |g::l,s=>if g.isPrefixOf s=true then(g,s.drop g.length)else wW l s
def UY(s:za):O:=.yb [str (wW wI s).1,str (wW wI s).2]
noncomputable abbrev Cop:Ctx:=qb prog [(265,zi false [] (Jv UM fun _ _=>True))]
theorem zd1:AM.Good Cop (fun g=>([]:List Nat).contains g):=zI mixed ⟨iP,by simp,trivial⟩
theorem pV(s:za)(h:s.length≤zG):zz Cop f231 [str s]=some (UY s):=by
 refine zo rfl ?_;have m:∀Y Z,zv prog Y Z 69 7 [(0,str [62,61]),(1,str [60,61]),(2,str [62]),(3,str [60]),(4,str [61]),(5,str [126]),(6,str [94])]=some (.own Z 0 7,qZ Y Z (some ⟨9,1,true,qd wI⟩),Z+1):=fun Y Z=>by simp[zv,zN,zy,wI,str]
 simp[str]at m;simp[m];refine zQ (fun k d Y Z=>d 0=str s∧d 8=.own 0 0 7∧d 9=int 7∧d 10=int k∧Y 0=some ⟨9,1,true,qd wI⟩∧wW wI s=wW (wI.drop k) s) 7 ⟨by simp,by simp,by simp,by simp,by simp,by simp⟩ ?_;rintro k d Y Z r ⟨g,i,j,b,n,a⟩;by_cases c:k<7
 ·have f:k<wI.length:=c;have l:wI[k].length≤zG:=by
   have:∀q∈wI,q.length≤zG:=by decide
   exact this _ (zm f)
  have o:=fun Y Z=>It s wI[k] Y Z h l
  have p:i6.wrap ((k:Int)+1)=(k:Int)+1:=zn (by omega) (by omega);have e:(k:Int)<7:=by omega
  rw[zd f]at a;simp only[wW]at a;by_cases Y:(wI[k]).isPrefixOf s=true
  ·rw[zf Y]at a;simp[g,i,j,b,n,e,c,f,o,Y,p,UY,a,wH,f231]
  ·rw[zj Y]at a;have Y':(wI[k]).isPrefixOf s=false:=eP.2 Y;simp[g,i,j,b,n,e,c,f,o,Y',p];exact⟨by omega,a⟩
 ·obtain rfl:k=7:=by omega
  rw[show wI.drop 7=[]from rfl]at a;simp only[wW]at a;simp[g,i,j,b,UY,a,wH, f231]
theorem nr:zg prog 231 (zi false [] (Oe UY)):=
 qq (fn:=f231) zd1 ⟨_,func231,by kernel_rfl,rfl,by kernel_rfl⟩ false [] _ fun args r h=>by obtain⟨l,rfl,Y,rfl⟩:=zr h;exact⟨by simp[f231],_,pV l Y,qm _⟩
def pD(l:za):Bool:=l.isEmpty
theorem nt:zg prog 229 (zi false [] (FS pD)):=
 qq (fn:=f229) w8 ⟨_,func229,by kernel_rfl,rfl,by kernel_rfl⟩ false [] _ fun args r h=>by obtain⟨l,rfl,Y,rfl⟩:=zr h;exact⟨by simp[f229],_,zo rfl (by simp[wH,pD,f229]),qm _⟩
def fx:Nat→List za→Int
 |_,[]=>-1
 |k,x::l=>if x=[]then k else fx (k+1) l
def lJ:O:=.fn (.func 229) [] []
noncomputable def FIx:zc→Option O:=qv (α:=List za) (fun l=>[.sl 1 (qd l),lJ]) vP (fun l=>int (fx 0 l))
noncomputable abbrev Cixf:Ctx:=qb prog [(229,zi false [] (FS pD))]
theorem UZ:AM.Good Cixf (fun g=>([]:List Nat).contains g):=zI mixed ⟨nt,by simp,trivial⟩
theorem iW(l:List za)(h:vP l):zz Cixf f261 [.sl 1 (qd l),lJ]=some (int (fx 0 l)):=by
 refine zo rfl ?_;obtain⟨p,f⟩:=h;unfold zG at p;simp[lJ];refine zQ (fun k d Y Z=>d 0=.sl 1 (qd l)∧d 1=lJ∧d 7=int l.length∧d 8=int k∧fx 0 l=fx k (l.drop k)) l.length ⟨by simp,by simp[lJ],by simp,by simp,by simp⟩ ?_;rintro k d Y Z q ⟨g,i,j,m,b⟩;by_cases a:k<l.length
 ·have n:i6.wrap ((k:Int)+1)=(k:Int)+1:=zn (by omega) (by omega);have o:=fun Y' Z=>vn pD l[k] Y' Z (f _ (zm a))
  rw[zd a]at b;simp only[fx]at b;by_cases e:l[k]=[]
  ·rw[zf e]at b;have c:pD l[k]=true:=by simpa[pD]using e
   simp[g,i,j,m,lJ,a,o,c,n,b,wH,f261]
  ·rw[zj e]at b;have c:pD l[k]=false:=by simpa[pD]using e
   simp[g,i,j,m,lJ,a,o,c,n];exact⟨a,b⟩
 ·obtain rfl:k=l.length:=by omega
  rw[zl]at b;simp only[fx]at b;simp[g,i,j,m,b,wH,f261]
theorem PE:∀a b:List za,[O.sl 1 (qd a),lJ]=[O.sl 1 (qd b),lJ]→a=b:=fun a b e=>by
 simp only[zh,zK]at e;injection e with _ e
 exact vf e
theorem fy:zg prog 261 (zi false [] FIx):=
 qq (fn:=f261) UZ ⟨_,func261,by kernel_rfl,rfl,by kernel_rfl⟩ false [] _ fun args r h=>by obtain⟨l,rfl,Y,rfl⟩:=zr h;exact⟨by simp[f261],_,iW l Y,qm _⟩
theorem PF(l:List za)(Y:Hp)(Z id:Nat)(h:vP l)(b:Y id=some (Ve l)):zi false [] FIx [.own id 0 l.length,lJ] Y Z=some (int (fx 0 l),Y,Z):=by
 have c:(qd l).take l.length=qd l:=qp (by simp);refine qe (show zA Y [.own id 0 l.length,lJ]=some ([.sl 1 (qd l),lJ],qZ Y id none) by have:Y id=some ⟨9,1,true,qd l⟩:=b;simp[lJ,this,c]) (zJ (V:=fun l:List za=>[O.sl 1 (qd l),lJ]) (a:=l) PE h) (.inl rfl)
def wQ(l:List za):List za:=l.filter fun x=>!pD x
theorem sO:∀(l:List za) (k:Nat),(fx k l=-1∧wQ l=l)∨∃i,∃h:i<l.length,fx k l=((k+i:Nat):Int)∧pD l[i]=true∧wQ (l.take i)=l.take i
 |[],k=>.inl ⟨rfl,rfl⟩
 |x::l,k=>by
  by_cases a:x=[]
  ·exact .inr ⟨0,by simp,by simp[fx,a],by simp[pD,a],by simp[wQ]⟩
  ·have b:pD x=false:=by simpa[pD]using a
   rcases sO l (k+1)with⟨c,d⟩|⟨i,h,c,d,e⟩
   ·exact .inl ⟨by simp[fx,a,c],by simp only[wQ,List.filter_cons,b];simpa[wQ]using d⟩
   ·refine .inr ⟨i+1,by simpa using h,by simp only[fx,zj a,c];congr 1;omega,by simpa using d,?_⟩;simp only[yE,wQ,List.filter_cons,b];simpa[wQ]using e
theorem Vl{l:List za}{j:Nat}(h:j<l.length):wQ (l.take (j+1))=if pD l[j]=true then wQ (l.take j)else wQ (l.take j)++[l[j]]:=by rw[qx h];simp only[wQ,List.filter_append,List.filter_cons,List.filter_nil];cases pD l[j]<;>simp
theorem gQ(a b:List za):qd (a++b)=qd a++qd b:=by simp[qd]
theorem Mj{l:List za}{i:Nat}(h:i<l.length):qd l=qd (l.take i)++[str l[i]]::qd (l.drop (i+1)):=by rw[←ao,←gQ,←zd h,iE]
noncomputable abbrev Cdf:Ctx:=qb prog [(229,zi false [] (FS pD)),(261,zi false [] FIx)]
theorem zd2:AM.Good Cdf (fun g=>([]:List Nat).contains g):=zI mixed ⟨nt,by simp,fy,by simp,trivial⟩
theorem fA:zg prog 228 (wP Cdf f228):=wZ (code:=_) zd2 ⟨func228,by kernel_rfl,rfl,by kernel_rfl⟩
def DelQ(l:List za)(id:Nat)(Y:Hp)(Z:Nat)(x:O)(Y':Hp)(b:Nat):Prop:=x=.own id 0 (wQ l).length∧b=Z∧(∃a,Y' id=some ⟨9,1,true,qd (wQ l)++a⟩)∧∀j,j≠id→Y' j=Y j
theorem Gy(l:List za)(Y0:Hp)(Z0 id:Nat)(h:vP l)(D:Y0 id=some (Ve l)):∃x Y' Z',wP Cdf f228 [.own id 0 l.length,lJ] Y0 Z0=some (x,Y',Z')∧DelQ l id Y0 Z0 x Y' Z':=by
 unfold wP;rw[zf (by simp[f228])];refine zT rfl ?_;have m:=PF l Y0 Z0 id h D;obtain⟨hl,S⟩:=h;unfold zG at hl;simp only[lJ]at m;have F:Y0 id=some ⟨9,1,true,qd l⟩:=D;rcases sO l 0 with⟨T,G⟩|⟨i,Q,T,G,U⟩
 ·rw[T]at m;simp[lJ,m,DelQ,G,f228];exact⟨[],by simpa using F⟩
 ·rw[T]at m;have W:((i:Int)==-1)=false:=by simp
  have v:i6.wrap ((i:Int)+1)=(i:Int)+1:=zn (by omega) (by omega);simp[lJ,m,W,v];refine zQ (fun k E Y Z=>E 0=.own id 0 l.length∧E 1=lJ∧E 5=int (wQ (l.take (i+1+k))).length∧E 6=int ((i:Int)+1+k)∧Z=Z0∧(∀j,j≠id→Y j=Y0 j) ∧
    ∃a,Y id=some ⟨9,1,true,qd (wQ (l.take (i+1+k)))++a++qd (l.drop (i+1+k))⟩∧(wQ (l.take (i+1+k))).length+a.length=i+1+k∧0<a.length∧∀c∈a,c.length=1) (l.length-(i+1))
   ⟨by simp,by simp[lJ],by simp[Vl Q,G,U];omega,by simp,rfl,fun _ _=>rfl,[[str l[i]]],by simp[Vl Q,G,U,F];exact Mj Q,by simp[Vl Q,G,U];omega,by simp,by simp⟩ ?_
  rintro k E Y Z hk ⟨X,h1,H,h6,rfl,w,a,p,z,I,A⟩;obtain⟨j,hj⟩:∃j,i+1+k=j:=⟨_,rfl⟩;have B:E 6=int j:=by rw[h6];congr 2;omega
  rw[hj]at H p z;by_cases f:j<l.length
  ·have hc:=fun Y' Z=>vn pD l[j] Y' Z (S _ (zm f))
   have J:i6.wrap ((j:Int)+1)=(j:Int)+1:=zn (by omega) (by omega);have hww:i6.wrap (((wQ (l.take j)).length:Int)+1)=((wQ (l.take j)).length:Int)+1:=zn (by omega) (by omega);have t:(qd (wQ (l.take j))++a++qd (l.drop j))[j]?=some [str l[j]]:=by rw[qg (by simp;omega),zd f,ao];rw[show j-(qd (wQ (l.take j))++a).length=0 by simp;omega];rfl
   have n:(qd (wQ (l.take j))++a++qd (l.drop j)).length=l.length:=by simp;omega
   obtain⟨rows,d⟩:∃rows,qd (wQ (l.take j))++a++qd (l.drop j)=rows:=⟨_,rfl⟩;rw[d]at p t n;have o:∀h:j<rows.length,rows[j]=[str l[j]]:=fun h=>(zq.1 t).2
   have s:=Vl f;have K:i+1+(k+1)=j+1:=by omega
   have v:(wQ (l.take j)).length<l.length:=by omega
   cases R:pD l[j]
   ·rw[R,zj (by simp)]at s;obtain⟨y,b,rfl,C⟩:∃y b,a=[y]::b∧∀c∈b,c.length=1:=by
     cases a with
     |nil=>simp at I
     |cons x b=>
      have:=A x (by simp)
      match x,this with
      |[y],_=>exact⟨y,b,rfl,fun c hc=>A c (by simp[hc])⟩
    have hg3:∀h:(wQ (l.take j)).length<rows.length,rows[(wQ (l.take j)).length]=[y]:=fun h=>by
     have:rows[(wQ (l.take j)).length]?=some [y]:=by rw[←d,qj,qg (by simp)];simp
     exact(zq.1 this).2
    have L:rows.set (wQ (l.take j)).length [str l[j]]=qd (wQ (l.take j))++([str l[j]]::b++qd (l.drop j)):=by rw[←d,qj,zeN _ _ (by simp)];simp
    simp only[qa]at z;simp[X,h1,H,B,lJ,f,p,o,hc,R,J,hww,v,n,hg3,L,K,s];refine⟨by omega,by omega,fun q M=>by rw[zw _ _ _ _ M];exact w q M,b++[[str l[j]]],?_,by simp;omega,by simp,?_⟩
    ·rw[gQ];simp;rw[zd f,ao]
    ·intro c hc;rcases qP.1 hc with hc|hc
     ·exact C c hc
     ·simp at hc;subst hc;rfl
   ·rw[R,zf rfl]at s;simp[X,h1,H,B,lJ,f,p,o,hc,R,J,K,s,n];refine⟨by omega,by omega,w,a++[[str l[j]]],?_,by simp;omega,by simp,?_⟩
    ·rw[←d];simp;rw[zd f,ao]
    ·intro c hc;rcases qP.1 hc with hc|hc
     ·exact A c hc
     ·simp at hc;subst hc;rfl
  ·obtain rfl:j=l.length:=by omega
   rw[yk]at H p z;rw[zl,CN,yh]at p;have hn1:¬(l.length:Int)<l.length:=by omega
   have u:(wQ l).length≤l.length:=by omega
   have g:l.length-(wQ l).length=a.length:=by omega
   have hcl:eY prog Y Z 69 (.own id (wQ l).length a.length)=some (.yb [],qZ Y id (some ⟨9,1,true,qd (wQ l)++List.replicate a.length [str []]⟩),Z):=by
    have ht:(qd (wQ l)++a).take (wQ l).length=qd (wQ l):=by rw[List.take_append_of_le_length (by simp),Mb]
    have hd:(qd (wQ l)++a).drop ((wQ l).length+a.length)=[]:=vJ (by simp);simp[eY,p,ht,hd,I,str]
   have hs1:∀Y:Hp,Y id=some ⟨9,1,true,qd (wQ l)++a⟩→js prog Y 69 (.own id 0 l.length) (some (some (int (wQ l).length))) none=some (.own id (wQ l).length a.length):=fun Y D=>by
    have:¬l.length=(wQ l).length:=by omega
    simp[js,D,vq,u,g,this];intro e;rw[e]at g⊢;simp at g;simp[g]
   have hs2:∀(Y:Hp) (r:List zc),Y id=some ⟨9,1,true,r⟩→js prog Y 69 (.own id 0 l.length) none (some (some (int (wQ l).length)))=some (.own id 0 (wQ l).length):=fun Y r D=>by simp[js,D,vq,u]
   have N:=hs1 Y p;have P:=hs2 (qZ Y id (some ⟨9,1,true,qd (wQ l)++List.replicate a.length [str []]⟩)) _ (by simp;rfl);simp[X,h1,H,B,lJ,p,N,P,hcl,f228];exact⟨rfl,rfl,⟨_,by simp;rfl⟩,fun q M=>by rw[zw _ _ _ _ M];exact w q M⟩
def fB:Zg:=⟨jI,wO,wO⟩
def Kx(a:za)(p:Part):Zg:=⟨a,p,wO⟩
def kQ(w:za)(l:List za):Option (Zg×List za):=
 if(wW wI w).1=[]∧yq (wW wI w).2=true then some (fB,l)
 else if(wW wI w).1≠[]∧(wW wI w).2=[]∧l≠[]then(match l with
  |r::l'=>if(zY r).2=true then some (Kx (wW wI w).1 (zY r).1,l')else none
  |[]=>none)
 else if(zY (wW wI w).2).2=true then some (Kx (wW wI w).1 (zY (wW wI w).2).1,l)else none
def yR:Nat→List za→Option (List Zg)
 | 0,_=>some []
 |_+1,[]=>some []
 |n+1,w::l=>match kQ w l with
  |some (c,l')=>(yR n l').map (c::·)
  |none=>none
theorem PG{w:za}{l l':List za}{c:Zg}(h:kQ w l=some (c,l')):l'.length≤l.length:=by
 unfold kQ at h;split at h
 ·injection h with h;injection h with _ h;subst h;exact ze _
 ·split at h
  ·split at h
   ·split at h
    ·injection h with h;injection h with _ h;subst h;simp
    ·cases h
   ·cases h
  ·split at h
   ·injection h with h;injection h with _ h;subst h;exact ze _
   ·cases h
def QU(t:za):List Zg×Bool:=
 match wQ (qC t [32])with
 |[a,b,c]=>if b=[45]then([⟨[45],(zY a).1,(zY c).1⟩],(zY a).2&&(zY c).2)else(match yR 3 [a,b,c]with
  |some l=>(l,!l.isEmpty)
  |none=>([],false))
 |ws=>match yR ws.length ws with
  |some l=>(l,!l.isEmpty)
  |none=>([],false)
def ZO(l:List Zg):List zc:=l.map Zg.V
def Am(t:za):O:=.yb [.sl 11 (ZO (QU t).1),wq (QU t).2]
theorem Vm:∀(a:List za) (s:za),(wW a s).2.length≤s.length
 |[],s=>ze _
 |g::l,s=>by
  simp only[wW];split
  ·simp
  ·exact Vm l s
noncomputable abbrev Calt:Ctx:=qb prog [(219,yO [] FSp),(228,wP Cdf f228),(230,zi false [] (aO kn)),(231,zi false [] (Oe UY)),(232,zi false [] (FS yq))]
theorem U0:AM.Good Calt (fun g=>[232].contains g):=zI mixed ⟨WC,by simp,fA,by simp,dn,by simp,nr,by simp,mX,fun _=>zt _ _,trivial⟩
def Ky:O→Nat
 | .own _ _ n=>n
 |_=>0
def PH(c:List za)(d:List zc)(b:St):Prop:=∃f a l xs,a.length≤f∧xs.length+a.length≤c.length∧c.drop (c.length-a.length)=a∧(a=[]∧b.σ 4=.sl 1 []∨b.σ 4=.own 0 (c.length-a.length) a.length) ∧
 q6 b.Y b.Z 229 11 (b.σ 9) xs∧(∀n,b.σ 9≠.own 0 0 n)∧xs.map (Z4 Aj)=ZO l∧1≤b.Z∧b.Y 0=some ⟨9,1,true,d⟩∧yR c.length c=(yR f a).map (l++·)
theorem sl1(Y:Hp)(a:List zc)(o n:Nat)(b:Y 0=some ⟨9,1,true,a⟩):js prog Y 69 (.own 0 o (n+1)) (some (some (int 1))) none=some (if n=0 then .sl 1 []else .own 0 (o+1) n):=by simp[js,b,vq]
theorem ZP{b a}{f':Nat}{l':List za}{l:List Zg}{c:Zg}{xs:List zc}{d:zc}{st:St}{v4:O}(k:l'.length≤f')(r:xs.length+1+l'.length≤b.length)(f:b.drop (b.length-l'.length)=l')(m:st.σ 4=v4)(g:l'=[]∧v4=.sl 1 []∨v4=.own 0 (b.length-l'.length) l'.length)
  (o:q6 st.Y st.Z 229 11 (st.σ 9) (xs++[d])) (h:∀n,st.σ 9≠.own 0 0 n) (e:Z4 Aj d=c.V) (i:xs.map (Z4 Aj)=ZO l) (j:1≤st.Z) (p:st.Y 0=some ⟨9,1,true,a⟩) (q:yR b.length b=(yR f' l').map ((l++[c])++·)):PH b a st:=
 ⟨f',l',l++[c],xs++[d],k,by simp;omega,f,by rw[m];exact g,o,h,by simp[i,e,ZO],j,p,q⟩
theorem CZ(f:Nat):yR f []=some []:=by cases f<;>rfl
theorem fC(t:za)(ht:t.length+1≤zG):∃r0,zz Calt f209 [str t]=some r0∧qM r0 (Am t):=by
 refine y8 (sh:=.s 11 Aj) rfl ?_;have hsp:=fun Y Z=>Z5 t [32] Y Z (by omega) (by decide) (by decide)
 have hpl:∀p∈qC t [32],p.length+1≤zG:=fun p Y=>by have:=xt Y;omega
 have Tt:vP (qC t [32]):=⟨by have:=Zm (s:=t) (sep:=[32]) (by simp);omega,fun p Y=>by have:=hpl p Y;omega⟩;obtain⟨x,Y1,nx1,Tu,hx,hnx,⟨pad,hb⟩,N6⟩:=Gy (qC t [32]) (qZ (fun _=>none) 0 (some ⟨9,1,true,qd (qC t [32])⟩)) 1 0 Tt (by simp);subst hx;subst hnx;obtain⟨ws,hws⟩:∃ws,wQ (qC t [32])=ws:=⟨_,rfl⟩;have hwl:∀p∈ws,p.length+1≤zG:=fun p Y=>hpl p (by rw[←hws]at Y;exact(zc7.1 Y).1)
 rw[hws]at Tu hb;simp only[lJ]at Tu;have C:ws.length≤zG:=by
  have h1:=zeM (fun x=>!pD x) (qC t [32]);have h2:=Zm (s:=t) (sep:=[32]) (by simp);have h3:ws.length=(wQ (qC t [32])).length:=by rw[hws]
  unfold wQ at h3;omega
 have Ub:=fun(p:za) (Y:p.length+1≤zG) Y' Z=>Zy kn p Y' Z Y
 simp[hsp,Tu];by_cases hc:∃a c,ws=[a,[45],c]
 ·obtain⟨a,c,rfl⟩:=hc;have ha:=fun Y' Z=>Ub a (hwl a (by simp)) Y' Z
  have hcc:=fun Y' Z=>Ub c (hwl c (by simp)) Y' Z
  simp only[kn,Part.V]at ha hcc;have j:Am t=.yb [.sl 11 (ZO [⟨[45],(zY a).1,(zY c).1⟩]),wq ((zY a).2&&(zY c).2)]:=by simp only[Am,QU,hws,wi]
  rw[j];have hn:∀k,0<k→Y1 k=none:=fun k hk=>by rw[N6 k (by omega),zw _ _ _ _ (by omega)]
  simp[hb,ha,hcc,zR,qc,zv,zN,zy,qL,ZO,Zg.V,f209]
 ·have j:Am t=(match yR ws.length ws with
   |some l=>.yb [.sl 11 (ZO l),wq (!l.isEmpty)]
   |none=>.yb [.sl 11 [],wq false]):=by
   have hR:QU t=(match yR ws.length ws with
    |some l=>(l,!l.isEmpty)
    |none=>([],false)):=by
    unfold QU;rw[hws]
    match ws,hc with
    |[],_=>rfl
    |[_],_=>rfl
    |[_,_],_=>rfl
    |[a,b,c],hc=>
     have:¬b=[45]:=fun e=>hc ⟨a,c,by rw[e]⟩
     simp only[zj this];rfl
    |_::_::_::_::_,_=>rfl
   unfold Am;rw[hR];cases yR ws.length ws<;>rfl
  obtain⟨rows,Ls⟩:∃rows,qd ws++pad=rows:=⟨_,rfl⟩;have hrl:ws.length≤rows.length:=by rw[←Ls];simp
  have hat:∀k (h:k<ws.length) (h':k<rows.length),rows[k]=[str ws[k]]:=fun k h h'=>by subst Ls;rw[List.getElem_append_left (by simpa using h)];simp[qd]
  rw[Ls]at hb;clear Ls;by_cases h3:ws.length=3
  ·have h31:=hat 1 (by omega) (by omega);have hne:(ws[1]==[45])=false:=by
    match ws,h3,hc with
    |[a,b,c],_,hc=>simpa using fun e=>hc ⟨a,c,by rw[e]⟩
   have h3l:1<rows.length:=by omega
   have h33:((ws.length:Int)==3)=true:=by simp[h3]
   simp[hb,h33,h3,h31,hne,h3l];refine Zi (PH ws rows) (fun st=>Ky (st.σ 4)) ⟨ws.length,ws,[],[],ze _,by simp,by simp,.inr (by simp;try omega),.inl ⟨by simp,rfl⟩,by simp,rfl,by simp,by simpa using hb,by simp⟩ ?_;clear Tu N6 hsp;rintro⟨σ,Y,Z⟩ ⟨f,rest,l,xs,hf,Tv,Oi,h4,Q,hO0,D,hnx,H,N⟩;simp only at h4 Q hO0 hnx H;cases rest with
   |nil=>
    rw[CZ]at N;simp only[zH,yh]at N;rw[N]at j;rw[j];have Tw:xs.length=l.length:=by have:=zD List.length D;simpa[ZO]using this
    have hb1:(decide ((0:Int)<(xs.length:Int)))=!l.isEmpty:=by rw[Tw];cases l<;>simp
    have hb2:(decide (0<xs.length))=!l.isEmpty:=by rw[Tw];cases l<;>simp
    have VQ:σ 4=.sl 1 []∨σ 4=.own 0 ws.length 0:=by
     rcases h4 with⟨_,h4⟩|h4
     ·exact .inl h4
     ·exact .inr (by simpa using h4)
    rcases Q with⟨h9,rfl⟩|⟨id,hid,h9,hb9⟩
    ·simp[ZO]at D;subst D;rcases VQ with VQ|VQ<;>simp[VQ,h9,qL,ZO,f209]
    ·rcases VQ with VQ|VQ<;>simp[VQ,h9,hb9,hb1,hb2,D,qL,f209]
   |cons w l'=>
    obtain⟨f',rfl⟩:∃f',f=f'+1:=⟨f-1,by simp at hf;omega⟩;simp only[qa]at hf Tv Oi h4;obtain⟨o,ho⟩:∃o,ws.length-(l'.length+1)=o:=⟨_,rfl⟩;rw[ho]at Oi h4;have VQ:σ 4=.own 0 o (l'.length+1):=by
     rcases h4 with⟨h,_⟩|h
     ·cases h
     ·exact h
    have hol:o<ws.length:=by omega
    have A:o<rows.length:=by omega
    rw[zd hol]at Oi;injection Oi with hdw I
    have q:rows[o]=[str w]:=by rw[hat o hol A,hdw]
    have hww:w.length+1≤zG:=hwl w (by rw[←hdw];exact zm hol);have B:=fun Y' R=>dj UY w Y' R (by omega) rfl
    simp only[UY]at B;have S:(wW wI w).2.length+1≤zG:=by have:=Vm wI w;omega
    have u:=fun Y' R=>vn yq (wW wI w).2 Y' R (by omega)
    obtain⟨v4,hv4⟩:∃v4,(if l'.length=0 then O.sl 1 []else .own 0 (o+1) l'.length)=v4:=⟨_,rfl⟩;have hs1:=fun Y' (hh:Y' 0=some _)=>sl1 Y' rows o l'.length hh
    rw[hv4]at hs1;have m:=hs1 Y H;have T:o+1=ws.length-l'.length:=by omega
    have y:l'=[]∧v4=.sl 1 []∨v4=.own 0 (ws.length-l'.length) l'.length:=by
     rw[←hv4,←T];by_cases h:l'.length=0
     ·exact .inl ⟨qo.1 h,zf h⟩
     ·exact .inr (zj h)
    have U:Ky v4<l'.length+1:=by rcases y with⟨_,h⟩|h<;>rw[h]<;>simp[Ky]
    have hl4:Qr prog 69 v4=some (int l'.length):=by
     rcases y with⟨h1,h⟩|h
     ·subst h1;rw[h];simp
     ·rw[h];simp
    rw[T]at I;have BZ:=fun c Q=>q6.yx (Y:=Y) (Z:=Z) (v:=σ 9) (xs:=xs) (P:=prog) (t:=221) (c:=c) Q bl bm bn bo rfl (by omega) (by unfold maxLen;unfold zG at C;omega) (by unfold zG at C;omega)
    by_cases W:(wW wI w).1=[]∧yq (wW wI w).2=true
    ·have J:kQ w l'=some (fB,l'):=by unfold kQ;rw[zf W]
     have g:yR ws.length ws=(yR f' l').map ((l++[fB])++·):=by rw[N];simp only[yR,J];cases yR f' l'<;>simp
     have Tx:=BZ [str jI,int 0,int 0,int 0,int 0,.nil,int 0,int 0,int 0,int 0,.nil] Q;obtain⟨hA1,hA2⟩:=W;simp only[jI]at Tx;simp[VQ,H,A,q,B,u,m,hA1,hA2,Tx,zR,qc,zv,zN,zy];have n0:¬0=Z:=by omega
     have n1:¬0=Z+1:=by omega
     have n2:¬0=Z+2:=by omega
     have M:=fun Y'=>yt Q Y' 0 hO0
     exact⟨ZP (v4:=v4) (c:=fB) (f':=f') (l':=l') (l:=l) (xs:=xs) (by omega) (by omega) I (by simp) y (by simpa using q6.after) (by simp<;>omega) rfl D (by simp) (by simp[M,n0,n1,n2,H]) g,by simpa[Ky]using U⟩
    have n0:¬0=Z:=by omega
    have n1:¬0=Z+1:=by omega
    have n2:¬0=Z+2:=by omega
    have M:=fun Y'=>yt Q Y' 0 hO0
    by_cases X:(wW wI w).1=[]
    ·have E:((wW wI w).1==[])=true:=by simpa using X
     have F:(wW wI w).1.isEmpty=true:=by simpa using X
     have G:((wW wI w).1 != [])=false:=by simpa using X
     have hOp:yq (wW wI w).2=false:=by
      cases h:yq (wW wI w).2
      ·rfl
      ·exact absurd ⟨X,h⟩ W
     have n:=fun Y' R=>Ub (wW wI w).2 S Y' R
     simp only[kn,Part.V]at n;cases d:(zY (wW wI w).2).2
     ·have J:kQ w l'=none:=by unfold kQ;rw[zj W,zj (fun h=>h.1 X),zj (by rw[d];simp)]
      have g:yR ws.length ws=none:=by rw[N];simp only[yR,J];rfl
      rw[g]at j;simp[VQ,H,A,q,B,u,m,E,F,G,hOp,n,d,zR,qc,j,ZO,qL,f209]
     ·have J:kQ w l'=some (Kx (wW wI w).1 (zY (wW wI w).2).1,l'):=by unfold kQ;rw[zj W,zj (fun h=>h.1 X),zf d]
      have g:yR ws.length ws=(yR f' l').map ((l++[Kx (wW wI w).1 (zY (wW wI w).2).1])++·):=by rw[N];simp only[yR,J];cases yR f' l'<;>simp
      have i:=q6.yx (P:=prog) (t:=221) (c:=[str (wW wI w).1,int (zY (wW wI w).2).1.n0,int (zY (wW wI w).2).1.n1,int (zY (wW wI w).2).1.n2,int (zY (wW wI w).2).1.has,.sl 1 (qd (zY (wW wI w).2).1.pre),int 0,int 0,int 0,int 0,.nil]) (Q.more (some ⟨227,5,false,[(zY (wW wI w).2).1.V]⟩)) bl bm bn bo rfl (by omega) (by unfold maxLen;unfold zG at C;omega) (by unfold zG at C;omega);simp only[Part.V]at i;simp[VQ,H,A,q,B,u,m,E,F,G,hOp,n,d,i,zR,qc,zv,zN,zy];exact⟨ZP (v4:=v4) (c:=Kx (wW wI w).1 (zY (wW wI w).2).1) (f':=f') (l':=l') (l:=l) (xs:=xs) (by omega) (by omega) I (by simp) y (by simpa using q6.after) (by simp<;>omega) rfl D (by simp) (by simp[M,n0,n1,n2,H]) g,by simpa[Ky]using U⟩
    have E:((wW wI w).1==[])=false:=by simpa using X
    have F:(wW wI w).1.isEmpty=false:=by simpa using X
    have G:((wW wI w).1 != [])=true:=by simpa using X
    by_cases hR:(wW wI w).2=[]
    ·have K:((wW wI w).2==[])=true:=by simpa using hR
     have L:(wW wI w).2.isEmpty=true:=by simpa using hR
     by_cases hL:l'=[]
     ·have hLz:l'.length=0:=by rw[hL];rfl
      have hLp:¬0<l'.length:=by omega
      have hLq:¬(0:Int)<(l'.length:Int):=by omega
      have n:=fun Y' R=>Ub (wW wI w).2 S Y' R
      simp only[kn,Part.V]at n;cases d:(zY (wW wI w).2).2
      ·have J:kQ w l'=none:=by unfold kQ;rw[zj W,zj (fun h=>h.2.2 hL),zj (by rw[d];simp)]
       have g:yR ws.length ws=none:=by rw[N];simp only[yR,J];rfl
       rw[g]at j;simp[VQ,H,A,q,B,u,m,E,F,G,K,L,hl4,hLp,hLq,n,d,zR,qc,j,ZO,qL,f209]
      ·have J:kQ w l'=some (Kx (wW wI w).1 (zY (wW wI w).2).1,l'):=by unfold kQ;rw[zj W,zj (fun h=>h.2.2 hL),zf d]
       have g:yR ws.length ws=(yR f' l').map ((l++[Kx (wW wI w).1 (zY (wW wI w).2).1])++·):=by rw[N];simp only[yR,J];cases yR f' l'<;>simp
       have i:=q6.yx (P:=prog) (t:=221) (c:=[str (wW wI w).1,int (zY (wW wI w).2).1.n0,int (zY (wW wI w).2).1.n1,int (zY (wW wI w).2).1.n2,int (zY (wW wI w).2).1.has,.sl 1 (qd (zY (wW wI w).2).1.pre),int 0,int 0,int 0,int 0,.nil]) (Q.more (some ⟨227,5,false,[(zY (wW wI w).2).1.V]⟩)) bl bm bn bo rfl (by omega) (by unfold maxLen;unfold zG at C;omega) (by unfold zG at C;omega);simp only[Part.V]at i;simp[VQ,H,A,q,B,u,m,E,F,G,K,L,hl4,hLp,hLq,n,d,i,zR,qc,zv,zN,zy];exact⟨ZP (v4:=v4) (c:=Kx (wW wI w).1 (zY (wW wI w).2).1) (f':=f') (l':=l') (l:=l) (xs:=xs) (by omega) (by omega) I (by simp) y (by simpa using q6.after) (by simp<;>omega) rfl D (by simp) (by simp[M,n0,n1,n2,H]) g,by simpa[Ky]using U⟩
     ·obtain⟨r,z,rfl⟩:∃r z,l'=r::z:=by
       cases l' with
       |nil=>exact absurd rfl hL
       |cons r z=>exact⟨r,z,rfl⟩
      have hv:v4=.own 0 (o+1) (z.length+1):=by
       rcases y with⟨h,_⟩|h
       ·cases h
       ·rw[h,←T];rfl
      subst hv;simp only[qa]at hf Tv ho VQ m T I U;have Ft:o+1<ws.length:=by omega
      have Fu:o+1<rows.length:=by omega
      rw[←T,zd Ft]at I;injection I with Ty Tz
      have zib:rows[o+1]=[str r]:=by rw[hat (o+1) Ft Fu,Ty]
      have ho2:o+1+1=ws.length-z.length:=by omega
      obtain⟨v5,hv5⟩:∃v5,(if z.length=0 then O.sl 1 []else .own 0 (o+1+1) z.length)=v5:=⟨_,rfl⟩;have H7:=sl1 Y rows (o+1) z.length H;rw[hv5]at H7;have TA:z=[]∧v5=.sl 1 []∨v5=.own 0 (ws.length-z.length) z.length:=by
       rw[←hv5,←ho2];by_cases h:z.length=0
       ·exact .inl ⟨qo.1 h,zf h⟩
       ·exact .inr (zj h)
      have hmu5:Ky v5<z.length+1+1:=by rcases TA with⟨_,h⟩|h<;>rw[h]<;>simp[Ky];omega
      rw[ho2]at Tz;have TB:(0:Int)<(z.length:Int)+1:=by omega
      have zl5:(0:Int)<(z.length:Int)+1+1:=by omega
      have n:=fun Y' R=>Ub r (hwl r (by rw[←Ty];exact zm Ft)) Y' R
      simp only[kn,Part.V]at n;cases d:(zY r).2
      ·have J:kQ w (r::z)=none:=by unfold kQ;rw[zj W,zf ⟨X,hR,by simp⟩];simp only[d];rfl
       have g:yR ws.length ws=none:=by rw[N];simp only[yR,J];rfl
       rw[g]at j;simp[VQ,H,A,q,B,u,m,H7,Fu,zib,E,F,G,K,L,TB,zl5,n,d,zR,qc,j,ZO,qL,f209]
      ·have J:kQ w (r::z)=some (Kx (wW wI w).1 (zY r).1,z):=by unfold kQ;rw[zj W,zf ⟨X,hR,by simp⟩];simp only[d,wi]
       have g:yR ws.length ws=(yR f' z).map ((l++[Kx (wW wI w).1 (zY r).1])++·):=by rw[N];simp only[yR,J];cases yR f' z<;>simp
       have i:=q6.yx (P:=prog) (t:=221) (c:=[str (wW wI w).1,int (zY r).1.n0,int (zY r).1.n1,int (zY r).1.n2,int (zY r).1.has,.sl 1 (qd (zY r).1.pre),int 0,int 0,int 0,int 0,.nil]) (Q.more (some ⟨227,5,false,[(zY r).1.V]⟩)) bl bm bn bo rfl (by omega) (by unfold maxLen;unfold zG at C;omega) (by unfold zG at C;omega);simp only[Part.V]at i;simp[VQ,H,A,q,B,u,m,H7,Fu,zib,E,F,G,K,L,TB,zl5,n,d,i,zR,qc,zv,zN,zy];exact⟨ZP (v4:=v5) (c:=Kx (wW wI w).1 (zY r).1) (f':=f') (l':=z) (l:=l) (xs:=xs) (by omega) (by omega) Tz (by simp) TA (by simpa using q6.after) (by simp<;>omega) rfl D (by simp) (by simp[M,n0,n1,n2,H]) g,by simpa[Ky]using hmu5⟩
    ·have K:((wW wI w).2==[])=false:=by simpa using hR
     have L:(wW wI w).2.isEmpty=false:=by simpa using hR
     have n:=fun Y' R=>Ub (wW wI w).2 S Y' R
     simp only[kn,Part.V]at n;cases d:(zY (wW wI w).2).2
     ·have J:kQ w l'=none:=by unfold kQ;rw[zj W,zj (fun h=>hR h.2.1),zj (by rw[d];simp)]
      have g:yR ws.length ws=none:=by rw[N];simp only[yR,J];rfl
      rw[g]at j;simp[VQ,H,A,q,B,u,m,E,F,G,K,L,n,d,zR,qc,j,ZO,qL,f209]
     ·have J:kQ w l'=some (Kx (wW wI w).1 (zY (wW wI w).2).1,l'):=by unfold kQ;rw[zj W,zj (fun h=>hR h.2.1),zf d]
      have g:yR ws.length ws=(yR f' l').map ((l++[Kx (wW wI w).1 (zY (wW wI w).2).1])++·):=by rw[N];simp only[yR,J];cases yR f' l'<;>simp
      have i:=q6.yx (P:=prog) (t:=221) (c:=[str (wW wI w).1,int (zY (wW wI w).2).1.n0,int (zY (wW wI w).2).1.n1,int (zY (wW wI w).2).1.n2,int (zY (wW wI w).2).1.has,.sl 1 (qd (zY (wW wI w).2).1.pre),int 0,int 0,int 0,int 0,.nil]) (Q.more (some ⟨227,5,false,[(zY (wW wI w).2).1.V]⟩)) bl bm bn bo rfl (by omega) (by unfold maxLen;unfold zG at C;omega) (by unfold zG at C;omega);simp only[Part.V]at i;simp[VQ,H,A,q,B,u,m,E,F,G,K,L,n,d,i,zR,qc,zv,zN,zy];exact⟨ZP (v4:=v4) (c:=Kx (wW wI w).1 (zY (wW wI w).2).1) (f':=f') (l':=l') (l:=l) (xs:=xs) (by omega) (by omega) I (by simp) y (by simpa using q6.after) (by simp<;>omega) rfl D (by simp) (by simp[M,n0,n1,n2,H]) g,by simpa[Ky]using U⟩
  ·have h33:((ws.length:Int)==3)=false:=by simp;omega
   simp[hb,h33];refine Zi (PH ws rows) (fun st=>Ky (st.σ 4)) ⟨ws.length,ws,[],[],ze _,by simp,by simp,.inr (by simp;try omega),.inl ⟨by simp,rfl⟩,by simp,rfl,by simp,by simpa using hb,by simp⟩ ?_;clear Tu N6 hsp;rintro⟨σ,Y,Z⟩ ⟨f,rest,l,xs,hf,Tv,Oi,h4,Q,hO0,D,hnx,H,N⟩;simp only at h4 Q hO0 hnx H;cases rest with
   |nil=>
    rw[CZ]at N;simp only[zH,yh]at N;rw[N]at j;rw[j];have Tw:xs.length=l.length:=by have:=zD List.length D;simpa[ZO]using this
    have hb1:(decide ((0:Int)<(xs.length:Int)))=!l.isEmpty:=by rw[Tw];cases l<;>simp
    have hb2:(decide (0<xs.length))=!l.isEmpty:=by rw[Tw];cases l<;>simp
    have VQ:σ 4=.sl 1 []∨σ 4=.own 0 ws.length 0:=by
     rcases h4 with⟨_,h4⟩|h4
     ·exact .inl h4
     ·exact .inr (by simpa using h4)
    rcases Q with⟨h9,rfl⟩|⟨id,hid,h9,hb9⟩
    ·simp[ZO]at D;subst D;rcases VQ with VQ|VQ<;>simp[VQ,h9,qL,ZO,f209]
    ·rcases VQ with VQ|VQ<;>simp[VQ,h9,hb9,hb1,hb2,D,qL,f209]
   |cons w l'=>
    obtain⟨f',rfl⟩:∃f',f=f'+1:=⟨f-1,by simp at hf;omega⟩;simp only[qa]at hf Tv Oi h4;obtain⟨o,ho⟩:∃o,ws.length-(l'.length+1)=o:=⟨_,rfl⟩;rw[ho]at Oi h4;have VQ:σ 4=.own 0 o (l'.length+1):=by
     rcases h4 with⟨h,_⟩|h
     ·cases h
     ·exact h
    have hol:o<ws.length:=by omega
    have A:o<rows.length:=by omega
    rw[zd hol]at Oi;injection Oi with hdw I
    have q:rows[o]=[str w]:=by rw[hat o hol A,hdw]
    have hww:w.length+1≤zG:=hwl w (by rw[←hdw];exact zm hol);have B:=fun Y' R=>dj UY w Y' R (by omega) rfl
    simp only[UY]at B;have S:(wW wI w).2.length+1≤zG:=by have:=Vm wI w;omega
    have u:=fun Y' R=>vn yq (wW wI w).2 Y' R (by omega)
    obtain⟨v4,hv4⟩:∃v4,(if l'.length=0 then O.sl 1 []else .own 0 (o+1) l'.length)=v4:=⟨_,rfl⟩;have hs1:=fun Y' (hh:Y' 0=some _)=>sl1 Y' rows o l'.length hh
    rw[hv4]at hs1;have m:=hs1 Y H;have T:o+1=ws.length-l'.length:=by omega
    have y:l'=[]∧v4=.sl 1 []∨v4=.own 0 (ws.length-l'.length) l'.length:=by
     rw[←hv4,←T];by_cases h:l'.length=0
     ·exact .inl ⟨qo.1 h,zf h⟩
     ·exact .inr (zj h)
    have U:Ky v4<l'.length+1:=by rcases y with⟨_,h⟩|h<;>rw[h]<;>simp[Ky]
    have hl4:Qr prog 69 v4=some (int l'.length):=by
     rcases y with⟨h1,h⟩|h
     ·subst h1;rw[h];simp
     ·rw[h];simp
    rw[T]at I;have BZ:=fun c Q=>q6.yx (Y:=Y) (Z:=Z) (v:=σ 9) (xs:=xs) (P:=prog) (t:=221) (c:=c) Q bl bm bn bo rfl (by omega) (by unfold maxLen;unfold zG at C;omega) (by unfold zG at C;omega)
    by_cases W:(wW wI w).1=[]∧yq (wW wI w).2=true
    ·have J:kQ w l'=some (fB,l'):=by unfold kQ;rw[zf W]
     have g:yR ws.length ws=(yR f' l').map ((l++[fB])++·):=by rw[N];simp only[yR,J];cases yR f' l'<;>simp
     have Tx:=BZ [str jI,int 0,int 0,int 0,int 0,.nil,int 0,int 0,int 0,int 0,.nil] Q;obtain⟨hA1,hA2⟩:=W;simp only[jI]at Tx;simp[VQ,H,A,q,B,u,m,hA1,hA2,Tx,zR,qc,zv,zN,zy];have n0:¬0=Z:=by omega
     have n1:¬0=Z+1:=by omega
     have n2:¬0=Z+2:=by omega
     have M:=fun Y'=>yt Q Y' 0 hO0
     exact⟨ZP (v4:=v4) (c:=fB) (f':=f') (l':=l') (l:=l) (xs:=xs) (by omega) (by omega) I (by simp) y (by simpa using q6.after) (by simp<;>omega) rfl D (by simp) (by simp[M,n0,n1,n2,H]) g,by simpa[Ky]using U⟩
    have n0:¬0=Z:=by omega
    have n1:¬0=Z+1:=by omega
    have n2:¬0=Z+2:=by omega
    have M:=fun Y'=>yt Q Y' 0 hO0
    by_cases X:(wW wI w).1=[]
    ·have E:((wW wI w).1==[])=true:=by simpa using X
     have F:(wW wI w).1.isEmpty=true:=by simpa using X
     have G:((wW wI w).1 != [])=false:=by simpa using X
     have hOp:yq (wW wI w).2=false:=by
      cases h:yq (wW wI w).2
      ·rfl
      ·exact absurd ⟨X,h⟩ W
     have n:=fun Y' R=>Ub (wW wI w).2 S Y' R
     simp only[kn,Part.V]at n;cases d:(zY (wW wI w).2).2
     ·have J:kQ w l'=none:=by unfold kQ;rw[zj W,zj (fun h=>h.1 X),zj (by rw[d];simp)]
      have g:yR ws.length ws=none:=by rw[N];simp only[yR,J];rfl
      rw[g]at j;simp[VQ,H,A,q,B,u,m,E,F,G,hOp,n,d,zR,qc,j,ZO,qL,f209]
     ·have J:kQ w l'=some (Kx (wW wI w).1 (zY (wW wI w).2).1,l'):=by unfold kQ;rw[zj W,zj (fun h=>h.1 X),zf d]
      have g:yR ws.length ws=(yR f' l').map ((l++[Kx (wW wI w).1 (zY (wW wI w).2).1])++·):=by rw[N];simp only[yR,J];cases yR f' l'<;>simp
      have i:=q6.yx (P:=prog) (t:=221) (c:=[str (wW wI w).1,int (zY (wW wI w).2).1.n0,int (zY (wW wI w).2).1.n1,int (zY (wW wI w).2).1.n2,int (zY (wW wI w).2).1.has,.sl 1 (qd (zY (wW wI w).2).1.pre),int 0,int 0,int 0,int 0,.nil]) (Q.more (some ⟨227,5,false,[(zY (wW wI w).2).1.V]⟩)) bl bm bn bo rfl (by omega) (by unfold maxLen;unfold zG at C;omega) (by unfold zG at C;omega);simp only[Part.V]at i;simp[VQ,H,A,q,B,u,m,E,F,G,hOp,n,d,i,zR,qc,zv,zN,zy];exact⟨ZP (v4:=v4) (c:=Kx (wW wI w).1 (zY (wW wI w).2).1) (f':=f') (l':=l') (l:=l) (xs:=xs) (by omega) (by omega) I (by simp) y (by simpa using q6.after) (by simp<;>omega) rfl D (by simp) (by simp[M,n0,n1,n2,H]) g,by simpa[Ky]using U⟩
    have E:((wW wI w).1==[])=false:=by simpa using X
    have F:(wW wI w).1.isEmpty=false:=by simpa using X
    have G:((wW wI w).1 != [])=true:=by simpa using X
    by_cases hR:(wW wI w).2=[]
    ·have K:((wW wI w).2==[])=true:=by simpa using hR
     have L:(wW wI w).2.isEmpty=true:=by simpa using hR
     by_cases hL:l'=[]
     ·have hLz:l'.length=0:=by rw[hL];rfl
      have hLp:¬0<l'.length:=by omega
      have hLq:¬(0:Int)<(l'.length:Int):=by omega
      have n:=fun Y' R=>Ub (wW wI w).2 S Y' R
      simp only[kn,Part.V]at n;cases d:(zY (wW wI w).2).2
      ·have J:kQ w l'=none:=by unfold kQ;rw[zj W,zj (fun h=>h.2.2 hL),zj (by rw[d];simp)]
       have g:yR ws.length ws=none:=by rw[N];simp only[yR,J];rfl
       rw[g]at j;simp[VQ,H,A,q,B,u,m,E,F,G,K,L,hl4,hLp,hLq,n,d,zR,qc,j,ZO,qL,f209]
      ·have J:kQ w l'=some (Kx (wW wI w).1 (zY (wW wI w).2).1,l'):=by unfold kQ;rw[zj W,zj (fun h=>h.2.2 hL),zf d]
       have g:yR ws.length ws=(yR f' l').map ((l++[Kx (wW wI w).1 (zY (wW wI w).2).1])++·):=by rw[N];simp only[yR,J];cases yR f' l'<;>simp
       have i:=q6.yx (P:=prog) (t:=221) (c:=[str (wW wI w).1,int (zY (wW wI w).2).1.n0,int (zY (wW wI w).2).1.n1,int (zY (wW wI w).2).1.n2,int (zY (wW wI w).2).1.has,.sl 1 (qd (zY (wW wI w).2).1.pre),int 0,int 0,int 0,int 0,.nil]) (Q.more (some ⟨227,5,false,[(zY (wW wI w).2).1.V]⟩)) bl bm bn bo rfl (by omega) (by unfold maxLen;unfold zG at C;omega) (by unfold zG at C;omega);simp only[Part.V]at i;simp[VQ,H,A,q,B,u,m,E,F,G,K,L,hl4,hLp,hLq,n,d,i,zR,qc,zv,zN,zy];exact⟨ZP (v4:=v4) (c:=Kx (wW wI w).1 (zY (wW wI w).2).1) (f':=f') (l':=l') (l:=l) (xs:=xs) (by omega) (by omega) I (by simp) y (by simpa using q6.after) (by simp<;>omega) rfl D (by simp) (by simp[M,n0,n1,n2,H]) g,by simpa[Ky]using U⟩
     ·obtain⟨r,z,rfl⟩:∃r z,l'=r::z:=by
       cases l' with
       |nil=>exact absurd rfl hL
       |cons r z=>exact⟨r,z,rfl⟩
      have hv:v4=.own 0 (o+1) (z.length+1):=by
       rcases y with⟨h,_⟩|h
       ·cases h
       ·rw[h,←T];rfl
      subst hv;simp only[qa]at hf Tv ho VQ m T I U;have Ft:o+1<ws.length:=by omega
      have Fu:o+1<rows.length:=by omega
      rw[←T,zd Ft]at I;injection I with Ty Tz
      have zib:rows[o+1]=[str r]:=by rw[hat (o+1) Ft Fu,Ty]
      have ho2:o+1+1=ws.length-z.length:=by omega
      obtain⟨v5,hv5⟩:∃v5,(if z.length=0 then O.sl 1 []else .own 0 (o+1+1) z.length)=v5:=⟨_,rfl⟩;have H7:=sl1 Y rows (o+1) z.length H;rw[hv5]at H7;have TA:z=[]∧v5=.sl 1 []∨v5=.own 0 (ws.length-z.length) z.length:=by
       rw[←hv5,←ho2];by_cases h:z.length=0
       ·exact .inl ⟨qo.1 h,zf h⟩
       ·exact .inr (zj h)
      have hmu5:Ky v5<z.length+1+1:=by rcases TA with⟨_,h⟩|h<;>rw[h]<;>simp[Ky];omega
      rw[ho2]at Tz;have TB:(0:Int)<(z.length:Int)+1:=by omega
      have zl5:(0:Int)<(z.length:Int)+1+1:=by omega
      have n:=fun Y' R=>Ub r (hwl r (by rw[←Ty];exact zm Ft)) Y' R
      simp only[kn,Part.V]at n;cases d:(zY r).2
      ·have J:kQ w (r::z)=none:=by unfold kQ;rw[zj W,zf ⟨X,hR,by simp⟩];simp only[d];rfl
       have g:yR ws.length ws=none:=by rw[N];simp only[yR,J];rfl
       rw[g]at j;simp[VQ,H,A,q,B,u,m,H7,Fu,zib,E,F,G,K,L,TB,zl5,n,d,zR,qc,j,ZO,qL,f209]
      ·have J:kQ w (r::z)=some (Kx (wW wI w).1 (zY r).1,z):=by unfold kQ;rw[zj W,zf ⟨X,hR,by simp⟩];simp only[d,wi]
       have g:yR ws.length ws=(yR f' z).map ((l++[Kx (wW wI w).1 (zY r).1])++·):=by rw[N];simp only[yR,J];cases yR f' z<;>simp
       have i:=q6.yx (P:=prog) (t:=221) (c:=[str (wW wI w).1,int (zY r).1.n0,int (zY r).1.n1,int (zY r).1.n2,int (zY r).1.has,.sl 1 (qd (zY r).1.pre),int 0,int 0,int 0,int 0,.nil]) (Q.more (some ⟨227,5,false,[(zY r).1.V]⟩)) bl bm bn bo rfl (by omega) (by unfold maxLen;unfold zG at C;omega) (by unfold zG at C;omega);simp only[Part.V]at i;simp[VQ,H,A,q,B,u,m,H7,Fu,zib,E,F,G,K,L,TB,zl5,n,d,i,zR,qc,zv,zN,zy];exact⟨ZP (v4:=v5) (c:=Kx (wW wI w).1 (zY r).1) (f':=f') (l':=z) (l:=l) (xs:=xs) (by omega) (by omega) Tz (by simp) TA (by simpa using q6.after) (by simp<;>omega) rfl D (by simp) (by simp[M,n0,n1,n2,H]) g,by simpa[Ky]using hmu5⟩
    ·have K:((wW wI w).2==[])=false:=by simpa using hR
     have L:(wW wI w).2.isEmpty=false:=by simpa using hR
     have n:=fun Y' R=>Ub (wW wI w).2 S Y' R
     simp only[kn,Part.V]at n;cases d:(zY (wW wI w).2).2
     ·have J:kQ w l'=none:=by unfold kQ;rw[zj W,zj (fun h=>hR h.2.1),zj (by rw[d];simp)]
      have g:yR ws.length ws=none:=by rw[N];simp only[yR,J];rfl
      rw[g]at j;simp[VQ,H,A,q,B,u,m,E,F,G,K,L,n,d,zR,qc,j,ZO,qL,f209]
     ·have J:kQ w l'=some (Kx (wW wI w).1 (zY (wW wI w).2).1,l'):=by unfold kQ;rw[zj W,zj (fun h=>hR h.2.1),zf d]
      have g:yR ws.length ws=(yR f' l').map ((l++[Kx (wW wI w).1 (zY (wW wI w).2).1])++·):=by rw[N];simp only[yR,J];cases yR f' l'<;>simp
      have i:=q6.yx (P:=prog) (t:=221) (c:=[str (wW wI w).1,int (zY (wW wI w).2).1.n0,int (zY (wW wI w).2).1.n1,int (zY (wW wI w).2).1.n2,int (zY (wW wI w).2).1.has,.sl 1 (qd (zY (wW wI w).2).1.pre),int 0,int 0,int 0,int 0,.nil]) (Q.more (some ⟨227,5,false,[(zY (wW wI w).2).1.V]⟩)) bl bm bn bo rfl (by omega) (by unfold maxLen;unfold zG at C;omega) (by unfold zG at C;omega);simp only[Part.V]at i;simp[VQ,H,A,q,B,u,m,E,F,G,K,L,n,d,i,zR,qc,zv,zN,zy];exact⟨ZP (v4:=v4) (c:=Kx (wW wI w).1 (zY (wW wI w).2).1) (f':=f') (l':=l') (l:=l) (xs:=xs) (by omega) (by omega) I (by simp) y (by simpa using q6.after) (by simp<;>omega) rfl D (by simp) (by simp[M,n0,n1,n2,H]) g,by simpa[Ky]using U⟩
theorem dy:zg prog 209 (zi false [] (aO Am)):=
 jD (fn:=f209) U0 ⟨_,func209,by kernel_rfl,rfl,by kernel_rfl⟩ false [] _ fun args r h w S vs a=>by obtain⟨l,rfl,Y,rfl⟩:=zr h;obtain⟨b,c,d⟩:=fC l Y;exact⟨_,b,a,by simp[f209],c,d⟩
noncomputable def vX (s:wR) (c:Cut):Bool:=decide (wX s.lo c≤0)&&(s.vL||decide (wX c s.hi<0))
def wR.small(s:wR):Prop:=s.lo.v.small∧s.hi.v.small
theorem Kz(x y:Cut)(Y:Hp)(Z:Nat)(a:x.v.small)(b:y.v.small):qh [.g ka,.g ka] (CU fun v w=>int (wX v w)) [.agg x.V,.agg y.V] Y Z=some (int (wX x y),Y,Z):=Ag x y (.agg x.V) (.agg y.V) Y Z (Al x) (Al y) (by simp only[zA,PD]) a b
noncomputable abbrev Iy:Ctx:=qb prog [(239,qh [.g ka,.g ka] (CU fun v w=>int (wX v w)))]
theorem PI:AM.Good Iy (fun g=>[239].contains g):=zI mixed ⟨QE,fun _=>jx _ _,trivial⟩
theorem Gz:zg prog 270 (wP Iy f270):=wZ (code:=_) PI ⟨func270,by kernel_rfl,rfl,by kernel_rfl⟩
theorem PJ(s:wR)(c:Cut)(hs:s.small)(a:c.v.small)(Y:Hp)(Z id:Nat)(hid:id<Z)(b:Y id=some ⟨237,5,false,[c.V]⟩) :
  wP Iy f270 [.agg s.V,.ref id 0 0] Y Z=some (wq (vX s c),qZ Y Z (some ⟨239,11,false,[s.V]⟩),Z+1):=by
 unfold wP;rw[zf (by simp[f270])];refine kU rfl ?_;have d:=fun Y Z=>Kz s.lo c Y Z hs.1 a
 have e:=fun Y Z=>Kz c s.hi Y Z a hs.2
 have f:¬id=Z:=by omega
 simp only[Cut.V]at d e b;by_cases g:wX s.lo c≤0<;>cases h:s.vL <;>
  simp[wR.V,Cut.V,d,e,b,f,g,h,vX,f270]
noncomputable def fD (c:Cut):Nat→List wR→Int
 |_,[]=>-1
 |k,s::l=>if vX s c=true then k else fD c (k+1) l
theorem C2(c:Cut):∀(l:List wR) (k:Nat),decide (0≤fD c k l)=l.any (vX · c)
 |[],k=>by simp[fD]
 |s::l,k=>by
  by_cases h:vX s c=true
  ·have e:fD c k (s::l)=k:=by simp only[fD,zf h]
   rw[e,yy,h];simp
  ·have e:fD c k (s::l)=fD c (k+1) l:=by simp only[fD,zj h]
   rw[e,C2 c l (k+1),yy,eP.2 h];rfl
noncomputable abbrev U1:Ctx:=qb prog [(270,wP Iy f270)]
theorem U2:AM.Good U1 (fun g=>([]:List Nat).contains g):=zI mixed ⟨Gz,by simp,trivial⟩
theorem Mk:zg prog 303 (wP U1 f303):=wZ (code:=_) U2 ⟨func303,by kernel_rfl,rfl,by kernel_rfl⟩
def T5(id:Nat):O:=.fn (.func 270) [] [.ref id 0 0]
def sP(r:O)(Y:Hp)(Z:Nat)(x:O)(Y':Hp)(a:Nat):Prop:=x=r∧Z≤a∧∀j,j<Z→Y' j=Y j
theorem U3(l:List wR)(c:Cut)(y:l.length≤zG)(hs:∀s∈l,s.small)(z:c.v.small)(Y0:Hp)(Z0 id:Nat)(hid:id<Z0)(A:Y0 id=some ⟨237,5,false,[c.V]⟩) :
  ∃x Y' u,wP U1 f303 [.sl 11 (qz l),T5 id] Y0 Z0=some (x,Y',u)∧sP (int (fD c 0 l)) Y0 Z0 x Y' u:=by
 unfold wP;rw[zf (by simp[f303])];refine zT rfl ?_;unfold zG at y;have f:(qz l).length=l.length:=by simp[qz]
 simp[T5,f];refine zQ (fun k i Y Z=>i 0=.sl 11 (qz l)∧i 1=T5 id∧i 7=int l.length∧i 8=int k∧Z0≤Z∧(∀j,j<Z0→Y j=Y0 j)∧fD c 0 l=fD c k (l.drop k)) l.length ⟨by simp,by simp[T5],by simp,by simp,ze _,fun _ _=>rfl,by simp⟩ ?_;rintro k i Y Z B ⟨n,o,p,q,r,d,e⟩;by_cases b:k<l.length
 ·have w:i6.wrap ((k:Int)+1)=(k:Int)+1:=zn (by omega) (by omega);have a:=PJ l[k] c (hs _ (zm b)) z Y Z id (by omega) (by rw[d id hid];exact A);have g:∀h:k<(qz l).length,(qz l)[k]=l[k].V:=fun h=>by simp[qz]
  simp only[wR.V,Cut.V,q9,wN]at a g;rw[zd b]at e;simp only[fD]at e;cases m:vX l[k] c
  ·rw[m,zj (by simp)]at e;rw[m]at a;simp[n,o,p,q,T5,b,f,g,a,w];exact⟨b,by omega,fun j t=>by rw[zw _ _ _ _ (by omega)];exact d j t,e⟩
  ·rw[m,zf rfl]at e;rw[m]at a;simp[n,o,p,q,T5,b,f,g,a,w,f303];exact⟨by rw[e],by omega,fun j t=>by rw[zw _ _ _ _ (by omega)];exact d j t⟩
 ·obtain rfl:k=l.length:=by omega
  rw[zl]at e;simp only[fD]at e;simp[n,o,p,q,f303];exact⟨by rw[e],r,d⟩
noncomputable abbrev U4:Ctx:=qb prog [(303,wP U1 f303)]
theorem U5:AM.Good U4 (fun g=>([]:List Nat).contains g):=zI mixed ⟨Mk,by simp,trivial⟩
theorem Ml:zg prog 269 (wP U4 f269):=wZ (code:=_) U5 ⟨func269,by kernel_rfl,rfl,by kernel_rfl⟩
noncomputable def yP (l:List wR) (c:Cut):Bool:=l.any (vX · c)
theorem U6(l:List wR)(c:Cut)(d:l.length≤zG)(hs:∀s∈l,s.small)(e:c.v.small)(Y0:Hp)(Z0 id:Nat)(hid:id<Z0)(f:Y0 id=some ⟨237,5,false,[c.V]⟩) :
  ∃x Y' a,wP U4 f269 [.sl 11 (qz l),T5 id] Y0 Z0=some (x,Y',a)∧sP (wq (yP l c)) Y0 Z0 x Y' a:=by
 unfold wP;rw[zf (by simp[f269])];refine zT rfl ?_;obtain⟨x,Y',a,b,g,h,i⟩:=U3 l c d hs e Y0 Z0 id hid f;subst g;have j:=C2 c l 0;simp only[T5]at b;simp[T5,b,j,sP,yP,h,f269];exact i
noncomputable abbrev Ccov:Ctx:=qb prog [(269,wP U4 f269)]
theorem U7:AM.Good Ccov (fun g=>([]:List Nat).contains g):=zI mixed ⟨Ml,by simp,trivial⟩
def kg(l:List wR):Prop:=l.length≤zG∧∀s∈l,s.small
theorem nu{a b:wR}(h:a.V=b.V):a=b:=by obtain⟨⟨⟨s,t,u,v⟩,w⟩,⟨⟨x,y,z,A⟩,g⟩,i⟩:=a;obtain⟨⟨⟨B,C,D,E⟩,F⟩,⟨⟨G,H,I,J⟩,j⟩,k⟩:=b;simp only[wR.V,Cut.V,q9,wN,zh,zK]at h;obtain⟨l,m,n,c,o,p,q,r,d,e,f⟩:=h;injection c with _ c;injection d with _ d;rw[qn l,qn m,qn n,vf c,Q7 o,qn p,qn q,qn r,vf d,Q7 e,Q7 f]
theorem Z6{a b:List wR}(h:qz a=qz b):a=b:=y7 (fun _ _ e=>nu e) h
noncomputable def FRC (f:List wR→Cut→O):zc→Option O:=qv (α:=List wR×Cut) (fun a=>[.sl 11 (qz a.1),.agg a.2.V]) (fun a=>kg a.1∧a.2.v.small) (fun a=>f a.1 a.2)
theorem zd3:∀a b:List wR×Cut,[O.sl 11 (qz a.1),.agg a.2.V]=[O.sl 11 (qz b.1),.agg b.2.V]→a=b:=by rintro⟨f,g⟩ ⟨h,i⟩ e;simp only[zh,zK]at e;obtain⟨c,d⟩:=e;injection c with _ c;injection d with d;rw[Z6 c,Wd d]
theorem C3(l:List wR)(c:Cut)(a:kg l)(d:c.v.small):zz Ccov f240 [.sl 11 (qz l),.agg c.V]=some (wq (yP l c)):=by refine zo rfl ?_;obtain⟨x,Y',f,b,e,g,h⟩:=U6 l c a.1 a.2 d (qZ (fun _=>none) 0 (some ⟨237,5,false,[c.V]⟩)) 1 0 (by omega) (by simp);subst e;simp only[T5,Cut.V]at b;simp[Cut.V,b,wH,f240]
theorem Ao:zg prog 240 (qh [.s 11 jM,.g ka] (FRC fun l c=>wq (yP l c))):=
 wo (fn:=f240) U7 ⟨_,func240,by kernel_rfl,rfl,by kernel_rfl⟩ _ _ fun args r h=>by obtain⟨⟨l,c⟩,rfl,⟨a,b⟩,rfl⟩:=zr h;exact⟨by simp[f240],_,C3 l c a b,qM.refl _⟩
end Go.Q
