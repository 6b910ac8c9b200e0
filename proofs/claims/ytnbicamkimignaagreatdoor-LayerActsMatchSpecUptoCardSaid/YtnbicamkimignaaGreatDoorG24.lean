/- Lemmas. -/
import Derived.Test.YtnbicamkimignaaGreatDoorG23
set_option maxRecDepth 100000
set_option maxHeartbeats 4000000
open Go Proofs Proofs.YtnbicamkimignaaGreatDoor Proofs.Tryz RowKit AM SpanLaw Q Zz
open Go.IntKind renaming i64→i6
namespace Go.Q
noncomputable abbrev Cgr:Ctx:=Wo prog [(42,zi false [] (nT ZH)),(16,zi false [] (F3 jg)),(18,zi false [] (MP fun b s t n=>.sl 2 ((jY b s t n).map zM))),(43,zi false [] (lT (fun a b=>.sl 2 ((vY a b).map zM)) fun a b=>j7 a∧j7 b)),(19,zi false [] (FP (fun l=>int (wM l)) fun l=>j7 l)),(21,zi false [] (Mu (fun l n=>.sl 2 ((wS l n).map zM)) fun l n=>j7 l∧0≤n∧n≤100000)),(46,zi true [] My),(45,zi false [] (FP (fun l=>.sl 2 ((WH (kv l)).map zM)) fun l=>Small l∧l.length≤2097152)),(44,zi false [] lh)] (fun|9=>[4]|_=>[]) [46]
abbrev qgr:List Nat:=[42,16,18,43,19,21,45,44]
theorem zel:AM.Good Cgr (fun g=>qgr.contains g):=XR mixed ⟨Y7,fun _=>zt _ _,kV,fun _=>zt _ _,rk,fun _=>zt _ _,dQ,fun _=>zt _ _,ck,fun _=>zt _ _,XF,fun _=>zt _ _,Aw,by simp,nL,fun _=>zt _ _,bJ,fun _=>zt _ _,trivial⟩ ⟨fun _=>xO _ _ _,fun _=>xO _ _ _,fun _=>xO _ _ _,fun _=>xO _ _ _,fun _=>xO _ _ _,fun _=>xO _ _ _,fun _=>xO _ _ _,fun _=>xO _ _ _,fun _=>xO _ _ _,trivial⟩
theorem MZ(b:Bk)(s:za)(n at_:Int)(hb:b.cb+100001≤zG):∃r0,zz Cgr Tryz.f7 [.agg b.V,str s,int n,int at_]=some r0∧qM r0 (yX (kF b s n at_)):=by
 refine yv rfl ?_;have K:b.cb≤zG:=by omega
 have c:=fun Y Z=>Wk ZH b s at_ Y Z K
 have k:=fun Y Z=>Ip jg n 1 100000 Y Z
 simp only[Bk.V]at c;by_cases u:jB b s at_=0
 case neg=>
  have v:kF b s n at_=(wJ,jB b s at_):=by unfold kF;rw[zj u]
  have L:YC b s at_=(0,[],jB b s at_):=by unfold YC;rw[zj u]
  have H9:(jB b s at_ != 0)=true:=by simpa using u
  rw[v];simp only[ZH,L,QL]at c;simp[Bk.V,zR,qc,c,H9,Tryz.f7];exact⟨_,by simp,qy _⟩
 obtain⟨k1,k2,k3⟩:=YA u;obtain⟨q,E⟩:∃q,(vd (b.zE.map Xp.name) s).1=q:=⟨_,rfl⟩;have w:q<b.zE.length:=by have:=J2 k2;rw[E]at this;simpa using this
 obtain⟨x,hx⟩:∃x,b.zE[q]=x:=⟨_,rfl⟩;have g:b.zE[q]?=some x:=by rw[zu w,hx]
 have F:x∈b.zE:=zO g;obtain⟨hyr,G,_⟩:=Wl k1;obtain⟨A,m⟩:∃A,jq [] at_ x.zs=A:=⟨_,rfl⟩;have d:j7 A:=by
  rcases lO at_ x.zs []with e|⟨p,Y,e⟩
  ·rw[m]at e;rw[e];exact dZ
  ·rw[m]at e;rw[e];exact fR (jO (G x F).1 p Y)
 have hAF:w7 A=0:=by
  rcases lO at_ x.zs []with e|⟨p,Y,e⟩
  ·rw[m]at e;rw[e];rfl
  ·rw[m]at e;rw[e];exact jO (G x F).1 p Y
 by_cases H:(xD at_ x.zs||A.isEmpty)=true
 ·have v:kF b s n at_=(wJ,11):=by unfold kF;rw[zf u,E,g];simp only;rw[m,zf H]
  have L:YC b s at_=(0,[],11):=by unfold YC;rw[zf u,E,g];simp only;rw[m,zf H]
  rw[v];simp only[ZH,L,QL]at c;simp[Bk.V,zR,qc,c,Tryz.f7];exact⟨_,by simp,qy _⟩
 have L:YC b s at_=(q,A,0):=by unfold YC;rw[zf u,E,g];simp only;rw[m,zj H]
 simp only[ZH,L,QL]at c;cases J:jg n 1 100000
 ·have v:kF b s n at_=(wJ,1):=by unfold kF;rw[zf u,E,g];simp only;rw[m,zj H,J,zj (by simp)]
  rw[v];simp only[J]at k;simp[Bk.V,zR,qc,c,k,Tryz.f7];exact⟨_,by simp,qy _⟩
 have hn:=(ZA n 1 100000).1 J;simp only[J]at k;have y:=fun Y Z=>MQ (fun b s t n=>.sl 2 ((jY b s t n).map zM)) b x.qi s at_ Y Z ⟨K,k1,(G x F).2⟩
 obtain⟨Fr,z⟩:∃Fr,jY b x.qi s at_=Fr:=⟨_,rfl⟩;have D:j7 Fr:=by rw[←z];exact XL k1 _ _ _
 have C:=fun Y Z=>WI (fun a b=>.sl 2 ((vY a b).map zM)) (fun a b=>j7 a∧j7 b) Fr A Y Z ⟨D,d⟩
 obtain⟨M,hM⟩:∃M,vY Fr A=M:=⟨_,rfl⟩;have o:j7 M:=by rw[←hM];exact(nW D d).1
 have I:=fun Y Z=>Yw (fun l=>int (wM l)) (fun l=>j7 l) M Y Z o
 simp only[Bk.V,z]at y;simp only[hM]at C;by_cases N:wM M<n
 ·have v:kF b s n at_=(wJ,9):=by unfold kF;rw[zf u,E,g];simp only;rw[m,zj H,zf J,z,hM,zf N]
  rw[v];simp[Bk.V,zR,qc,c,k,w,hx,zZ,y,C,I,N,Tryz.f7];exact⟨_,by simp,qy _⟩
 obtain⟨f,hf⟩:∃f,wS M n=f:=⟨_,rfl⟩;have v:kF b s n at_=yD (b.put q at_ (Wh A f)):=by unfold kF;rw[zf u,E,g];simp only;rw[m,zj H,zf J,z,hM,zj N,hf]
 obtain⟨P,o2,o3⟩:=KK o (n:=n) (by omega) (by omega);rw[hf]at P o2 o3;have Q:=fun Y Z=>ZR (fun l n=>.sl 2 ((wS l n).map zM)) (fun l n=>j7 l∧0≤n∧n≤100000) M n Y Z ⟨o,by omega,by omega⟩
 simp only[hf]at Q;have hbs:∀Y Z,zv prog Y Z 124 2 [(0,.sl 2 (A.map zM)),(1,.sl 2 (f.map zM))]=some (.own Z 0 2,qZ Y Z (some ⟨48,1,true,[[.sl 2 (A.map zM)],[.sl 2 (f.map zM)]]⟩),Z+1):=fun Y Z=>by simp[zv,zN,zy]
 have R:=fun Y Z=>DH d.2.2.2 P.2.2.2 (Y:=qZ Y Z (some ⟨48,1,true,[[.sl 2 (A.map zM)],[.sl 2 (f.map zM)]]⟩)) (Z:=Z+1) (id:=Z) (e:=48) (by simp)
 have Tt:Small (A++f):=by
  have S:∀{l:List Sp},j7 l→∀s∈l,0≤s.1∧s.1≤100000:=fun{l} h s hs=>by have h1:=h.2.2.1 s hs;have h2:=h.2.1 s hs;have h3:=kB h.1 s hs;omega
  intro s hs;rcases qP.1 hs with h|h
  ·exact S d s h
  ·exact S P s h
 have T:=fun Y Z=>Yw (fun l=>.sl 2 ((WH (kv l)).map zM)) (fun l=>Small l∧l.length≤2097152) (A++f) Y Z ⟨Tt,by have:=d.2.2.2;have:=P.2.2.2;simp only[ye];omega⟩
 have hun:WH (kv (A++f))=Wh A f:=rfl;have U:=Ei d P;have hne:x.zs≠[]:=by intro e;rw[e]at m;simp only[jq]at m;subst m;simp at H
 have W:=fun Y Z=>tB b q at_ (Wh A f) Y Z ⟨by have:=U.2.2.2;omega,x,g,hne⟩
 simp only[yz,hun]at R T;obtain⟨⟨B,fl⟩,hR⟩:∃r,yD (b.put q at_ (Wh A f))=r:=⟨_,rfl⟩;have X:yX (B,fl)=.yb [.agg [.sl 3 (B.zk.map wh.V),.sl 4 (B.holds.map yI.V),.sl 13 (B.zE.map Xp.V)],int fl]:=rfl;simp only[hR,X,Bk.V]at W;rw[v,hR,X];simp[Bk.V,zR,qc,c,k,w,hx,zZ,y,C,I,N];rw[kh (ki (id:=0) (i:=0) (j:=0) (by simp) (by simp) (by simp;rfl) rfl (kH _))];simp[Bk.V,c,k,w,hx,zZ,y,C,I,N,Q,hbs,R,T,W,Tryz.f7];exact⟨_,by simp,.refl _⟩
noncomputable def RH:zc→Option O:=qv (α:=Bk×za×Int×Int) (fun a=>[.agg a.1.V,str a.2.1,int a.2.2.1,int a.2.2.2]) (fun a=>a.1.cb+100001≤zG) (fun a=>yX (kF a.1 a.2.1 a.2.2.1 a.2.2.2))
theorem M0(b:Bk)(s:za)(n m:Int)(Y:Hp)(Z:Nat)(h:b.cb+100001≤zG):zi false [] RH [.agg b.V,str s,int n,int m] Y Z=some (yX (kF b s n m),Y,Z):=
 qe (Y1:=Y) (show zA Y [.agg b.V,str s,int n,int m]=some ([.agg b.V,str s,int n,int m],Y) by simp only[zA,jW];rfl) (zJ (V:=fun a:Bk×za×Int×Int=>[.agg a.1.V,str a.2.1,int a.2.2.1,int a.2.2.2]) (a:=(b,s,n,m)) (fun x y e=>by obtain⟨c,d,f,g⟩:=x;obtain⟨i,j,k,l⟩:=y;simp only[zh,zK,O.agg.injEq]at e;rw[vk e.1,wx e.2.1,qn e.2.2.1,qn e.2.2.2]) h) (.inr (by simp only[qN,xh];rfl))
theorem Ht:zg prog 7 (zi false [] RH):=
 jD (fn:=Tryz.f7) zel ⟨_,func7,by kernel_rfl,rfl,by kernel_rfl⟩ false [] _ fun args r h w S vs a=>by obtain⟨⟨b,s,n,m⟩,rfl,c,rfl⟩:=zr h;obtain⟨d,e,f⟩:=MZ b s n m c;exact⟨_,d,a,by simp[Tryz.f7],e,f⟩
theorem J6:zg prog 30 (zi false [] (fK vT)):=
 qq (fn:=f30) w8 ⟨_,func30,by kernel_rfl,rfl,by kernel_rfl⟩ false [] _ fun args r h=>by obtain⟨a,rfl,rfl⟩:=JB h;exact⟨by simp[f30],_,zo rfl (by simp[vT,jg,f30]),qm _⟩
theorem RI(s:za):(wG 33 126 s&&(!(s==[])&&decide ((s.length:Int)≤40)))=zlR s:=by
 cases s with
 |nil=>rfl
 |cons c s=>rw[qA];simp[zlR,Xo,jg];exact⟨fun h=>⟨⟨by omega,h.2⟩,h.1,by omega,by omega⟩,fun h=>⟨h.2.1,h.1.2⟩⟩
theorem AN(l:za)(i:l.length≤zG):zz C0 f138 [str l]=some (wq (zlR l)):=by
 refine zo rfl ?_;unfold zG at i;rw[←RI];simp;refine zQ (fun k c Y Z=>c 0=str l∧c 5=int l.length∧c 6=int k∧wG 33 126 l=wG 33 126 (l.drop k)) l.length ⟨by simp,by simp,by simp,by simp⟩ ?_;rintro k c Y Z m ⟨e,f,g,b⟩;by_cases a:k<l.length
 ·have j:i6.wrap ((k:Int)+1)=(k:Int)+1:=zn (by omega) (by omega);rw[Zw a]at b;have h:=Xn 33 126 l[k];simp only[ZX]at h;cases d:pr 33 126 l[k]
  ·have b:wG 33 126 l=false:=by rw[b,d];rfl
   simp[e,f,g,a,b,h,d,f138]
  ·simp[e,f,g,a,h,d,j];exact⟨a,by rw[b,d];rfl⟩
 ·obtain rfl:k=l.length:=by omega
  have b:wG 33 126 l=true:=by rw[b,zl];rfl
  simp[e,f,g,b,f138]
theorem J7:zg prog 138 (zi false [] (FS zlR)):=
 qq (fn:=f138) w8 ⟨_,func138,by kernel_rfl,rfl,by kernel_rfl⟩ false [] _ fun args r h=>by obtain⟨l,rfl,Y,rfl⟩:=zr h;exact⟨by simp[f138],_,AN l Y,qm _⟩
def ZI(name a:za)(first:Bool):Int:=if yn name=true then(if(!first&&fg name a)=true then 8 else 0)else 5
noncomputable def FNb (f:za→za→Bool→O):zc→Option O:=qv (α:=za×za×Bool) (fun a=>[str a.1,str a.2.1,wq a.2.2]) (fun a=>a.1.length≤zG) (fun a=>f a.1 a.2.1 a.2.2)
theorem oh(f:za→za→Bool→O)(a b:za)(c:Bool)(Y:Hp)(Z:Nat)(h:a.length≤zG)(d:(f a b c).flat=true):zi false [] (FNb f) [str a,str b,wq c] Y Z=some (f a b c,Y,Z):=
 qe rfl (zJ (V:=fun a:List UInt8×za×Bool=>[str a.1,str a.2.1,wq a.2.2]) (a:=(a,b,c)) (fun x y e=>by obtain⟨g,i,j⟩:=x;obtain⟨k,l,m⟩:=y;simp only[zh,zK]at e;rw[wx e.1,wx e.2.1,Q7 e.2.2]) h) (.inl d)
noncomputable abbrev Cnd4:Ctx:=qb prog [(140,zi false [] (FS yn))]
theorem XT:zg prog 137 (zi false [] (FNb fun a b c=>int (ZI a b c))):=
 qq (fn:=f137) (zI (q:=[]) mixed ⟨JV,by simp,trivial⟩:AM.Good Cnd4 _) ⟨_,func137,by kernel_rfl,rfl,by kernel_rfl⟩ false [] _ fun args r h=>by
  obtain⟨⟨a,b,c⟩,rfl,d,rfl⟩:=zr h;have e:(Op.bytesLess a b||a==b)=fg a b:=rfl;refine⟨by simp[f137],_,zo rfl ?_,qm _⟩;simp only at d;cases f:yn a
  ·simp[d,f,ZI,f137]
  ·cases c
   ·cases g:fg a b
    ·simp[d,f,e,g,ZI,f137]
    ·simp[d,f,e,g,ZI,f137]
   ·simp[d,f,ZI,f137]
def jS(s:za):List wh→Option wh
 |[]=>none
 |x::l=>if x.name=s then some x else jS s l
def QM:Option wh→O
 |some x=>.yb [.agg x.V,wq true]
 |none=>.yb [.agg [str [],str [],int 0],wq false]
noncomputable def M1 (out:Bk→za→O):zc→Option O:=qv (α:=Bk×za) (fun a=>[.agg a.1.V,str a.2]) (fun a=>a.1.cb≤zG) (fun a=>out a.1 a.2)
theorem XU(out:Bk→za→O)(b:Bk)(s:za)(Y:Hp)(Z:Nat)(h:b.cb≤zG):zi false [] (M1 out) [.agg b.V,str s] Y Z=some (out b s,Y,Z):=
 qe (Y1:=Y) (show zA Y [.agg b.V,str s]=some ([.agg b.V,str s],Y) by simp only[zA,jW];rfl) (zJ (V:=fun a:Bk×za=>[.agg a.1.V,str a.2]) (a:=(b,s)) (fun x y e=>by obtain⟨c,d⟩:=x;obtain⟨f,g⟩:=y;simp only[zh,zK,O.agg.injEq]at e;rw[vk e.1,wx e.2]) h) (.inr (by simp only[qN,xh];rfl))
theorem bK(b:Bk)(s:za)(h:b.cb≤zG):zz C0 f28 [.agg b.V,str s]=some (QM (jS s b.zk)):=by
 refine zo rfl ?_;have q:=qJ xa b.zk;have r:b.cb=wg wh.cb b.zk+wg yI.cb b.holds+wg Xp.cb b.zE:=rfl;unfold zG at h;simp[Bk.V];refine zQ (fun k g Y Z=>g 1=str s∧g 4=.ref 1 0 0∧2≤Z∧Y 1=some ⟨61,3,false,[[str [],str [],int 0]]⟩∧g 9=.sl 3 (b.zk.map wh.V)∧g 10=int b.zk.length∧g 11=int k∧jS s b.zk=jS s (b.zk.drop k)) b.zk.length
  ⟨by simp,by simp,by simp,by simp,by simp,by simp,by simp,by simp⟩ ?_
 rintro k g Y Z v ⟨l,m,t,n,o,c,d,a⟩;have n1:¬1=Z:=by omega
 have i:¬Z=1:=by omega
 by_cases e:k<b.zk.length
 ·obtain⟨x,p⟩:∃x,b.zk[k]=x:=⟨_,rfl⟩;have u:i6.wrap ((k:Int)+1)=(k:Int)+1:=zn (by omega) (by omega);rw[zd e,p]at a;simp only[jS]at a;by_cases j:x.name=s
  ·rw[zf j]at a;have f:(x.name==s)=true:=by simpa using j
   rw[a];simp[l,m,o,c,d,e,p,wh.V,n,n1,i,f,QM,wH,f28]
  ·rw[zj j]at a;have f:(x.name==s)=false:=by simpa using j
   simp[l,m,o,c,d,e,p,wh.V,n,n1,i,f,u];exact⟨by omega,by omega,a⟩
 ·obtain rfl:k=b.zk.length:=by omega
  rw[zl]at a;simp only[jS]at a;rw[a];simp[l,m,o,c,d,n,QM,wH,zR,qc,f28]
theorem QN:zg prog 28 (zi false [] (M1 fun b s=>QM (jS s b.zk))):=
 qq (fn:=f28) w8 ⟨_,func28,by kernel_rfl,rfl,by kernel_rfl⟩ false [] _ fun args r h=>by obtain⟨⟨b,s⟩,rfl,a,rfl⟩:=zr h;exact⟨by simp[f28],_,bK b s a,qm _⟩
def tD(s:za):Nat→List Xp→Int
 |_,[]=>-1
 |k,x::l=>if x.name=s then k else tD s (k+1) l
theorem Ek(b:Bk)(s:za)(h:b.cb≤zG):zz C0 f29 [.agg b.V,str s]=some (int (tD s 0 b.zE)):=by
 refine zo rfl ?_;have n:=qJ ZG b.zE;have o:b.cb=wg wh.cb b.zk+wg yI.cb b.holds+wg Xp.cb b.zE:=rfl;unfold zG at h;simp[Bk.V];refine zQ (fun k f Y Z=>f 1=str s∧f 8=.sl 13 (b.zE.map Xp.V)∧f 9=int b.zE.length∧f 10=int k∧tD s 0 b.zE=tD s k (b.zE.drop k)) b.zE.length
  ⟨by simp,by simp,by simp,by simp,by simp⟩ ?_
 rintro k f Y Z q ⟨i,j,l,c,a⟩;by_cases d:k<b.zE.length
 ·obtain⟨x,m⟩:∃x,b.zE[k]=x:=⟨_,rfl⟩;have p:i6.wrap ((k:Int)+1)=(k:Int)+1:=zn (by omega) (by omega);rw[zd d,m]at a;simp only[tD]at a;by_cases g:x.name=s
  ·rw[zf g]at a;have e:(x.name==s)=true:=by simpa using g
   simp[i,j,l,c,d,m,zZ,e,a,f29]
  ·rw[zj g]at a;have e:(x.name==s)=false:=by simpa using g
   simp[i,j,l,c,d,m,zZ,e,p];exact⟨by omega,a⟩
 ·obtain rfl:k=b.zE.length:=by omega
  rw[zl]at a;simp only[tD]at a;simp[i,j,l,c,a,f29]
theorem M3:zg prog 29 (zi false [] (M1 fun b s=>int (tD s 0 b.zE))):=
 qq (fn:=f29) w8 ⟨_,func29,by kernel_rfl,rfl,by kernel_rfl⟩ false [] _ fun args r h=>by obtain⟨⟨b,s⟩,rfl,a,rfl⟩:=zr h;exact⟨by simp[f29],_,Ek b s a,qm _⟩
def aS(v:za):Nat→List za→Int
 |_,[]=>-1
 |k,s::l=>if v=s then k else aS v (k+1) l
theorem El(v:za):∀(l:List za) (k:Nat),decide (0≤aS v k l)=decide (v∈l)
 |[],k=>by simp[aS]
 |s::l,k=>by
  by_cases h:v=s
  ·have e:aS v k (s::l)=k:=by simp only[aS,zf h]
   rw[e];simp[h]
  ·have e:aS v k (s::l)=aS v (k+1) l:=by simp only[aS,zj h]
   rw[e,El v l (k+1)];simp[h]
noncomputable def FTS (out:List za→za→O):zc→Option O:=qv (α:=List za×za) (fun a=>[.sl 1 (qd a.1),str a.2]) (fun a=>a.1.length≤zG) (fun a=>out a.1 a.2)
theorem RJ:∀a b:List za×za,[O.sl 1 (qd a.1),str a.2]=[O.sl 1 (qd b.1),str b.2]→a=b:=by rintro⟨f,g⟩ ⟨h,i⟩ e;simp only[zh,zK]at e;obtain⟨c,d⟩:=e;injection c with _ c;rw[vf c,wx d]
theorem Em(out:List za→za→O)(l:List za)(v:za)(Y:Hp)(Z:Nat)(h:l.length≤zG):zi false [1] (FTS out) [.sl 1 (qd l),str v] Y Z=some (out l v,Y,Z):=
 qe rfl (zJ (V:=fun a:List za×za=>[O.sl 1 (qd a.1),str a.2]) (a:=(l,v)) RJ h) (.inr rfl)
theorem IZ(out:List za→za→O){l:List za}{v:za}{Y:Hp}{Z e:Nat}{x:O}(c:q6 Y Z e 1 x (qd l))(h:l.length≤zG)(b:(out l v).flat=true):zi false [1] (FTS out) [x,str v] Y Z=some (out l v,Y,Z):=by
 have hs:FTS out [.sl 1 (qd l),str v]=some (out l v):=zJ (V:=fun a:List za×za=>[O.sl 1 (qd a.1),str a.2]) (a:=(l,v)) RJ h;rcases c with⟨rfl,d⟩|⟨id,hid,rfl,f⟩
 ·have g:l=[]:=by simpa[qd]using d
  subst g;exact qe (Y1:=Y) rfl hs (.inl b)
 ·exact qe (Y1:=qZ Y id none) (show zA Y [.own id 0 (qd l).length,str v]=some ([.sl 1 (qd l),str v],qZ Y id none) by
   simp[f]
   try rw[qp (by simp)]) hs (.inl b)
theorem M4(l:List za)(v:za)(h:l.length≤zG):zz C0 f170 [.sl 1 (qd l),str v]=some (int (aS v 0 l)):=by
 refine zo rfl ?_;unfold zG at h;have b:(qd l).length=l.length:=by simp[qd]
 simp[b];refine zQ (fun k e Y Z=>e 0=.sl 1 (qd l)∧e 1=str v∧e 7=int l.length∧e 8=int k∧aS v 0 l=aS v k (l.drop k)) l.length ⟨by simp,by simp,by simp,by simp,by simp⟩ ?_;rintro k e Y Z q ⟨j,m,n,o,a⟩;by_cases c:k<l.length
 ·obtain⟨s,hs⟩:∃s,l[k]=s:=⟨_,rfl⟩;have p:i6.wrap ((k:Int)+1)=(k:Int)+1:=zn (by omega) (by omega);have f:∀h:k<(qd l).length,(qd l)[k]=[str s]:=fun h=>by simp[qd,hs]
  have g:k<(qd l).length:=by omega
  rw[zd c,hs]at a;simp only[aS]at a;by_cases i:v=s
  ·rw[zf i]at a;have d:(v==s)=true:=by simpa using i
   simp[j,m,n,o,c,b,g,f,d,a,f170]
  ·rw[zj i]at a;have d:(v==s)=false:=by simpa using i
   simp[j,m,n,o,c,b,g,f,d,p];exact⟨by omega,a⟩
 ·obtain rfl:k=l.length:=by omega
  rw[zl]at a;simp only[aS]at a;simp[j,m,n,o,a,f170]
theorem Hu:zg prog 170 (zi false [1] (FTS fun l v=>int (aS v 0 l))):=
 qq (fn:=f170) w8 ⟨_,func170,by kernel_rfl,rfl,by kernel_rfl⟩ false [1] _ fun args r h=>by obtain⟨⟨l,v⟩,rfl,a,rfl⟩:=zr h;exact⟨by simp[f170],_,M4 l v a,qm _⟩
noncomputable abbrev Cctt:Ctx:=qb prog [(170,zi false [1] (FTS fun l v=>int (aS v 0 l)))]
theorem W7:zg prog 139 (zi false [1] (FTS fun l v=>wq (decide (v∈l)))):=
 qq (fn:=f139) (zI (q:=[]) mixed ⟨Hu,by simp,trivial⟩:AM.Good Cctt _) ⟨_,func139,by kernel_rfl,rfl,by kernel_rfl⟩ false [1] _ fun args r h=>by
  obtain⟨⟨l,v⟩,rfl,a,rfl⟩:=zr h;have b:=fun Y Z=>Em (fun l v=>int (aS v 0 l)) l v Y Z a
  have c:=El v l 0;exact⟨by simp[f139],_,zo rfl (by simp[b,c,f139]),qm _⟩
def bL(a c:Sp):Bool:=decide (a.1<c.2)&&decide (c.1<a.2)
def j9(a b:List Sp):Bool:=a.any fun s=>b.any (bL s)
theorem En(a b:List Sp)(z:a.length≤zG)(A:b.length≤zG):zz C0 f146 [.sl 2 (a.map zM),.sl 2 (b.map zM)]=some (wq (j9 a b)):=by
 unfold zG at z A;refine zo rfl ?_;simp;refine zQ (fun i f Y Z=>f 1=.sl 2 (b.map zM)∧f 9=.sl 2 (a.map zM)∧f 10=int a.length∧f 11=int i∧j9 a b=j9 (a.drop i) b) a.length
  ⟨by simp,by simp,by simp,by simp,by simp⟩ ?_
 rintro i f Y Z B ⟨h,j,c,d,e⟩;by_cases o:i<a.length
 ·obtain⟨s,hs⟩:∃s,a[i]=s:=⟨_,rfl⟩;have C:i6.wrap ((i:Int)+1)=(i:Int)+1:=zn (by omega) (by omega);rw[zd o,hs]at e;have e:j9 a b=(b.any (bL s)||j9 (a.drop (i+1)) b):=by rw[e];simp[j9]
  simp[h,j,c,d,o,hs,zM];obtain⟨P,w⟩:∃P,Z=P:=⟨_,rfl⟩;rw[w];refine zQ (fun k f Y Z=>f 1=.sl 2 (b.map zM)∧f 9=.sl 2 (a.map zM)∧f 10=int a.length∧f 11=int i∧f 6=.ref P 0 0∧f 15=.sl 2 (b.map zM)∧f 16=int b.length∧f 17=int k∧P<Z∧Y P=some ⟨82,2,false,[[int s.1,int s.2]]⟩∧j9 a b=((b.drop k).any (bL s)||j9 (a.drop (i+1)) b)) b.length
   ⟨by simp[h],by simp[j],by simp[c],by simp[d],by simp,by simp,by simp,by simp,(by show P<P+1;omega),by simp,by simpa using e⟩ ?_
  clear h j c d e B w f Y Z;rintro k f Y Z E ⟨h,j,c,d,r,l,m,n,D,x,e⟩;by_cases g:k<b.length
  ·obtain⟨t,u⟩:∃t,b[k]=t:=⟨_,rfl⟩;have v:i6.wrap ((k:Int)+1)=(k:Int)+1:=zn (by omega) (by omega);have y:¬P=Z:=by omega
   rw[zd g,u,yy]at e;have p:(decide (s.1<t.2)&&decide (t.1<s.2))=bL s t:=rfl;cases q:bL s t
   ·rw[q,jo]at e;simp[h,r,j,c,d,l,m,n,g,u,zM,x,y,p,q,v];exact⟨by omega,by omega,e⟩
   ·rw[q,eM,eM]at e;simp[h,r,j,c,d,l,m,n,g,u,zM,x,y,p,q,e,f146]
  ·obtain rfl:k=b.length:=by omega
   rw[zl,List.any_nil,jo]at e;simp[h,r,j,c,d,l,m,n,C];exact⟨by omega,e⟩
 ·obtain rfl:i=a.length:=by omega
  rw[zl]at e;have e:j9 a b=false:=by rw[e];rfl
  simp[h,j,c,d,e,f146]
theorem AO:zg prog 146 (zi false [] (lT (fun a b=>wq (j9 a b)) fun a b=>a.length≤zG∧b.length≤zG)):=
 qq (fn:=f146) w8 ⟨_,func146,by kernel_rfl,rfl,by kernel_rfl⟩ false [] _ fun args r h=>by obtain⟨⟨a,b⟩,rfl,c,rfl⟩:=zr h;exact⟨by simp[f146],_,En a b c.1 c.2,qm _⟩
theorem cv:∀(l m:List Sp),kS l m=true→∃a∈l,∃c∈m,bL a c=true
 |[],m,h=>by rw[zlV]at h;cases h
 |x::l,[],h=>by rw[hU]at h;cases h
 |x::l,y::m,h=>by
  rw[kS]at h;split at h
  ·obtain⟨a,b,c,d,e⟩:=cv l (y::m) h;exact⟨a,by simp[b],c,d,e⟩
  ·split at h
   ·obtain⟨a,b,c,d,e⟩:=cv (x::l) m h;exact⟨a,b,c,by simp[d],e⟩
   ·exact⟨x,by simp,y,by simp,by simp[bL];omega⟩
termination_by l m=>l.length+m.length
theorem cw{a b:List Sp}(d:w7 a=0)(f:w7 b=0):j9 a b=kS a b:=by
 have c:j9 a b=true↔∃x∈a,∃y∈b,bL x y=true:=by simp[j9]
 cases h:kS a b
 ·rw[eP];intro i;obtain⟨x,j,y,k,e⟩:=c.1 i;have:=ct a b (xM d).1 (xM f).1 h x j y k;simp[bL]at e;rcases this with g|g<;>omega
 ·exact c.2 (cv a b h)
def J8(l:List wc)(i:Nat):Int:=match l[i+1]? with
 |some p=>p.at_
 |none=>8200000000
noncomputable def FXn (out:Xp→Nat→O):zc→Option O:=qv (α:=Xp×Nat) (fun a=>[.agg a.1.V,int a.2]) (fun a=>a.1.zs.length≤zG∧a.2≤zG) (fun a=>out a.1 a.2)
theorem Eo(out:Xp→Nat→O)(x:Xp)(n:Nat)(Y:Hp)(Z:Nat)(h:x.zs.length≤zG∧n≤zG):zi false [] (FXn out) [.agg x.V,int n] Y Z=some (out x n,Y,Z):=
 qe (Y1:=Y) (show zA Y [.agg x.V,int n]=some ([.agg x.V,int n],Y) by simp only[zA,Qh];rfl) (zJ (V:=fun a:Xp×Nat=>[.agg a.1.V,int a.2]) (a:=(x,n)) (fun x y e=>by obtain⟨d,b⟩:=x;obtain⟨f,c⟩:=y;simp only[zh,zK,O.agg.injEq]at e;have:=qn e.2;rw[xQ e.1,show b=c by omega]) h) (.inr (by simp only[qN,XI];rfl))
theorem oi:zg prog 113 (zi false [] (FXn fun x i=>int (J8 x.zs i))):=
 qq (fn:=f113) w8 ⟨_,func113,by kernel_rfl,rfl,by kernel_rfl⟩ false [] _ fun args r h=>by
  obtain⟨⟨x,i⟩,rfl,⟨d,e⟩,rfl⟩:=zr h;unfold zG at d e;simp only at d e;refine⟨by simp[f113],_,zo rfl ?_,qm _⟩;have f:i6.wrap ((i:Int)+1)=(i:Int)+1:=zn (by omega) (by omega);by_cases b:i+1<x.zs.length
  ·have a:(i:Int)+1<x.zs.length:=by omega
   have g:((i:Int)+1).toNat=i+1:=by omega
   have j:0≤(i:Int)+1:=by omega
   simp[zZ,f,b,a,g,j,J8,wc.V,f113]
  ·have a:¬(i:Int)+1<x.zs.length:=by omega
   have c:x.zs[i+1]?=none:=Jj (by omega);simp[zZ,f,a,J8,c,f113]
theorem XV(name a:za)(first:Bool):ZI name a first=kb name (if first=true then[]else a):=by
 unfold ZI kb;cases h:yn name
 ·simp
 ·cases first
  ·simp
  ·have b:=zaB h;have:fg name []=false:=by
    cases name with
    |nil=>exact absurd rfl b
    |cons c l=>simp[fg,Op.bytesLess]
   simp[this]
theorem tE:∀{L:List wh} {s:za},(∃y∈L,y.name=s)→∃j:Nat,∃h:j<L.length,jS s L=some L[j]∧L[j].name=s
 |[],s,h=>by obtain⟨y,hy,_⟩:=h;cases hy
 |x::L,s,h=>by
  by_cases a:x.name=s
  ·exact⟨0,by simp,by simp[jS,a],a⟩
  ·obtain⟨y,hy,e⟩:=h;rcases zL.1 hy with rfl|hy
   ·exact absurd e a
   ·obtain⟨j,b,c,d⟩:=tE ⟨y,hy,e⟩;exact⟨j+1,by simpa using b,by simp[jS,a,c],by simpa using d⟩
theorem ij:∀{L:List wh} {s:za},(∀y∈L,y.name≠s)→jS s L=none
 |[],s,_=>rfl
 |x::L,s,h=>by have a:=h x (by simp);simp only[jS,zj a];exact ij fun y b=>h y (by simp[b])
theorem ej{L:List wh}(h:DL (L.map wh.name))(s:za):((vd (L.map wh.name) s).2=true∧∃j,∃a:j<L.length,(vd (L.map wh.name) s).1=j∧jS s L=some L[j])∨((vd (L.map wh.name) s).2=false∧jS s L=none):=by
 by_cases b:∃y∈L,y.name=s
 ·obtain⟨j,a,d,f⟩:=tE b;have:=GU h (j:=j) (s:=s) (by simp[a,f]);rw[this];exact .inl ⟨rfl,j,a,rfl,d⟩
 ·refine .inr ⟨?_,ij fun y g e=>b ⟨y,g,e⟩⟩;cases i:(vd (L.map wh.name) s).2 with
  |false=>rfl
  |true=>
   have:=nN i;rw[wy]at this;cases c:L[(vd (L.map wh.name) s).1]? with
   |none=>rw[c]at this;cases this
   |some y=>rw[c]at this;simp only[zH,qw]at this;exact absurd ⟨y,zO c,this⟩ b
theorem RL:∀{l:List Xp} {s:za} {k:Nat},(∃y∈l,y.name=s)→∃j:Nat,∃h:j<l.length,tD s k l=((k+j:Nat):Int)∧l[j].name=s
 |[],s,k,h=>by obtain⟨y,hy,_⟩:=h;cases hy
 |x::l,s,k,h=>by
  by_cases a:x.name=s
  ·exact⟨0,by simp,by simp[tD,a],a⟩
  ·obtain⟨y,hy,e⟩:=h;rcases zL.1 hy with rfl|hy
   ·exact absurd e a
   ·obtain⟨j,b,c,d⟩:=RL (k:=k+1) ⟨y,hy,e⟩;exact⟨j+1,by simpa using b,by simp only[tD,zj a,c];congr 1;omega,by simpa using d⟩
theorem Ep:∀{l:List Xp} {s:za} {k:Nat},(∀y∈l,y.name≠s)→tD s k l=-1
 |[],s,k,_=>rfl
 |x::l,s,k,h=>by have a:=h x (by simp);simp only[tD,zj a];exact Ep fun y b=>h y (by simp[b])
theorem zcO{l:List Xp}(h:DL (l.map Xp.name))(s:za):((vd (l.map Xp.name) s).2=true∧tD s 0 l=((vd (l.map Xp.name) s).1:Int))∨((vd (l.map Xp.name) s).2=false∧tD s 0 l=-1):=by
 by_cases a:∃y∈l,y.name=s
 ·obtain⟨j,c,d,f⟩:=RL (k:=0) a;have:=GU h (j:=j) (s:=s) (by simp[c,f]);rw[this,d];exact .inl ⟨rfl,by simp⟩
 ·refine .inr ⟨?_,Ep fun y g e=>a ⟨y,g,e⟩⟩;cases i:(vd (l.map Xp.name) s).2 with
  |false=>rfl
  |true=>
   have:=nN i;rw[wy]at this;cases b:l[(vd (l.map Xp.name) s).1]? with
   |none=>rw[b]at this;cases this
   |some y=>rw[b]at this;simp only[zH,qw]at this;exact absurd ⟨y,zO b,this⟩ a
def ru(d:List wc)(i:Nat)(p:wc)(a:Int)(q:wc):Bool:=decide (p.at_≤q.at_)&&decide (q.at_<J8 d i+a)&&j9 p.qS q.qS
def Oh(d e:List wc)(a:Int):Nat→List wc→Bool
 |_,[]=>false
 |i,p::l=>e.any (ru d i p a)||Oh d e a (i+1) l
def Qb(a b:Xp)(c:Int):Bool:=Oh a.zs b.zs c 0 a.zs
theorem AP(d e:List wc)(a:Int):∀(l:List wc) (i:Nat),Oh d e a i l=true↔∃(m:Nat) (p:wc),l[m]?=some p∧∃q∈e,ru d (i+m) p a q=true
 |[],i=>by simp[Oh]
 |x::l,i=>by
  simp only[Oh,qH,AP d e a l (i+1),lz];constructor
  ·rintro (⟨q,b,h⟩|⟨m,p,c,q,b,h⟩)
   ·exact⟨0,x,rfl,q,b,h⟩
   ·exact⟨m+1,p,by simpa using c,q,b,by rw[show i+(m+1)=i+1+m by omega];exact h⟩
  ·rintro⟨m,p,c,q,b,h⟩;cases m with
   |zero=>simp at c;subst c;exact .inl ⟨q,b,h⟩
   |succ m=>exact .inr ⟨m,p,by simpa using c,q,b,by rw[show i+1+m=i+(m+1) by omega];exact h⟩
theorem VF(a b:List wc)(i:Nat)(p:wc)(c:Int):∀(l:List wc) (k:Nat),zjk a b i p c k l=true↔∃(m:Nat) (q:wc),l[m]?=some q∧DS a b i (k+m) p q c=true
 |[],k=>by simp[zjk]
 |x::l,k=>by
  simp only[zjk,qH,VF a b i p c l (k+1)];constructor
  ·rintro (h|⟨m,q,d,h⟩)
   ·exact⟨0,x,rfl,h⟩
   ·exact⟨m+1,q,by simpa using d,by rw[show k+(m+1)=k+1+m by omega];exact h⟩
  ·rintro⟨m,q,d,h⟩;cases m with
   |zero=>simp at d;subst d;exact .inl h
   |succ m=>exact .inr ⟨m,q,by simpa using d,by rw[show k+1+m=k+(m+1) by omega];exact h⟩
theorem oj(a b:List wc)(c:Int):∀(l:List wc) (i:Nat),W4 a b c i l=true↔∃(m:Nat) (p:wc),l[m]?=some p∧zjk a b (i+m) p c 0 b=true
 |[],i=>by simp[W4]
 |x::l,i=>by
  simp only[W4,qH,oj a b c l (i+1)];constructor
  ·rintro (h|⟨m,q,d,h⟩)
   ·exact⟨0,x,rfl,h⟩
   ·exact⟨m+1,q,by simpa using d,by rw[show i+(m+1)=i+1+m by omega];exact h⟩
  ·rintro⟨m,q,d,h⟩;cases m with
   |zero=>simp at d;subst d;exact .inl h
   |succ m=>exact .inr ⟨m,q,by simpa using d,by rw[show i+1+m=i+(m+1) by omega];exact h⟩
theorem XW{l:List wc}{i:Nat}{t rest:Int}(a:0≤t∧t≤4000000000)(b:0≤rest):t<WJ l i+rest↔t<J8 l i+rest:=by
 unfold WJ J8;cases l[i+1]? with
 |some p=>exact Iff.rfl
 |none=>simp only;omega
theorem tF(a b:List Sp):j9 a b=j9 b a:=by
 have c:∀a b:List Sp,j9 a b=true→j9 b a=true:=by intro a b h;simp only[j9,lz]at h⊢;obtain⟨s,hs,t,d,h⟩:=h;refine⟨t,d,s,hs,?_⟩;simp only[bL,zF,ql]at h⊢;exact⟨h.2,h.1⟩
 rw[qA];exact⟨c a b,c b a⟩
theorem Hv{x y:Xp}{c:Int}(j:0≤c)(n:VB x.zs)(o:VB y.zs)(l:∀p∈x.zs,w7 p.qS=0)(m:∀p∈y.zs,w7 p.qS=0):J3 x y c=(Qb y x c||Qb x y c):=by
 rw[qA,qH];unfold J3 Qb;rw[oj,AP,AP];constructor
 ·rintro⟨i,p,Y,h⟩;rw[VF]at h;obtain⟨k,q,g,h⟩:=h;simp only[wD]at h;have a:=zO Y;have b:=zO g;simp only[DS,tj,zF,qH,ql]at h;obtain⟨r,d⟩:=h;rw[←cw (l p a) (m q b)]at d;rcases r with⟨e,f⟩|⟨e,f⟩
  ·right;refine⟨i,p,Y,q,b,?_⟩;simp only[ru,wD,zF,ql];exact⟨⟨e,(XW (o q b) j).1 f⟩,d⟩
  ·left;refine⟨k,q,g,p,a,?_⟩;simp only[ru,wD,zF,ql];exact⟨⟨e,(XW (n p a) j).1 f⟩,by rw[tF];exact d⟩
 ·rintro (⟨k,q,g,p,a,h⟩|⟨i,p,Y,q,b,h⟩)
  ·have b:=zO g;obtain⟨i,s,rfl⟩:=List.getElem_of_mem a;simp only[ru,wD,zF,ql]at h;obtain⟨⟨e,f⟩,d⟩:=h;refine⟨i,x.zs[i],zu s,?_⟩;rw[VF];refine⟨k,q,g,?_⟩;rw[tF]at d;rw[cw (l _ a) (m q b)]at d;simp only[DS,tj,wD,zF,qH,ql];exact⟨.inr ⟨e,(XW (n _ a) j).2 f⟩,d⟩
  ·have a:=zO Y;obtain⟨k,t,rfl⟩:=List.getElem_of_mem b;simp only[ru,wD,zF,ql]at h;obtain⟨⟨e,f⟩,d⟩:=h;refine⟨i,p,Y,?_⟩;rw[VF];refine⟨k,y.zs[k],zu t,?_⟩;rw[cw (l p a) (m _ b)]at d;simp only[DS,tj,wD,zF,qH,ql];exact⟨.inl ⟨e,(XW (o _ b) j).2 f⟩,d⟩
def AQ:Option wc→List wc→Int
 |_,[]=>0
 |p,x::l=>if vT x.at_=true then(if(match p with
   |none=>false
   |some q=>decide (x.at_≤q.at_))=true then 8 else if w7 x.qS=0 then(if(match p with
   |none=>x.qS.isEmpty
   |some q=>decide (x.qS=q.qS))=true then 7 else AQ (some x) l)else w7 x.qS)else 1
def KN(l:List wc):Int:=if(50:Int)<l.length then 2 else AQ none l
theorem tG:∀(l:List wc) (p:Option wc),AQ p l=DN (p.map (·.at_)) ((p.map (·.qS)).getD []) l
 |[],p=>rfl
 |x::l,p=>by
  simp only[AQ,DN];rw[tG l (some x)];cases p with
  |none=>
   have:(x.qS.isEmpty=true)=(x.qS=[]):=by simp
   simp only[cq,vU,Option.getD_none,this,zH,WS]
  |some q=>simp only[cq,zH,WS,ql]
theorem AR(l:List wc):KN l=je l:=by unfold KN je;rw[tG];rfl
theorem AU:∀a b:za,Ab a b=YF a b
 |[],[]=>by simp[Ab,YF,Lib.compareBytes,Op.bytesLess]
 |[],_::_=>by simp[Ab,YF,Lib.compareBytes,Op.bytesLess]
 |_::_,[]=>by simp[Ab,YF,Lib.compareBytes,Op.bytesLess]
 |a::x,b::y=>by
  have d:=AU x y;unfold Ab YF at d⊢;rcases Ax a b with h|rfl|h
  ·simp[Lib.compareBytes,Op.bytesLess,h]
  ·simpa[Lib.compareBytes,Op.bytesLess,cp]using d
  ·have c:¬a=b:=fun e=>cp b (e ▸ h)
   simp[Lib.compareBytes,Op.bytesLess,h,nM h,c]
theorem aA{a b:Int}(h:ya a b=0):a=b:=by
 unfold ya at h;split at h
 ·cases h
 ·split at h
  ·cases h
  ·omega
theorem om{α:Type}(c:α→α→Int){a b:List α}{m:Nat}(f:m≤a.length)(g:m≤b.length)(h:m=a.length∨m=b.length):y1 c (a.drop m) (b.drop m)=ya a.length b.length:=by
 unfold ya;by_cases e:m<a.length
 ·have d:m=b.length:=by omega
  rw[zd e,vJ (l:=b) (by omega),zj (by omega),zf (by omega)];rfl
 ·rw[vJ (l:=a) (by omega)];by_cases d:m<b.length
  ·rw[zd d,zf (by omega)];rfl
  ·rw[vJ (l:=b) (by omega),zj (by omega),zj (by omega)];rfl
theorem AV(a b:Nat):∃m:Nat,(if b<a then(b:Int)else a)=m∧m≤a∧m≤b∧(m=a∨m=b):=by
 by_cases h:b<a
 ·exact⟨b,by rw[zf h],by omega,ze _,.inr rfl⟩
 ·exact⟨a,by rw[zj h],ze _,by omega,.inl rfl⟩
theorem gj(f g:za×qE):vg f g=if YF f.1 g.1=0 then yl f.2 g.2 else YF f.1 g.1:=by
 unfold vg;simp only[V4];split
 ·split
  ·rename_i h;rw[h]
  ·rfl
 ·rfl
noncomputable abbrev Crcm (n:Nat):Ctx:=qb prog [(200,zi false [] (UT n)),(204,zi false [] (T4 ya)),(218,zi false [] (Me Ab))]
theorem rv(n:Nat)(a b:qE)(h:a.vb≤zG∧a.vb≤n+1∧b.vb≤zG):zz (Crcm n) f200 [.agg a.V,.agg b.V]=some (int (yl a b)):=by
 obtain⟨N,q,p⟩:=h;have X:=QW a;have vb:=QW b;have la:=jk a.items;have lb:=jk b.items;have fa:=ke a.fields;have fb:=ke b.fields;unfold zG at N p;refine zo rfl ?_;have c:=au a b;by_cases B:a.kind=b.kind
 case neg=>
  rw[zj B]at c;have G:(ya a.kind b.kind != 0)=true:=by rw[bne_iff_ne];exact fun e=>B (aA e)
  simp[G,c,f200]
 rw[zf B]at c;by_cases H:a.kind=1
 ·rw[zf (.inl H)]at c;have r:b.kind=1:=by omega
  simp[H,r,c,f200]
 by_cases I:a.kind=2
 ·rw[zf (.inr I)]at c;have r:b.kind=2:=by omega
  simp[I,r,c,f200]
 rw[zj (by omega)]at c;by_cases D:a.kind=3
 ·rw[zf D]at c;have r:b.kind=3:=by omega
  have hs:=AU a.s b.s;simp[D,r,c,hs,f200]
 rw[zj D]at c;by_cases E:a.kind=4
 ·rw[zf E]at c;have r:b.kind=4:=by omega
  obtain⟨m,J,w,x,y⟩:=AV a.items.length b.items.length;rw[c];simp[E,r,J];refine zQ (fun k o Y Z=>o 2=.ref 0 0 0∧o 3=.ref 1 0 0∧o 43=int m∧o 44=int k∧Y 0=some ⟨136,5,false,[a.V]⟩∧Y 1=some ⟨136,5,false,[b.V]⟩∧y1 yl a.items b.items=y1 yl (a.items.drop k) (b.items.drop k)) m
   ⟨by simp,by simp,by simp,by simp,by simp,by simp,by simp⟩ ?_
  rintro k o Y Z B ⟨q,p,i,j,u,v,d⟩;by_cases l:k<m
  ·have f:k<a.items.length:=by omega
   have g:k<b.items.length:=by omega
   have P:=kP (zm f);have Q:=kP (zm g);have C:=fun Y Z=>Kr n a.items[k] b.items[k] Y Z ⟨by unfold zG;omega,by omega,by unfold zG;omega⟩
   have K:i6.wrap ((k:Int)+1)=(k:Int)+1:=zn (by omega) (by omega);rw[zd f,zd g]at d;simp only[y1]at d;by_cases t:yl a.items[k] b.items[k]=0
   ·rw[zf t]at d;simp[q,p,i,j,u,v,l,f,g,C,t,K];exact⟨l,d⟩
   ·rw[zj t]at d;have z:(yl a.items[k] b.items[k] != 0)=true:=by simpa using t
    simp[q,p,i,j,u,v,l,f,g,C,z,d,f200]
  ·obtain rfl:k=m:=by omega
   rw[om yl w x y]at d;simp[q,p,i,j,u,v,d,f200]
 rw[zj E]at c;by_cases F:a.kind=5
 ·rw[zf F]at c;have r:b.kind=5:=by omega
  obtain⟨m,J,w,x,y⟩:=AV a.fields.length b.fields.length;rw[c];simp[F,r,J];refine zQ (fun k o Y Z=>o 2=.ref 0 0 0∧o 3=.ref 1 0 0∧o 77=int m∧o 78=int k∧Y 0=some ⟨136,5,false,[a.V]⟩∧Y 1=some ⟨136,5,false,[b.V]⟩∧y1 vg a.fields b.fields=y1 vg (a.fields.drop k) (b.fields.drop k)) m
   ⟨by simp,by simp,by simp,by simp,by simp,by simp,by simp⟩ ?_
  rintro k o Y Z B ⟨q,p,i,j,u,v,d⟩;by_cases l:k<m
  ·have f:k<a.fields.length:=by omega
   have g:k<b.fields.length:=by omega
   have P:=xV (zm f);have Q:=xV (zm g);have C:=fun Y Z=>Kr n a.fields[k].2 b.fields[k].2 Y Z ⟨by unfold zG;omega,by omega,by unfold zG;omega⟩
   have hs:=AU a.fields[k].1 b.fields[k].1;have K:i6.wrap ((k:Int)+1)=(k:Int)+1:=zn (by omega) (by omega);rw[zd f,zd g]at d;simp only[y1]at d;rw[gj]at d;by_cases A:YF a.fields[k].1 b.fields[k].1=0
   ·rw[zf A]at d;by_cases t:yl a.fields[k].2 b.fields[k].2=0
    ·rw[zf t]at d;simp[q,p,i,j,u,v,l,f,g,C,hs,A,t,K];exact⟨l,d⟩
    ·rw[zj t]at d;have z:(yl a.fields[k].2 b.fields[k].2 != 0)=true:=by simpa using t
     simp[q,p,i,j,u,v,l,f,g,C,hs,A,z,d,f200]
   ·rw[zj A,zj A]at d;have L:(YF a.fields[k].1 b.fields[k].1==0)=false:=by simpa using A
    have M:(YF a.fields[k].1 b.fields[k].1 != 0)=true:=by simpa using A
    simp[q,p,i,j,u,v,l,f,g,C,hs,L,M,d,f200]
  ·obtain rfl:k=m:=by omega
   rw[om vg w x y]at d;simp[q,p,i,j,u,v,d,f200]
 rw[zj F]at c;have R:(a.kind==1)=false:=by simpa using H
 have S:(a.kind==2)=false:=by simpa using I
 have T:(a.kind==3)=false:=by simpa using D
 have U:(a.kind==4)=false:=by simpa using E
 have W:(a.kind==5)=false:=by simpa using F
 have G:ya a.kind b.kind=0:=by rw[B];simp
 simp[G,R,S,T,U,W,c,f200]
theorem oo:∀n,zg prog 200 (zi false [] (UT n)):=by
 intro n
 induction n with
 |zero=>
  exact Ks ⟨_,func200,by kernel_rfl,by kernel_rfl⟩ fun args r h=>by obtain⟨a,b,_,f,_⟩:=lH h;have:=Vb a;omega
 |succ n c=>
  have d:AM.Good (Crcm n) (fun g=>([]:List Nat).contains g):=zI mixed ⟨c,by simp,Wc,by simp,nh,by simp,trivial⟩;exact qq (fn:=f200) d ⟨_,func200,by kernel_rfl,rfl,by kernel_rfl⟩ false [] _ fun args r h=>by obtain⟨a,b,rfl,e,rfl⟩:=lH h;exact⟨zC (ze 2) (by decide),_,rv n a b e,qm _⟩
def J9(s:Int×Bool):Bool:=s.2||decide (200<s.1)
def tH(s r:Int×Bool):Int×Bool:=if J9 s then s else(s.1+r.1,s.2||r.2)
mutual
def wV.rp:wV→Int→Int×Bool
 | .mk _ _ _ _ _ _ xs,l=>BV xs l (1,decide (20<l))
def BV:List wV→Int→Int×Bool→Int×Bool
 |[],_,s=>s
 |c::cs,l,s=>BV cs l (tH s (c.rp (l+1)))
end
theorem RM(c:wV)(l:Int):c.rp l=BV c.args l (1,decide (20<l)):=by cases c;rfl
theorem ek{l:Int}{s:Int×Bool}(h:J9 s=true):∀xs:List wV,BV xs l s=s
 |[]=>rfl
 |c::cs=>by have:tH s (c.rp (l+1))=s:=zf h;simp only[BV];rw[this];exact ek h cs
theorem RN{xs:List wV}{l:Int}{s:Int×Bool}{k:Nat}(h:k<xs.length):BV (xs.drop k) l s=BV (xs.drop (k+1)) l (tH s (xs[k].rp (l+1))):=by rw[zd h,BV]
structure RPC (xs:List wV) (l:Int) (s r:Int×Bool):Prop where
 lo:s.1≤r.1
 hi:r.1≤s.1+jm xs
 deep:r.2=true→s.2=true∨20<l+(jf xs:Int)
 all:J9 r=false→r.1=s.1+jm xs∧(xs≠[]→l+(jf xs:Int)≤20)
theorem Er(c:wV):∀l,0≤(c.rp l).1∧(c.rp l).1≤c.parts∧((c.rp l).2=true→20<l+(c.levels:Int)-1)∧(J9 (c.rp l)=false→(c.rp l).1=c.parts∧l+(c.levels:Int)-1≤20):=by
 induction c using wV.ind with
 |h k a o v p n ys C=>
  intro l;have m:∀(xs:List wV) (s:Int×Bool),0≤s.1→(∀x∈xs,x∈ys)→RPC xs l s (BV xs l s):=by
   intro xs
   induction xs with
   |nil=>intro s _ _;exact⟨by simp[BV],by simp[BV,jm],fun h=>.inl (by simpa[BV]using h),fun _=>⟨by simp[BV,jm],fun h=>absurd rfl h⟩⟩
   |cons x xs q=>
    intro s I B;by_cases g:J9 s=true
    ·rw[ek g];exact⟨by omega,by omega,fun h=>.inl h,fun h=>by rw[g]at h;cases h⟩
    ·have e:BV (x::xs) l s=BV xs l (s.1+(x.rp (l+1)).1,s.2||(x.rp (l+1)).2):=by simp only[BV,tH,g];rfl
     rw[e];obtain⟨J,K,D,E⟩:=C x (B x (by simp)) (l+1);have i:=q (s.1+(x.rp (l+1)).1,s.2||(x.rp (l+1)).2) (by simp only;omega) (fun y F=>B y (by simp[F]));have b:jm (x::xs)=x.parts+jm xs:=by simp[jm]
     have d:jf (x::xs)=max x.levels (jf xs):=by simp[jf]
     have r:=i.lo;have t:=i.hi;simp only at r t;refine⟨by omega,by rw[b];omega,fun h=>?_,fun h=>?_⟩
     ·rw[d];rcases i.deep h with h|h
      ·simp only[qH]at h;rcases h with h|h
       ·exact .inl h
       ·right;have:=D h;omega
      ·right;omega
     ·obtain⟨u,w⟩:=i.all h;have z:J9 (x.rp (l+1))=false:=by
       simp only[J9,w5,jh]at h g⊢;refine⟨?_,by omega⟩;cases hd:(x.rp (l+1)).2 with
       |false=>rfl
       |true=>
        exfalso;have A:J9 (s.1+(x.rp (l+1)).1,s.2||(x.rp (l+1)).2)=true:=by simp[J9,hd]
        rw[ek A]at h;simp[hd]at h
      obtain⟨L,M⟩:=E z;simp only at u;refine⟨by rw[b];omega,fun _=>?_⟩;rw[d];by_cases f:xs=[]
      ·subst f;simp only[jf];omega
      ·have:=w f;omega
  have j:=m ys (1,decide (20<l)) (by simp) fun x z=>z
  rw[RM,al,bX];simp only[wV.args];have G:=j.lo;have H:=j.hi;simp only at G H;refine⟨by omega,by omega,fun h=>?_,fun h=>?_⟩
  ·rcases j.deep h with h|h
   ·simp at h;omega
   ·omega
  ·obtain⟨u,w⟩:=j.all h;simp only at u;refine⟨by omega,?_⟩;by_cases f:ys=[]
   ·rw[f]at h⊢;simp[BV,J9]at h;simp only[jf];omega
   ·have:=w f;omega
theorem M5(c:wV):J9 (c.rp 1)=(decide ((200:Int)<c.parts)||decide ((20:Int)<c.levels)):=by
 obtain⟨e,f,b,d⟩:=Er c 1;rw[qA];constructor
 ·intro h;simp only[J9,qH,ql]at h⊢;rcases h with h|h
  ·right;have:=b h;omega
  ·left;omega
 ·intro h;refine Decidable.byContradiction fun a=>?_
  have a:J9 (c.rp 1)=false:=by simpa using a
  obtain⟨g,i⟩:=d a;simp only[J9,w5,jh]at a;simp only[qH,ql]at h;omega
theorem tI(a b:Int):ya a b<0↔0<ya b a:=by
 unfold ya;by_cases c:a<b
 ·rw[zf c,zj (by omega),zf c];omega
 ·by_cases d:b<a
  ·rw[zj c,zf d,zf d];omega
  ·rw[zj c,zj d,zj d,zj c]
theorem aB(a b:za):YF a b<0↔0<YF b a:=by
 have d:=Yz a b;have f:=Yz b a;have i:=xN a b;have g:=xN b a;constructor
 ·intro h;have j:=d.1 h;have n:¬YF b a<0:=fun c=>by have:=Wi j (f.1 c);rw[DM]at this;cases this
  have o:¬YF b a=0:=fun e=>by have:=g.1 e;have:=i.2 this.symm;omega
  omega
 ·intro h;refine Decidable.byContradiction fun c=>?_
  have k:¬a=b:=fun e=>by have:=g.2 e.symm;omega
  have l:fg a b=false:=by
   unfold fg;rw[w5];refine⟨?_,by simpa using k⟩;cases m:Op.bytesLess a b with
   |false=>rfl
   |true=>exact absurd (d.2 m) c
  have:=f.2 (zlQ l);omega
theorem gk{α:Type}{c:α→α→Int}:∀{a b:List α},(∀x∈a,∀y∈b,c x y<0↔0<c y x)→(∀x∈a,∀y∈b,c x y=0↔c y x=0)→(y1 c a b<0↔0<y1 c b a)∧(y1 c a b=0↔y1 c b a=0)
 |[],[],_,_=>by simp[y1]
 |[],_::_,_,_=>by simp[y1]
 |_::_,[],_,_=>by simp[y1]
 |x::a,y::b,h,i=>by
  have j:=gk (a:=a) (b:=b) (fun u d v f=>h u (by simp[d]) v (by simp[f])) (fun u d v f=>i u (by simp[d]) v (by simp[f]));have k:=h x (by simp) y (by simp);have g:=i x (by simp) y (by simp);simp only[y1];by_cases e:c x y=0
  ·rw[zf e,zf (g.1 e)];exact j
  ·rw[zj e,zj fun l=>e (g.2 l)];exact⟨k,g⟩
theorem gl{α:Type}{c:α→α→Int}{x y:α}(a:c x y<0↔0<c y x)(b:c y x<0↔0<c x y):c x y=0↔c y x=0:=by omega
theorem ik:∀(n:Nat) (a b:qE),a.vb+b.vb≤n→(yl a b<0↔0<yl b a)
 | 0,a,b,h=>by have:=Vb a;omega
 |n+1,a,b,h=>by
  have i:=ik n;have q:=QW a;have r:=QW b;rw[au a b,au b a];by_cases g:a.kind=b.kind
  case neg=>rw[zj g,zj fun e=>g e.symm];exact tI _ _
  rw[zf g,zf g.symm,←g];split
  ·exact tI _ _
  split
  ·exact aB _ _
  split
  ·have f:∀x∈a.items,∀y∈b.items,(yl x y<0↔0<yl y x)∧(yl y x<0↔0<yl x y):=fun x c y d=>by have:=kP c;have:=kP d;exact⟨i x y (by omega),i y x (by omega)⟩
   exact(gk (fun x c y d=>(f x c y d).1) fun x c y d=>gl (f x c y d).1 (f x c y d).2).1
  split
  ·have f:∀x∈a.fields,∀y∈b.fields,(vg x y<0↔0<vg y x)∧(vg y x<0↔0<vg x y):=fun x c y d=>by
    have:=xV c;have:=xV d;have m:=i x.2 y.2 (by omega);have o:=i y.2 x.2 (by omega);have j:=aB x.1 y.1;have k:=aB y.1 x.1;have l:=gl j k;rw[gj,gj];by_cases e:YF x.1 y.1=0
    ·rw[zf e,zf (l.1 e)];exact⟨m,o⟩
    ·rw[zj e,zj fun p=>e (l.2 p)];exact⟨j,k⟩
   exact(gk (fun x c y d=>(f x c y d).1) fun x c y d=>gl (f x c y d).1 (f x c y d).2).1
  ·simp
theorem Es(a b:qE):yl b a≤0↔0≤yl a b:=by have:=ik _ a b (ze _);omega
def oq(c:wV):Bool:=!((!(c.kind==4)&&(!c.attr.isEmpty||c.op != 0))||(c.kind != 5&&!c.name.isEmpty))&&!((!((c.kind==4)&&JA c.op)&&decide (0<c.yY.length))||(!((c.kind==4)&&Yb c.op)&&!c.pat.isEmpty)) &&
 (if c.kind=3 then(c.args.length:Int)==1 else if c.kind=4∨c.kind=5 then((c.args.length:Int)==0&&(!xf c.op||(c.yY.length:Int)==1))else true)
theorem M6(c:wV)(h:jg c.kind 1 5=true):oq c=!ZQ c:=by
 have j:c.kind=1∨c.kind=2∨c.kind=3∨c.kind=4∨c.kind=5:=by simp[jg]at h;omega
 have s:(decide (0<c.args.length))=!((c.args.length:Int)==0):=by
  cases c.args with
  |nil=>rfl
  |cons x l=>simp;omega
 have b:((c.yY.length:Int) != 1)=!((c.yY.length:Int)==1):=rfl;have d:((c.args.length:Int) != 1)=!((c.args.length:Int)==1):=rfl;have f:(c.op != 0)=!(c.op==0):=rfl;have t:c.op=0→xf c.op=false:=fun e=>by rw[e];rfl
 unfold oq ZQ w1F w2F w3F w4F w5F w6F w7F;rw[s,b,d,f];generalize c.attr.isEmpty=m;generalize c.name.isEmpty=n;generalize decide (0<c.yY.length)=o;generalize c.pat.isEmpty=p;generalize JA c.op=q;generalize Yb c.op=r;generalize ((c.yY.length:Int)==1)=u;generalize ((c.args.length:Int)==0)=a;generalize ((c.args.length:Int)==1)=v;by_cases g:c.op=0
 ·rw[t g,g];rcases j with k|k|k|k|k<;>rw[k]<;>cases m<;>cases n<;>cases o<;>cases p<;>cases a<;>simp[jg]<;>cases q<;>cases r<;>rfl
 ·have i:(c.op==0)=false:=by simpa using g
  rw[i];generalize xf c.op=w;rcases j with k|k|k|k|k<;>rw[k]<;>cases m<;>cases n<;>cases o<;>cases p<;>cases a<;>simp[jg]<;>cases q<;>cases r<;>cases w<;>cases u<;>rfl
theorem RO:∀{xs:List wc} {p:Option Int} {b:List Sp},DN p b xs=0→(∀a,p=some a→∀y∈xs,a<y.at_)∧xs.Pairwise fun a b=>a.at_<b.at_
 |[],_,_,_=>⟨fun _ _ y hy=>by simp at hy,.nil⟩
 |x::xs,p,b,h=>by
  simp only[DN]at h;split at h
  ·split at h
   ·exact absurd h (by simp)
   ·rename_i f;split at h
    ·split at h
     ·exact absurd h (by simp)
     ·obtain⟨g,i⟩:=RO h;have e:=g x.at_ rfl;refine⟨fun a j y hy=>?_,wv.2 ⟨e,i⟩⟩;subst j;have d:a<x.at_:=by simpa[cq]using f
      rcases zL.1 hy with rfl|hy
      ·exact d
      ·have:=e y hy;omega
    ·rename_i c k;exact absurd h (by first|exact c|exact k)
  ·exact absurd h (by simp)
theorem Hw{l:List wc}(h:je l=0):l.Pairwise fun a b=>a.at_<b.at_:=by
 unfold je at h;split at h
 ·exact absurd h (by simp)
 ·exact(RO h).2
def XX(n:Int)(l:List wc):Bool:=match l.getLast? with
 |none=>true
 |some q=>decide (n≤q.at_)||q.qS.isEmpty
theorem tJ:∀{l:List wc} {n:Int} {a:List Sp} {q:wc},l.getLast?=some q→q.at_≤n→jq a n l=q.qS
 |[],_,_,_,h,_=>by simp at h
 |[x],n,a,q,h,b=>by simp at h;subst h;simp[jq,b]
 |x::y::l,n,a,q,h,b=>by rw[jq];exact tJ (l:=y::l) (by simpa using h) b
theorem Et:∀{l:List wc} {q:wc},l.Pairwise (fun a b=>a.at_<b.at_)→l.getLast?=some q→∀y∈l,y.at_≤q.at_
 |[],_,_,h,y,hy=>by simp at hy
 |[x],q,_,h,y,hy=>by simp at h hy;subst h;subst hy;exact jb _
 |x::z::l,q,Y,h,y,hy=>by
  obtain⟨d,e⟩:=wv.1 Y;have c:(z::l).getLast?=some q:=by simpa using h
  rcases zL.1 hy with rfl|hy
  ·have:=d q (List.mem_of_getLast? c);omega
  ·exact Et e c y hy
theorem Hy{l:List wc}(h:je l=0)(n:Int):XX n l=(xD n l||(jq [] n l).isEmpty):=by
 have d:=Hw h;unfold XX;cases a:l.getLast? with
 |none=>rw[List.getLast?_eq_none_iff]at a;subst a;rfl
 |some q=>
  have e:=List.mem_of_getLast? a;simp only;by_cases b:n≤q.at_
  ·have:xD n l=true:=lz.2 ⟨q,e,by simpa using b⟩;rw[this];simp[b]
  ·have c:xD n l=false:=by rw[xD,List.any_eq_false];intro y f;have:=Et d a y f;simp;omega
   rw[c,tJ a (by omega)];simp[b]
theorem tK{α:Type}{R S:α→α→Prop}(c:∀a b,R a b→S b a→False):∀{l m:List α},l.Perm m→l.Pairwise R→m.Pairwise S→l=m
 |[],m,h,_,_=>h.nil_eq
 |a::l,[],h,_,_=>by have:=h.length_eq;simp at this
 |a::l,b::m,h,d,hs=>by
  obtain⟨f,g⟩:=wv.1 d;obtain⟨i,j⟩:=wv.1 hs;by_cases e:a=b
  ·subst e;rw[tK c h.cons_inv g j]
  ·have k:a∈m:=by
    rcases zL.1 (h.mem_iff.1 (List.mem_cons_self))with h|h
    ·exact(e h).elim
    ·exact h
   have n:b∈l:=by
    rcases zL.1 (h.mem_iff.2 (List.mem_cons_self))with h|h
    ·exact(e h.symm).elim
    ·exact h
   exact(c a b (f b n) (i a k)).elim
def vr(s:za):Nat→List Xp→Nat
 |k,[]=>k
 |k,x::l=>if Op.bytesLess x.name s=true then vr s (k+1) l else k
theorem tL(s:za):∀(l:List Xp) (k:Nat),k≤vr s k l∧vr s k l≤k+l.length
 |[],k=>⟨ze _,ze _⟩
 |x::l,k=>by
  rw[vr];split
  ·have:=tL s l (k+1);simp only[qa];omega
  ·exact⟨ze _,Nat.le_add_right _ _⟩
theorem cx(s:za):∀(l:List Xp) (k:Nat),vr s k l=k+vr s 0 l
 |[],k=>rfl
 |x::l,k=>by
  rw[vr,vr];split
  ·rw[cx s l (k+1),cx s l (0+1)];omega
  ·rfl
theorem RQ{x:Xp}:∀{l:List Xp},DL (l.map Xp.name)→(∀y∈l,y.name≠x.name)→(l.take (vr x.name 0 l)++x::l.drop (vr x.name 0 l)).Pairwise fun a b=>Op.bytesLess a.name b.name=true
 |[],_,_=>by simp[vr]
 |y::l,f,j=>by
  have i:=f;unfold DL at f;rw[qF]at f;obtain⟨k,m⟩:=wv.1 f;have d:∀z∈l,Op.bytesLess y.name z.name=true:=fun z c=>k z.name (List.mem_map_of_mem c)
  rw[vr];by_cases g:Op.bytesLess y.name x.name=true
  ·rw[zf g,cx,wD,eL,yE,jL,q9];refine wv.2 ⟨fun z c=>?_,RQ m fun z c=>j z (by simp[c])⟩;rcases qP.1 c with c|c
   ·exact d z (xG c)
   ·rcases zL.1 c with rfl|c
    ·exact g
    ·exact d z (zh1 c)
  ·rw[zj g];have e:Op.bytesLess x.name y.name=true:=by
    have o:¬YF y.name x.name<0:=fun h=>g ((Yz _ _).1 h)
    have p:YF y.name x.name≠0:=fun h=>j y (by simp) ((xN _ _).1 h)
    have n:YF x.name y.name<0:=(aB _ _).2 (by omega);exact(Yz _ _).1 n
   simp only[xH,yj,wN];refine wv.2 ⟨fun z c=>?_,?_⟩
   ·rcases zL.1 c with rfl|c
    ·exact e
    ·exact Wi e (d z c)
   ·have:=i;unfold DL at this;rw[Ll]at this;exact this
theorem Hz{x:Xp}{l:List Xp}(f:DL (l.map Xp.name))(g:∀y∈l,y.name≠x.name):l.take (vr x.name 0 l)++x::l.drop (vr x.name 0 l)=jR (l++[x]):=by
 obtain⟨_,d,c⟩:=YB (l++[x]);refine(tK (R:=fun a b:Xp=>0≤YF b.name a.name) (S:=fun a b:Xp=>Op.bytesLess a.name b.name=true) (fun a b d c=>?_) (d.trans ?_) c (RQ f g)).symm
 ·have:=(Yz _ _).2 c;omega
 ·have h:(l++[x]).Perm (x::l):=List.perm_append_comm;have e:(l.take (vr x.name 0 l)++x::l.drop (vr x.name 0 l)).Perm (x::(l.take (vr x.name 0 l)++l.drop (vr x.name 0 l))):=List.perm_middle;rw[iE]at e;exact h.trans e.symm
noncomputable def jG (b:Bk) (s:za) (n at_:Int):Bk×Int:=
 if jB b s at_=0 then
  match b.zE[(vd (b.zE.map Xp.name) s).1]? with
  |none=>(wJ,5)
  |some x=>
   if(xD at_ x.zs||(jq [] at_ x.zs).isEmpty)=true then(wJ,11)
   else if jg n 1 (wM (jq [] at_ x.zs)-1)=true then yD (b.put (vd (b.zE.map Xp.name) s).1 at_ (wS (jq [] at_ x.zs) (wM (jq [] at_ x.zs)-n)))
   else(wJ,1)
 else(wJ,jB b s at_)
noncomputable def QY (b:Bk) (s:za) (at_:Int):Bk×Int:=
 if jB b s at_=0 then
  match b.zE[(vd (b.zE.map Xp.name) s).1]? with
  |none=>(wJ,5)
  |some x=>if(xD at_ x.zs||(jq [] at_ x.zs).isEmpty)=true then(wJ,11)else yD (b.put (vd (b.zE.map Xp.name) s).1 at_ [])
 else(wJ,jB b s at_)
end Go.Q
