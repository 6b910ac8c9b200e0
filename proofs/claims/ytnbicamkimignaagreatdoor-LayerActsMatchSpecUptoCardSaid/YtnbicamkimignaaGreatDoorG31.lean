/- Lemmas. -/
import Derived.Test.YtnbicamkimignaaGreatDoorG30
set_option maxRecDepth 100000
set_option maxHeartbeats 4000000
open Go Proofs Proofs.YtnbicamkimignaaGreatDoor Proofs.Tryz RowKit AM SpanLaw Q Zz
open Go.IntKind renaming i64→i6
namespace Go.Q
theorem NK{Y:Hp}{Z:Nat}{v:O}{xs:List zc}{c:zc}(h:q6 Y Z 34 13 v xs)(d:xs.length≤4194304) :
  wP C0 f35 [v,int (xs.length:Nat),.own Z 0 1] (qZ Y Z (some ⟨34,13,true,[c]⟩)) (Z+1)=some (.own (Z+1) 0 (xs.length+1),qZ (ZD v (qZ Y Z (some ⟨34,13,true,[c]⟩))) (Z+1) (some ⟨34,13,true,xs++[c]⟩),Z+2):=by
 unfold wP;rw[zf (by simp[f35])];refine kU rfl ?_;have a:=q6.yx (P:=prog) (t:=24) (c:=c) h el24 O9 by34 ze34 rfl (by omega) (by unfold maxLen;omega) (by omega);rcases h with⟨rfl,rfl⟩|⟨id,hid,rfl,b⟩
 ·simp at a;simp[js,a,f35]
 ·have n1:¬id=Z:=by omega
  simp[js,a,b,n1,f35]
noncomputable abbrev Le:AM.Spec:=Nu C0 f35 34 13 224
theorem E8:zg prog 35 Le:=
 oV (iw ⟨_,func35,by decide,by kernel_rfl⟩ O9 (by decide) zbt) (wZ (code:=_) w8 ⟨func35,by kernel_rfl,rfl,by kernel_rfl⟩)
theorem HX{Y:Hp}{Z i:Nat}{v:O}{xs:List zc}{c:zc}(h:q6 Y Z 34 13 v xs)(d:i≤xs.length)(b:xs.length≤4194304) :
  Le [v,int i,.own Z 0 1] (qZ Y Z (some ⟨34,13,true,[c]⟩)) (Z+1)=some (.own (Z+1) 0 (xs.length+1),qZ (ZD v (qZ Y Z (some ⟨34,13,true,[c]⟩))) (Z+1) (some ⟨34,13,true,xs.take i++c::xs.drop i⟩),Z+2):=by
 unfold Le Nu;by_cases a:i<xs.length
 ·rw[tY h a (by omega) (by unfold maxLen;omega)]
 ·obtain rfl:i=xs.length:=by omega
  rw[EV h];simp only;rw[NK h b,yk,zl]
noncomputable abbrev zcT:Ctx:=qb prog [(27,qh [.g Qk] (pF fun b=>int (qQ b))),(28,qh [.g Qk] (M1 fun b s=>QM (jS s b.zk))),(29,qh [.g Qk] (M1 fun b s=>int (tD s 0 b.zE))),(30,zi false [] (fK vT)),(31,qh [.g Qk] FFr),(32,zi false [] (FP (fun l=>int (wM l)) fun l=>j7 l)),(33,XQ (wP HV f33)),(34,zi false [] (Mu (fun l n=>.sl 2 ((wS l n).map zM)) fun l n=>j7 l∧0≤n∧n≤100000)),(35,Le),(36,bH (zi false [] (pF fun b=>yX (yD b))))]
theorem HY:zg prog 27 (qh [.g Qk] (pF fun b=>int (qQ b))):=
 wo (fn:=f27) (zI (q:=[]) mixed ⟨iB,by simp,trivial⟩:AM.Good Crcb _) ⟨_,func27,by kernel_rfl,rfl,by kernel_rfl⟩ _ _ fun args r h=>by obtain⟨b,rfl,a,rfl⟩:=zr h;exact⟨zC (ze 1) (by decide),_,E3 b a,.refl _⟩
theorem lp:zg prog 28 (qh [.g Qk] (M1 fun b s=>QM (jS s b.zk))):=
 wo (fn:=f28) w8 ⟨_,func28,by kernel_rfl,rfl,by kernel_rfl⟩ _ _ fun args r h=>by obtain⟨⟨b,s⟩,rfl,a,rfl⟩:=zr h;exact⟨zC (ze 2) (by decide),_,bK b s a,.refl _⟩
theorem HZ:zg prog 29 (qh [.g Qk] (M1 fun b s=>int (tD s 0 b.zE))):=
 wo (fn:=f29) w8 ⟨_,func29,by kernel_rfl,rfl,by kernel_rfl⟩ _ _ fun args r h=>by obtain⟨⟨b,s⟩,rfl,a,rfl⟩:=zr h;exact⟨zC (ze 2) (by decide),_,Ek b s a,.refl _⟩
theorem BD:zg prog 31 (qh [.g Qk] FFr):=
 wo (fn:=f31) Ld ⟨_,func31,by kernel_rfl,rfl,by kernel_rfl⟩ _ _ fun args r h=>by obtain⟨⟨b,y,n,t⟩,rfl,⟨⟨a,c⟩,d,e⟩,rfl⟩:=zr h;obtain⟨f,i,j⟩:=o6 b y n t a c d e;exact⟨zC (ze 4) (by decide),f,i,j⟩
theorem SJ:AM.Good zcT (fun g=>([]:List Nat).contains g):=zI mixed ⟨HY,by simp,lp,by simp,HZ,by simp,J6,by simp,BD,by simp,XE,by simp,rO,by simp,Vw,by simp,E8,by simp,X9,by simp,trivial⟩
theorem NL(f:Bk→O){b:Bk}{y:O}(c:vw 13 (b.zE.map Xp.V) y)(Y:Hp)(Z:Nat)(h:b.cb≤zG):qh [.g Qk] (pF f) [J5 b y] Y Z=some (f b,Y,Z):=
 ju (show zA Y [J5 b y]=some ([J5 b y],Y) by simp only[zA,ef c]) (by simp only[YR,ee c];exact zJ (V:=fun b:Bk=>[.agg b.V]) (a:=b) (fun a b e=>by simp only[zh,zK,O.agg.injEq]at e;exact vk e) h) (.inr (by simp only[qN,az c];rfl))
theorem uc(f:Bk→za→O){b:Bk}{y:O}(c:vw 13 (b.zE.map Xp.V) y)(s:za)(Y:Hp)(Z:Nat)(h:b.cb≤zG):qh [.g Qk] (M1 f) [J5 b y,str s] Y Z=some (f b s,Y,Z):=
 ju (show zA Y [J5 b y,str s]=some ([J5 b y,str s],Y) by simp only[zA,ef c];rfl) (by
  simp only[YR,ee c];exact zJ (V:=fun a:Bk×za=>[.agg a.1.V,str a.2]) (a:=(b,s)) (fun x y e=>by obtain⟨d,i⟩:=x;obtain⟨j,k⟩:=y;simp only[zh,zK,O.agg.injEq]at e;rw[vk e.1,wx e.2]) h) (.inr (by simp only[qN,az c];rfl))
theorem NM{b:Bk}{y:O}(c:vw 13 (b.zE.map Xp.V) y)(z:wh)(n:Int)(t:za)(Y:Hp)(Z:Nat)(h:(b.cb≤zG∧qQ b=0)∧(0≤z.rest∧z.rest≤100000000)∧vT n=true):qh [.g Qk] FFr [J5 b y,.agg z.V,int n,str t] Y Z=some (.sl 2 ((Lc z t n [(0,100000)] b.zE).map zM),Y,Z):=
 ju (show zA Y [J5 b y,.agg z.V,int n,str t]=some ([J5 b y,.agg z.V,int n,str t],Y) by
  have d:qf Y (.agg z.V)=some (.agg z.V,Y):=by simp[wh.V]
  simp only[zA,ef c,d];rfl) (by
  simp only[YR,ee c];exact zJ (V:=fun a:Bk×wh×Int×za=>[.agg a.1.V,.agg a.2.1.V,int a.2.2.1,str a.2.2.2]) (a:=(b,z,n,t)) (fun x y e=>by obtain⟨f,i,j,k⟩:=x;obtain⟨l,m,o,p⟩:=y;simp only[zh,zK,O.agg.injEq]at e;rw[vk e.1,Yy e.2.1,qn e.2.2.1,wx e.2.2.2]) h) (.inr (by simp only[qN,az c];simp[wh.V]))
theorem E9(b:Bk)(e:Xp)(n at_:Int)(y:O)(hy:vw 13 (b.zE.map Xp.V) y)(hb:b.cb+e.cb+100001≤zG) :
  ∃r0,zz zcT Tryz.f5 [J5 b y,.agg e.V,int n,int at_]=some r0∧qM r0 (yX (yp b e n at_)):=by
 have TS:zG=2097152:=rfl;have Om:b.cb=wg wh.cb b.zk+wg yI.cb b.holds+wg Xp.cb b.zE:=rfl;have TN:=qJ xa b.zk;have TR:=qJ ZG b.zE;refine yv rfl ?_;refine QK (fun H Y Z=>H 2=int n∧H 3=int at_∧H 4=.ref 0 0 0∧H 5=.ref 1 0 0∧H 8=.ref 2 0 0∧Y 0=some ⟨26,3,false,[[.sl 3 (b.zk.map wh.V),.sl 4 (b.holds.map yI.V),y]]⟩∧Y 1=some ⟨34,13,false,[e.V]⟩∧(∃z,Y 2=some ⟨26,3,false,[z]⟩∧z.length=3)∧Z=3) ?_ ?_
 ·simp[J5,zZ,hy.cell]
 rintro H Y Z ⟨u,F,h4,T,U,o,d,⟨z,W,hz⟩,rfl⟩;obtain⟨z0,z1,z2,rfl⟩:=tx z hz;have m:=fun Y Z=>NL (fun b=>int (qQ b)) hy Y Z (by omega)
 have p:=fun Y Z=>uc (fun b s=>int (tD s 0 b.zE)) hy e.name Y Z (by omega)
 have t:=fun Y Z=>uc (fun b s=>QM (jS s b.zk)) hy e.qi Y Z (by omega)
 simp only[J5]at m p t;by_cases w:qQ b=0
 case neg=>
  have C:yp b e n at_=(wJ,qQ b):=by unfold yp;rw[zj w]
  have H9:(qQ b != 0)=true:=by simpa using w
  rw[C];simp[zR,qc,u,F,h4,T,U,o,d,W,m,H9,Tryz.f5];exact⟨_,by simp,qy _⟩
 simp only[w]at m;obtain⟨hul,hux⟩:=AF w;rw[zZ]at d;obtain⟨L0,L1,X,ly,hL,hLy⟩:∃(L0 L1:za) (X:Int) (ly:Bool),QM (jS e.qi b.zk)=.yb [.agg [str L0,str L1,int X],wq ly]∧((ly=false∧(vd (b.zk.map wh.name) e.qi).2=false)∨(ly=true∧(vd (b.zk.map wh.name) e.qi).2=true∧(0≤X∧X≤100000000)∧L0=e.qi∧kG b.zk e.qi=X)):=by
  rcases ej hul e.qi with⟨g1,q,hq,g2,g3⟩|⟨g1,g2⟩
  ·refine⟨b.zk[q].name,b.zk[q].qI,b.zk[q].rest,true,by rw[g3];rfl,.inr ⟨rfl,g1,(Wl w).1 _ (zm hq),?_,?_⟩⟩
   ·have:=nN g1;rw[g2,wy,zu hq]at this;simpa using this
   ·unfold kG;rw[g2,zu hq]
  ·exact⟨[],[],0,false,by rw[g2];rfl,.inl ⟨rfl,g1⟩⟩
 simp only[hL]at t;by_cases A:e.zs=[]
 case neg=>
  have C:yp b e n at_=(wJ,3):=by unfold yp;rw[zf w,zj A]
  have c2':0<e.zs.length:=kz.2 A;rw[C];simp[zR,qc,u,F,h4,T,U,o,d,W,m,p,t,c2',Tryz.f5];exact⟨_,by simp,qy _⟩
 rcases zcO hux e.name with⟨c3,f3⟩|⟨c3,f3⟩
 ·have C:yp b e n at_=(wJ,7):=by unfold yp;rw[zf w,zf A,zf c3]
  have f3':0≤tD e.name 0 b.zE:=by omega
  rw[C];simp[zR,qc,u,F,h4,T,U,o,d,W,m,p,t,A,f3',Tryz.f5];exact⟨_,by simp,qy _⟩
 have I:¬(vd (b.zE.map Xp.name) e.name).2=true:=by rw[c3];simp
 simp only[f3]at p;cases c4:jg n 1 100000
 case false=>
  have C:yp b e n at_=(wJ,1):=by unfold yp;rw[zf w,zf A,zj I,zj (by simp[c4])]
  rw[C];by_cases d1:n<1
  ·simp[zR,qc,u,F,h4,T,U,o,d,W,m,p,t,A,d1,Tryz.f5];exact⟨_,by simp,qy _⟩
  ·have d2:100000<n:=by
    refine Int.lt_of_not_ge fun h=>?_
    rw[(ZA n 1 100000).2 (by omega)]at c4;cases c4
   simp[zR,qc,u,F,h4,T,U,o,d,W,m,p,t,A,d1,d2,Tryz.f5];exact⟨_,by simp,qy _⟩
 have hn:=(ZA n 1 100000).1 c4;have d1:¬n<1:=by omega
 have d2:¬100000<n:=by omega
 rcases hLy with⟨rfl,c5⟩|⟨rfl,c5,zie,rfl,hro⟩
 ·have C:yp b e n at_=(wJ,5):=by unfold yp;rw[zf w,zf A,zj I,zf c4,zj (by simp[c5])]
  rw[C];simp[zR,qc,u,F,h4,T,U,o,d,W,m,p,t,A,d1,d2,Tryz.f5];exact⟨_,by simp,qy _⟩
 cases c6:vT at_
 case false=>
  have C:yp b e n at_=(wJ,1):=by unfold yp;rw[zf w,zf A,zj I,zf c4,zf c5,zj (by simp[c6])]
  rw[C];simp[zR,qc,u,F,h4,T,U,o,d,W,m,p,t,A,d1,d2,c6,Tryz.f5];exact⟨_,by simp,qy _⟩
 have hfb:∀(Y:Hp) (Z:Nat),qh [.g Qk] FFr [J5 b y,.agg [str e.qi,str L1,int X],int at_,.v (.string ⟨#[]⟩)] Y Z=some (.sl 2 ((jY b e.qi [] at_).map zM),Y,Z):=fun Y Z=>by rw[←E5 (y:=⟨e.qi,L1,X⟩) w c6 rfl hro];exact NM hy ⟨e.qi,L1,X⟩ at_ [] Y Z ⟨⟨by omega,w⟩,zie,c6⟩
 obtain⟨Fr,hFr⟩:∃Fr,jY b e.qi [] at_=Fr:=⟨_,rfl⟩;have J:j7 Fr:=by rw[←hFr];exact XL w _ _ _
 simp only[J5,hFr]at hfb;have hsz:=fun Y Z=>Yw (fun l=>int (wM l)) (fun l=>j7 l) Fr Y Z J
 by_cases c7:wM Fr<n
 ·have C:yp b e n at_=(wJ,9):=by unfold yp;rw[zf w,zf A,zj I,zf c4,zf c5,zf c6,hFr,zf c7]
  rw[C];simp[zR,qc,u,F,h4,T,U,o,d,W,m,p,t,A,d1,d2,c6,hfb,hsz,c7,Tryz.f5];exact⟨_,by simp,qy _⟩
 obtain⟨f,hf⟩:∃f,wS Fr n=f:=⟨_,rfl⟩;obtain⟨o1,o2,o3⟩:=KK J (n:=n) (by omega) (by omega);rw[hf]at o1 o2 o3;have hfi:=fun Y Z=>ZR (fun l n=>.sl 2 ((wS l n).map zM)) (fun l n=>j7 l∧0≤n∧n≤100000) Fr n Y Z ⟨J,by omega,by omega⟩
 simp only[hf]at hfi;obtain⟨G,hx'⟩:∃G,e.begun at_ f=G:=⟨_,rfl⟩;have C:yp b e n at_=yD ⟨b.zk,b.holds,jR (b.zE++[G])⟩:=by unfold yp;rw[zf w,zf A,zj I,zf c4,zf c5,zf c6,hFr,zj c7,hf,hx']
 have rW:Bk.cb ⟨b.zk,b.holds,jR (b.zE++[G])⟩≤zG:=by have h1:=Hq b e at_ f;have u:=o1.2.2.2;rw[hx']at h1;omega
 have Ud:G.name=e.name:=by rw[←hx'];rfl
 have hno:∀z∈b.zE,z.name≠G.name:=by rw[Ud];intro z hz hzn;obtain⟨j,hj⟩:=pq hz;have:=Rr w hj;rw[hzn]at this;rw[this]at c3;cases c3
 have K:=Hz (x:=G) hux hno;rw[Ud]at K;obtain⟨P,hP⟩:∃P,vr e.name 0 b.zE=P:=⟨_,rfl⟩;have hPl:P≤b.zE.length:=by have:=(tL e.name b.zE 0).2;omega
 rw[hP]at K;obtain⟨E,hE⟩:∃E,G.V=E:=⟨_,rfl⟩;have hEe:E=[str e.name,str e.qi,str e.flag,int e.cond.kind,str e.cond.attr,int e.cond.op,.sl 5 (e.cond.yY.map qE.V),str e.cond.pat,str e.cond.name,.sl 7 (e.cond.args.map wV.V),str e.qI,.sl 3 (e.jX.map xv),.sl 2 [[int at_,.sl 2 (f.map zM)]]]:=by rw[←hE,←hx',zZ];rfl
 obtain⟨HA,hHA⟩:∃h:Hp,qZ Y 3 (some (⟨61,3,false,[[str e.qi,str L1,int X]]⟩:jz))=h:=⟨_,rfl⟩;have oA:∀j,j<3→HA j=Y j:=fun j hj=>by rw[←hHA,zw _ _ _ _ (by omega)]
 have hA0:HA 0=some ⟨26,3,false,[[.sl 3 (b.zk.map wh.V),.sl 4 (b.holds.map yI.V),y]]⟩:=by rw[oA 0 (by omega)];exact o
 have hA3:HA 3=some ⟨61,3,false,[[str e.qi,str L1,int X]]⟩:=by rw[←hHA,jd]
 have hA1:=oA 1 (by omega);rw[d]at hA1;obtain⟨r,hpC,a,s1,s2,⟨q,rl,rh,rx,rfl,q1,q2,q3,q4,q5⟩,s4⟩:=E4 b y hy (by omega) HA 4;simp only[J5]at s1;have hrx:rx.wY=true:=by rcases q5 with⟨_,rfl⟩|⟨_,rfl,_⟩<;>rfl
 obtain⟨HB,hHB⟩:∃h:Hp,qZ hpC a (some (⟨26,3,false,[[rl,rh,rx]]⟩:jz))=h:=⟨_,rfl⟩;have oB:∀j,j≠a→HB j=hpC j:=fun j hj=>by rw[←hHB,zw _ _ _ _ hj]
 have bB:HB a=some ⟨26,3,false,[[rl,rh,rx]]⟩:=by rw[←hHB,jd]
 have b1B:HB 1=some ⟨34,13,false,[[str e.name,str e.qi,str e.flag,int e.cond.kind,str e.cond.attr,int e.cond.op,.sl 5 (e.cond.yY.map qE.V),str e.cond.pat,str e.cond.name,.sl 7 (e.cond.args.map wV.V),str e.qI,.sl 3 (e.jX.map xv),.sl 2 (e.zs.map wc.V)]]⟩:=by rw[oB 1 (by omega),s4 1 (by omega)];exact hA1
 obtain⟨HC0,D⟩:∃h:Hp,qZ HB (a+1) (some (⟨54,2,true,[[int at_,.sl 2 (f.map zM)]]⟩:jz))=h:=⟨_,rfl⟩;have bs1:zv prog HB (a+1) 32 1 [(0,.agg [int at_,.sl 2 (f.map zM)])]=some (.own (a+1) 0 1,HC0,a+1+1):=by rw[←D];simp[zv,zN,zy]
 have L:HC0 1=HB 1:=by rw[←D,zw _ _ _ _ (by omega)]
 rw[b1B]at L;obtain⟨HC,hHC⟩:∃h:Hp,qZ HC0 1 (some (⟨34,13,false,[[str e.name,str e.qi,str e.flag,int e.cond.kind,str e.cond.attr,int e.cond.op,.sl 5 (e.cond.yY.map qE.V),str e.cond.pat,str e.cond.name,.sl 7 (e.cond.args.map wV.V),str e.qI,.sl 3 (e.jX.map xv),.own (a+1) 0 1]]⟩:jz))=h:=⟨_,rfl⟩;have oC:∀j,j≠1→j≠a+1→HC j=HB j:=fun j h1 u=>by rw[←hHC,zw _ _ _ _ h1,←D,zw _ _ _ _ u]
 have bC1:HC 1=some ⟨34,13,false,[[str e.name,str e.qi,str e.flag,int e.cond.kind,str e.cond.attr,int e.cond.op,.sl 5 (e.cond.yY.map qE.V),str e.cond.pat,str e.cond.name,.sl 7 (e.cond.args.map wV.V),str e.qI,.sl 3 (e.jX.map xv),.own (a+1) 0 1]]⟩:=by rw[←hHC,jd]
 have bC:HC a=some ⟨26,3,false,[[rl,rh,rx]]⟩:=by rw[oC a (by omega) (by omega)];exact bB
 have pC:HC (a+1)=some ⟨54,2,true,[[int at_,.sl 2 (f.map zM)]]⟩:=by rw[←hHC,zw _ _ _ _ (by omega),←D,jd]
 obtain⟨HD0,M⟩:∃h:Hp,qZ HC (a+1) none=h:=⟨_,rfl⟩;obtain⟨HD,hHD⟩:∃h:Hp,qZ HD0 (a+1+1) (some (⟨34,13,true,[E]⟩:jz))=h:=⟨_,rfl⟩;have bs2:zv prog HC (a+1+1) 24 1 [(0,.agg [str e.name,str e.qi,str e.flag,int e.cond.kind,str e.cond.attr,int e.cond.op,.sl 5 (e.cond.yY.map qE.V),str e.cond.pat,str e.cond.name,.sl 7 (e.cond.args.map wV.V),str e.qI,.sl 3 (e.jX.map xv),.own (a+1) 0 1])]=some (.own (a+1+1) 0 1,HD,a+1+1+1):=by rw[←hHD,←M,hEe];simp[zv,zy,we,pC,zN]
 have hown:q6 HD0 (a+1+1) 34 13 rx (b.zE.map Xp.V):=by
  rcases q5 with⟨g1,g2⟩|⟨g1,g2,g3⟩
  ·exact .inl ⟨g2,by rw[g1];rfl⟩
  ·exact .inr ⟨q+2,by omega,by rw[g2,qO],by rw[←M,zw _ _ _ _ (by omega),oC _ (by omega) (by omega),oB _ (by omega)];exact g3⟩
 have N:=HX (c:=E) hown (i:=P) (by simpa using hPl) (by simp;omega);rw[hHD]at N;simp only[qO]at N;have zif:∀j,(j=q+2→rx=.nil)→ZD rx HD j=HD j:=fun j hj=>by
  rcases q5 with⟨_,rfl⟩|⟨_,rfl,_⟩
  ·rfl
  ·have:j≠q+2:=fun e=>by have:=hj e;cases this
   simp[ZD,this,qZ]
 obtain⟨HE,hHE⟩:∃h:Hp,qZ (ZD rx HD) (a+1+1+1) (some (⟨34,13,true,(b.zE.map Xp.V).take P++E::(b.zE.map Xp.V).drop P⟩:jz))=h:=⟨_,rfl⟩;rw[hHE]at N;have oE:∀j,j<a+1→j≠1→(j=q+2→rx=.nil)→HE j=HB j:=fun j h1 u F=>by rw[←hHE,zw _ _ _ _ (by omega),zif j F,←hHD,zw _ _ _ _ (by omega),←M,zw _ _ _ _ (by omega),oC j u (by omega)]
 have hqn:a=q+2→rx=.nil:=fun g=>by rcases q5 with⟨_,h⟩|⟨h,_⟩;exact h;omega
 have bE:HE a=some ⟨26,3,false,[[rl,rh,rx]]⟩:=by rw[oE a (by omega) (by omega) hqn];exact bB
 obtain⟨HF,Q⟩:∃h:Hp,qZ HE a (some (⟨26,3,false,[[rl,rh,.own (a+1+1+1) 0 (b.zE.length+1)]]⟩:jz))=h:=⟨_,rfl⟩;have bF:HF a=some ⟨26,3,false,[[rl,rh,.own (a+1+1+1) 0 (b.zE.length+1)]]⟩:=by rw[←Q,jd]
 have xF:HF (a+1+1+1)=some ⟨34,13,true,(jR (b.zE++[G])).map Xp.V⟩:=by rw[←Q,zw _ _ _ _ (by omega),←hHE,jd,←K,yz,qF,hE,List.map_take,List.map_drop]
 have zig:(jR (b.zE++[G])).length=b.zE.length+1:=by rw[(YB (b.zE++[G])).2.1.length_eq];simp
 have oF:∀j,j<a→j≠1→(j=q+2→rx=.nil)→HF j=hpC j:=fun j h1 u F=>by rw[←Q,zw _ _ _ _ (by omega),oE j (by omega) u F,oB j (by omega)]
 obtain⟨hpM,m1,m2⟩:=VE (Z:=a+1+1+1+1) (rl:=rl) (rh:=rh) (rx:=.own (a+1+1+1) 0 (b.zE.length+1)) (b:=⟨b.zk,b.holds,jR (b.zE++[G])⟩) (Y:=HF) (l:=q) (q3.same (ze _) (ze _) fun j h1 u=>oF j (by omega) (by omega) (by omega)) (q4.same (ze _) (ze _) fun j h1 u=>oF j (by omega) (by omega) (by omega)) (fun h hh=>by have hhx:=hh (a+1+1+1) (by omega);rw[xF]at hhx;refine⟨qZ h (a+1+1+1) none,?_,fun j hj=>zw _ _ _ _ (by omega)⟩;simp[Zq,we,hhx,zig,qp]) rW
 have hM2:hpM 2=some ⟨26,3,false,[[z0,z1,z2]]⟩:=by rw[m2 2 (by omega),oF 2 (by omega) (by omega) (by omega),s4 2 (by omega),oA 2 (by omega)];exact W
 obtain⟨⟨B,fl⟩,hR⟩:∃r,yD ⟨b.zk,b.holds,jR (b.zE++[G])⟩=r:=⟨_,rfl⟩;have N4:yX (B,fl)=.yb [.agg [.sl 3 (B.zk.map wh.V),.sl 4 (B.holds.map yI.V),.sl 13 (B.zE.map Xp.V)],int fl]:=rfl;rw[hR,N4]at m1;rw[C,hR,N4];have hcl:=q3.cell;have hch:=q4.cell;simp only[A,kp]at d hA1 b1B L;have k1:¬a=1:=by omega
 have k2:¬(1:Nat)=a:=by omega
 have R:Qr prog 24 rx=some (int b.zE.length):=by
  rcases q5 with⟨h0,rfl⟩|⟨_,rfl,_⟩
  ·simp[h0]
  ·simp
 simp[-qf,zR,qc,u,F,h4,T,U,o,d,W,m,p,t,A,d1,d2,c6,hHA,hA0,hA1,hA3,hfb,hsz,c7,s1,hcl,hch,hrx,J4 hrx,J4 hcl,J4 hch,hHB,hfi,bs1,L,b1B,hHC,k1,k2];refine zQ (fun k H Y Z=>H 5=.ref 1 0 0∧H 8=.ref 2 0 0∧H 14=.ref a 0 0∧H 15=int k∧Y=HC∧Z=a+1+1∧vr e.name k (b.zE.drop k)=P) b.zE.length
  ⟨by simp[T],by simp[U],by simp,by simp,rfl,rfl,by simpa using hP⟩ ?_
 rintro k H Y Z hk ⟨i5,i8,i14,i15,rfl,rfl,he⟩;by_cases S:k<b.zE.length
 ·have hw:i6.wrap ((k:Int)+1)=(k:Int)+1:=zn (by omega) (by omega);obtain⟨x,hx⟩:∃x,b.zE[k]=x:=⟨_,rfl⟩;rw[zd S,hx,vr]at he;rcases q5 with⟨g1,g2⟩|⟨g1,rfl,g3⟩
  ·rw[g1]at S;simp at S
  have xC:Y (q+2)=some ⟨34,13,true,b.zE.map Xp.V⟩:=by rw[oC _ (by omega) (by omega),oB _ (by omega)];exact g3
  cases hl:Op.bytesLess x.name e.name
  ·rw[hl,zj (by simp)]at he;subst he;simp[-qf,i5,i8,i14,i15,bC,bC1,S,R,xC,hx,zZ,hl,bs2,N,bE,Q,bF,hcl,hch,m1,hM2,wH,Tryz.f5];exact⟨_,by simp,.refl _⟩
  ·rw[hl,zf rfl]at he;simp[i5,i8,i14,i15,bC,bC1,S,R,xC,hx,zZ,hl,hw];exact⟨by omega,he⟩
 ·obtain rfl:k=b.zE.length:=by omega
  rw[zl,vr]at he;subst he;simp[-qf,i5,i8,i14,i15,bC,bC1,R,bs2,N,bE,Q,bF,hcl,hch,m1,hM2,wH,Tryz.f5];exact⟨_,by simp,.refl _⟩
theorem BE:zg prog 5 (zi false [] RC):=
 jD (fn:=Tryz.f5) SJ ⟨_,func5,by kernel_rfl,rfl,by kernel_rfl⟩ false [] _ fun args r h w S vs f=>by obtain⟨⟨b,e,n,m⟩,rfl,g,rfl⟩:=zr h;obtain⟨u,us,rfl,i,d⟩:=f.jl;obtain⟨y,k,a⟩:=xk i (j:=2) (s:=13) (es:=b.zE.map Xp.V) (by simp[Bk.V]);have c:O.agg (b.V.set 2 y)=J5 b y:=rfl;rw[c]at a;obtain⟨l,o,p⟩:=E9 b e n m y k g;exact⟨_,l,.cons a d,zC (ze 4) (by decide),o,p⟩
theorem Jb{s:Tmp}{L:List Tmp}{st:St}{x:zc}(k:Nat){y:O}(d:s-zB=k)(c:st.σ s=.yb x)(e:st.σ k=y)(h:y.Jd=true)(f:kZ L st):kZ (s::L) st:=fun t b=>by
 rcases zL.1 b with rfl|b
 ·exact⟨⟨fun id' o n a=>(by rw[c]at a;cases a),fun id' i' j' a=>by rw[c]at a;cases a⟩,fun _=>by rw[d,e];exact h⟩
 ·exact f t b
noncomputable abbrev Crfd:Ctx:=Wo prog [(33,wP HV f33),(36,bH (zi false [] (pF fun b=>yX (yD b))))] (fun|2=>[10,13,1000002,1000003,1000022,1000023,1000024]|_=>[]) []
theorem zbv:AM.Good Crfd (fun g=>([]:List Nat).contains g):=XR mixed ⟨eH,by simp,X9,by simp,trivial⟩ ⟨by simp,by simp,trivial⟩
theorem Fa(b:Bk)(i:Nat)(at_:Int)(l:List Sp)(x:Xp)(hb:b.cb+1+l.length≤zG)(F:b.zE[i]?=some x)(H:x.zs≠[]):zz Crfd f50 [.agg b.V,int i,int at_,.sl 2 (l.map zM)]=some (yX (yD (b.put i at_ l))):=by
 have TS:zG=2097152:=rfl;have e:i<b.zE.length:=(zq.1 F).1;have I:=zO F;have Tn:=yg (f:=Xp.cb) I;have Om:b.cb=wg wh.cb b.zk+wg yI.cb b.holds+wg Xp.cb b.zE:=rfl;have TR:=qJ ZG b.zE;have hxe:x.cb=x.name.length+x.qi.length+x.flag.length+x.cond.cb+x.qI.length+x.jX.length+wg wc.cb x.zs:=rfl;have hxpl:=qJ vG x.zs;have s:=AG F at_ l;have hpcb:=og b i at_ l;have J:x.zs.length+1≤maxLen:=by unfold maxLen;omega
 have K:(x.zs.length+1)*32≤140737488355328:=by omega
 refine zo rfl ?_;refine QK (fun a Y Z=>a 1=int i∧a 2=int at_∧a 3=.sl 2 (l.map zM)∧a 4=.ref 0 0 0∧a 8=.ref 1 0 0∧Y 0=some ⟨26,3,false,[b.V]⟩∧(∃z,Y 1=some ⟨26,3,false,[z]⟩∧z.length=3)∧Z=2∧a 13=.yb []∧a 22=.yb []∧a 23=.yb []∧a 24=.yb []∧a 1000002=.yb []∧a 1000003=.yb []∧a 1000022=.yb []∧a 1000023=.yb []∧a 1000024=.yb []) ?_ ?_
 ·simp[Bk.V]
 rintro a Y Z ⟨h1,h2,h3,h4,h8,t,⟨z,hc,hz⟩,rfl,L,M,N,P,p,u,Q,R,S⟩;obtain⟨z0,z1,z2,rfl⟩:=tx z hz;have T:vw 13 (b.zE.map Xp.V) (.sl 13 (b.zE.map Xp.V)):=by
  cases he:b.zE with
  |nil=>rw[he]at e;simp at e
  |cons y ys=>exact .sl
 obtain⟨r,Y',c,r1,r2,⟨q,rl,rh,rx,rfl,a1,a2,a3,a4,a5⟩,r4⟩:=o0 b _ T (by omega) Y 2;rcases a5 with⟨e0,_⟩|⟨g,mid,rfl,e1,e2,U⟩
 ·rw[e0]at e;simp at e
 have hle:=U.le;have W:=U.len;obtain⟨d,cells,c1,c2,c3,c4,c5,c6⟩:=U.grown F H;obtain⟨X,d1,d2,d3,d4,d5,d6,d7,d8,d9,m,n,rfl⟩:=RB cells c2;have v:Y' 1=some ⟨26,3,false,[[z0,z1,z2]]⟩:=by rw[r4 1 (by omega)];exact hc
 obtain⟨k,w⟩:∃h:Hp,qZ (qZ (qZ (qZ (qZ Y' c (some (⟨26,3,false,[[rl,rh,.own (q+2) 0 b.zE.length]]⟩:jz))) (c+1) (some (⟨54,2,true,[[int at_,.sl 2 (l.map zM)]]⟩:jz))) d none) (c+1+1) (some (⟨54,2,true,x.zs.map wc.V++[[int at_,.sl 2 (l.map zM)]]⟩:jz))) (q+2) (some (⟨34,13,false,g.set i [X,d1,d2,d3,d4,d5,d6,d7,d8,d9,m,n,.own (c+1+1) 0 (x.zs.length+1)]⟩:jz))=h:=⟨_,rfl⟩;have G:∀j,j<c→j≠d→j≠q+2→k j=Y' j:=fun j g1 p u=>by rw[←w,zw _ _ _ _ u,zw _ _ _ _ (by omega),zw _ _ _ _ p,zw _ _ _ _ (by omega),zw _ _ _ _ (by omega)]
 have zb:k c=some ⟨26,3,false,[[rl,rh,.own (q+2) 0 b.zE.length]]⟩:=by rw[←w,zw _ _ _ _ (by omega),zw _ _ _ _ (by omega),zw _ _ _ _ (by omega),zw _ _ _ _ (by omega),jd]
 have zx:k (q+2)=some ⟨34,13,false,g.set i [X,d1,d2,d3,d4,d5,d6,d7,d8,d9,m,n,.own (c+1+1) 0 (x.zs.length+1)]⟩:=by rw[←w,jd]
 have zp:k (c+1+1)=some ⟨54,2,true,(x.zs++[(⟨at_,l⟩:wc)]).map wc.V⟩:=by rw[←w,zw _ _ _ _ (by omega),jd,yz];rfl
 obtain⟨hpF,m1,m2⟩:=VE (Z:=c+1+1+1) (rl:=rl) (rh:=rh) (rx:=.own (q+2) 0 b.zE.length) (b:=b.put i at_ l) (Y:=k) (l:=q) (a3.same (ze _) (ze _) fun j g1 p=>G j (by omega) (by omega) (by omega)) (a4.same (ze _) (ze _) fun j g1 p=>G j (by omega) (by omega) (by omega)) (fun h hh=>by obtain⟨hpG,n1,n2⟩:=c6 (qZ h (q+2) none) (c+1+1) (x.zs++[(⟨at_,l⟩:wc)]) (fun j g1 p u=>by rw[zw _ _ _ _ (by omega),hh j (by omega),G j (by omega) u (by omega)]) (by omega) (by rw[zw _ _ _ _ (by omega),hh _ (by omega)];exact zp);refine⟨hpG,?_,fun j hj=>by rw[n2 j (by omega),zw _ _ _ _ (by omega)]⟩;have A:=hh (q+2) (by omega);rw[zx]at A;have o:(b.put i at_ l).zE=b.zE.set i (x.FE (x.zs++[(⟨at_,l⟩:wc)])):=s;rw[o];simp only[ye,qa,vV,q9,wN]at n1;simp[Zq,A,W,n1]) (by omega)
 have hF1:hpF 1=some ⟨26,3,false,[[z0,z1,z2]]⟩:=by rw[m2 1 (by omega),G 1 (by omega) (by omega) (by omega)];exact v
 obtain⟨⟨B,f⟩,hR⟩:∃r,yD (b.put i at_ l)=r:=⟨_,rfl⟩;have N4:yX (B,f)=.yb [.agg [.sl 3 (B.zk.map wh.V),.sl 4 (B.holds.map yI.V),.sl 13 (B.zE.map Xp.V)],int f]:=rfl;rw[hR,N4]at m1⊢;simp only[J5,Bk.V]at r1 t;have H9:g[i]?=some [X,d1,d2,d3,d4,d5,d6,d7,d8,d9,m,n,.own d 0 x.zs.length]:=c1;have k1:¬q+2=c:=by omega
 have k2:¬q+2=c+1:=by omega
 have k3:¬q+2=d:=by omega
 have k4:¬d=c:=by omega
 have k5:¬d=c+1:=by omega
 have k6:¬q+2=c+1+1:=by omega
 have k7:¬q=c:=by omega
 have k8:¬q+1=c:=by omega
 have C:=a3.cell;have D:=a4.cell;refine QK (fun a Y Z=>a 1=int i∧a 2=int at_∧a 3=.sl 2 (l.map zM)∧a 8=.ref 1 0 0∧a 10=.ref c 0 0∧Y=qZ Y' c (some ⟨26,3,false,[[rl,rh,.own (q+2) 0 b.zE.length]]⟩)∧Z=c+1∧a 13=.yb []∧a 22=.yb []∧a 23=.yb []∧a 24=.yb []∧a 1000002=.yb []∧a 1000003=.yb []∧a 1000022=.yb []∧a 1000023=.yb []∧a 1000024=.yb []) ?_ ?_
 ·simp[h1,h2,h3,h4,h8,t,r1,C,D,L,M,N,P,p,u,Q,R,S]
 rintro a hpq nxq ⟨p1,p2,p3,p8,E,rfl,rfl,q13,q22,q23,q24,o2,o3,o22,o23,o24⟩;rw[c8,kh (ki (id:=c) (i:=0) (j:=0) E (Nat.lt_succ_self _) (jd _ _ _) rfl (kj q13 (Jb 2 (by decide) o2 p2 rfl (Jb 3 (by decide) o3 p3 rfl (Jb 22 (by decide) o22 q22 rfl (Jb 23 (by decide) o23 q23 rfl (Jb 24 (by decide) o24 q24 rfl (kH _))))))))];simp[zR,qc,zv,zN,zy,wU,Xb,AM.view,p1,p2,p3,p8,E,v,J,K,C,D,e2,c5,e,H9,k1,k2,k3,k4,k5,k6,k7,k8,w,zb,m1,hF1,wH,f50]
theorem VK:zg prog 50 (qh [.a,.a,.a,.s 2 []] lh):=
 wo (fn:=f50) zbv ⟨_,func50,by kernel_rfl,rfl,by kernel_rfl⟩ _ _ fun args r h=>by obtain⟨⟨b,i,n,l⟩,rfl,⟨c,x,d,e⟩,rfl⟩:=zr h;exact⟨zC (ze 4) (by decide),_,Fa b i n l x c d e,.refl _⟩
theorem eK(b:Bk)(i:Nat)(at_:Int)(l:List Sp)(Y:Hp)(Z:Nat)(h:b.cb+1+l.length≤zG∧∃x,b.zE[i]?=some x∧x.zs≠[]):qh [.a,.a,.a,.s 2 []] lh [.agg b.V,int i,int at_,.sl 2 (l.map zM)] Y Z=some (yX (yD (b.put i at_ l)),Y,Z):=
 ju (show zA Y [.agg b.V,int i,int at_,.sl 2 (l.map zM)]=some ([.agg b.V,int i,int at_,.sl 2 (l.map zM)],Y) by simp only[zA,jW];rfl) (by
  have d:∀z:List zc,z.map (Z4 [])=z:=fun z=>by
   induction z with
   |nil=>rfl
   |cons c z f=>rw[qF,f];cases c<;>rfl
  simp only[YR,Sh.zc8,Sh.eT,d];exact zJ (V:=fun a:Bk×Nat×Int×List Sp=>[.agg a.1.V,int a.2.1,int a.2.2.1,.sl 2 (a.2.2.2.map zM)]) (a:=(b,i,at_,l)) (fun x y e=>by obtain⟨o,g,p,j⟩:=x;obtain⟨q,k,r,m⟩:=y;simp only[zh,zK,O.agg.injEq,O.sl.injEq,ab]at e;have t:=qn e.2.1;have n:j=m:=jE (zD (O.sl 2) e.2.2.2);rw[vk e.1,(show g=k by omega),qn e.2.2.1,n]) h) (.inr (by simp only[qN,xh];rfl))
noncomputable def W8 (b:Bk) (s:za) (n:Int):Nat×Int:=
 if jB b s n=0 then
  match b.zE[(vd (b.zE.map Xp.name) s).1]? with
  |none=>(0,5)
  |some x=>if XX n x.zs=true then(0,11)else((vd (b.zE.map Xp.name) s).1,0)
 else(0,jB b s n)
noncomputable def YD (b:Bk) (s:za) (n:Int):O:=.yb [int (W8 b s n).1,int (W8 b s n).2]
noncomputable abbrev Crun:Ctx:=qb prog [(27,zi false [] (pF fun b=>int (qQ b))),(29,zi false [] (M1 fun b s=>int (tD s 0 b.zE))),(30,zi false [] (fK vT))]
theorem zbw:AM.Good Crun (fun g=>([]:List Nat).contains g):=zI mixed ⟨ua,by simp,M3,by simp,J6,by simp,trivial⟩
theorem BF(b:Bk)(s:za)(n:Int)(L:b.cb≤zG):zz Crun f47 [.agg b.V,str s,int n]=some (YD b s n):=by
 refine zo rfl ?_;have P:b.cb=wg wh.cb b.zk+wg yI.cb b.holds+wg Xp.cb b.zE:=rfl;have l:=fun Y Z=>XJ (fun b=>int (qQ b)) b Y Z L
 have c:=fun Y Z=>XU (fun b s=>int (tD s 0 b.zE)) b s Y Z L
 simp only[Bk.V]at l c;by_cases e:qQ b=0
 case neg=>
  have i:jB b s n=qQ b:=by unfold jB;rw[zj e]
  have o:YD b s n=.yb [int (0:Nat),int (qQ b)]:=by unfold YD W8;rw[i,zj e]
  have C:(qQ b != 0)=true:=by simpa using e
  rw[o];simp[Bk.V,l,C,wH,f47]
 have Q:=(AF e).2;rcases zcO Q s with⟨y,D⟩|⟨y,D⟩
 case inr=>
  have i:jB b s n=5:=by unfold jB;rw[zf e,y,zj (by simp)]
  have o:YD b s n=.yb [int (0:Nat),int 5]:=by unfold YD W8;rw[i,zj (by simp)]
  rw[D]at c;rw[o];simp[Bk.V,l,e,c,wH,f47]
 obtain⟨q,E⟩:∃q,(vd (b.zE.map Xp.name) s).1=q:=⟨_,rfl⟩;have g:q<b.zE.length:=by have:=J2 y;rw[E]at this;simpa using this
 rw[D,E]at c;have j:¬(q:Int)<0:=by omega
 cases r:vT n
 ·have i:jB b s n=1:=by unfold jB;rw[zf e,y,zf rfl,r,zj (by simp)]
  have o:YD b s n=.yb [int (0:Nat),int 1]:=by unfold YD W8;rw[i,zj (by simp)]
  rw[o];simp[Bk.V,l,e,c,j,r,wH,f47]
 have F:jB b s n=0:=by unfold jB;rw[zf e,y,zf rfl,r,zf rfl]
 obtain⟨x,i⟩:∃x,b.zE[q]=x:=⟨_,rfl⟩;have G:x∈b.zE:=by rw[←i];exact zm g
 have R:=yg (f:=Xp.cb) G;have S:x.cb=x.name.length+x.qi.length+x.flag.length+x.cond.cb+x.qI.length+x.jX.length+wg wc.cb x.zs:=rfl;have M:=qJ vG x.zs;have H:x.zs.length≤zG:=by omega
 unfold zG at H;have o:W8 b s n=if XX n x.zs=true then(0,11)else(q,0):=by unfold W8;rw[zf F,E,zu g,i]
 unfold YD;rw[o];rcases List.eq_nil_or_concat x.zs with Y|⟨t,p,Y⟩
 ·have hs:XX n x.zs=true:=by rw[Y];rfl
  rw[zf hs];simp[Bk.V,l,e,c,j,r,g,i,zZ,Y,wH,f47]
 ·have Y:x.zs=t++[p]:=by simpa using Y
  have hs:XX n x.zs=(decide (n≤p.at_)||p.qS.isEmpty):=by rw[Y];simp[XX]
  have d:x.zs.length=t.length+1:=by rw[Y];simp
  obtain⟨m,N⟩:∃m,t.length=m:=⟨_,rfl⟩;rw[N]at d;have z:∀h:m<x.zs.length,x.zs[m]=p:=fun h=>by
   have:x.zs[m]?=some p:=by rw[Y,←N];simp
   exact(zq.1 this).2
  have k:m<x.zs.length:=by omega
  have u:=z k;have I:i6.wrap ((m:Int)+1-1)=(m:Int):=by rw[zn (by omega) (by omega)];omega
  have v:i6.wrap (m:Int)=(m:Int):=zn (by omega) (by omega);have w:((m:Int)+1==0)=false:=q7.2 (by omega);rw[hs];by_cases J:n≤p.at_
  ·simp[Bk.V,l,e,c,j,r,g,i,zZ,d,k,u,w,I,v,wc.V,J,wH,f47]
  ·cases B:p.qS with
   |nil=>simp[Bk.V,l,e,c,j,r,g,i,zZ,d,k,u,w,I,v,wc.V,J,B,wH,f47]
   |cons a A=>have K:((A.length:Int)+1==0)=false:=q7.2 (by omega);simp[Bk.V,l,e,c,j,r,g,i,zZ,d,k,u,w,I,v,wc.V,J,B,K,wH,f47]
theorem Ka:zg prog 47 (zi false [] (nT YD)):=
 qq (fn:=f47) zbw ⟨_,func47,by kernel_rfl,rfl,by kernel_rfl⟩ false [] _ fun args r h=>by obtain⟨⟨b,s,n⟩,rfl,a,rfl⟩:=zr h;exact⟨zC (ze 3) (by decide),_,BF b s n a,qm _⟩
theorem BG{b:Bk}{s:za}{n:Int}{x:Xp}(h:jB b s n=0)(a:b.zE[(vd (b.zE.map Xp.name) s).1]?=some x):XX n x.zs=(xD n x.zs||(jq [] n x.zs).isEmpty):=by obtain⟨c,_,_⟩:=YA h;exact Hy ((Wl c).2.1 x (zO a)).1 n
noncomputable abbrev Crsp:Ctx:=qb prog [(47,zi false [] (nT YD)),(50,qh [.a,.a,.a,.s 2 []] lh)]
theorem zbx:AM.Good Crsp (fun g=>([]:List Nat).contains g):=zI mixed ⟨Ka,by simp,VK,by simp,trivial⟩
theorem H0(b:Bk)(s:za)(at_:Int)(t:b.cb+1≤zG):∃n,zz Crsp f12 [.agg b.V,str s,int at_]=some n∧qM n (yX (QY b s at_)):=by
 refine yv rfl ?_;have a:=fun Y Z=>Wk YD b s at_ Y Z (by omega)
 simp only[Bk.V]at a;by_cases d:jB b s at_=0
 case neg=>
  have f:QY b s at_=(wJ,jB b s at_):=by unfold QY;rw[zj d]
  have g:W8 b s at_=(0,jB b s at_):=by unfold W8;rw[zj d]
  have l:(jB b s at_ != 0)=true:=by simpa using d
  rw[f];simp only[YD,g]at a;simp[Bk.V,zR,qc,a,l,f12];exact⟨_,by simp,qy _⟩
 obtain⟨w,u,y⟩:=YA d;obtain⟨q,e⟩:∃q,(vd (b.zE.map Xp.name) s).1=q:=⟨_,rfl⟩;have m:q<b.zE.length:=by have:=J2 u;rw[e]at this;simpa using this
 obtain⟨x,v⟩:∃x,b.zE[q]=x:=⟨_,rfl⟩;have c:b.zE[q]?=some x:=by rw[zu m,v]
 have h:=BG (x:=x) d (by rw[e];exact c);by_cases i:(xD at_ x.zs||(jq [] at_ x.zs).isEmpty)=true
 ·have f:QY b s at_=(wJ,11):=by unfold QY;rw[zf d,e,c];simp only;rw[zf i]
  have g:W8 b s at_=(0,11):=by unfold W8;rw[zf d,e,c];simp only;rw[h,zf i]
  rw[f];simp only[YD,g]at a;simp[Bk.V,zR,qc,a,f12];exact⟨_,by simp,qy _⟩
 have g:W8 b s at_=(q,0):=by unfold W8;rw[zf d,e,c];simp only;rw[h,zj i]
 simp only[YD,g]at a;have f:QY b s at_=yD (b.put q at_ []):=by unfold QY;rw[zf d,e,c];simp only;rw[zj i]
 have j:=fun Y Z=>bM b q at_ Y Z ⟨t,x,c,Y8 i⟩
 obtain⟨⟨B,o⟩,p⟩:∃r,yD (b.put q at_ [])=r:=⟨_,rfl⟩;have k:yX (B,o)=.yb [.agg [.sl 3 (B.zk.map wh.V),.sl 4 (B.holds.map yI.V),.sl 13 (B.zE.map Xp.V)],int o]:=rfl;simp only[p,k,Bk.V]at j;rw[f,p,k];simp[Bk.V,zR,qc,a,j,f12];exact⟨_,by simp,.refl _⟩
theorem Fb:zg prog 12 (zi false [] (RR (fun b=>b.cb+1≤zG) M9)):=
 jD (fn:=f12) zbx ⟨_,func12,by kernel_rfl,rfl,by kernel_rfl⟩ false [] _ fun args r h w S vs a=>by obtain⟨⟨b,s,n⟩,rfl,c,rfl⟩:=zr h;obtain⟨d,e,f⟩:=H0 b s n c;exact⟨_,d,a,zC (ze 3) (by decide),e,f⟩
abbrev qrsh:List Nat:=[48,32,34,50]
noncomputable abbrev Crsh:Ctx:=qb prog [(47,zi false [] (nT YD)),(48,zi false [] (FXI (fun x n=>.sl 2 ((jq [] n x.zs).map zM)) fun x _=>x.zs.length≤zG)),(32,zi false [] (FP (fun l=>int (wM l)) fun l=>j7 l)),(34,zi false [] (Mu (fun l n=>.sl 2 ((wS l n).map zM)) fun l n=>j7 l∧0≤n∧n≤100000)),(50,qh [.a,.a,.a,.s 2 []] lh)]
theorem zby:AM.Good Crsh (fun g=>qrsh.contains g):=zI mixed ⟨Ka,by simp,bR,fun _=>zt _ _,XE,fun _=>zt _ _,Vw,fun _=>zt _ _,VK,fun _=>zt _ _,trivial⟩
theorem BH(b:Bk)(s:za)(n at_:Int)(X:b.cb+100001≤zG):∃I,zz Crsh f10 [.agg b.V,str s,int n,int at_]=some I∧qM I (yX (jG b s n at_)):=by
 refine yv rfl ?_;have R:b.cb=wg wh.cb b.zk+wg yI.cb b.holds+wg Xp.cb b.zE:=rfl;have c:=fun Y Z=>Wk YD b s at_ Y Z (by omega)
 simp only[Bk.V]at c;by_cases e:jB b s at_=0
 case neg=>
  have g:jG b s n at_=(wJ,jB b s at_):=by unfold jG;rw[zj e]
  have o:W8 b s at_=(0,jB b s at_):=by unfold W8;rw[zj e]
  have D:(jB b s at_ != 0)=true:=by simpa using e
  rw[g];simp only[YD,o]at c;simp[Bk.V,zR,qc,c,D,f10];exact⟨_,by simp,qy _⟩
 obtain⟨k1,S,k3⟩:=YA e;obtain⟨q,h⟩:∃q,(vd (b.zE.map Xp.name) s).1=q:=⟨_,rfl⟩;have i:q<b.zE.length:=by have:=J2 S;rw[h]at this;simpa using this
 obtain⟨x,C⟩:∃x,b.zE[q]=x:=⟨_,rfl⟩;have a:b.zE[q]?=some x:=by rw[zu i,C]
 have E:x∈b.zE:=zO a;have T:=yg (f:=Xp.cb) E;have U:x.cb=x.name.length+x.qi.length+x.flag.length+x.cond.cb+x.qI.length+x.jX.length+wg wc.cb x.zs:=rfl;have J:=qJ vG x.zs;obtain⟨d,p⟩:=AW (x:=x) e (by rw[h];exact a);have t:=BG (x:=x) e (by rw[h];exact a);by_cases k:(xD at_ x.zs||(jq [] at_ x.zs).isEmpty)=true
 ·have g:jG b s n at_=(wJ,11):=by unfold jG;rw[zf e,h,a];simp only;rw[zf k]
  have o:W8 b s at_=(0,11):=by unfold W8;rw[zf e,h,a];simp only;rw[t,zf k]
  rw[g];simp only[YD,o]at c;simp[Bk.V,zR,qc,c,f10];exact⟨_,by simp,qy _⟩
 have F:=Y8 k;have o:W8 b s at_=(q,0):=by unfold W8;rw[zf e,h,a];simp only;rw[t,zj k]
 have j:=fun Y Z=>nU (fun x n=>.sl 2 ((jq [] n x.zs).map zM)) (fun x _=>x.zs.length≤zG) x at_ Y Z (by omega)
 obtain⟨A,u⟩:∃A,jq [] at_ x.zs=A:=⟨_,rfl⟩;rw[u]at d p k;simp only[u,zZ]at j;simp only[YD,o]at c;have m:=fun Y Z=>Yw (fun l=>int (wM l)) (fun l=>j7 l) A Y Z d
 have W:=IG p;have K:=tM d.1;by_cases G:n<1
 ·have v:jg n 1 (wM A-1)=false:=by unfold jg;simp;omega
  have g:jG b s n at_=(wJ,1):=by unfold jG;rw[zf e,h,a];simp only;rw[u,zj k,v,zj (by simp)]
  rw[g];simp[Bk.V,zR,qc,c,i,C,zZ,j,m,G,f10];exact⟨_,by simp,qy _⟩
 by_cases L:wM A≤n
 ·have v:jg n 1 (wM A-1)=false:=by unfold jg;simp;omega
  have g:jG b s n at_=(wJ,1):=by unfold jG;rw[zf e,h,a];simp only;rw[u,zj k,v,zj (by simp)]
  rw[g];simp[Bk.V,zR,qc,c,i,C,zZ,j,m,G,L,f10];exact⟨_,by simp,qy _⟩
 have v:jg n 1 (wM A-1)=true:=(ZA _ _ _).2 (by omega);have H:i6.wrap (wM A-n)=wM A-n:=zn (by omega) (by omega);obtain⟨f,M⟩:∃f,wS A (wM A-n)=f:=⟨_,rfl⟩;have g:jG b s n at_=yD (b.put q at_ f):=by unfold jG;rw[zf e,h,a];simp only;rw[u,zj k,zf v,M]
 obtain⟨N,o2,o3⟩:=KK d (n:=wM A-n) (by omega) (by omega);have w:=fun Y Z=>ZR (fun l n=>.sl 2 ((wS l n).map zM)) (fun l n=>j7 l∧0≤n∧n≤100000) A (wM A-n) Y Z ⟨d,by omega,by omega⟩
 simp only[M]at w N;have y:=fun Y Z=>eK b q at_ f Y Z ⟨by have:=N.2.2.2;omega,x,a,F⟩
 obtain⟨⟨B,P⟩,Q⟩:∃r,yD (b.put q at_ f)=r:=⟨_,rfl⟩;have z:yX (B,P)=.yb [.agg [.sl 3 (B.zk.map wh.V),.sl 4 (B.holds.map yI.V),.sl 13 (B.zE.map Xp.V)],int P]:=rfl;simp only[Q,z,Bk.V]at y;rw[g,Q,z];simp[Bk.V,zR,qc,c,i,C,zZ,j,m,G,L,H,w,y,f10];exact⟨_,by simp,.refl _⟩
theorem rQ:zg prog 10 (zi false [] (FB4 (fun b=>b.cb+100001≤zG) M8)):=
 jD (fn:=f10) zby ⟨_,func10,by kernel_rfl,rfl,by kernel_rfl⟩ false [] _ fun args r h w S vs a=>by obtain⟨⟨b,s,n,m⟩,rfl,c,rfl⟩:=zr h;obtain⟨d,e,f⟩:=BH b s n m c;exact⟨_,d,a,zC (ze 4) (by decide),e,f⟩
abbrev qrgr:List Nat:=[28,48,31,49,32,34,51,50]
noncomputable abbrev Crgr:Ctx:=qb prog [(47,zi false [] (nT YD)),(28,zi false [] (M1 fun b s=>QM (jS s b.zk))),(48,zi false [] (FXI (fun x n=>.sl 2 ((jq [] n x.zs).map zM)) fun x _=>x.zs.length≤zG)),(31,zi false [] FFr),(49,zi false [] (lT (fun a b=>.sl 2 ((vY a b).map zM)) fun a b=>j7 a∧j7 b)),(32,zi false [] (FP (fun l=>int (wM l)) fun l=>j7 l)),(34,zi false [] (Mu (fun l n=>.sl 2 ((wS l n).map zM)) fun l n=>j7 l∧0≤n∧n≤100000)),(51,zi false [] (lT (fun a b=>.sl 2 ((Wh a b).map zM)) fun a b=>j7 a∧j7 b)),(50,qh [.a,.a,.a,.s 2 []] lh)]
theorem zbz:AM.Good Crgr (fun g=>qrgr.contains g):=zI mixed ⟨Ka,by simp,QN,fun _=>zt _ _,bR,fun _=>zt _ _,E7,fun _=>zt _ _,Lb _ _,fun _=>zt _ _,XE,fun _=>zt _ _,Vw,fun _=>zt _ _,La _ _,fun _=>zt _ _,VK,fun _=>zt _ _,trivial⟩
theorem zew{b:Bk}{x:Xp}(h:qQ b=0)(f:x∈b.zE):∃y,jS x.qi b.zk=some y∧y.name=x.qi∧kG b.zk x.qi=y.rest∧(0≤y.rest∧y.rest≤100000000):=by
 have g:=(AF h).1;have c:=((Wl h).2.1 x f).2;rcases ej g x.qi with⟨_,q,a,d,i⟩|⟨e,_⟩
 ·refine⟨b.zk[q],i,?_,?_,(Wl h).1 _ (zm a)⟩
  ·have:=nN c;rw[d,wy,zu a]at this;simpa using this
  ·unfold kG;rw[d,zu a]
 ·rw[c]at e;cases e
theorem H2(b:Bk)(s:za)(n at_:Int)(hb:b.cb+100001≤zG):∃r0,zz Crgr Tryz.f8 [.agg b.V,str s,int n,int at_]=some r0∧qM r0 (yX (kF b s n at_)):=by
 refine yv rfl ?_;have t:b.cb≤zG:=by omega
 have Om:b.cb=wg wh.cb b.zk+wg yI.cb b.holds+wg Xp.cb b.zE:=rfl;have c:=fun Y Z=>Wk YD b s at_ Y Z t
 simp only[Bk.V]at c;by_cases g:jB b s at_=0
 case neg=>
  have j:kF b s n at_=(wJ,jB b s at_):=by unfold kF;rw[zj g]
  have E:W8 b s at_=(0,jB b s at_):=by unfold W8;rw[zj g]
  have U:(jB b s at_ != 0)=true:=by simpa using g
  rw[j];simp only[YD,E]at c;simp[Bk.V,zR,qc,c,U,Tryz.f8];exact⟨_,by simp,qy _⟩
 obtain⟨Q,k2,k3⟩:=YA g;obtain⟨q,k⟩:∃q,(vd (b.zE.map Xp.name) s).1=q:=⟨_,rfl⟩;have u:q<b.zE.length:=by have:=J2 k2;rw[k]at this;simpa using this
 obtain⟨x,W⟩:∃x,b.zE[q]=x:=⟨_,rfl⟩;have d:b.zE[q]?=some x:=by rw[zu u,W]
 have F:x∈b.zE:=zO d;have Oj:=yg (f:=Xp.cb) F;have Tn:x.cb=x.name.length+x.qi.length+x.flag.length+x.cond.cb+x.qI.length+x.jX.length+wg wc.cb x.zs:=rfl;have hxpl:=qJ vG x.zs;obtain⟨e,X⟩:=AW (x:=x) g (by rw[k];exact d);have G:=BG (x:=x) g (by rw[k];exact d);by_cases o:(xD at_ x.zs||(jq [] at_ x.zs).isEmpty)=true
 ·have j:kF b s n at_=(wJ,11):=by unfold kF;rw[zf g,k,d];simp only;rw[zf o]
  have E:W8 b s at_=(0,11):=by unfold W8;rw[zf g,k,d];simp only;rw[G,zf o]
  rw[j];simp only[YD,E]at c;simp[Bk.V,zR,qc,c,Tryz.f8];exact⟨_,by simp,qy _⟩
 have hne:=Y8 o;have E:W8 b s at_=(q,0):=by unfold W8;rw[zf g,k,d];simp only;rw[G,zj o]
 have v:=fun Y Z=>nU (fun x n=>.sl 2 ((jq [] n x.zs).map zM)) (fun x _=>x.zs.length≤zG) x at_ Y Z (by omega)
 obtain⟨A,H⟩:∃A,jq [] at_ x.zs=A:=⟨_,rfl⟩;rw[H]at e X o;simp only[H,zZ]at v;simp only[YD,E]at c;cases D:jg n 1 100000
 ·have j:kF b s n at_=(wJ,1):=by unfold kF;rw[zf g,k,d];simp only;rw[H,zj o,D,zj (by simp)]
  rw[j];by_cases I:n<1
  ·simp[Bk.V,zR,qc,c,I,Tryz.f8];exact⟨_,by simp,qy _⟩
  ·have R:100000<n:=by
    refine Int.lt_of_not_ge fun h=>?_
    rw[(ZA n 1 100000).2 (by omega)]at D;cases D
   simp[Bk.V,zR,qc,c,I,R,Tryz.f8];exact⟨_,by simp,qy _⟩
 have hn:=(ZA n 1 100000).1 D;have I:¬n<1:=by omega
 have R:¬100000<n:=by omega
 obtain⟨y,f1,f2,f3,f4⟩:=zew Q F;have w:=fun Y Z=>XU (fun b s=>QM (jS s b.zk)) b x.qi Y Z t
 have z:∀(Y:Hp) (Z:Nat),zi false [] FFr [.agg b.V,.agg y.V,int at_,str s] Y Z=some (.sl 2 ((jY b x.qi s at_).map zM),Y,Z):=fun Y Z=>by rw[←E5 Q k3 f2 f3];exact SI b y at_ s Y Z ⟨⟨t,Q⟩,f4,k3⟩
 obtain⟨Fr,m⟩:∃Fr,jY b x.qi s at_=Fr:=⟨_,rfl⟩;have p:j7 Fr:=by rw[←m];exact XL Q _ _ _
 have C:=fun Y Z=>WI (fun a b=>.sl 2 ((vY a b).map zM)) (fun a b=>j7 a∧j7 b) Fr A Y Z ⟨p,e⟩
 obtain⟨M,S⟩:∃M,vY Fr A=M:=⟨_,rfl⟩;have i:j7 M:=by rw[←S];exact(nW p e).1
 have J:=fun Y Z=>Yw (fun l=>int (wM l)) (fun l=>j7 l) M Y Z i
 simp only[Bk.V,wh.V,m]at z;simp only[S]at C;have hL:QM (jS x.qi b.zk)=.yb [.agg [str y.name,str y.qI,int y.rest],wq true]:=by rw[f1];rfl
 simp only[Bk.V,hL]at w;by_cases T:wM M<n
 ·have j:kF b s n at_=(wJ,9):=by unfold kF;rw[zf g,k,d];simp only;rw[H,zj o,zf D,m,S,zf T]
  rw[j];simp[Bk.V,zR,qc,c,I,R,u,W,zZ,w,v,z,C,J,T,Tryz.f8];exact⟨_,by simp,qy _⟩
 obtain⟨f,hf⟩:∃f,wS M n=f:=⟨_,rfl⟩;have j:kF b s n at_=yD (b.put q at_ (Wh A f)):=by unfold kF;rw[zf g,k,d];simp only;rw[H,zj o,zf D,m,S,zj T,hf]
 obtain⟨o1,o2,o3⟩:=KK i (n:=n) (by omega) (by omega);rw[hf]at o1 o2 o3;have K:=fun Y Z=>ZR (fun l n=>.sl 2 ((wS l n).map zM)) (fun l n=>j7 l∧0≤n∧n≤100000) M n Y Z ⟨i,by omega,by omega⟩
 simp only[hf]at K;have hun:=fun Y Z=>WI (fun a b=>.sl 2 ((Wh a b).map zM)) (fun a b=>j7 a∧j7 b) A f Y Z ⟨e,o1⟩
 have L:=Ei e o1;have N:=fun Y Z=>eK b q at_ (Wh A f) Y Z ⟨by have:=L.2.2.2;omega,x,d,hne⟩
 obtain⟨⟨B,fl⟩,hR⟩:∃r,yD (b.put q at_ (Wh A f))=r:=⟨_,rfl⟩;have P:yX (B,fl)=.yb [.agg [.sl 3 (B.zk.map wh.V),.sl 4 (B.holds.map yI.V),.sl 13 (B.zE.map Xp.V)],int fl]:=rfl;simp only[hR,P,Bk.V]at N;rw[j,hR,P];simp[Bk.V,zR,qc,c,I,R,u,W,zZ,w,v,z,C,J,T,K,hun,N,Tryz.f8];exact⟨_,by simp,.refl _⟩
theorem Fc:zg prog 8 (zi false [] RH):=
 jD (fn:=Tryz.f8) zbz ⟨_,func8,by kernel_rfl,rfl,by kernel_rfl⟩ false [] _ fun args r h w S vs a=>by obtain⟨⟨b,s,n,m⟩,rfl,c,rfl⟩:=zr h;obtain⟨d,e,f⟩:=H2 b s n m c;exact⟨_,d,a,by simp[Tryz.f8],e,f⟩
end Go.Q
namespace Go.Q
open Classical in
noncomputable def kc {α:Type} (a b:α):Bool:=decide (a=b)
open Classical in
theorem xy{α:Type}(a b:α):kc a b=true↔a=b:=by unfold kc;exact decide_eq_true_iff
theorem QP{α:Type}(a:α):kc a a=true:=(xy a a).2 rfl
theorem zbA{α g i:Type}{a b:α}{c d:g}{e f:i}(h:a=b↔c=d∧e=f):kc a b=(kc c d&&kc e f):=by rw[qA,zF,xy,xy,xy];exact h
theorem zbB(a b:za):kc a b=(a==b):=by rw[qA,xy,eO]
theorem SK{α:Type}(a b:α)(l m:List α):kc (a::l) (b::m)=(kc a b&&kc l m):=zbA (by simp)
theorem JJ{α:Type}{l m:List α}(h:l.length≠m.length):kc l m=false:=by
 cases a:kc l m
 ·rfl
 ·exact(h (zD List.length ((xy l m).1 a))).elim
theorem WQ{α:Type}{a b:List α}{k:Nat}(c:k<a.length)(d:k<b.length):kc (a.drop k) (b.drop k)=(kc a[k] b[k]&&kc (a.drop (k+1)) (b.drop (k+1))):=by rw[zd c,zd d,SK]
theorem zbC(a b:qE):kc a b=((a.kind==b.kind)&&((a.n==b.n)&&((a.s==b.s)&&(kc a.items b.items&&kc a.fields b.fields)))):=by rw[qA];simp only[zF,xy,eO];cases a;cases b;simp[qE.kind,qE.n,qE.s,qE.items,qE.fields]
theorem zbD(a b:za×qE):kc a b=((a.1==b.1)&&kc a.2 b.2):=by rw[qA];simp only[zF,xy,eO];obtain⟨c,d⟩:=a;obtain⟨e,f⟩:=b;simp
theorem zbE(a b:wV):kc a b=((a.kind==b.kind)&&((a.attr==b.attr)&&((a.op==b.op)&&((a.pat==b.pat)&&((a.name==b.name)&&(kc a.yY b.yY&&kc a.args b.args)))))):=by
 rw[qA];simp only[zF,xy,eO];cases a;cases b;simp only[wV.kind,wV.attr,wV.op,wV.pat,wV.name,wV.yY,wV.args,wV.mk.injEq];constructor
 ·rintro⟨c,d,e,f,g,h,i⟩;exact⟨c,d,e,g,h,f,i⟩
 ·rintro⟨c,d,e,f,g,h,i⟩;exact⟨c,d,e,h,f,g,i⟩
theorem zbF(a b:wc):kc a b=((a.at_==b.at_)&&kc a.qS b.qS):=by rw[qA];simp only[zF,xy,eO];cases a;cases b;simp
theorem zex(a b:Xp):kc a b=((a.name==b.name)&&((a.qi==b.qi)&&((a.flag==b.flag)&&((a.qI==b.qI)&&(kc a.cond b.cond&&(kc a.jX b.jX&&kc a.zs b.zs)))))):=by
 rw[qA];simp only[zF,xy,eO];cases a;cases b;simp only[Xp.mk.injEq];constructor
 ·rintro⟨c,d,e,f,g,h,i⟩;exact⟨c,d,e,g,f,h,i⟩
 ·rintro⟨c,d,e,f,g,h,i⟩;exact⟨c,d,e,g,f,h,i⟩
end Go.Q
namespace Go.Q
noncomputable def FRR2 (out:List Rg→List Rg→O) (pre:List Rg→List Rg→Prop):zc→Option O:=qv (α:=List Rg×List Rg) (fun a=>[.sl 3 (a.1.map xv),.sl 3 (a.2.map xv)]) (fun a=>pre a.1 a.2) (fun a=>out a.1 a.2)
theorem NN(out:List Rg→List Rg→O)(pre:List Rg→List Rg→Prop)(l m:List Rg)(Y:Hp)(Z:Nat)(h:pre l m):zi false [] (FRR2 out pre) [.sl 3 (l.map xv),.sl 3 (m.map xv)] Y Z=some (out l m,Y,Z):=
 qe rfl (zJ (V:=fun a:List Rg×List Rg=>[O.sl 3 (a.1.map xv),O.sl 3 (a.2.map xv)]) (a:=(l,m)) (fun a b e=>by obtain⟨c,d⟩:=a;obtain⟨f,g⟩:=b;simp only[zh,zK]at e;rw[Vz e.1,Vz e.2]) h) (.inr rfl)
theorem NO{a b:List Rg}{k:Nat}(c:k<a.length)(d:k<b.length):decide (a.drop k=b.drop k)=(decide (a[k]=b[k])&&decide (a.drop (k+1)=b.drop (k+1))):=by rw[zd c,zd d,←Bool.decide_and];congr 1;simp only[zh]
theorem zcU(x y z u v w:Int):jP prog .neq 101 (.agg [int x,int y,int z]) (.agg [int u,int v,int w])=some (wq (!(decide (x=u)&&(decide (y=v)&&decide (z=w))))):=by simp only[jP,zg5,yi,wi,zH,ae];rfl
theorem zbG{a b:Rg}:decide (a=b)=(decide (a.1=b.1)&&(decide (a.2.1=b.2.1)&&decide (a.2.2=b.2.2))):=by simp[Prod.ext_iff]
theorem BI(a b:List Rg)(s:a.length≤zG):zz C0 f77 [.sl 3 (a.map xv),.sl 3 (b.map xv)]=some (wq (decide (a=b))):=by
 refine zo rfl ?_;unfold zG at s;by_cases l:a.length=b.length
 case neg=>
  have f:((a.length:Int) != (b.length:Int))=true:=by simp;omega
  have m:¬a=b:=fun e=>l (by rw[e])
  simp[f,m,f77]
 have f:((a.length:Int) != (b.length:Int))=false:=by simp[l]
 simp[f];refine zQ (fun k j Y Z=>j 0=.sl 3 (a.map xv)∧j 1=.sl 3 (b.map xv)∧j 12=int a.length∧j 13=int k∧decide (a=b)=decide (a.drop k=b.drop k)) a.length
  ⟨by simp,by simp,by simp,by simp,by simp⟩ ?_
 rintro k j Y Z u ⟨n,o,g,h,i⟩;by_cases d:k<a.length
 ·have c:k<b.length:=by omega
  have t:i6.wrap ((k:Int)+1)=(k:Int)+1:=zn (by omega) (by omega);rw[NO d c,zbG]at i;by_cases p:a[k].1=b[k].1<;>by_cases q:a[k].2.1=b[k].2.1<;>by_cases r:a[k].2.2=b[k].2.2<;>simp only[p,q,r,Lm,zca,ae,yZ,zh2,kM]at i
  ·simp[n,o,g,h,d,c,p,q,r,t,zcU];exact⟨d,by simpa using i⟩
  all_goals simp[n,o,g,h,d,c,p,q,r,i,zcU,f77]
 ·obtain rfl:k=a.length:=by omega
  rw[zl,l,zl]at i;simp[n,o,g,h,i,f77]
theorem rR:zg prog 77 (zi false [] (FRR2 (fun a b=>wq (decide (a=b))) fun a _=>a.length≤zG)):=
 qq (fn:=f77) w8 ⟨_,func77,by kernel_rfl,rfl,by kernel_rfl⟩ false [] _ fun args r h=>by obtain⟨⟨a,b⟩,rfl,c,rfl⟩:=zr h;exact⟨zC (ze 2) (by decide),_,BI a b c,qm _⟩
end Go.Q
