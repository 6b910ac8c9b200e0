/- Lemmas. -/
import Derived.Shelf.Spec.SlicesInsert
import Derived.Test.YtnbicamkimignaaGreatDoorG29
set_option maxRecDepth 100000
set_option maxHeartbeats 4000000
open Go Proofs Proofs.YtnbicamkimignaaGreatDoor Proofs.Tryz RowKit AM SpanLaw Q Zz
open Go.IntKind renaming i64→i6
namespace Go.Q
def Yf(xs:List Xp)(k:Nat):za:=if k=0 then[]else match xs[k-1]? with
 |some x=>x.name
 |none=>[]
noncomputable def Bz (b:Bk) (k:Nat):Int:=match b.zE[k]? with
 |some x=>(Z9 b.zk (Yf b.zE k) (kx b k) x).1
 |none=>0
theorem I9{b:Bk}{k:Nat}(h:k<b.zE.length):Bz b k=(Z9 b.zk (Yf b.zE k) (kx b k) b.zE[k]).1:=by unfold Bz;rw[zu h]
theorem E1{b:Bk}{k:Nat}(h:k<b.zE.length):kx b (k+1)=kx b k++[b.zE[k].qI]:=by
 have:(b.zE.take (k+1)).map Xp.qI=(b.zE.take k).map Xp.qI++[b.zE[k].qI]:=by rw[qx h,yz];rfl
 unfold kx;rw[this];simp only[qj]
theorem oZ{xs:List Xp}{k:Nat}(h:k<xs.length):Yf xs (k+1)=xs[k].name:=by simp[Yf,h]
theorem NG{b:Bk}{k:Nat}(h:k<b.zE.length):(Qj b.zk (Yf b.zE k) (kx b k) (b.zE.drop k)).1=if Bz b k=0 then(Qj b.zk (Yf b.zE (k+1)) (kx b (k+1)) (b.zE.drop (k+1))).1 else Bz b k:=by
 rw[zd h,Qj,I9 h];by_cases a:(Z9 b.zk (Yf b.zE k) (kx b k) b.zE[k]).1=0
 ·rw[zf a,zf a,zee a,oZ h,E1 h]
 ·rw[zj a,zj a]
noncomputable def FEx:zc→Option O:=qv (α:=Bk×Nat) (fun a=>[.nil,.agg a.1.V,int a.2,wq true]) (fun a=>(a.1.cb≤zG∧DL (a.1.zk.map wh.name))∧a.2<a.1.zE.length) (fun a=>int (Bz a.1 a.2))
theorem SA(b:Bk)(n:Nat)(Y:Hp)(Z:Nat)(h:b.cb≤zG)(c:DL (b.zk.map wh.name))(d:n<b.zE.length):zi false [] FEx [.nil,.agg b.V,int n,wq true] Y Z=some (int (Bz b n),Y,Z):=
 qe (Y1:=Y) (show zA Y [.nil,.agg b.V,int n,wq true]=some ([.nil,.agg b.V,int n,wq true],Y) by
  have f:qf Y .nil=some (.nil,Y):=rfl;simp only[zA,f,jW];rfl) (zJ (V:=fun a:Bk×Nat=>[O.nil,.agg a.1.V,int a.2,wq true]) (a:=(b,n)) (fun x y e=>by
  obtain⟨j,g⟩:=x;obtain⟨k,i⟩:=y;simp only[zh,zK,ab,O.agg.injEq]at e;have:=qn e.2;rw[vk e.1,show g=i by omega]) ⟨⟨h,c⟩,d⟩) (.inl rfl)
abbrev qrex:List Nat:=[143,139]
noncomputable abbrev Crex:Ctx:=qb prog [(137,zi false [] (FNb fun a b c=>int (ZI a b c))),(28,zi false [] (M1 fun b s=>QM (jS s b.zk))),(140,zi false [] (FS yn)),(141,GC fun c=>int c.check),(138,zi false [] (FS zlR)),(143,zi false [] (FBn fun b n=>.sl 1 (qd (kx b n)))),(139,zi false [1] (FTS fun l v=>wq (decide (v∈l)))),(144,zi false [] (FRN (fun l n=>int (vo l n)) fun _ n=>1≤n∧n≤20)),(145,zi false [] (FPh fun l=>int (je l)))]
theorem zbp:AM.Good Crex (fun g=>qrex.contains g):=zI mixed ⟨XT,by simp,QN,by simp,JV,by simp,rN,by simp,J7,by simp,AZ,fun _=>zt _ _,W7,fun _=>zt _ _,cM,by simp,rz,by simp,trivial⟩
theorem NH(b:Bk)(n:Nat)(S:b.cb≤zG)(hu:DL (b.zk.map wh.name))(T:n<b.zE.length):zz Crex f111 [.nil,.agg b.V,int n,wq true]=some (int (Bz b n)):=by
 refine zo rfl ?_;have hL:=qJ xa b.zk;have hH:=qJ JF b.holds;have hX:=qJ ZG b.zE;have Om:b.cb=wg wh.cb b.zk+wg yI.cb b.holds+wg Xp.cb b.zE:=rfl;have d:=I9 T;obtain⟨x,hx⟩:∃x,b.zE[n]=x:=⟨_,rfl⟩;have U:=yg (f:=Xp.cb) (zm T);rw[hx]at d U;have Tn:x.cb=x.name.length+x.qi.length+x.flag.length+x.cond.cb+x.qI.length+x.jX.length+wg wc.cb x.zs:=rfl;have r:=fun Y Z=>XU (fun b s=>QM (jS s b.zk)) b x.qi Y Z S
 have D:=fun Y Z=>RT (fun b n=>.sl 1 (qd (kx b n))) b n Y Z ⟨S,by omega⟩
 have W:(kx b n).length≤zG:=by unfold kx;simp;omega
 have z:=fun Y Z=>Em (fun l v=>wq (decide (v∈l))) (kx b n) x.qI Y Z W
 simp only[Bk.V]at r D;unfold zG at S;have t:=fun Y Z=>oh (fun a b c=>int (ZI a b c)) x.name (Yf b.zE n) (decide (n=0)) Y Z (by unfold zG;omega) rfl
 have X:ZI x.name (Yf b.zE n) (decide (n=0))=kb x.name (Yf b.zE n):=by
  rw[XV];by_cases N:n=0
  ·subst N;simp[Yf]
  ·simp[N]
 simp only[X]at t;have A:x.flag.length≤zG:=by unfold zG;omega
 have F:x.qI.length≤zG:=by unfold zG;omega
 have B:=fun Y Z=>Wu (fun c=>int c.check) x.cond Y Z (by unfold zG;omega)
 have L:=fun Y Z=>DJ (fun l n=>int (vo l n)) (fun _ n=>1≤n∧n≤20) x.jX 20 Y Z ⟨by omega,by omega⟩
 have hph:=fun Y Z=>DP (fun l=>int (je l)) x.zs Y Z (by unfold zG;omega)
 simp only[yU]at B;have y:((n:Int)==0)=decide (n=0):=by rw[qA];simp
 refine xw (fun e=>e.σ 0=.nil∧e.σ 2=int n∧e.σ 3=wq true∧e.σ 5=.ref 0 0 0∧e.Y 0=some ⟨26,3,false,[b.V]⟩∧e.Z=1) (by simp[Bk.V]) ?_;rintro⟨K,Y,Z⟩ ⟨k,m,o,p,h,i⟩;simp only at k m o p h i;subst i;have C:=h;simp only[Bk.V]at C;refine xw (fun e=>e.σ 0=.nil∧e.σ 2=int n∧e.σ 3=wq true∧e.σ 5=.ref 0 0 0∧e.Y 0=some ⟨26,3,false,[b.V]⟩∧e.Z=2∧e.σ 9=.ref 1 0 0∧e.Y 1=some ⟨34,13,false,[x.V]⟩) (by simp[k,m,o,p,C,T,hx,zZ,Bk.V]) ?_;clear k m o p h C K Y;rintro⟨K,Y,Z⟩ ⟨k,m,o,p,h,i,w,u⟩;simp only at k m o p h i w u;subst i;refine xw (fun e=>e.σ 0=.nil∧e.σ 2=int n∧e.σ 3=wq true∧e.σ 5=.ref 0 0 0∧e.Y 0=some ⟨26,3,false,[b.V]⟩∧e.Z=2∧e.σ 9=.ref 1 0 0∧e.Y 1=some ⟨34,13,false,[x.V]⟩∧e.σ 10=str []) (by simp[k,m,o,p,h,w,u]) ?_;clear k m o p h w u K Y;rintro⟨K,Y,Z⟩ ⟨k,m,o,p,h,i,w,u,g⟩;simp only at k m o p h i w u g;subst i;refine xw (fun e=>e.σ 0=.nil∧e.σ 2=int n∧e.σ 3=wq true∧e.σ 5=.ref 0 0 0∧e.Y 0=some ⟨26,3,false,[b.V]⟩∧e.Z=2∧e.σ 9=.ref 1 0 0∧e.Y 1=some ⟨34,13,false,[x.V]⟩∧e.σ 10=str (Yf b.zE n)) ?_ ?_
 ·have C:=h;simp only[Bk.V]at C;by_cases N:n=0
  ·subst N;simp[k,m,o,p,h,w,u,g,Yf]
  ·obtain⟨j,rfl⟩:∃j,n=j+1:=⟨n-1,by omega⟩;have hj:j<b.zE.length:=by omega
   have wj:i6.wrap ((j:Int)+1-1)=(j:Int):=by rw[zn (by omega) (by omega)];omega
   have wj':i6.wrap (j:Int)=(j:Int):=zn (by omega) (by omega);have j2:0<(j:Int)+1:=by omega
   have H:=oZ hj;simp[k,m,o,p,C,w,u,g,j2,wj,wj',hj,H,zZ,Bk.V]
 clear k m o p h w u g K Y;rintro⟨K,Y,Z⟩ ⟨k,m,o,p,h,i,w,u,g⟩;simp only at k m o p h i w u g;subst i;simp only[Bk.V]at h;simp only[zZ]at u;obtain⟨P,H⟩:∃P,Yf b.zE n=P:=⟨_,rfl⟩;rw[H]at g t d;obtain⟨l,hl⟩:∃l,kx b n=l:=⟨_,rfl⟩;rw[hl]at D z d;unfold Z9 at d;by_cases E:kb x.name P=0
 case neg=>
  rw[zj E]at d;have H9:(kb x.name P != 0)=true:=by simpa using E
  simp[k,m,o,p,h,w,u,g,y,t,H9,d,f111]
 rw[zf E]at d;rcases ej hu x.qi with⟨f1,q,hq,_,f2⟩|⟨f1,f2⟩
 case inr=>rw[f1,zj (by simp)]at d;simp only[f2,ou]at r;simp[k,m,o,p,h,w,u,g,y,t,E,r,d,f111]
 rw[f1,zf rfl]at d;simp only[f2,cy]at r;cases G:yn x.flag
 ·rw[G,zj (by simp)]at d;simp[k,m,o,p,h,w,u,g,y,t,E,r,A,G,d,f111]
 rw[G,zf rfl]at d;by_cases I:x.cond.check=0
 case neg=>
  rw[zj I]at d;have c4':(x.cond.check != 0)=true:=by simpa using I
  simp[k,m,o,p,h,w,u,g,y,t,E,r,A,G,B,c4',d,f111]
 rw[zf I]at d;cases J:zlR x.qI
 ·have M:jJ l x.qI=3:=by simp[jJ,J]
  rw[M]at d;simp at d;simp[k,m,o,p,h,w,u,g,y,t,E,r,A,G,B,I,F,J,d,f111]
 by_cases Q:x.qI∈l
 ·have M:jJ l x.qI=7:=by simp[jJ,J,Q]
  rw[M]at d;simp at d;rw[xE Q]at z;simp[k,m,o,p,h,w,u,g,y,t,E,r,A,G,B,I,F,J,D,z,d,f111]
 have M:jJ l x.qI=0:=by simp[jJ,J,Q]
 rw[zf M]at d;rw[Ze Q]at z;by_cases R:vo x.jX 20=0
 case neg=>
  rw[zj R]at d;have c6':(vo x.jX 20 != 0)=true:=by simpa using R
  simp[k,m,o,p,h,w,u,g,y,t,E,r,A,G,B,I,F,J,D,z,L,c6',d,f111]
 rw[zf R]at d;simp[k,m,o,p,h,w,u,g,y,t,E,r,A,G,B,I,F,J,D,z,L,R,hph,d,f111]
theorem HT:zg prog 111 (zi false [] FEx):=
 qq (fn:=f111) zbp ⟨_,func111,by kernel_rfl,rfl,by kernel_rfl⟩ false [] _ fun args r h=>by obtain⟨⟨b,n⟩,rfl,⟨⟨a,c⟩,d⟩,rfl⟩:=zr h;exact⟨by simp[f111],_,NH b n a c d,qm _⟩
def SB(x:Xp)(a:Int)(y:Xp):Bool:=decide (y.qi=x.qi)&&(Qb y x a||Qb x y a)
theorem SC{b:Bk}(e:(ym [] [] b.zk).1=0)(a:∀y∈b.zE,je y.zs=0∧(vd (b.zk.map wh.name) y.qi).2=true){x y:Xp}(c:x∈b.zE)(d:y∈b.zE):dW x (kG b.zk x.qi) y=SB x (kG b.zk x.qi) y:=by
 have f:0≤kG b.zk x.qi:=by
  unfold kG;split
  ·rename_i z g;exact(KJ e z (zO g)).1
  ·omega
 unfold dW SB;rw[Hv f (Wj (a x c).1) (Wj (a y d).1) (jO (a x c).1) (jO (a y d).1)]
noncomputable def FBo:zc→Option O:=qv (α:=Bk) (fun b=>[.nil,.agg b.V,wq true]) (fun b=>b.cb≤zG) (fun b=>int (qQ b))
theorem SD(b:Bk)(Y:Hp)(Z:Nat)(h:b.cb≤zG):zi false [] FBo [.nil,.agg b.V,wq true] Y Z=some (int (qQ b),Y,Z):=
 qe (Y1:=Y) (show zA Y [.nil,.agg b.V,wq true]=some ([.nil,.agg b.V,wq true],Y) by
  have c:qf Y .nil=some (.nil,Y):=rfl;simp only[zA,c,jW];rfl) (zJ (V:=fun b:Bk=>[O.nil,.agg b.V,wq true]) (a:=b) (fun x y e=>by
  simp only[zh,zK,ab,O.agg.injEq]at e;exact vk e) h) (.inl rfl)
noncomputable abbrev Crbk:Ctx:=qb prog [(109,zi false [] (FLys fun l=>int (ym [] [] l).1)),(110,zi false [] (FBu fun b=>int (jA b.zk [] (b.zk.map wh.qI) b.holds).1)),(111,zi false [] FEx),(28,zi false [] (M1 fun b s=>QM (jS s b.zk))),(112,zi false [] FClR)]
theorem zbq:AM.Good Crbk (fun g=>([]:List Nat).contains g):=zI mixed ⟨ry,by simp,A0,by simp,HT,by simp,QN,by simp,A2,by simp,trivial⟩
theorem E2{α:Type}{f g:α→Bool}:∀{l:List α},(∀y∈l,f y=g y)→l.any f=l.any g
 |[],_=>rfl
 |x::l,h=>by rw[yy,yy,h x (by simp),E2 fun y a=>h y (by simp[a])]
theorem HU(b:Bk)(hb:b.cb≤zG):zz Crbk f70 [.nil,.agg b.V,wq true]=some (int (qQ b)):=by
 refine zo rfl ?_;have hL:=qJ xa b.zk;have hH:=qJ JF b.holds;have hX:=qJ ZG b.zE;have Om:b.cb=wg wh.cb b.zk+wg yI.cb b.holds+wg Xp.cb b.zE:=rfl;have L:=fun Y Z=>Nb (fun l=>int (ym [] [] l).1) b.zk Y Z (by omega)
 by_cases a1:(20:Int)<b.zk.length
 ·have hv:qQ b=2:=by unfold qQ;rw[zf (.inl a1)]
  simp[Bk.V,a1,hv,f70]
 by_cases a2:(10:Int)<b.holds.length
 ·have hv:qQ b=2:=by unfold qQ;rw[zf (.inr (.inl a2))]
  simp[Bk.V,a1,a2,hv,f70]
 by_cases a3:(100:Int)<b.zE.length
 ·have hv:qQ b=2:=by unfold qQ;rw[zf (.inr (.inr a3))]
  simp[Bk.V,a1,a2,a3,hv,f70]
 have a:qQ b=if(ym [] [] b.zk).1=0 then
   (if(jA b.zk [] (ym [] [] b.zk).2 b.holds).1=0 then
    (if(Qj b.zk [] (jA b.zk [] (ym [] [] b.zk).2 b.holds).2 b.zE).1=0 then(if V6 b.zk b.zE 0 b.zE=true then 13 else 0)
     else(Qj b.zk [] (jA b.zk [] (ym [] [] b.zk).2 b.holds).2 b.zE).1)
    else(jA b.zk [] (ym [] [] b.zk).2 b.holds).1)
  else(ym [] [] b.zk).1:=by unfold qQ;rw[zj (by omega)]
 by_cases c1:(ym [] [] b.zk).1=0
 case neg=>
  rw[zj c1]at a;have H9:((ym [] [] b.zk).1 != 0)=true:=by simpa using c1
  simp[Bk.V,a1,a2,a3,L,H9,a,f70]
 obtain⟨_,hu,N5⟩:=gf c1;rw[wN]at N5;rw[zf c1,N5]at a;rw[c1]at L;have hho:=fun Y Z=>RV (fun b=>int (jA b.zk [] (b.zk.map wh.qI) b.holds).1) b Y Z hb hu
 have A:=hho;simp only[Bk.V]at A;by_cases c2:(jA b.zk [] (b.zk.map wh.qI) b.holds).1=0
 case neg=>
  rw[zj c2]at a;have c2':((jA b.zk [] (b.zk.map wh.qI) b.holds).1 != 0)=true:=by simpa using c2
  simp[Bk.V,a1,a2,a3,L,A,c2',a,f70]
 have hsh:=IL c2;rw[zf c2]at a;rw[c2]at A;have hs0:(jA b.zk [] (b.zk.map wh.qI) b.holds).2=kx b 0:=by rw[hsh];simp[kx]
 rw[hs0]at a;have hex:=fun k hk Y Z=>SA b k Y Z hb hu hk
 simp only[Bk.V]at hex;simp[Bk.V,a1,a2,a3,L,A];refine zQ (fun k e Y Z=>e 0=.nil∧e 2=wq true∧e 4=.ref 0 0 0∧e 45=.sl 13 (b.zE.map Xp.V)∧e 46=int b.zE.length∧e 47=int k∧1≤Z∧Y 0=some ⟨26,3,false,[b.V]⟩∧(Qj b.zk [] (kx b 0) b.zE).1=(Qj b.zk (Yf b.zE k) (kx b k) (b.zE.drop k)).1) b.zE.length
  ⟨by simp,by simp,by simp,by simp,by simp,by simp,by simp,by simp[Bk.V],by simp[Yf]⟩ ?_
 rintro k e Y Z hk ⟨h0,h2,w,M,N,Q,C,J,R⟩;have c:=J;simp only[Bk.V]at c;by_cases t:k<b.zE.length
 ·have hw:i6.wrap ((k:Int)+1)=(k:Int)+1:=zn (by omega) (by omega);have X:=hex k t;rw[NG t]at R;by_cases S:Bz b k=0
  ·rw[zf S]at R;simp[h0,h2,w,M,N,Q,t,c,X,S,hw];exact⟨by omega,C,rfl,R⟩
  ·rw[zj S]at R;have hz':(Bz b k != 0)=true:=by simpa using S
   rw[R,zj S]at a;simp[h0,h2,w,M,N,Q,t,c,X,hz',a,f70]
 obtain rfl:k=b.zE.length:=by omega
 rw[zl]at R;simp only[Qj]at R;rw[R,zf rfl]at a;have hok:=lN R;have T:∀x∈b.zE,x.rX:=fun x hx=>⟨Wj (hok x hx).1,by have:=yg (f:=Xp.cb) hx;omega⟩
 have TI:=fun s Y Z=>XU (fun b s=>QM (jS s b.zk)) b s Y Z hb
 simp only[Bk.V]at TI;simp[h0,h2,w,M,N,Q,c];refine zQ (fun i e Y Z=>e 4=.ref 0 0 0∧e 60=.sl 13 (b.zE.map Xp.V)∧e 61=int b.zE.length∧e 62=int i∧1≤Z∧Y 0=some ⟨26,3,false,[b.V]⟩∧V6 b.zk b.zE 0 b.zE=V6 b.zk b.zE i (b.zE.drop i)) b.zE.length
  ⟨by simp[w],by simp,by simp,by simp,C,J,by simp⟩ ?_
 clear h0 h2 w M N Q C J c hk t e Y Z;rintro i e Y Z hi ⟨w,m,n,o,C,J,p⟩;have c:=J;simp only[Bk.V]at c;by_cases t:i<b.zE.length
 ·obtain⟨x,hx⟩:∃x,b.zE[i]=x:=⟨_,rfl⟩;have U:x∈b.zE:=by rw[←hx];exact zm t
  have hw:i6.wrap ((i:Int)+1)=(i:Int)+1:=zn (by omega) (by omega);rw[zd t,hx,V6,E2 (g:=SB x (kG b.zk x.qi)) fun y K=>SC c1 hok U (xG K)]at p;obtain⟨f1,q,hq,f3,f2⟩:(vd (b.zk.map wh.name) x.qi).2=true∧∃j,∃hj:j<b.zk.length,(vd (b.zk.map wh.name) x.qi).1=j∧jS x.qi b.zk=some b.zk[j]:=by
   rcases ej hu x.qi with h|⟨h,_⟩
   ·exact h
   ·rw[(hok x U).2]at h;cases h
  obtain⟨z,S⟩:∃z,b.zk[q]=z:=⟨_,rfl⟩;have hzr:=KJ c1 z (by rw[←S];exact zm hq);have zie:kG b.zk x.qi=z.rest:=by unfold kG;rw[f3,zu hq,S]
  rw[S]at f2;rw[zie]at p;have u:=fun Y Z=>TI x.qi Y Z
  simp only[f2,cy]at u;obtain⟨es,hes⟩:∃es,b.zE.take i=es:=⟨_,rfl⟩;have hesl:es.length=i:=by rw[←hes];simp;omega
  have hesm:∀y∈es,y∈b.zE:=fun y K=>xG (by rw[hes];exact K)
  have hsx:=fun Y=>slX Y b.zE i (by omega)
  rw[hes]at p hsx;have n0:¬0=Z:=by omega
  obtain⟨P,hP⟩:∃P,Z=P:=⟨_,rfl⟩;simp[w,m,n,o,t,hx,zZ,c,n0,hsx,hesl];rw[hP];refine zQ (fun k e Y Z=>e 4=.ref 0 0 0∧e 60=.sl 13 (b.zE.map Xp.V)∧e 61=int b.zE.length∧e 62=int i∧e 12=.ref P 0 0∧e 70=.sl 13 (es.map Xp.V)∧e 71=int i∧e 72=int k∧P<Z∧Y 0=some ⟨26,3,false,[b.V]⟩∧Y P=some ⟨34,13,false,[x.V]⟩∧V6 b.zk b.zE 0 b.zE=((es.drop k).any (SB x z.rest)||V6 b.zk b.zE (i+1) (b.zE.drop (i+1)))) i
   ⟨by simp[w],by simp[m],by simp[n],by simp[o],by simp,by simp,by simp,by simp,(by show P<P+1;omega),by simp[show¬0=P by omega,J],by simp[zZ],by simpa using p⟩ ?_
  clear w m n o J c p n0 hi hP C e Y Z;rintro k e Y Z hk ⟨w,m,n,o,D,E,F,G,hPn,J,bP,p⟩;have n0:¬0=Z:=by omega
  have nP:¬P=Z:=by omega
  have W:¬P=Z+1:=by omega
  have c:=J;simp only[Bk.V]at c;have H:=bP;simp only[zZ]at H;by_cases B:k<i
  ·have d:k<es.length:=by omega
   obtain⟨y,K⟩:∃y,es[k]=y:=⟨_,rfl⟩;have hym:y∈b.zE:=hesm y (by rw[←K];exact zm d);have hwk:i6.wrap ((k:Int)+1)=(k:Int)+1:=zn (by omega) (by omega);rw[zd d,yy,K]at p;have r:=fun Y Z=>tN y x z.rest Y Z ⟨T y hym,T x U,hzr⟩
   have v:=fun Y Z=>tN x y z.rest Y Z ⟨T x U,T y hym,hzr⟩
   simp only[zZ]at r v;have hd:SB x z.rest y=(decide (y.qi=x.qi)&&(Qb y x z.rest||Qb x y z.rest)):=rfl;by_cases hl:y.qi=x.qi
   ·rw[xE hl,yZ]at hd;have I:(y.qi==x.qi)=true:=by simpa using hl
    cases k1:Qb y x z.rest
    ·rw[k1]at r hd;cases k2:Qb x y z.rest
     ·rw[k2]at v hd;rw[hd]at p;simp[w,m,n,o,D,E,F,G,B,d,K,zZ,c,H,n0,nP,W,u,I,r,v,hwk];exact⟨by omega,by omega,rfl,by simpa using p⟩
     ·rw[k2]at v hd;rw[hd]at p;rw[p]at a;simp at a;simp[w,m,n,o,D,E,F,G,B,d,K,zZ,c,H,n0,nP,W,u,I,r,v,a,f70]
    ·rw[k1]at r hd;rw[hd]at p;rw[p]at a;simp at a;simp[w,m,n,o,D,E,F,G,B,d,K,zZ,c,H,n0,nP,W,u,I,r,a,f70]
   ·rw[Ze hl,kM]at hd;have I:(y.qi==x.qi)=false:=by simpa using hl
    rw[hd,jo]at p;simp[w,m,n,o,D,E,F,G,B,d,K,zZ,c,H,n0,nP,W,u,I,hwk];exact⟨by omega,by omega,rfl,p⟩
  ·obtain rfl:k=i:=by omega
   rw[vJ (by omega),List.any_nil,jo]at p;simp[w,m,n,o,D,E,F,G,hw];exact⟨by omega,by omega,J,p⟩
 ·obtain rfl:i=b.zE.length:=by omega
  rw[zl]at p;simp only[V6]at p;rw[p]at a;simp at a;simp[w,m,n,o,a,f70]
theorem iB:zg prog 70 (zi false [] FBo):=
 qq (fn:=f70) zbq ⟨_,func70,by kernel_rfl,rfl,by kernel_rfl⟩ false [] _ fun args r h=>by obtain⟨b,rfl,a,rfl⟩:=zr h;exact⟨by simp[f70],_,HU b a,qm _⟩
noncomputable abbrev Crcb:Ctx:=qb prog [(70,zi false [] FBo)]
theorem E3(b:Bk)(h:b.cb≤zG):zz Crcb f27 [.agg b.V]=some (int (qQ b)):=by
 refine zo rfl ?_;have a:=fun Y Z=>SD b Y Z h
 simp only[Bk.V]at a;simp[Bk.V,a,f27]
theorem ua:zg prog 27 (zi false [] (pF fun b=>int (qQ b))):=
 qq (fn:=f27) (zI (q:=[]) mixed ⟨iB,by simp,trivial⟩:AM.Good Crcb _) ⟨_,func27,by kernel_rfl,rfl,by kernel_rfl⟩ false [] _ fun args r h=>by obtain⟨b,rfl,a,rfl⟩:=zr h;exact⟨by simp[f27],_,E3 b a,qm _⟩
noncomputable abbrev HV:Ctx:=Wo prog [(65,ec (Wn 34 13)),(72,Wn 54 2)] (fun|5=>[1,14]|_=>[]) [65,72]
theorem zbr:AM.Good HV (fun g=>([]:List Nat).contains g):=XR mixed ⟨hZ nZ,by simp,ib,by simp,trivial⟩ ⟨fun _=>tw (Y5 _ _),fun _=>Y5 _ _,trivial⟩
theorem eH:zg prog 33 (wP HV f33):=wZ (code:=_) zbr ⟨func33,by kernel_rfl,rfl,by kernel_rfl⟩
theorem o0(b:Bk)(y:O)(hy:vw 13 (b.zE.map Xp.V) y)(hbl:b.cb≤zG)(Y0:Hp)(Z0:Nat) :
  ∃r Y' D,wP HV f33 [J5 b y] Y0 Z0=some (r,Y',D)∧Z0≤D∧oa Y' Z0 D b r∧∀j,j<Z0→Y' j=Y0 j:=by
 have Om:b.cb=wg wh.cb b.zk+wg yI.cb b.holds+wg Xp.cb b.zE:=rfl;have TR:=qJ ZG b.zE;have TS:zG=2097152:=rfl;unfold wP;rw[zf (by simp[f33])];refine zT (R:=fun r Y' D=>Z0≤D∧oa Y' Z0 D b r∧∀j,j<Z0→Y' j=Y0 j) rfl ?_;refine QK (fun c Y Z=>c 1=.ref Z0 0 0∧c 2=.ref (Z0+1) 0 0∧c 14=.yb []∧Y Z0=some ⟨26,3,false,[[.sl 3 (b.zk.map wh.V),.sl 4 (b.holds.map yI.V),y]]⟩∧(∃z,Y (Z0+1)=some ⟨26,3,false,[z]⟩∧z.length=3)∧Z=Z0+2∧∀j,j<Z0→Y j=Y0 j) ?_ ?_
 ·simp[J5,hy.cell];exact fun j l=>by rw[zw _ _ _ _ (by omega),zw _ _ _ _ (by omega)]
 rintro c Y Z ⟨E,F,W,P,⟨z,hc,hz⟩,rfl,X⟩;obtain⟨z0,z1,z2,rfl⟩:=tx z hz;obtain⟨rx,q,m,x1,x2,x3,x4⟩:=Ec (e:=34) hy Y (Z0+2) (by rw[qO];omega);have hbx:q Z0=some ⟨26,3,false,[[.sl 3 (b.zk.map wh.V),.sl 4 (b.holds.map yI.V),y]]⟩:=by rw[x4 Z0 (by omega)];exact P
 have hcx:q (Z0+1)=some ⟨26,3,false,[[z0,z1,z2]]⟩:=by rw[x4 _ (by omega)];exact hc
 have B:rx.wY=true:=by rcases x3 with⟨_,rfl⟩|⟨rfl,_⟩<;>rfl
 have w:Qr prog 24 rx=some (int b.zE.length):=by
  rcases x3 with⟨h0,rfl⟩|⟨rfl,_⟩
  ·simp at h0;simp[h0]
  ·simp
 obtain⟨d,hN⟩:∃h,qZ q Z0 (some (⟨26,3,false,[[.sl 3 (b.zk.map wh.V),.sl 4 (b.holds.map yI.V),rx]]⟩:jz))=h:=⟨_,rfl⟩;have s:d Z0=some ⟨26,3,false,[[.sl 3 (b.zk.map wh.V),.sl 4 (b.holds.map yI.V),rx]]⟩:=by rw[←hN,jd]
 have C:∀j,j≠Z0→d j=q j:=fun j l=>by rw[←hN,zw _ _ _ _ l]
 have H:d (Z0+1)=some ⟨26,3,false,[[z0,z1,z2]]⟩:=by rw[C _ (by omega)];exact hcx
 have I:∀j,j<Z0→d j=Y0 j:=fun j l=>by rw[C j (by omega),x4 j (by omega),X j l]
 simp[E,F,P,x1,hbx,B,J4 B,w,hN,s];rcases x3 with⟨t,rfl⟩|⟨rfl,x3a,x3b⟩
 ·have t:b.zE=[]:=by simpa using t
  refine zQ (fun k c Y Z=>c 1=.ref Z0 0 0∧c 2=.ref (Z0+1) 0 0∧c 10=int 0∧c 11=int 0∧Y=d∧Z=m) 0 ⟨by simp[E],by simp[F],by simp[t],by simp,rfl,rfl⟩ ?_;rintro k c Y Z hk ⟨G,J,n,o,rfl,rfl⟩;simp[G,J,n,o,s,H,f33];exact⟨by omega,⟨Z0,.sl 3 (b.zk.map wh.V),.sl 4 (b.holds.map yI.V),.nil,rfl,by omega,by omega,.inl rfl,.inl rfl,.inl ⟨t,rfl⟩⟩,fun j l=>by rw[zw _ _ _ _ (by omega),I j l]⟩
 ·simp only[qO]at w s B;have hxb:d (Z0+2)=some ⟨34,13,false,b.zE.map Xp.V⟩:=by rw[C _ (by omega)];exact x3b
  refine zQ (fun k c Y Z=>c 1=.ref Z0 0 0∧c 2=.ref (Z0+1) 0 0∧c 10=int b.zE.length∧c 11=int k∧m≤Z∧(∀j,j<m→j≠Z0+2→Y j=d j)∧kZ [14] ⟨c,Y,Z⟩∧∃a,Y (Z0+2)=some ⟨34,13,false,a++(b.zE.drop k).map Xp.V⟩∧Qm Y m Z (b.zE.take k) a) b.zE.length
   ⟨by simp[E],by simp[F],by simp,by simp,ze _,fun _ _ _=>rfl,kj (by simp;exact W) (kH _),[],by simpa using hxb,ze _,rfl⟩ ?_
  rintro k c Y Z hk ⟨G,J,n,o,mnx,u,mR,a,K,Q⟩;have S:Y Z0=some ⟨26,3,false,[[.sl 3 (b.zk.map wh.V),.sl 4 (b.holds.map yI.V),.own (Z0+2) 0 b.zE.length]]⟩:=by rw[u _ (by omega) (by omega)];exact s
  have pc:Y (Z0+1)=some ⟨26,3,false,[[z0,z1,z2]]⟩:=by rw[u _ (by omega) (by omega)];exact H
  have p:=Q.len;rw[yM,rV hk]at p;by_cases g:k<b.zE.length
  ·obtain⟨x,hx⟩:∃x,b.zE[k]=x:=⟨_,rfl⟩;have hxm:x∈b.zE:=by rw[←hx];exact zm g
   have Tn:=yg (f:=Xp.cb) hxm;have hxe:x.cb=x.name.length+x.qi.length+x.flag.length+x.cond.cb+x.qI.length+x.jX.length+wg wc.cb x.zs:=rfl;have hxpl:=qJ vG x.zs;have hw:i6.wrap ((k:Int)+1)=(k:Int)+1:=zn (by omega) (by omega);obtain⟨es,v⟩:∃es,a++(b.zE.drop k).map Xp.V=es:=⟨_,rfl⟩;rw[v]at K;rw[zd g,hx,qF]at v;have A:es[k]?=some x.V:=by rw[←v,qg (by omega),p,Nat.sub_self];rfl
   obtain⟨T,Y2,d1,d2,U⟩:=Y4 54 2 (x.zs.map wc.V) Y Z (by simp;omega);have L:=d2.cell;have be:Y2 (Z0+2)=some ⟨34,13,false,es⟩:=by rw[U _ (by omega)];exact K
   have bb:Y2 Z0=some ⟨26,3,false,[[.sl 3 (b.zk.map wh.V),.sl 4 (b.holds.map yI.V),.own (Z0+2) 0 b.zE.length]]⟩:=by rw[U _ (by omega)];exact S
   have M:es.set k [str x.name,str x.qi,str x.flag,int x.cond.kind,str x.cond.attr,int x.cond.op,.sl 5 (x.cond.yY.map qE.V),str x.cond.pat,str x.cond.name,.sl 7 (x.cond.args.map wV.V),str x.qI,.sl 3 (x.jX.map xv),T]=(a++[[str x.name,str x.qi,str x.flag]++x.cond.V++[str x.qI,.sl 3 (x.jX.map xv),T]])++(b.zE.drop (k+1)).map Xp.V:=by rw[←v,zeN _ _ (by omega),p,Nat.sub_self,yU];simp
   rw[zZ]at A;simp[G,J,n,o,g];rw[kh (ki (id:=Z0) (i:=0) (j:=0) (by simp[G]) (by simp;omega) (by simp;exact S) rfl (mR.ZC ⟨ze _,fun id blk hid P _=>P⟩ (by simp)))];simp[G,J,n,o,g,S,K,A,d1,L,J4 L,be,M,hw];refine⟨g,by omega,fun j l N=>?_,?_,a++[[str x.name,str x.qi,str x.flag]++x.cond.V++[str x.qI,.sl 3 (x.jX.map xv),T]],by simp,?_⟩
   ·rw[zw _ _ _ _ N,U j (by omega)];exact u j l N
   ·exact ki (id:=Z0) (i:=0) (j:=2) (by simp) (by simp only;omega) (by simp only;rw[zw _ _ _ _ (by omega)];exact bb) rfl (kH _)
   ·rw[qx g,hx];refine Qm.snoc (Q.same fun j E F=>?_) (ja _) ⟨Z,.sl 3 (x.jX.map xv),T,rfl,ze _,ja _,.inl rfl,d2.same (ze _) (ze _) fun j E F=>?_⟩
    ·rw[zw _ _ _ _ (by omega),U j (by omega)]
    ·rw[zw _ _ _ _ (by omega)]
  ·obtain rfl:k=b.zE.length:=by omega
   rw[zl,kp,yh]at K;rw[yk]at Q;simp[G,J,n,o,S,pc,f33];obtain⟨hpE,hE⟩:∃h,qZ Y (Z0+1) (some (⟨26,3,false,[[.sl 3 (b.zk.map wh.V),.sl 4 (b.holds.map yI.V),.own (Z0+2) 0 b.zE.length]]⟩:jz))=h:=⟨_,rfl⟩;have eo:∀j,j≠Z0+1→hpE j=Y j:=fun j l=>by rw[←hE,zw _ _ _ _ l]
   rw[hE];exact⟨by omega,⟨Z0,.sl 3 (b.zk.map wh.V),.sl 4 (b.holds.map yI.V),_,rfl,by omega,by omega,.inl rfl,.inl rfl,.inr ⟨a,m,rfl,by omega,by rw[eo _ (by omega)];exact K,Q.same fun j E F=>eo j (by omega)⟩⟩,fun j l=>by rw[eo j (by omega),u j (by omega) (by omega),I j l]⟩
theorem rO:zg prog 33 (XQ (wP HV f33)):=ia eH
theorem E4(b:Bk)(y:O)(d:vw 13 (b.zE.map Xp.V) y)(a:b.cb≤zG)(Y0:Hp)(Z0:Nat) :
  ∃r Y' c,XQ (wP HV f33) [J5 b y] Y0 Z0=some (r,Y',c)∧Z0≤c∧Hn Y' Z0 c b r∧∀j,j<Z0→Y' j=Y0 j:=tz (o0 b y d a Y0 Z0)
noncomputable abbrev Crck:Ctx:=qb prog [(27,zi false [] (pF fun b=>int (qQ b)))]
theorem zbs:AM.Good Crck (fun g=>([]:List Nat).contains g):=zI mixed ⟨ua,by simp,trivial⟩
theorem BA(b:Bk)(h:b.cb≤zG):∃f,zz Crck f36 [.agg b.V]=some f∧qM f (yX (yD b)):=by
 refine yv rfl ?_;have a:=fun Y Z=>XJ (fun b=>int (qQ b)) b Y Z h
 simp only[Bk.V]at a;by_cases c:qQ b=0
 ·have d:yD b=(b,0):=by unfold yD;rw[zf c]
  rw[d];simp[Bk.V,a,c,f36];exact⟨yX (b,0),by simp[yX,Bk.V],.refl _⟩
 ·have d:yD b=(wJ,qQ b):=by unfold yD;rw[zj c]
  have e:(qQ b != 0)=true:=by simpa using c
  rw[d];simp[Bk.V,a,e,zR,qc,f36];exact⟨_,by simp,qy _⟩
theorem rP:zg prog 36 (zi false [] (pF fun b=>yX (yD b))):=
 jD (fn:=f36) zbs ⟨_,func36,by kernel_rfl,rfl,by kernel_rfl⟩ false [] _ fun args r h w S vs a=>by obtain⟨b,rfl,c,rfl⟩:=zr h;obtain⟨d,e,f⟩:=BA b c;exact⟨_,d,a,by simp[f36],e,f⟩
theorem X9:zg prog 36 (bH (zi false [] (pF fun b=>yX (yD b)))):=zlX rP
end Go.Q
namespace Go.Q
open Go.RowKit Go.Lib Go.AM
attribute [local go_sem] Oper.semAt_some
theorem HW(w:World)(g vb n i cap vc:Nat)(cur vcur:Array Value)(tv:TypeId)(hi:i<n)(hroom:n+1≤cap)(hc63:cap≤9223372036854775807)(hne:g≠vb)(hv1:1≤vc)
  (hg:w.heap[g]?=some (.cells cur 34 (0,0))) (hcs:cur.size=cap*13) (hv:w.heap[vb]?=some (.cells vcur tv (0,0))) (hvs:vcur.size=vc*13)
  (h1c:∀j v,j<n*13→cur[j]?=some v→v.oneCell'=true) (h1v:∀j v,j<13→vcur[j]?=some v→v.oneCell'=true) :
  Calls prog 35 #[.slice (some ⟨g,0,none⟩) n cap,.int .i64 i,.slice (some ⟨vb,0,none⟩) 1 vc] w fun e w'=>
   e=.returned (.slice (some ⟨g,0,none⟩) (n+1) cap)∧w'.heap[g]?=some (.cells (yG (yG cur.toList ((i+1)*13) ((cur.toList.take (n*13)).drop (i*13))) (i*13) (vcur.toList.take 13)).toArray 34 (0,0))∧Fr True w (fun b=>b=g) w':=by
 have t3:=underlying3;have a3:=isAgg3;have z3:=sizeOf3;have v3:=zeroValue3;have t4:=underlying4;have a4:=isAgg4;have z4:=sizeOf4;have v4:=zeroValue4;have t24:=underlying24;have a24:=isAgg24;have z24:=sizeOf24;have v24:=zeroValue24;have t9:=underlying34;have a9:=isAgg34;have z9:=sizeOf34;have u3:=zP t3;have u4:=zP t4;have u24:=zP t24;have hz2:¬((i:Int)=(n:Int)):=by omega
 have hov:∀o lb cb,(callFunc 73 #[.slice (some ⟨vb,0,none⟩) 1 vc,.slice (some ⟨g,o,none⟩) lb cb]).run prog w=.ok (.value (.bool false)) w:=fun o lb cb=>by
  rw[run_callFunc_extern func73 (by kernel_rfl) (by kernel_rfl) (by kernel_rfl) (e:=Extern.SlicesOverlaps.overlaps #[24,24] #[4]) (by kernel_rfl),
   Lib.run_overlaps_apart w 24 4 34 t24 13 z9 ⟨vb,0,none⟩ ⟨g,o,none⟩ 1 vc lb cb (fun e=>hne e.symm) _ _ _ _ (aI hv) (aI hg) (by rw[hcs];omega) (eD hv 0) (eD hv _)]
  rfl
 have mixed:prog.follows .mixedOrders=true:=by kernel_rfl
 have hw1:i6.wrap ((i:Int)+1)=(i:Int)+1:=by rw[vI];omega
 have hw2:i6.wrap ((n:Int)+1)=(n:Int)+1:=by rw[vI];omega
 have hb1:(0:Int)≤(i:Int)+1:=by omega
 have hb5:(0:Int)≤(n:Int)+1:=by omega
 have hin:i≤n:=by omega
 have htn:((i:Int)+1).toNat=i+1:=by omega
 have htn2:((n:Int)+1).toNat=n+1:=by omega
 have hb2:¬(cap=i+1):=by omega
 have hb3:(i:Int)≤(n:Int)+1:=by omega
 have hb4:¬(cap=i):=by omega
 have hb6:¬((cap:Int)<(n:Int)+1):=by omega
 have hs5:q8 prog 34=some 13:=O9;obtain⟨cs,hcsd⟩:∃cs,(cur.toList.take (n*13)).drop (i*13)=cs:=⟨_,rfl⟩;obtain⟨vs,hvsd⟩:∃vs,vcur.toList.take 13=vs:=⟨_,rfl⟩;have hcl:cs.length=(n-i)*13:=by rw[←hcsd];simp;omega
 have hvl:vs.length=1*13:=by rw[←hvsd];simp;omega
 have hcget:∀j v,cs[j]?=some v→cur[i*13+j]?=some v∧i*13+j<n*13:=fun j v hj=>by
  rw[←hcsd,wF,qG]at hj;split at hj
  ·exact⟨by simpa using hj,by assumption⟩
  ·cases hj
 have hvget:∀j v,vs[j]?=some v→vcur[j]?=some v∧j<13:=fun j v hj=>by
  rw[←hvsd,qG]at hj;split at hj
  ·exact⟨by simpa using hj,by assumption⟩
  ·cases hj
 have hc1:∀v∈cs,v.oneCell'=true:=fun v hv=>by obtain⟨j,hj⟩:=xj.1 hv;obtain⟨a,b⟩:=hcget j v hj;exact h1c _ v b a
 have hv1':∀v∈vs,v.oneCell'=true:=fun v hv=>by obtain⟨j,hj⟩:=xj.1 hv;obtain⟨a,b⟩:=hvget j v hj;exact h1v _ v b a
 obtain⟨row1,hrow1⟩:∃row1,yG cur.toList ((i+1)*13) cs=row1:=⟨_,rfl⟩;have hr1l:row1.length=cap*13:=by rw[←hrow1,zlM (by rw[hcl,qT,hcs];omega),qT,hcs]
 have hcp1:∀ty dc sc,(Builtin.copy_ #[24,24] ty #[.slice (some ⟨g,(i+1)*13,none⟩) (n-i) dc,.slice (some ⟨g,i*13,none⟩) (n+1-i) sc]).run prog w.drew=.ok (goInt ((n-i:Nat):Int)) (w.drew.setRow g row1.toArray):=fun ty dc sc=>by
  rw[←hrow1];exact kW w.drew _ _ ty 34 13 (n-i) g ((i+1)*13) (n-i) dc ⟨g,i*13,none⟩ (n+1-i) sc cur 34 cs t24 hs5 hg (by simp only[pt];split<;>omega) hcl
   (fun j v hj=>by rw[jH];exact(ZU hg _).trans (hcget j v hj).1) (by rw[hcl,hcs];omega) hc1
 have hcp2:∀(W:World),W.heap[g]?=some (.cells row1.toArray 34 (0,0))→W.heap[vb]?=some (.cells vcur tv (0,0))→∀ty dc,(Builtin.copy_ #[24,24] ty #[.slice (some ⟨g,i*13,none⟩) (n+1-i) dc,.slice (some ⟨vb,0,none⟩) 1 vc]).run prog W=.ok (goInt ((1:Nat):Int)) (W.setRow g (yG row1 (i*13) vs).toArray):=fun W hWg hWv ty dc=>by
  have:=kW W 24 24 ty 34 13 1 g (i*13) (n+1-i) dc ⟨vb,0,none⟩ 1 vc row1.toArray 34 vs t24 hs5 hWg (by simp only[pt];split<;>omega) hvl
   (fun j v hj=>by rw[jH,wD];exact(ZU hWv _).trans (hvget j v hj).1) (by rw[hvl,yN,hr1l];omega) hv1'
  exact this
 have hWg:(w.drew.setRow g row1.toArray).heap[g]?=some (.cells row1.toArray 34 (0,0)):=iD _ _ _ _ _ _ hg;have hWv:(w.drew.setRow g row1.toArray).heap[vb]?=some (.cells vcur tv (0,0)):=(xx _ (fun e=>hne e.symm)).trans hv;have hfin:∀W,W=(w.drew.setRow g row1.toArray).setRow g (yG row1 (i*13) vs).toArray→W.heap[g]?=some (.cells (yG row1 (i*13) vs).toArray 34 (0,0))∧Fr True w (fun b=>b=g) W:=fun W e=>by subst e;refine⟨iD _ _ _ _ _ _ hWg,?_⟩;exact((Fr.drew w (fun b=>b=g)).trans (aJ w.drew g _) fun _ _ h=>h).trans (aJ _ g _) fun _ _ h=>h
 rw[hcsd,hvsd,hrow1];clear hcsd hvsd hcl hvl hcget hvget hc1 hv1' hrow1 hr1l
 go_enter func35,Tryz.ntmps35
 go_wp2_with (simp only[hov])
 go_region_law_o (refine step_copy_runI rfl _ _ 24 24 rfl _ _ (by simp[Act.eval,Act.put]) (by simp[Act.eval,Act.put]) (hcp1 _ _ _) ?_)
 go_wp2_with (at_builtin;refine wpList_copy_runI _ rfl _ _ 24 24 rfl _ _ rfl rfl (hcp2 _ hWg hWv _ _) ?_)
 go_ret
 exact⟨rfl,hfin _ rfl⟩
theorem NI(w:World)(g vb n i cap vc:Nat)(cur vcur:Array Value)(tv:TypeId)(hi:i<n)(hnc:n≤cap)(hroom:cap<n+1)(hbig:(n+1)*224≤140737488355328)(hv1:1≤vc)
  (hg:w.heap[g]?=some (.cells cur 34 (0,0))) (hcs:cur.size=cap*13) (hv:w.heap[vb]?=some (.cells vcur tv (0,0))) (hvs:vcur.size=vc*13)
  (h1c:∀j v,j<n*13→cur[j]?=some v→v.oneCell'=true) (h1v:∀j v,j<13→vcur[j]?=some v→v.oneCell'=true) :
  Calls prog 35 #[.slice (some ⟨g,0,none⟩) n cap,.int .i64 i,.slice (some ⟨vb,0,none⟩) 1 vc] w fun e w'=>
   ∃(G:Nat) (R:List Value),n+1≤G∧G≤maxLen∧R.length=G*13∧(∀j,j<i*13→R[j]?=(cur.toList.take (i*13))[j]?)∧e=.returned (.slice (some ⟨w.heap.size,0,none⟩) (n+1) G) ∧
    w'.heap[w.heap.size]?=some (.cells (yG (yG R (i*13) (vcur.toList.take 13)) ((i+1)*13) ((cur.toList.take (n*13)).drop (i*13))).toArray 34 (0,0))∧Fr True w (fun b=>b=w.heap.size) w':=by
 have t3:=underlying3;have a3:=isAgg3;have z3:=sizeOf3;have v3:=zeroValue3;have t4:=underlying4;have a4:=isAgg4;have z4:=sizeOf4;have v4:=zeroValue4;have t24:=underlying24;have a24:=isAgg24;have z24:=sizeOf24;have v24:=zeroValue24;have t9:=underlying34;have a9:=isAgg34;have z9:=sizeOf34;have u3:=zP t3;have u4:=zP t4;have u24:=zP t24;obtain⟨i0,z0,hi0,hz0,his,hib,hzc⟩:=EU (P:=prog) O9 by34 ze34 rfl;have hz2:¬((i:Int)=(n:Int)):=by omega
 have hz3:(cap:Int)<(n:Int)+1:=by omega
 have mixed:prog.follows .mixedOrders=true:=by kernel_rfl
 have hw1:i6.wrap ((i:Int)+1)=(i:Int)+1:=by rw[vI];omega
 have hw2:i6.wrap ((n:Int)+1)=(n:Int)+1:=by rw[vI];omega
 have hw3:i6.wrap ((n:Int)+1-i)=(n:Int)+1-i:=by rw[vI];omega
 have hb1:(0:Int)≤(i:Int)+1:=by omega
 have hin:i≤n:=by omega
 have htn:((i:Int)+1).toNat=i+1:=by omega
 have hkk:(n:Int)+1-(i:Int)=((n+1-i:Nat):Int):=by omega
 have hik:i+(n+1-i)=n+1:=by omega
 have hb3:(i:Int)≤(n:Int):=by omega
 have hbw:g<w.heap.size:=(qu.1 hg).1;have hvw:vb<w.heap.size:=(qu.1 hv).1;have hs5:q8 prog 34=some 13:=O9;obtain⟨olds,hod⟩:∃olds,cur.toList.take (i*13)=olds:=⟨_,rfl⟩;obtain⟨cs,hcsd⟩:∃cs,(cur.toList.take (n*13)).drop (i*13)=cs:=⟨_,rfl⟩;obtain⟨vs,hvsd⟩:∃vs,vcur.toList.take 13=vs:=⟨_,rfl⟩;have hol:olds.length=i*13:=by rw[←hod];simp;omega
 have hcl:cs.length=(n-i)*13:=by rw[←hcsd];simp;omega
 have hvl:vs.length=1*13:=by rw[←hvsd];simp;omega
 have hoget:∀j v,olds[j]?=some v→cur[j]?=some v:=fun j v hj=>by
  rw[←hod,qG]at hj;split at hj
  ·simpa using hj
  ·cases hj
 have hcget:∀j v,cs[j]?=some v→cur[i*13+j]?=some v∧i*13+j<n*13:=fun j v hj=>by
  rw[←hcsd,wF,qG]at hj;split at hj
  ·exact⟨by simpa using hj,by assumption⟩
  ·cases hj
 have hvget:∀j v,vs[j]?=some v→vcur[j]?=some v∧j<13:=fun j v hj=>by
  rw[←hvsd,qG]at hj;split at hj
  ·exact⟨by simpa using hj,by assumption⟩
  ·cases hj
 have hc1:∀v∈cs,v.oneCell'=true:=fun v hv=>by obtain⟨j,hj⟩:=xj.1 hv;obtain⟨a,b⟩:=hcget j v hj;exact h1c _ v b a
 have hv1':∀v∈vs,v.oneCell'=true:=fun v hv=>by obtain⟨j,hj⟩:=xj.1 hv;obtain⟨a,b⟩:=hvget j v hj;exact h1v _ v b a
 have hold:(Builtin.firstCells i0.size i (.slice (some ⟨g,0,none⟩) i cap)).run prog w.drew=.ok olds.toArray w.drew:=by
  rw[his];exact run_firstCells_some w.drew 13 i ⟨g,0,none⟩ i cap olds hol (fun j v hj=>by rw[jH,wD];exact(ZU hg j).trans (hoget j v hj))
 obtain⟨G,hG⟩:∃G,grownCap w (n+1) cap 34=G:=⟨_,rfl⟩;obtain⟨ROW,hROW⟩:∃ROW,olds.toArray++Builtin.zeroCells z0.cells (n+1-i)++Builtin.zeroCells z0.cells (G-(n+1))=ROW:=⟨_,rfl⟩;have hGn:n+1≤G:=by rw[←hG];exact grownCap_ge w _ _ _
 have hGm:G≤maxLen:=by rw[←hG];exact grownCap_le_maxLen w (n+1) cap 34 (by unfold maxLen;omega)
 have hrz:∀ty,(Builtin.append_ #[24,3] ty #[.slice (some ⟨g,0,none⟩) i cap,.int .i64 ((n:Int)+1-(i:Int))]).run prog w =
   .ok (.slice (some ⟨w.heap.size,0,none⟩) (n+1) G) (w.drew.alloc (.cells ROW 34)):=fun ty=>by
  have h:=Lib.run_append_grow_zeros w 24 3 ty 34 i0 z0 .i64 .i64 t24 t3 hi0 hz0 (some ⟨g,0,none⟩) i cap olds hold (n+1-i) (by omega) (by omega) (by omega) (by omega) (by rw[hib];omega) (by rw[hib,hik];exact growslice_fits hroom hbig);rw[hik,hG,hROW]at h;rw[hkk];exact h
 have hRl:ROW.size=G*13:=by rw[←hROW,JL,JL,Ti,Ti,hzc,yN,hol];omega
 have hRo:∀j,j<i*13→ROW.toList[j]?=olds[j]?:=fun j hj=>by rw[←hROW,uj,uj,qj];exact qV (show j<olds.length by omega)
 obtain⟨N,hN⟩:∃N,w.heap.size=N:=⟨_,rfl⟩;obtain⟨W1,hW1⟩:∃W1,w.drew.alloc (.cells ROW 34)=W1:=⟨_,rfl⟩;have hW1N:W1.heap[N]?=some (.cells ROW 34 (0,0)):=by rw[←hW1,←hN];exact tX (w:=w.drew) _
 have hW1g:W1.heap[g]?=some (.cells cur 34 (0,0)):=by rw[←hW1];exact(YM (w:=w.drew) _ hbw).trans hg
 have hW1v:W1.heap[vb]?=some (.cells vcur tv (0,0)):=by rw[←hW1];exact(YM (w:=w.drew) _ hvw).trans hv
 obtain⟨row1,hrow1⟩:∃row1,yG ROW.toList (i*13) vs=row1:=⟨_,rfl⟩;have hr1l:row1.length=G*13:=by rw[←hrow1,zlM (by rw[hvl,qT,hRl];omega),qT,hRl]
 have hcpA:∀(W:World),W.heap[N]?=some (.cells ROW 34 (0,0))→W.heap[vb]?=some (.cells vcur tv (0,0))→∀ty dc,(Builtin.copy_ #[24,24] ty #[.slice (some ⟨N,i*13,none⟩) (n+1-i) dc,.slice (some ⟨vb,0,none⟩) 1 vc]).run prog W=.ok (goInt ((1:Nat):Int)) (W.setRow N row1.toArray):=fun W hWg hWv ty dc=>by
  rw[←hrow1];have:=kW W 24 24 ty 34 13 1 N (i*13) (n+1-i) dc ⟨vb,0,none⟩ 1 vc ROW 34 vs t24 hs5 hWg (by simp only[pt];split<;>omega) hvl
   (fun j v hj=>by rw[jH,wD];exact(ZU hWv _).trans (hvget j v hj).1) (by rw[hvl,hRl];omega) hv1'
  exact this
 have hcpB:∀(W:World),W.heap[N]?=some (.cells row1.toArray 34 (0,0))→W.heap[g]?=some (.cells cur 34 (0,0))→∀ty dc sc,(Builtin.copy_ #[24,24] ty #[.slice (some ⟨N,(i+1)*13,none⟩) (n-i) dc,.slice (some ⟨g,i*13,none⟩) (n-i) sc]).run prog W=.ok (goInt ((n-i:Nat):Int)) (W.setRow N (yG row1 ((i+1)*13) cs).toArray):=fun W hWg hWv ty dc sc=>by
  have:=kW W 24 24 ty 34 13 (n-i) N ((i+1)*13) (n-i) dc ⟨g,i*13,none⟩ (n-i) sc row1.toArray 34 cs t24 hs5 hWg (by simp only[pt];split<;>omega) hcl
   (fun j v hj=>by rw[jH];exact(ZU hWv _).trans (hcget j v hj).1) (by rw[hcl,yN,hr1l];omega) hc1
  exact this
 have hgN:g≠N:=by omega
 have hvN:vb≠N:=by omega
 have hW2N:(W1.setRow N row1.toArray).heap[N]?=some (.cells row1.toArray 34 (0,0)):=iD _ _ _ _ _ _ hW1N;have hW2g:(W1.setRow N row1.toArray).heap[g]?=some (.cells cur 34 (0,0)):=(xx _ hgN).trans hW1g;have hfin:∀W:World,W.heap=((W1.setRow N row1.toArray).setRow N (yG row1 ((i+1)*13) cs).toArray).heap→W.os=w.os→W.tape=w.tape→W.output=w.output→w.drawn≤W.drawn→W.heap[N]?=some (.cells (yG row1 ((i+1)*13) cs).toArray 34 (0,0))∧Fr True w (fun b=>b=N) W:=fun W e1 e2 e3 e4 e5=>by
  refine⟨by rw[e1];exact iD _ _ _ _ _ _ hW2N,e2,e3,e4,?_,fun _=>e5,fun k hk hn=>?_⟩
  ·rw[e1,←hW1,setRow_size,setRow_size,oW];exact ja _
  ·rw[e1,xx _ hn,xx _ hn,←hW1];exact YM (w:=w.drew) _ hk
 have hm1:G≤9223372036854775807:=by unfold maxLen at hGm;omega
 have hGi:¬(G=i):=by omega
 have hGim:¬(G=i+1):=by omega
 have hci:¬(cap=i):=by omega
 rw[hN,hcsd,hvsd,hod];rw[hN,hW1]at hrz;clear hcsd hvsd hod hcl hvl hol hcget hvget hoget hc1 hv1' hold hG hROW hkk hik hi0 hz0 his hib hzc hr1l
 go_enter func35,Tryz.ntmps35
 go_wp2_with (first
  |(at_builtin;refine Lib.wpList_append_run _ rfl _ _ _ _ rfl _ _ rfl rfl _ _ (hrz _) ?_)
  |(at_builtin;refine wpList_copy_runI _ rfl _ _ 24 24 rfl _ _ rfl rfl (hcpA _ hW1N hW1v _ _) ?_)
  |(at_builtin;refine wpList_copy_runI _ rfl _ _ 24 24 rfl _ _ rfl rfl (hcpB _ hW2N hW2g _ _ _) ?_))
 go_region_law_o (refine step_copy_runI rfl _ _ 24 24 rfl (.slice (some ⟨N,(i+1)*13,none⟩) (n-i) (G-(i+1))) (.slice (some ⟨g,i*13,none⟩) (n-i) (cap-i)) (by simp[Act.eval,Act.put]) (by simp[Act.eval,Act.put]) (hcpB (W1.setRow N row1.toArray).drew hW2N hW2g 3 (G-(i+1)) (cap-i)) ?_)
 go_wp2
 go_ret
 subst hW1;subst hrow1;refine⟨G,ROW.toList,hGn,hGm,by simpa using hRl,hRo,rfl,?_⟩;refine hfin _ ?_ ?_ ?_ ?_ ?_
 ·rfl
 ·rfl
 ·rfl
 ·rfl
 ·first|exact ja _|exact zC (ja _) (ja _)
theorem zbt:Sl prog 35 34 13 224:=by
 intro w g A n i cap B c a C D u k K m v o L E d F p q r;have b:(a.toList.take 13).length=13:=by simp;omega
 have f:((c.toList.take (n*13)).drop (i*13)).length=(n-i)*13:=by simp;omega
 unfold maxLen at k;by_cases h:n+1≤cap
 ·refine(HW w g A n i cap B c a C D h k v o E d F p q r).mono fun e M x=>?_
  obtain⟨rfl,t,y⟩:=x;refine⟨g,cap,_,h,by unfold maxLen;exact k,rfl,.inl rfl,t,?_,y,fun j H=>?_⟩
  ·rw[yN,zlM (by rw[zlM (by rw[f,qT,d];omega),b,qT,d];omega),zlM (by rw[f,qT,d];omega),qT,d]
  ·have:=tW (l:=c.toList) (vs:=a.toList.take 13) (n:=n) (i:=i) (s:=13) (by omega) (by rw[qT,d];omega) b j H;simpa using this
 ·refine(NI w g A n i cap B c a C D u (by omega) m o E d F p q r).mono fun e M x=>?_
  obtain⟨G,R,N,P,J,Q,rfl,t,y⟩:=x;have z:(c.toList.take (i*13)).length=i*13:=by simp;omega
  have S:(i+1)*13=i*13+(a.toList.take 13).length:=by rw[b];omega
  rw[S]at t;refine⟨w.heap.size,G,_,N,P,rfl,.inr (ze _),t,?_,y,fun j H=>?_⟩
  ·rw[yN,zlM (by rw[zlM (by rw[b];omega),f,b];omega),zlM (by rw[b];omega),J]
  ·have:=ET (R:=R) (olds:=c.toList.take (i*13)) (vs:=a.toList.take 13) (cs:=(c.toList.take (n*13)).drop (i*13)) (I:=i*13) z Q (by rw[b,f,J];omega) j (by rw[b,f];omega);simpa using this
end Go.Q
namespace Go.Q
theorem La(c:Bool)(j:List Nat):zg prog 51 (zi c j (lT (fun a b=>.sl 2 ((Wh a b).map zM)) fun a b=>j7 a∧j7 b)):=
 jD (fn:=f51) (zI (q:=[89]) mixed ⟨nK,by simp,ta,fun _=>zt _ _,td,by simp,trivial⟩:AM.Good Ue _) ⟨_,func51,by kernel_rfl,rfl,by kernel_rfl⟩ c j _ fun args r h w S vs m=>by
  obtain⟨⟨a,b⟩,rfl,⟨f,i⟩,rfl⟩:=zr h;obtain⟨d,hd,n,o,l⟩:=DD a b f i;obtain⟨p,s⟩:=cn f i;have e:d=Wh a b:=dL hd.canon p fun k=>by
   rw[hd.holds,s];constructor
   ·exact fun g=>g.2.2
   ·intro g;have:0≤k∧k<100000:=g.elim (Yx f) (Yx i);exact⟨this.1,this.2,g⟩
  rw[e]at l;exact⟨_,n,m,zC (ze 2) (by decide),o,l⟩
theorem Lb(c:Bool)(i:List Nat):zg prog 49 (zi c i (lT (fun a b=>.sl 2 ((vY a b).map zM)) fun a b=>j7 a∧j7 b)):=
 jD (fn:=f49) (zI (q:=[89]) mixed ⟨nK,by simp,ta,fun _=>zt _ _,td,by simp,trivial⟩:AM.Good Ue _) ⟨_,func49,by kernel_rfl,rfl,by kernel_rfl⟩ c i _ fun args r h w S vs o=>by
  obtain⟨⟨a,b⟩,rfl,⟨f,j⟩,rfl⟩:=zr h;obtain⟨d,hd,p,s,l⟩:=DE a b f j;have m:=f.1;have n:=j.1;have e:d=vY a b:=dL hd.canon (Vu m n) fun k=>by
   rw[hd.holds,dN m n];constructor
   ·exact fun g=>g.2.2
   ·intro g;have:=Yx f g.1;exact⟨this.1,this.2,g⟩
  rw[e]at l;exact⟨_,p,o,zC (ze 2) (by decide),s,l⟩
def SpV(v:O)(d:List Sp):Prop:=v=.sl 2 (d.map zM)∨(v=.nil∧d=[])
theorem SE{v:O}{a b:List Sp}(c:SpV v a)(Y:Hp)(Z:Nat)(d:j7 a)(f:j7 b):zi false [2,2] (lT (fun a b=>.sl 2 ((Wh a b).map zM)) fun a b=>j7 a∧j7 b) [v,.sl 2 (b.map zM)] Y Z=some (.sl 2 ((Wh a b).map zM),Y,Z):=by
 have hs:lT (fun a b=>.sl 2 ((Wh a b).map zM)) (fun a b=>j7 a∧j7 b) [.sl 2 (a.map zM),.sl 2 (b.map zM)]=some (.sl 2 ((Wh a b).map zM)):=
  zJ (V:=fun a:List Sp×List Sp=>[O.sl 2 (a.1.map zM),.sl 2 (a.2.map zM)]) (a:=(a,b)) (fun a b e=>by obtain⟨g,h⟩:=a;obtain⟨i,j⟩:=b;simp only[zh,zK]at e;rw[jE e.1,jE e.2]) ⟨d,f⟩
 rcases c with rfl|⟨rfl,rfl⟩
 ·exact qe rfl hs (.inr rfl)
 ·exact qe rfl hs (.inr rfl)
theorem SF{v:O}{a b:List Sp}{Y:Hp}(g:v=.sl 2 (a.map zM)∨∃id,v=.own id 0 a.length∧Y id=some ⟨82,2,true,a.map zM⟩)(Z:Nat)(d:j7 a)(i:j7 b):∃Y',zi true [2,2] (lT (fun a b=>.sl 2 ((vY a b).map zM)) fun a b=>j7 a∧j7 b) [v,.sl 2 (b.map zM)] Y Z=some (.sl 2 ((vY a b).map zM),Y',Z)∧∀j blk,Y j=some blk→blk.arr=false→Y' j=some blk:=by
 have hs:lT (fun a b=>.sl 2 ((vY a b).map zM)) (fun a b=>j7 a∧j7 b) [.sl 2 (a.map zM),.sl 2 (b.map zM)]=some (.sl 2 ((vY a b).map zM)):=
  zJ (V:=fun a:List Sp×List Sp=>[O.sl 2 (a.1.map zM),.sl 2 (a.2.map zM)]) (a:=(a,b)) (fun a b e=>by obtain⟨l,m⟩:=a;obtain⟨n,o⟩:=b;simp only[zh,zK]at e;rw[jE e.1,jE e.2]) ⟨d,i⟩
 rcases g with rfl|⟨id,rfl,f⟩
 ·exact⟨Y,qe rfl hs (.inr rfl),fun _ _ h _=>h⟩
 ·refine⟨qZ Y id none,?_,fun j blk c d=>by rw[zw _ _ _ _ (fun e=>by subst e;rw[f]at c;injection c with c;subst c;cases d)];exact c⟩
  have k:zA Y [.own id 0 a.length,.sl 2 (b.map zM)]=some ([.sl 2 (a.map zM),.sl 2 (b.map zM)],qZ Y id none):=by
   simp[f]
   try rw[qp (by simp)]
  unfold zi;rw[k];simp only;rw[show yf [2,2] [O.sl 2 (a.map zM),.sl 2 (b.map zM)]=[.sl 2 (a.map zM),.sl 2 (b.map zM)]from rfl,hs];simp[O.noOwn]
theorem BB(x:Xp)(n:Int)(h:x.zs.length≤zG):∃l,zz C0 f48 [.agg x.V,int n]=some l∧qM l (.sl 2 ((jq [] n x.zs).map zM)):=by
 refine yv rfl ?_;unfold zG at h;rw[zZ];simp;refine zQ (fun k f Y Z=>f 1=int n∧f 9=.sl 2 (x.zs.map wc.V)∧f 10=int x.zs.length∧f 11=int k∧∃d,SpV (f 5) d∧jq [] n x.zs=jq d n (x.zs.drop k)) x.zs.length
  ⟨by simp,by simp,by simp,by simp,[],.inr ⟨by simp,rfl⟩,by simp⟩ ?_
 rintro k f Y Z o ⟨g,i,a,b,d,hd,c⟩;by_cases e:k<x.zs.length
 ·obtain⟨p,Y0⟩:∃p,x.zs[k]=p:=⟨_,rfl⟩;rw[zd e,Y0]at c;simp only[jq]at c;have m:i6.wrap ((k:Int)+1)=(k:Int)+1:=zn (by omega) (by omega);by_cases j:p.at_≤n
  ·rw[zf j]at c;simp[g,i,a,b,e,Y0,wc.V,j,m];exact⟨by omega,p.qS,.inl rfl,c⟩
  ·rw[zj j]at c;simp[g,i,a,b,e,Y0,wc.V,j,m];exact⟨by omega,d,hd,c⟩
 ·obtain rfl:k=x.zs.length:=by omega
  rw[zl]at c;simp only[jq]at c;rw[c];rcases hd with hd|⟨hd,rfl⟩
  ·simp[g,i,a,b,hd,f48];exact⟨_,by simp,.refl _⟩
  ·simp[g,i,a,b,hd,f48];exact⟨_,by simp,.pz (.inl ⟨rfl,rfl⟩)⟩
theorem bR:zg prog 48 (zi false [] (FXI (fun x n=>.sl 2 ((jq [] n x.zs).map zM)) fun x _=>x.zs.length≤zG)):=
 jD (fn:=f48) w8 ⟨_,func48,by kernel_rfl,rfl,by kernel_rfl⟩ false [] _ fun args r h w S vs a=>by obtain⟨⟨x,n⟩,rfl,b,rfl⟩:=zr h;obtain⟨c,d,e⟩:=BB x n b;exact⟨_,c,a,by simp[f48],d,e⟩
theorem o5(k:Int):¬mem [] k:=fun⟨s,hs,_⟩=>by cases hs
noncomputable def NJ (a n:Int) (x:Xp):Nat→List Sp→List wc→List Sp
 |_,out,[]=>out
 |i,out,p::l=>NJ a n x (i+1) (if n<J8 x.zs i+a then Wh out p.qS else out) l
theorem eI{a n:Int}(e:0≤a)(f:0≤n∧n≤4000000000)(x:Xp):∀(l:List wc) (i:Nat) (out:List Sp),(∀p∈l,w7 p.qS=0)→j7 out→j7 (NJ a n x i out l)∧∀k,mem (NJ a n x i out l) k↔mem out k∨mem (XK a n x.zs i l) k
 |[],i,out,_,c=>⟨c,fun k=>by simp only[NJ,XK];exact⟨.inl,fun h=>h.elim id fun h=>absurd h (o5 k)⟩⟩
 |p::l,i,out,hs,c=>by
  have Y:=fR (hs p (by simp));have b:∀q∈l,w7 q.qS=0:=fun q j=>hs q (by simp[j])
  have g:=XW (l:=x.zs) (i:=i) (t:=n) f e;simp only[NJ,XK];by_cases d:n<J8 x.zs i+a
  ·rw[zf d,zf (g.2 d)];obtain⟨m,o⟩:=Rp c Y;obtain⟨r,s⟩:=eI e f x l (i+1) _ b m;exact⟨r,fun k=>by rw[s,o,mem_append,or_assoc]⟩
  ·rw[zj d,zj fun h=>d (g.1 h),wN];exact eI e f x l (i+1) out b c
noncomputable def Lc (y:wh) (t:za) (n:Int):List Sp→List Xp→List Sp
 |out,[]=>out
 |out,e::l=>Lc y t n (if e.qi=y.name∧e.name≠t then vY out (NJ y.rest n e 0 [] e.zs)else out) l
theorem eJ{y:wh}{t:za}{n:Int}(d:0≤y.rest)(f:0≤n∧n≤4000000000):∀(l:List Xp) (out:List Sp),(∀x∈l,∀p∈x.zs,w7 p.qS=0)→j7 out→j7 (Lc y t n out l)∧∀k,mem (Lc y t n out l) k↔mem out k∧¬mem (rj y.name t y.rest n l) k
 |[],out,_,b=>⟨b,fun k=>by simp only[Lc,rj];exact⟨fun h=>⟨h,o5 k⟩,fun h=>h.1⟩⟩
 |e::l,out,hs,b=>by
  have a:∀x∈l,∀p∈x.zs,w7 p.qS=0:=fun x m=>hs x (by simp[m])
  simp only[Lc,rj];by_cases c:e.qi=y.name
  ·by_cases g:e.name=t
   ·rw[zj fun h=>h.2 g,zf c,zf g,wN];exact eJ d f l out a b
   ·rw[zf ⟨c,g⟩,zf c,zj g];obtain⟨o,q⟩:=eI d f e e.zs 0 [] (hs e (by simp)) dZ;obtain⟨r,s⟩:=nW b o;obtain⟨u,v⟩:=eJ d f l _ a r;refine⟨u,fun k=>?_⟩;rw[v,s,q,mem_append];constructor
    ·rintro⟨⟨j,i⟩,w⟩;exact⟨j,fun h=>h.elim (fun h=>i (.inr h)) w⟩
    ·rintro⟨j,i⟩;exact⟨⟨j,fun h=>h.elim (o5 k) fun h=>i (.inl h)⟩,fun h=>i (.inr h)⟩
  ·rw[zj fun h=>c h.1,zj c,wN];exact eJ d f l out a b
theorem SG:j7 [((0:Int),(100000:Int))]:=⟨⟨by omega,by omega,trivial⟩,(fun s hs=>by simp at hs;subst hs;simp),(fun s hs=>by simp at hs;subst hs;simp),by simp⟩
theorem ub{n:Int}(h:vT n=true):0≤n∧n≤4000000000:=(ZA _ _ _).1 h
theorem E5{b:Bk}(h:qQ b=0){s t:za}{n:Int}(c:vT n=true){y:wh}(d:y.name=s)(a:kG b.zk s=y.rest):Lc y t n [(0,100000)] b.zE=jY b s t n:=by have Y:=Hc h s;rw[a]at Y;obtain⟨e,f⟩:=eJ (y:=y) (t:=t) Y.1 (ub c) b.zE [(0,100000)] (fun x g p Y=>jO ((Wl h).2.1 x g).1 p Y) SG;obtain⟨i,_,_,j⟩:=Hd h s t n;exact dL e.1 i fun k=>by rw[f,j,d,a]
def okX(x:Xp):Prop:=x.rX∧∀p∈x.zs,w7 p.qS=0
noncomputable def FUf:zc→Option O:=qv (α:=Xp×Int×Int) (fun a=>[.agg a.1.V,int a.2.1,int a.2.2]) (fun a=>okX a.1∧(0≤a.2.1∧a.2.1≤100000000)∧0≤a.2.2∧a.2.2≤4000000000) (fun a=>.sl 2 ((NJ a.2.1 a.2.2 a.1 0 [] a.1.zs).map zM))
theorem SH(x:Xp)(b n:Int)(Y:Hp)(Z:Nat)(h:okX x∧(0≤b∧b≤100000000)∧0≤n∧n≤4000000000):zi false [] FUf [.agg x.V,int b,int n] Y Z=some (.sl 2 ((NJ b n x 0 [] x.zs).map zM),Y,Z):=
 qe (Y1:=Y) (show zA Y [.agg x.V,int b,int n]=some ([.agg x.V,int b,int n],Y) by simp only[zA,Qh];rfl) (zJ (V:=fun a:Xp×Int×Int=>[.agg a.1.V,int a.2.1,int a.2.2]) (a:=(x,b,n)) (fun x y e=>by obtain⟨c,d,f⟩:=x;obtain⟨g,i,j⟩:=y;simp only[zh,zK,O.agg.injEq]at e;rw[xQ e.1,qn e.2.1,qn e.2.2]) h) (.inr (by simp only[qN,XI];rfl))
noncomputable abbrev Cruf:Ctx:=qb prog [(113,zi false [] (FXn fun x i=>int (J8 x.zs i))),(51,zi false [2,2] (lT (fun a b=>.sl 2 ((Wh a b).map zM)) fun a b=>j7 a∧j7 b))]
theorem zbu:AM.Good Cruf (fun g=>([]:List Nat).contains g):=zI mixed ⟨oi,by simp,La _ _,by simp,trivial⟩
def UfI(a n:Int)(x:Xp)(k:Nat)(v:O):Prop:=∃d,SpV v d∧j7 d∧NJ a n x 0 [] x.zs=NJ a n x k d (x.zs.drop k)
theorem E6(x:Xp)(rest n:Int)(D:okX x)(I:0≤rest∧rest≤100000000)(J:0≤n∧n≤4000000000):∃z,zz Cruf f71 [.agg x.V,int rest,int n]=some z∧qM z (.sl 2 ((NJ rest n x 0 [] x.zs).map zM)):=by
 refine yv rfl ?_;obtain⟨⟨u,v⟩,m⟩:=D;have E:=qJ vG x.zs;have F:x.cb=x.name.length+x.qi.length+x.flag.length+x.cond.cb+x.qI.length+x.jX.length+wg wc.cb x.zs:=rfl;unfold zG at v;simp[zZ];refine zQ (fun k h Y Z=>h 1=int rest∧h 2=int n∧h 3=.ref 0 0 0∧h 11=.sl 2 (x.zs.map wc.V)∧h 12=int x.zs.length∧h 13=int k∧1≤Z∧Y 0=some ⟨34,13,false,[x.V]⟩∧UfI rest n x k (h 7)) x.zs.length
  ⟨by simp,by simp,by simp,by simp,by simp,by simp,by simp,by simp[zZ],[],.inr ⟨by simp,rfl⟩,dZ,by simp⟩ ?_
 rintro k h Y Z K ⟨q,r,s,a,b,c,G,w,d,hd,j,e⟩;by_cases f:k<x.zs.length
 ·obtain⟨p,g⟩:∃p,x.zs[k]=p:=⟨_,rfl⟩;have o:p∈x.zs:=by rw[←g];exact zm f
  rw[zd f,g]at e;simp only[NJ]at e;have A:i6.wrap ((k:Int)+1)=(k:Int)+1:=zn (by omega) (by omega);have H:=ow u k;have B:i6.wrap (J8 x.zs k+rest)=J8 x.zs k+rest:=zn (by omega) (by omega);have l:=fun Y Z=>Eo (fun x i=>int (J8 x.zs i)) x k Y Z ⟨by unfold zG;omega,by unfold zG;omega⟩
  have y:=fun Y Z=>SE hd Y Z j (fR (m p o))
  have C:¬0=Z:=by omega
  simp only[zZ]at w l;by_cases t:n<J8 x.zs k+rest
  ·rw[zf t]at e;simp[q,r,s,a,b,c,f,g,wc.V,w,C,l,B,t,y,A];exact⟨by omega,(zZ x).symm,_,.inl rfl,(Rp j (fR (m p o))).1,e⟩
  ·rw[zj t]at e;simp[q,r,s,a,b,c,f,g,wc.V,w,C,l,B,t,A];exact⟨by omega,(zZ x).symm,d,hd,j,e⟩
 ·obtain rfl:k=x.zs.length:=by omega
  rw[zl]at e;simp only[NJ]at e;rw[e];rcases hd with hd|⟨hd,rfl⟩
  ·simp[q,r,s,a,b,c,hd,f71];exact⟨_,by simp,.refl _⟩
  ·simp[q,r,s,a,b,c,hd,f71];exact⟨_,by simp,.pz (.inl ⟨rfl,rfl⟩)⟩
theorem BC:zg prog 71 (zi false [] FUf):=
 jD (fn:=f71) zbu ⟨_,func71,by kernel_rfl,rfl,by kernel_rfl⟩ false [] _ fun args r h w S vs b=>by obtain⟨⟨x,a,n⟩,rfl,⟨c,d,e⟩,rfl⟩:=zr h;obtain⟨f,g,i⟩:=E6 x a n c d e;exact⟨_,f,b,by simp[f71],g,i⟩
noncomputable def FFr:zc→Option O:=qv (α:=Bk×wh×Int×za) (fun a=>[.agg a.1.V,.agg a.2.1.V,int a.2.2.1,str a.2.2.2]) (fun a=>(a.1.cb≤zG∧qQ a.1=0)∧(0≤a.2.1.rest∧a.2.1.rest≤100000000)∧vT a.2.2.1=true) (fun a=>.sl 2 ((Lc a.2.1 a.2.2.2 a.2.2.1 [(0,100000)] a.1.zE).map zM))
theorem SI(b:Bk)(y:wh)(n:Int)(t:za)(Y:Hp)(Z:Nat)(h:(b.cb≤zG∧qQ b=0)∧(0≤y.rest∧y.rest≤100000000)∧vT n=true):zi false [] FFr [.agg b.V,.agg y.V,int n,str t] Y Z=some (.sl 2 ((Lc y t n [(0,100000)] b.zE).map zM),Y,Z):=
 qe (Y1:=Y) (show zA Y [.agg b.V,.agg y.V,int n,str t]=some ([.agg b.V,.agg y.V,int n,str t],Y) by
  have c:qf Y (.agg y.V)=some (.agg y.V,Y):=by simp[wh.V]
  simp only[zA,jW,c];rfl) (zJ (V:=fun a:Bk×wh×Int×za=>[.agg a.1.V,.agg a.2.1.V,int a.2.2.1,str a.2.2.2]) (a:=(b,y,n,t)) (fun x y e=>by
  obtain⟨d,f,g,i⟩:=x;obtain⟨j,k,l,m⟩:=y;simp only[zh,zK,O.agg.injEq]at e;rw[vk e.1,Yy e.2.1,qn e.2.2.1,wx e.2.2.2]) h) (.inr (by simp only[qN,xh];simp[wh.V]))
def SpO(Y:Hp)(Z:Nat)(v:O)(d:List Sp):Prop:=v=.sl 2 (d.map zM)∨∃id,id<Z∧v=.own id 0 d.length∧Y id=some ⟨82,2,true,d.map zM⟩
def FrI(b:Bk)(y:wh)(t:za)(n:Int)(k:Nat)(Y:Hp)(Z:Nat)(v:O):Prop:=∃d,SpO Y Z v d∧j7 d∧Lc y t n [(0,100000)] b.zE=Lc y t n d (b.zE.drop k)
noncomputable abbrev Crfr:Ctx:=qb prog [(71,zi false [] FUf),(49,zi true [2,2] (lT (fun a b=>.sl 2 ((vY a b).map zM)) fun a b=>j7 a∧j7 b))]
theorem Ld:AM.Good Crfr (fun g=>([]:List Nat).contains g):=zI mixed ⟨BC,by simp,Lb _ _,by simp,trivial⟩
theorem o6(b:Bk)(y:wh)(n:Int)(t:za)(U:b.cb≤zG)(r:qQ b=0)(Q:0≤y.rest∧y.rest≤100000000)(W:vT n=true):∃R,zz Crfr f31 [.agg b.V,.agg y.V,int n,str t]=some R∧qM R (.sl 2 ((Lc y t n [(0,100000)] b.zE).map zM)):=by
 refine yv rfl ?_;have S:=qJ ZG b.zE;have X:b.cb=wg wh.cb b.zk+wg yI.cb b.holds+wg Xp.cb b.zE:=rfl;have A:∀x∈b.zE,okX x:=fun x m=>⟨⟨Wj ((Wl r).2.1 x m).1,by have:=yg (f:=Xp.cb) m;omega⟩,jO ((Wl r).2.1 x m).1⟩
 have B:=ub W;unfold zG at U;simp[Bk.V,wh.V,zR,qc,zv,zN,zy];refine zQ (fun k l Y Z=>l 2=int n∧l 3=str t∧l 5=.ref 1 0 0∧l 15=.sl 13 (b.zE.map Xp.V)∧l 16=int b.zE.length∧l 17=int k∧2≤Z∧Y 1=some ⟨61,3,false,[y.V]⟩∧FrI b y t n k Y Z (l 9)) b.zE.length
  ⟨by simp,by simp,by simp,by simp,by simp,by simp,by simp,by simp[wh.V],[(0,100000)],.inr ⟨2,by simp,by simp,by simp[zM]⟩,SG,by simp⟩ ?_
 rintro k l Y Z hk ⟨o,C,D,c,e,g,hnx,E,d,hd,p,i⟩;have n1:¬1=Z:=by omega
 by_cases j:k<b.zE.length
 ·obtain⟨x,m⟩:∃x,b.zE[k]=x:=⟨_,rfl⟩;have F:x∈b.zE:=by rw[←m];exact zm j
  rw[zd j,m]at i;simp only[Lc]at i;have K:i6.wrap ((k:Int)+1)=(k:Int)+1:=zn (by omega) (by omega);simp only[wh.V]at E;have w:∀u,SpO (qZ Y Z u) (Z+1) (l 9) d:=fun u=>by
   rcases hd with hd|⟨id,h1,o,L⟩
   ·exact .inl hd
   ·exact .inr ⟨id,by omega,o,by rw[zw _ _ _ _ (by omega)];exact L⟩
  by_cases J:x.qi=y.name
  ·have q:(x.qi==y.name)=true:=by simpa using J
   by_cases G:x.name=t
   ·rw[zj fun h=>h.2 G]at i;simp[o,C,D,c,e,g,j,m,zZ,E,n1,q,G,K];exact⟨by omega,by omega,rfl,d,w _,p,i⟩
   ·rw[zf ⟨J,G⟩]at i;have H:(x.name==t)=false:=by simpa using G
    have M:(x.name != t)=true:=by rw[bne,H];rfl
    obtain⟨T,u2⟩:=eI Q.1 B x x.zs 0 [] (A x F).2 dZ;have I:=fun Y Z=>SH x y.rest n Y Z ⟨A x F,Q,B⟩
    obtain⟨Y',s,z⟩:=SF (Y:=qZ Y Z (some ⟨34,13,false,[x.V]⟩)) (v:=l 9) (a:=d) ((w _).imp id fun⟨id,_,o,L⟩=>⟨id,o,L⟩) (Z+1) p T;have N:Y' 1=some ⟨61,3,false,[[str y.name,str y.qI,int y.rest]]⟩:=z 1 _ (by rw[zw _ _ _ _ n1];exact E) rfl;simp only[zZ]at I s;simp[o,C,D,c,e,g,j,m,zZ,E,n1,q,G,H,M,I,s,K];exact⟨by omega,by omega,N,_,.inl rfl,(nW p T).1,i⟩
  ·rw[zj fun h=>J h.1]at i;have q:(x.qi==y.name)=false:=by simpa using J
   simp[o,C,D,c,e,g,j,m,zZ,E,n1,q,K];exact⟨by omega,by omega,rfl,d,w _,p,i⟩
 ·obtain rfl:k=b.zE.length:=by omega
  rw[zl]at i;simp only[Lc]at i;rw[i];rcases hd with hd|⟨id,g1,g2,g3⟩
  ·simp[o,C,D,c,e,g,hd,f31];exact⟨_,by simp,.refl _⟩
  ·have P:(d.map zM).take d.length=d.map zM:=qp (by simp);simp[o,C,D,c,e,g,g2,f31];exact⟨.sl 2 (d.map zM),by simp[g3,P],.refl _⟩
theorem E7:zg prog 31 (zi false [] FFr):=
 jD (fn:=f31) Ld ⟨_,func31,by kernel_rfl,rfl,by kernel_rfl⟩ false [] _ fun args r h w S vs a=>by obtain⟨⟨b,y,n,t⟩,rfl,⟨⟨c,d⟩,e,f⟩,rfl⟩:=zr h;obtain⟨g,i,j⟩:=o6 b y n t c d e f;exact⟨_,g,a,by simp[f31],i,j⟩
end Go.Q
