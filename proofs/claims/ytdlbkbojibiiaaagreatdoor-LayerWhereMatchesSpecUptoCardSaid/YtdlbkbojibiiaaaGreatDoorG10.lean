/- Lemmas. -/
import Derived.Lib.TrimByte
import Derived.Sort.Walk0
import Derived.Lib.SlicesCompact
import Derived.Sort.EncStr
import Derived.Shelf.Sort.Plain
import Derived.Shelf.Slices.CompactS
import Derived.Shelf.Slices.In.SortNone
import Derived.Lib.RowBridge
import Derived.Ground.Names2Prog
import Derived.Test.YtdlbkbojibiiaaaGreatDoorG9
set_option maxRecDepth 100000
set_option maxHeartbeats 4000000
open Go Proofs Proofs.YtdlbkbojibiiaaaGreatDoor Proofs.Tryz RowKit AM SpanLaw Q Zz
open Go.IntKind renaming i64→i6
namespace Go.Q
noncomputable def FBo:zb->Option O:=z6 (α:=Bk) (fun b=>[.nil,.agg b.V,qz true]) (fun b=>b.cb<=zx) (fun b=>int (w5 b))
theorem zaY(b:Bk)(Y:Hp)(Z:Nat)(h:b.cb<=zx):zf false [] FBo [.nil,.agg b.V,qz true] Y Z=some (int (w5 b),Y,Z):=
 zU (Y1:=Y) (show zv Y [.nil,.agg b.V,qz true]=some ([.nil,.agg b.V,qz true],Y) by
  have c:qH Y .nil=some (.nil,Y):=rfl;simp only[zv,c,JJ];rfl) (zE (V:=fun b:Bk=>[O.nil,.agg b.V,qz true]) (a:=b) (fun x y e=>by
  simp only[zh,zD,true_and,O.agg.injEq]at e;exact W0 e) h) (.inl rfl)
noncomputable abbrev Crbk:Ctx:=zQ prog [(75,zf false [] (FLys fun l=>int (wq [] [] l).1)),(76,zf false [] (FBu fun b=>int (yn b.zk [] (b.zk.map wL.qy) b.holds).1)),(77,zf false [] FEx),(49,zf false [] (FBS fun b s=>WC (jB s b.zk))),(78,zf false [] FClR)]
theorem zd7:Gd Crbk:=zph mixed ⟨cP,fL,Mq,xJ,fM,trivial⟩
theorem rZ{α:Type}{f g:α->Bool}:∀{l:List α},(∀y∈l,f y=g y)->l.any f=l.any g
 |[],_=>rfl
 |x::l,h=>by rw[wN,wN,h x (by simp),rZ fun y a=>h y (by simp[a])]
theorem Mr(b:Bk)(hb:b.cb<=zx):zr Crbk f36 [.nil,.agg b.V,qz true]=some (int (w5 b)):=by
 refine zm rfl ?_;have hL:=wa xw b.zk;have hH:=wa Wl b.holds;have hX:=wa aJ b.zZ;have S8:b.cb=yt wL.cb b.zk+yt vK.cb b.holds+yt Xp.cb b.zZ:=rfl;have K:=fun Y Z=>AF (fun l=>int (wq [] [] l).1) b.zk Y Z (by omega)
 by_cases a1:(20:Int)<b.zk.length
 ·have hv:w5 b=2:=by unfold w5;rw[zd (.inl a1)]
  simp[Bk.V,a1,hv,f36]
 by_cases a2:(10:Int)<b.holds.length
 ·have hv:w5 b=2:=by unfold w5;rw[zd (.inr (.inl a2))]
  simp[Bk.V,a1,a2,hv,f36]
 by_cases a3:(100:Int)<b.zZ.length
 ·have hv:w5 b=2:=by unfold w5;rw[zd (.inr (.inr a3))]
  simp[Bk.V,a1,a2,a3,hv,f36]
 have a:w5 b=if(wq [] [] b.zk).1=0 then
   (if(yn b.zk [] (wq [] [] b.zk).2 b.holds).1=0 then
    (if(Zt b.zk [] (yn b.zk [] (wq [] [] b.zk).2 b.holds).2 b.zZ).1=0 then(if Wm b.zk b.zZ 0 b.zZ=true then 13 else 0)
     else(Zt b.zk [] (yn b.zk [] (wq [] [] b.zk).2 b.holds).2 b.zZ).1)
    else(yn b.zk [] (wq [] [] b.zk).2 b.holds).1)
  else(wq [] [] b.zk).1:=by unfold w5;rw[ze (by omega)]
 by_cases c1:(wq [] [] b.zk).1=0
 case neg=>rw[ze c1]at a;have Nl:=nzT c1;simp[Bk.V,a1,a2,a3,K,Nl,a,f36]
 obtain⟨_,hu,SO⟩:=bK c1;rw[wC]at SO;rw[zd c1,SO]at a;rw[c1]at K;have hho:=fun Y Z=>Gh (fun b=>int (yn b.zk [] (b.zk.map wL.qy) b.holds).1) b Y Z hb hu
 have w:=hho;simp only[Bk.V]at w;by_cases c2:(yn b.zk [] (b.zk.map wL.qy) b.holds).1=0
 case neg=>rw[ze c2]at a;have c2':=nzT c2;simp[Bk.V,a1,a2,a3,K,w,c2',a,f36]
 have hsh:=CH c2;rw[zd c2]at a;rw[c2]at w;have hs0:(yn b.zk [] (b.zk.map wL.qy) b.holds).2=yJ b 0:=by rw[hsh];simp[yJ]
 rw[hs0]at a;have hex:=fun k hk Y Z=>zaX b k Y Z hb hu hk
 simp only[Bk.V]at hex;simp[Bk.V,a1,a2,a3,K,w];refine zI (fun k U Y Z=>U 0=.nil/\U 2=qz true/\U 4=.ref 0 0 0/\U 45=.sl 13 (b.zZ.map Xp.V)/\U 46=int b.zZ.length/\U 47=int k/\1<=Z/\Y 0=some ⟨27,3,false,[b.V]⟩/\(Zt b.zk [] (yJ b 0) b.zZ).1=(Zt b.zk (vG b.zZ k) (yJ b k) (b.zZ.drop k)).1) b.zZ.length
  ⟨by simp,by simp,by simp,by simp,by simp,by simp,by simp,by simp[Bk.V],by simp[vG]⟩ ?_
 rintro k U Y Z hk ⟨h0,h2,v,L,M,N,B,I,Q⟩;have c:=I;simp only[Bk.V]at c;by_cases r:k<b.zZ.length
 ·have hw:=zlL k;have X:=hex k r;rw[RJ r]at Q;by_cases R:Dg b k=0
  ·rw[zd R]at Q;simp[h0,h2,v,L,M,N,r,c,X,R,hw];exact⟨by omega,B,rfl,Q⟩
  ·rw[ze R]at Q;have hz':=nzT R;rw[Q,ze R]at a;simp[h0,h2,v,L,M,N,r,c,X,hz',a,f36]
 obtain rfl:k=b.zZ.length:=by omega
 rw[zo]at Q;simp only[Zt]at Q;rw[Q,zd rfl]at a;have hok:=bJ Q;have S:∀x∈b.zZ,x.um:=fun x hx=>⟨W6 (hok x hx).1,by have:=yv (f:=Xp.cb) hx;omega⟩
 have OI:=fun s Y Z=>Vr (fun b s=>WC (jB s b.zk)) b s Y Z hb
 simp only[Bk.V]at OI;simp[h0,h2,v,L,M,N,c];refine zI (fun i U Y Z=>U 4=.ref 0 0 0/\U 60=.sl 13 (b.zZ.map Xp.V)/\U 61=int b.zZ.length/\U 62=int i/\1<=Z/\Y 0=some ⟨27,3,false,[b.V]⟩/\Wm b.zk b.zZ 0 b.zZ=Wm b.zk b.zZ i (b.zZ.drop i)) b.zZ.length
  ⟨by simp[v],by simp,by simp,by simp,B,I,by simp⟩ ?_
 clear h0 h2 v L M N B I c hk r U Y Z;rintro i U Y Z hi ⟨v,e,m,n,B,I,o⟩;have c:=I;simp only[Bk.V]at c;by_cases r:i<b.zZ.length
 ·obtain⟨x,hx⟩:=exI (b.zZ[i]);have T:x∈b.zZ:=by rw[<-hx];exact zj r
  have hw:=zlL i;rw[zc r,hx,Wm,rZ (g:=GO x (W4 b.zk x.wE)) fun y J=>GP c1 hok T (vx J)]at o;obtain⟨f1,q,hq,f3,f2⟩:(Zy (b.zk.map wL.name) x.wE).2=true/\∃j,∃hj:j<b.zk.length,(Zy (b.zk.map wL.name) x.wE).1=j/\jB x.wE b.zk=some b.zk[j]:=by
   rcases bL hu x.wE with h|⟨h,_⟩
   ·exact h
   ·rw[(hok x T).2]at h;cases h
  obtain⟨z,R⟩:=exI (b.zk[q]);have hzr:=W5 c1 z (by rw[<-R];exact zj hq);have zcg:W4 b.zk x.wE=z.rest:=by unfold W4;rw[f3,zq hq,R]
  rw[R]at f2;rw[zcg]at o;have t:=fun Y Z=>OI x.wE Y Z
  simp only[f2,W7]at t;obtain⟨es,hes⟩:=exI (b.zZ.take i);have hesl:es.length=i:=by rw[<-hes];simp;omega
  have hesm:∀y∈es,y∈b.zZ:=fun y J=>vx (by rw[hes];exact J)
  have hsx:=fun Y=>slX Y b.zZ i (by omega)
  rw[hes]at o hsx;have n0:¬0=Z:=by omega
  obtain⟨P,hP⟩:=exI Z;simp[v,e,m,n,r,hx,qD,c,n0,hsx,hesl];rw[hP];refine zI (fun k U Y Z=>U 4=.ref 0 0 0/\U 60=.sl 13 (b.zZ.map Xp.V)/\U 61=int b.zZ.length/\U 62=int i/\U 12=.ref P 0 0/\U 70=.sl 13 (es.map Xp.V)/\U 71=int i/\U 72=int k/\P<Z/\Y 0=some ⟨27,3,false,[b.V]⟩/\Y P=some ⟨74,13,false,[x.V]⟩/\Wm b.zk b.zZ 0 b.zZ=((es.drop k).any (GO x z.rest)||Wm b.zk b.zZ (i+1) (b.zZ.drop (i+1)))) i
   ⟨by simp[v],by simp[e],by simp[m],by simp[n],by simp,by simp,by simp,by simp,(by show P<P+1;omega),by simp[show¬0=P by omega,I],by simp[qD],by simpa using o⟩ ?_
  clear v e m n I c o n0 hi hP B U Y Z;rintro k U Y Z hk ⟨v,e,m,n,C,D,E,F,SS,I,bP,o⟩;have n0:¬0=Z:=by omega
  have nP:¬P=Z:=by omega
  have W:¬P=Z+1:=by omega
  have c:=I;simp only[Bk.V]at c;have G:=bP;simp only[qD]at G;by_cases A:k<i
  ·have d:k<es.length:=by omega
   obtain⟨y,J⟩:=exI (es[k]);have hym:y∈b.zZ:=hesm y (by rw[<-J];exact zj d);have hwk:=zlL k;rw[zc d,wN,J]at o;have p:=fun Y Z=>bN y x z.rest Y Z ⟨S y hym,S x T,hzr⟩
   have u:=fun Y Z=>bN x y z.rest Y Z ⟨S x T,S y hym,hzr⟩
   simp only[qD]at p u;have hd:GO x z.rest y=(decide (y.wE=x.wE)&&(x0 y x z.rest||x0 x y z.rest)):=rfl;by_cases hl:y.wE=x.wE
   ·rw[y8 hl,jb]at hd;have H:(y.wE==x.wE)=true:=by simpa using hl
    cases k1:x0 y x z.rest
    ·rw[k1]at p hd;cases k2:x0 x y z.rest
     ·rw[k2]at u hd;rw[hd]at o;simp[v,e,m,n,C,D,E,F,A,d,J,qD,c,G,n0,nP,W,t,H,p,u,hwk];exact⟨by omega,by omega,rfl,by simpa using o⟩
     ·rw[k2]at u hd;rw[hd]at o;rw[o]at a;simp at a;simp[v,e,m,n,C,D,E,F,A,d,J,qD,c,G,n0,nP,W,t,H,p,u,a,f36]
    ·rw[k1]at p hd;rw[hd]at o;rw[o]at a;simp at a;simp[v,e,m,n,C,D,E,F,A,d,J,qD,c,G,n0,nP,W,t,H,p,a,f36]
   ·rw[jm hl,kT]at hd;have H:=eqF0 hl;rw[hd,ye]at o;simp[v,e,m,n,C,D,E,F,A,d,J,qD,c,G,n0,nP,W,t,H,hwk];exact⟨by omega,by omega,rfl,o⟩
  ·obtain rfl:k=i:=by omega
   rw[jH (by omega),List.any_nil,ye]at o;simp[v,e,m,n,C,D,E,F,hw];exact⟨by omega,by omega,I,o⟩
 ·obtain rfl:i=b.zZ.length:=by omega
  rw[zo]at o;simp only[Wm]at o;rw[o]at a;simp at a;simp[v,e,m,n,a,f36]
theorem GQ:zg prog 36 (zf false [] FBo):=
 pS1 zd7 func36 false [] fun b a=>⟨by simp[f36],_,Mr b a,zW _⟩
noncomputable abbrev Crcb:Ctx:=zQ prog [(36,zf false [] FBo)]
theorem zaZ(b:Bk)(h:b.cb<=zx):zr Crcb f48 [.agg b.V]=some (int (w5 b)):=by
 refine zm rfl ?_;have a:=fun Y Z=>zaY b Y Z h
 simp only[Bk.V]at a;simp[Bk.V,a,f48]
theorem RM:zg prog 48 (zf false [] (FBk fun b=>int (w5 b))):=
 pS1 (zph mixed ⟨GQ,trivial⟩:AM.Good Crcb _) func48 false [] fun b a=>⟨by simp[f48],_,zaZ b a,zW _⟩
def SpV(v:O)(d:List Sp):Prop:=v=.sl 2 (d.map ja)\/(v=.nil/\d=[])
theorem Dh(x:Xp)(n:Int)(h:x.zN.length<=zx):∃l,zr C0 f41 [.agg x.V,int n]=some l/\qW l (.sl 2 ((Y9 [] n x.zN).map ja)):=by
 refine kB rfl ?_;unfold zx at h;rw[qD];simp;refine zI (fun k U Y Z=>U 1=int n/\U 9=.sl 2 (x.zN.map yM.V)/\U 10=int x.zN.length/\U 11=int k/\∃d,SpV (U 5) d/\Y9 [] n x.zN=Y9 d n (x.zN.drop k)) x.zN.length
  ⟨by simp,by simp,by simp,by simp,[],.inr ⟨by simp,rfl⟩,by simp⟩ ?_
 rintro k U Y Z o ⟨f,g,a,b,d,hd,c⟩;by_cases e:k<x.zN.length
 ·obtain⟨p,j⟩:=exI (x.zN[k]);rw[zc e,j]at c;simp only[Y9]at c;have m:=zlL k;by_cases i:p.at_<=n
  ·rw[zd i]at c;simp[f,g,a,b,e,j,yM.V,i,m];exact⟨by omega,p.w7,.inl rfl,c⟩
  ·rw[ze i]at c;simp[f,g,a,b,e,j,yM.V,i,m];exact⟨by omega,d,hd,c⟩
 ·obtain rfl:k=x.zN.length:=by omega
  rw[zo]at c;simp only[Y9]at c;rw[c];rcases hd with hd|⟨hd,rfl⟩
  ·simp[f,g,a,b,hd,f41];exact⟨_,by simp,.refl _⟩
  ·simp[f,g,a,b,hd,f41];exact⟨_,by simp,.cZ (.inl ⟨rfl,rfl⟩)⟩
theorem tS:zg prog 41 (zf false [] (FXI (fun x n=>.sl 2 ((Y9 [] n x.zN).map ja)) fun x _=>x.zN.length<=zx)):=
 xE (fn:=f41) yz (zpi func41) false [] _ fun args r h w S vs a=>by obtain⟨⟨x,n⟩,rfl,b,rfl⟩:=zp h;obtain⟨c,d,e⟩:=Dh x n b;exact⟨_,c,a,by simp[f41],d,e⟩
def lyE:Option wL->zb
 |some y=>[str y.name,str y.qy,int y.rest]
 |none=>[str [],str [],int 0]
noncomputable def ca (b:Bk) (s:za) (n:Int):O:=if QE b s n=0 then .wY [.agg (lyE (jB s b.zk)),int 0]else .wY [.agg [str [],str [],int 0],int (QE b s n)]
noncomputable abbrev Croy:Ctx:=zQ prog [(48,zf false [] (FBk fun b=>int (w5 b))),(49,zf false [] (FBS fun b s=>WC (jB s b.zk))),(14,zf false [] (ep QP))]
theorem zd8:Gd Croy:=zph mixed ⟨RM,xJ,KS,trivial⟩
theorem Di(b:Bk)(s:za)(n:Int)(h:b.cb<=zx):zr Croy f20 [.agg b.V,str s,int n]=some (ca b s n):=by
 refine zm rfl ?_;have f:=fun Y Z=>F6 (fun b=>int (w5 b)) b Y Z h
 have a:=fun Y Z=>Vr (fun b s=>WC (jB s b.zk)) b s Y Z h
 simp only[Bk.V]at f a;by_cases c:w5 b=0
 case neg=>
  have d:QE b s n=w5 b:=by unfold QE;rw[ze c]
  have e:ca b s n=.wY [.agg [str [],str [],int 0],int (w5 b)]:=by unfold ca;rw[d,ze c]
  have k:=nzT c;rw[e];simp[Bk.V,f,k,qS,qe,qM,f20]
 have l:=(zhh c).1;rcases bL l s with⟨g,q,m,_,i⟩|⟨g,i⟩
 case inr=>
  have d:QE b s n=5:=by unfold QE;rw[zd c,g,ze (by simp)]
  have e:ca b s n=.wY [.agg [str [],str [],int 0],int 5]:=by unfold ca;rw[d,ze (by simp)]
  simp only[i,Xo]at a;rw[e];simp[Bk.V,f,c,a,qS,qe,qM,f20]
 simp only[i,W7]at a;cases j:QP n
 ·have d:QE b s n=1:=by unfold QE;rw[zd c,g,zd rfl,j,ze (by simp)]
  have e:ca b s n=.wY [.agg [str [],str [],int 0],int 1]:=by unfold ca;rw[d,ze (by simp)]
  rw[e];simp[Bk.V,f,c,a,j,qS,qe,qM,f20]
 ·have d:QE b s n=0:=by unfold QE;rw[zd c,g,zd rfl,j,zd rfl]
  have e:ca b s n=.wY [.agg (lyE (some b.zk[q])),int 0]:=by unfold ca;rw[d,zd rfl,i]
  rw[e];simp[Bk.V,f,c,a,j,lyE,qS,qe,qM,f20]
theorem tT:zg prog 20 (zf false [] (FBNI ca)):=
 pS1 zd8 func20 false [] fun⟨b,s,n⟩ a=>⟨by simp[f20],_,Di b s n a,zW _⟩
noncomputable abbrev zfH:Ctx:=zQ prog [(47,zf false [1] (Iu fun l v=>qz (decide (v∈l)))),(39,zf false [] (Zo T2 fun _ _=>True))]
theorem za0:AM.Good zfH (fun g=>[47,39].contains g):=zw mixed ⟨je,fun _=>zu _ _,cF,fun _=>zu _ _,trivial⟩
theorem GR(b:Bk)(s t:za)(D:b.cb<=zx)(hs:s.length<=zx)(z:t.length<=zx):zr zfH f22 [.agg b.V,str s,str t]=some (Az (jX s t b.holds)):=by
 have r:=wa Wl b.holds;have A:b.cb=yt wL.cb b.zk+yt vK.cb b.holds+yt Xp.cb b.zZ:=rfl;have u:zx=2097152:=rfl;refine zm rfl ?_;simp[Bk.V];refine zI (fun k U Y Z=>U 1=str s/\U 2=str t/\U 11=.sl 4 (b.holds.map vK.V)/\U 12=int b.holds.length/\U 13=int k/\jX s t b.holds=jX s t (b.holds.drop k)) b.holds.length ⟨by simp,by simp,by simp,by simp,by simp,by simp⟩ ?_;rintro k U Y Z E ⟨m,n,d,e,g,c⟩;by_cases a:k<b.holds.length
 ·obtain⟨x,h⟩:=exI (b.holds[k]);have p:=yv (f:=vK.cb) (zj a);rw[h]at p;have B:x.cb=1+x.name.length+x.qy.length+yt (fun s=>1+s.length) x.zk:=rfl;have C:=wa (f:=fun s:List UInt8=>1+s.length) (fun _=>by omega) x.zk;have w:=zlL k;have q:=fun Y Z=>Wn (fun l v=>qz (decide (v∈l))) x.zk s Y Z (by omega)
  have y:=fun Y Z=>bw x.qy t Y Z (by omega) z
  rw[zc a,h,jX]at c;by_cases i:s∈x.zk
  ·by_cases o:(Z8 x.qy t:Int)<x.buckets
   ·have j:Vs x s t=true:=by simp[Vs,i,o]
    rw[j,zd rfl]at c;simp[m,n,d,e,g,a,h,vK.V,q,y,i,o,c,Az,qS,f22]
   ·have j:Vs x s t=false:=by simp[Vs,o]
    rw[j,ze (by simp)]at c;simp[m,n,d,e,g,a,h,vK.V,q,y,i,o,w];exact⟨by omega,c⟩
  ·have j:Vs x s t=false:=by simp[Vs,i]
   rw[j,ze (by simp)]at c;simp[m,n,d,e,g,a,h,vK.V,q,i,w];exact⟨by omega,c⟩
 ·obtain rfl:k=b.holds.length:=by omega
  rw[zo]at c;simp only[jX]at c;simp[m,n,d,e,g,c,Az,qS,f22]
theorem gd:zg prog 22 (zf false [] (dD fun b s t=>Az (jX s t b.holds))):=
 pS1 za0 func22 false [] fun⟨b,s,t⟩ ⟨a,c,d⟩=>⟨by simp[f22],_,GR b s t a c d,zW _⟩
noncomputable abbrev zfI:Ctx:=zQ prog [(20,zf false [] (FBNI ca)),(21,zf false [] (FS j8)),(22,zf false [] (dD fun b s t=>Az (jX s t b.holds)))]
theorem ziw(b:Bk)(s t:za)(j:b.cb<=zx)(hs:s.length<=zx)(f:t.length<=zx):zr zfI Tryz.f8 [.agg b.V,str s,str t]=some (N1 b s t):=by
 refine zm rfl ?_;have a:=fun Y Z=>Ay ca b s 0 Y Z j
 have k:∀Y Z,zf false [] (dD fun b s t=>Az (jX s t b.holds)) [.agg b.V,str s,str t] Y Z=some (.wY [str (jX s t b.holds).1,qz (jX s t b.holds).2],Y,Z):=fun Y Z=>Vt (fun b s t=>Az (jX s t b.holds)) b s t Y Z j hs f
 simp only[Bk.V]at a k;by_cases c:QE b s 0=0
 case neg=>
  have g:=nzT c;have d:J3 b s t=(([],false),QE b s 0):=by unfold J3;rw[ze c]
  have h:ca b s 0=.wY [.agg [str [],str [],int 0],int (QE b s 0)]:=by unfold ca;rw[ze c]
  rw[h]at a;simp[Bk.V,a,g,N1,d,qS,Tryz.f8]
 have h:ca b s 0=.wY [.agg (lyE (jB s b.zk)),int 0]:=by unfold ca;rw[zd c]
 obtain⟨l,m,n,i⟩:∃p q r,lyE (jB s b.zk)=[str p,str q,int r]:=by cases jB s b.zk<;>exact⟨_,_,_,rfl⟩
 rw[h,i]at a;cases e:j8 t
 ·have d:J3 b s t=(([],false),3):=by unfold J3;rw[zd c,e,ze (by simp)]
  simp[Bk.V,a,f,e,N1,d,qS,Tryz.f8]
 ·have d:J3 b s t=(jX s t b.holds,0):=by unfold J3;rw[zd c,e,zd rfl]
  simp[Bk.V,a,f,e,k,N1,d,qS,Tryz.f8]
theorem Dj:zg prog 8 (zf false [] (dD N1)):=
 pS1 (zph mixed ⟨tT,VY,gd,trivial⟩:AM.Good zfI _) func8 false [] fun⟨b,s,t⟩ ⟨a,c,d⟩=>⟨by simp[Tryz.f8],_,ziw b s t a c d,zW _⟩
def yE(n:za):List qa->Option qa
 |[]=>none
 |s::l=>if s.name=n then some s else yE n l
theorem lj:∀{L:List qa} {s:za},(∃y∈L,y.name=s)->∃j:Nat,∃h:j<L.length,yE s L=some L[j]/\L[j].name=s
 |[],s,h=>by obtain⟨y,hy,_⟩:=h;cases hy
 |x::L,s,h=>by
  by_cases a:x.name=s
  ·exact⟨0,by simp,by simp[yE,a],a⟩
  ·obtain⟨y,hy,e⟩:=h;rcases zA.1 hy with rfl|hy
   ·exact absurd e a
   ·obtain⟨j,b,c,d⟩:=lj ⟨y,hy,e⟩;exact⟨j+1,by simpa using b,by simp[yE,a,c],by simpa using d⟩
theorem aX:∀{L:List qa} {s:za},(∀y∈L,y.name≠s)->yE s L=none
 |[],s,_=>rfl
 |x::L,s,h=>by have a:=h x (by simp);simp only[yE,ze a];exact aX fun y b=>h y (by simp[b])
theorem Xw{L:List qa}(h:bG (L.map qa.name))(s:za):(vD L s=true/\∃a:xI L s<L.length,yE s L=some L[xI L s]/\L[xI L s].name=s)\/(vD L s=false/\yE s L=none):=by
 by_cases b:∃y∈L,y.name=s
 ·obtain⟨j,a,f,d⟩:=lj b;have:=Cv h (j:=j) (s:=s) (by simp[a,d]);unfold vD xI;rw[this];exact .inl ⟨rfl,a,f,d⟩
 ·refine .inr ⟨?_,aX fun y g e=>b ⟨y,g,e⟩⟩;unfold vD;cases i:(Zy (L.map qa.name) s).2 with
  |false=>rfl
  |true=>
   have:=Cu i;rw[qQ]at this;cases c:L[(Zy (L.map qa.name) s).1]? with
   |none=>rw[c]at this;cases this
   |some y=>rw[c]at this;simp only[zK,qj]at this;exact absurd ⟨y,zM c,this⟩ b
def xo(l:List qa)(n:za):List za:=match yE n l with
 |some s=>s.cond.names
 |none=>[]
theorem za1{l:List qa}(d:bG (l.map qa.name)){n m:za}(h:m∈xo l n):vD l n=true/\xI l m∈yU l (xI l n)/\∃s∈l,m∈s.cond.names:=by
 unfold xo at h;rcases Xw d n with⟨b,c,a,e⟩|⟨b,a⟩
 ·rw[a]at h;simp only at h;refine⟨b,?_,_,zj c,h⟩;unfold yU;rw[zq c];exact X4 h
 ·rw[a]at h;cases h
theorem RN{l:List qa}(h:bG (l.map qa.name))(v:∀s∈l,∀n∈s.cond.names,vD l n=true):(∃s∈l,gE (xo l) s.cond.names s.name)↔∃i:Nat,JD (fun a b=>b∈yU l a) i i:=by
 constructor
 ·rintro⟨s,hs,x⟩;obtain⟨i,hi⟩:=VE hs;have d:∀n,gE (xo l) s.cond.names n->JD (fun a b=>b∈yU l a) i (xI l n):=by
   intro n k
   induction k with
   |here o=>exact .one (by unfold yU;rw[hi];exact X4 o)
   |there _ p q=>exact .tail q (za1 h p).2.1
  have:=d _ x;rw[(Cz h hi).1]at this;exact⟨i,this⟩
 ·rintro⟨i,hi⟩;obtain⟨b,p,_⟩:=hi.head;have f:i<l.length:=by
   refine Nat.lt_of_not_le fun r=>?_
   rw[Ap r]at p;cases p
  have d:∀j,JD (fun a b=>b∈yU l a) i j->∃n,gE (xo l) l[i].cond.names n/\xI l n=j/\vD l n=true:=by
   intro j g
   induction g with
   |one e=>unfold yU at e;rw[zq f]at e;obtain⟨n,k,rfl⟩:=wA.1 e;exact⟨n,.here k,rfl,v _ (zj f) n k⟩
   |tail _ e q=>
    obtain⟨n,t,rfl,u⟩:=q;rcases Xw h n with⟨_,g,c,w⟩|⟨c,_⟩
    ·unfold yU at e;rw[zq g]at e;obtain⟨m,o,rfl⟩:=wA.1 e;exact⟨m,.there t (by unfold xo;rw[c];exact o),rfl,v _ (zj g) m o⟩
    ·rw[u]at c;cases c
  obtain⟨n,t,y,u⟩:=d i hi;rcases Xw h n with⟨_,g,c,w⟩|⟨c,_⟩
  ·refine⟨l[i],zj f,?_⟩;have:l[i].name=n:=by rw[<-w];congr 1;simp only[y]
   rw[this];exact t
  ·rw[u]at c;cases c
noncomputable abbrev Crck:Ctx:=zQ prog [(21,zf false [] (FS j8))]
theorem nw(l:List za)(h:Kf l<=zx):zr Crck f123 [.sl 1 (zJ l)]=some (int (vE l)):=by
 have D:=Jv l;have z:=fun s (hs:s∈l)=>fu hs
 unfold zx at h;refine zm rfl ?_;unfold vE;by_cases o:(1000:Int)<l.length
 ·rw[zd o];simp[o,f123]
 rw[ze o];simp[o];refine zI (fun k U Y Z=>U 0=.sl 1 (zJ l)/\U 8=.sl 1 (zJ l)/\U 9=int l.length/\U 10=int k/\Vn none l=Vn (Kt l k) (l.drop k)) l.length
  ⟨by simp,by simp,by simp,by simp,by simp[Kt]⟩ ?_
 rintro k U Y Z E ⟨f,g,i,c,a⟩;by_cases b:k<l.length
 ·have F:=zlL k;obtain⟨s,hs⟩:=exI (l[k]);have d:s.length<=zx:=by have:=z s (by rw[<-hs];exact zj b);unfold zx;omega
  rw[rf b,hs]at a;have m:Kt l (k+1)=some s:=by simp[Kt,b,hs]
  cases e:j8 s
  ·rw[e,ze (by simp)]at a;simp[f,g,i,c,b,hs,d,e,a,f123]
  rw[e,zd rfl]at a;by_cases A:k=0
  ·subst A;have B:=zpg 1;simp only[Kt,vf,qA,zF,qJ]at a;simp[f,g,i,c,b,hs,d,e,B];exact⟨by omega,by rw[a,m];simp⟩
  ·obtain⟨j,rfl⟩:∃j,k=j+1:=⟨k-1,by omega⟩;have q:j<l.length:=by omega
   have t:i6.wrap ((j:Int)+1-1)=(j:Int):=by rw[zi (by omega) (by omega)];omega
   have n:=zpg (j:Int);have u:((j:Int)+1).toNat=j+1:=by omega
   have v:0<(j:Int)+1:=by omega
   have w:0<=(j:Int)+1:=by omega
   have x:(j:Int)+1<l.length:=by omega
   have C:=zpg ((j:Int)+1+1);have y:(Op.bytesLess s l[j]||s==l[j])=K3 s l[j]:=rfl;have r:Kt l (j+1)=some l[j]:=by simp[Kt,q]
   simp only[r,vf]at a;cases p:K3 s l[j]
   ·rw[p,ze (by simp)]at a;simp[f,g,i,c,b,q,hs,d,e,t,n,u,v,w,x,y,p,C];exact⟨by omega,by rw[a,m]⟩
   ·rw[p,zd rfl]at a;simp[f,g,i,c,b,q,hs,d,e,t,n,u,v,w,x,y,p,a,f123]
 ·obtain rfl:k=l.length:=by omega
  rw[zo]at a;have a:Vn none l=0:=by rw[a];rfl
  simp[f,g,i,c,a,f123]
theorem lk:zg prog 123 (zf false [] (FTl (fun l=>int (vE l)) fun l=>Kf l<=zx)):=
 pS1 (zph mixed ⟨VY,trivial⟩:AM.Good Crck _) func123 false [] fun l a=>⟨zG (zl 1) (by decide),_,nw l a,zW _⟩
def sR:qa:=⟨[],[],[],.mk 0 [] 0 [] [] [] []⟩
def Ms(r:Option qa):qa:=r.getD sR
def Vz(r:Option qa):O:=.wY [.agg (Ms r).V,qz r.isSome]
noncomputable def RO (out:List qa->za->O) (b:List qa->za->Prop):zb->Option O:=z6 (α:=List qa×za) (fun a=>[.sl 10 (a.1.map qa.V),str a.2]) (fun a=>b a.1 a.2) (fun a=>out a.1 a.2)
theorem ln(out:List qa->za->O)(c:List qa->za->Prop)(l:List qa)(s:za)(Y:Hp)(Z:Nat)(h:c l s):zf false [] (RO out c) [.sl 10 (l.map qa.V),str s] Y Z=some (out l s,Y,Z):=
 hPc (l,s) _ _ (by simp) (fun a b e=>by obtain⟨g,i⟩:=a;obtain⟨j,k⟩:=b;simp only[zh,zD]at e;obtain⟨d,f⟩:=e;rw[kH d,q9 f]) h (.inr rfl)
theorem GU{l:List qa}{k:Nat}(h:k<l.length)(s:za):yE s (l.drop k)=if l[k].name=s then some l[k]else yE s (l.drop (k+1)):=by rw[zc h,yE]
theorem za2:qW (.agg [str [],.nil,.nil,int 0,str [],int 0,.nil,str [],str [],.nil]) (.agg sR.V):=by rw[jc];exact ki.agg (.cons (.refl _) (.cons (.cZ (.inl ⟨rfl,rfl⟩)) (.cons (.cZ (.inl ⟨rfl,rfl⟩)) (.cons (.refl _) (.cons (.refl _) (.cons (.refl _) (.cons (.cZ (.inl ⟨rfl,rfl⟩)) (.cons (.refl _) (.cons (.refl _) (.cons (.cZ (.inl ⟨rfl,rfl⟩)) .nil))))))))))
theorem ny(l:List qa)(s:za)(h:l.length<=zx):∃o,zr C0 f126 [.sl 10 (l.map qa.V),str s]=some o/\qW o (Vz (yE s l)):=by
 unfold zx at h;refine kB rfl ?_;simp;refine zI (fun k U Y Z=>U 1=str s/\U 4=.ref 0 0 0/\U 8=.sl 10 (l.map qa.V)/\U 9=int l.length/\U 10=int k/\1<=Z/\Y 0=some ⟨95,10,false,[[str [],.nil,.nil,int 0,str [],int 0,.nil,str [],str [],.nil]]⟩/\yE s l=yE s (l.drop k)) l.length
  ⟨by simp,by simp,by simp,by simp,by simp,by simp,by simp[qe,qM],by simp⟩ ?_
 rintro k U Y Z r ⟨f,g,i,j,a,p,m,b⟩;have n1:¬0=Z:=by omega
 have c:¬Z=0:=by omega
 by_cases e:k<l.length
 ·have q:=zlL k;rw[GU e]at b;by_cases d:l[k].name=s
  ·rw[zd d]at b;have n:(l[k].name==s)=true:=by simpa using d
   rw[b];simp[f,g,i,j,a,e,n,n1,c,m,f126];exact⟨Vz (some l[k]),by simp[Vz,Ms,jc],.refl _⟩
  ·rw[ze d]at b;have n:=eqF0 d;simp[f,g,i,j,a,e,n,n1,c,q]
   and_intros<;>first|omega|exact b|simp[n1,c,m]
 ·obtain rfl:k=l.length:=by omega
  rw[zo]at b;rw[b];simp[f,g,i,j,a,yE,m,qe,qM,f126];refine⟨.wY [.agg [str [],.nil,.nil,int 0,str [],int 0,.nil,str [],str [],.nil],qz false],by simp,?_⟩;exact ki.wY (.cons za2 (.cons (.refl _) .nil))
theorem Ya:zg prog 126 (zf false [] (RO (fun l s=>Vz (yE s l)) fun l _=>l.length<=zx)):=
 xE (fn:=f126) (zw (q:=[]) mixed trivial:AM.Good C0 _) (zpi func126) false [] _ fun args r h w S vs a=>by obtain⟨⟨l,s⟩,rfl,b,rfl⟩:=zp h;obtain⟨c,d,e⟩:=ny l s b;exact⟨_,c,a,zG (zl 2) (by decide),d,e⟩
def Dk(l:List qa):kV:=⟨22,1,false,[[.sl 10 (l.map qa.V)]]⟩
noncomputable abbrev Ckn1:Ctx:=zQ prog [(66,zf false [] Aq)]
noncomputable abbrev kn1S:AM.Spec:=we Ckn1 f97
theorem RQ:zg prog 97 kn1S:=zpj (zph mixed ⟨dz,trivial⟩:AM.Good Ckn1 _) func97
theorem zd9(l:List qa)(n:za)(b:l.length<=zx)(Y:Hp)(Z id:Nat)(a:Y id=some (Dk l)):kn1S [str n,.ref id 0 0] Y Z=some (qz (vD l n),Y,Z):=by
 unfold kn1S we;rw[zd (by simp[f97])];refine yu rfl ?_;have c:=fun Y Z=>dy l n Y Z b
 simp[Dk]at a;simp[a,c,vD,f97]
theorem AX{f:za->Bool}:∀l:List za,(wG (fun(_:Unit) n=>(!f n,())) () l).1=!(l.all f)
 |[]=>rfl
 |a::l=>by
  cases h:f a
  ·simp[wG,h]
  ·simp[wG,h,AX l]
noncomputable def FKn:zb->Option O:=z6 (α:=List qa×qO) (fun a=>[.sl 10 (a.1.map qa.V),.agg a.2.V]) (fun a=>a.1.length<=zx/\a.2.cb<=zx) (fun a=>qz (Y6 a.1 a.2))
theorem za3(l:List qa)(c:qO)(Y:Hp)(Z:Nat)(h:l.length<=zx)(d:c.cb<=zx):zf false [] FKn [.sl 10 (l.map qa.V),.agg c.V] Y Z=some (qz (Y6 l c),Y,Z):=
 hPc (l,c) _ _ (by simp[qY]) (fun a b e=>by obtain⟨f,g⟩:=a;obtain⟨i,j⟩:=b;simp only[zh,zD,O.agg.injEq]at e;rw[kH e.1,vQ e.2]) ⟨h,d⟩ (.inl rfl)
noncomputable abbrev Ckn:Ctx:=zQ prog [(96,mj 97 kn1S zx)]
theorem Mt(l:List qa)(c:qO)(e:l.length<=zx)(d:c.cb<=zx):zr Ckn f52 [.sl 10 (l.map qa.V),.agg c.V]=some (qz (Y6 l c)):=by
 refine zm rfl ?_;obtain⟨x,f,i,a,rfl,_,_,_⟩:=rq (U:=Unit) (T:=fun _=>False) (Rep:=fun _ Y=>Y 0=some (Dk l)) (step:=fun _ n=>(!vD l n,())) (Q:=fun _=>True) (g:=97) (sp:=kn1S) (cap:=[.ref 0 0 0]) (Z0:=2) (by decide) (fun _ h=>h.elim)
  (fun _ Y j b k h=>by rw[zt _ _ _ _ (by omega)];exact h) (fun _ n Y Z _ _ _ h=>⟨_,Y,Z,zd9 l n e Y Z 0 h,by simp,h,zl _,fun _ _ _=>rfl⟩) zx c () (qR (qR (fun _=>none) 0 (some (Dk l))) 1 (some ⟨70,7,false,[c.V]⟩)) 2 d d (fun _ _=>trivial) (zl _) (by simp)
 rw[AX]at a;simp only[Dk,Bool.not_not]at a;simp[a,Y6,qS,f52]
theorem GW:zg prog 52 (zf false [] FKn):=
 pS1 (zph mixed ⟨dA RQ zx,trivial⟩:AM.Good Ckn _) func52 false [] fun⟨l,c⟩ ⟨a,b⟩=>⟨by simp[f52],_,Mt l c a b,zW _⟩
def Dl(st:List Int):kV:=⟨3,1,true,st.map fun z=>[int z]⟩
noncomputable def ci1S (sp:AM.Spec):AM.Spec:=we (zQ prog [(66,zf false [] Aq),(53,sp)]) f98
noncomputable def r7:Nat->AM.Spec
 | 0=>fun _ _ _=>none
 |n+1=>we (zQ prog [(96,mj 98 (ci1S (r7 n)) zx)]) f53
theorem RR{sp:AM.Spec}(h:zg prog 53 sp):zg prog 98 (ci1S sp):=
 zpj (zw (q:=[]) (l:=[(66,zf false [] Aq),(53,sp)]) mixed ⟨dz,by simp,h,by simp,trivial⟩) func98
theorem r8:∀n,zg prog 53 (r7 n)
 | 0=>WY ⟨_,func53,by kernel_rfl,by kernel_rfl⟩
 |n+1=>zpj (zw (q:=[]) (l:=[(96,mj 98 (ci1S (r7 n)) zx)]) mixed ⟨dA (RR (r8 n)) zx,by simp,trivial⟩) func53
theorem AY{S α b:Type}(f:S->b->Bool×S)(m:α->b):∀(s:S) (l:List α),wG (fun s a=>f s (m a)) s l=wG f s (l.map m)
 |_,[]=>rfl
 |s,a::l=>by simp only[wD,wG,AY f m _ l]
theorem Od(st:List Int)(i:Nat)(v:Int):(st.map fun z=>[int z]).set i [int v]=(st.set i v).map fun z=>[int z]:=by rw[zeR]
theorem GX(l:List qa)(hl:QZ l<=zx)(S:∀s∈l,∀n∈s.cond.names,vD l n=true)(ids:Nat):∀(n:Nat) (st:List Int) (i:Nat) (Y:Hp) (Z:Nat),Z2 st<n->st.length=l.length->i<l.length->ids<Z->Y ids=some (Dl st) ->
  ∃x W X,r7 n [.sl 10 (l.map qa.V),.own ids 0 l.length,int i] Y Z=some (x,W,X)/\jg (·=ids) (fun st Y=>Y ids=some (Dl st)) (qz (vv (yU l) n st i).1) (vv (yU l) n st i).2 Y Z x W X
 | 0,_,_,_,_,h,_,_,_,_=>absurd h (by omega)
 |n+1,st,i,Y0,a,hw,B,d,hid,C=>by
  have hle:=Wk l;have hm:=Yn (zj d);have hmc:l[i].cb=1+l[i].name.length+Kf l[i].ins+Kf l[i].outs+l[i].cond.cb:=rfl;unfold zx at hl;have ni:¬ids=a:=by omega
  have k:¬ids=a+1:=by omega
  have c:i<st.length:=by omega
  have D:=C;simp[Dl]at D;unfold r7 we;rw[zd (by simp[f53])];refine qw rfl ?_;by_cases w:st[i]=0
  case neg=>
   have E:vv (yU l) (n+1) st i=(decide (st[i]?=some 1),st):=by simp only[vv];rw[ze (by rw[zq c];simpa using w)]
   have F:=nzT w;have G:decide (st[i]?=some 1)=(st[i]==1):=by rw[zq c,qc];simp
   rw[E,G];simp[D,ni,k,d,c,F,jg,f53];exact⟨rfl,by omega,fun j H o=>by rw[zt _ _ _ _ (by omega),zt _ _ _ _ (by omega)]⟩
  have h0:st[i]?=some 0:=by rw[zq c,w]
  have hwc:=iL h0 (v:=1) (by decide);have e:yU l i=l[i].cond.names.map (xI l):=by unfold yU;rw[zq d]
  have E:vv (yU l) (n+1) st i=((wG (vv (yU l) n) (st.set i 1) (yU l i)).1,(wG (vv (yU l) n) (st.set i 1) (yU l i)).2.set i 2):=by simp only[vv];rw[zd h0]
  have I:=J2 (xj (yU l) n) (yU l i) (st.set i 1);obtain⟨x,Y2,p,f,rfl,⟨q,r2b,r2c,J,K⟩,n2,r⟩:=rq (U:=List Int) (T:=(·=ids)) (Rep:=fun s Y=>Y ids=some (Dl s)/\s.length=l.length/\Z2 s<n/\Y a=some (Dk l)/\Y (a+1)=some ⟨98,1,false,[[.own ids 0 l.length]]⟩) (step:=fun s m=>vv (yU l) n s (xI l m)) (Q:=fun m=>vD l m=true) (g:=98)
   (sp:=ci1S (r7 n)) (cap:=[.ref a 0 0,.ref (a+1) 0 0]) (Z0:=a+2) (by decide) (fun j H=>by omega)
   (fun s Y j b H ⟨L,y,z,t,A⟩=>⟨by rw[zt _ _ _ _ (by omega)];exact L,y,z,by rw[zt _ _ _ _ (by omega)];exact t,by rw[zt _ _ _ _ (by omega)];exact A⟩)
   (fun s m Y Z hq hml o ⟨L,y,z,t,A⟩=>by
    have M:=Cx hq;have G:=fun Y Z=>dy l m Y Z (by unfold zx;omega)
    obtain⟨x,Y2,p,f,rfl,q,n2,r⟩:=GX l (by unfold zx;omega) S ids n s (xI l m) Y Z z y M (by omega) L;have u:=xj (yU l) n s (xI l m);refine⟨_,Y2,p,?_,rfl,⟨q,by rw[u.len];exact y,zpf u.wh z,by rw[r a (by omega) (by omega)];exact t,by rw[r (a+1) (by omega) (by omega)];exact A⟩,n2,r⟩;unfold ci1S we;rw[zd (by simp[f98])];refine yu rfl ?_;simp only[Dk]at t;simp only[xI]at f;simp[t,A,G,f,xI,f98])
   zx l[i].cond (st.set i 1) (qR (qR (qR Y0 a (some (Dk l))) (a+1) (some ⟨98,1,false,[[.own ids 0 l.length]]⟩)) ids (some (Dl (st.set i 1)))) (a+2) (by unfold zx;omega) (by unfold zx;omega) (fun m hm=>S _ (zj d) m hm) (zl _)
   ⟨by simp,by simp[B],by omega,by rw[zt _ _ _ _ (by omega),zt _ _ _ _ (by omega)];simp,by rw[zt _ _ _ _ (by omega)];simp⟩
  rw[AY (vv (yU l) n) (xI l),<-e]at f q;rw[E];simp only[Dk,Dl,<-Od]at f;simp only[Dl]at q;have N:¬a=ids:=by omega
  have P:¬a+1=ids:=by omega
  have R:i<(wG (vv (yU l) n) (st.set i 1) (yU l i)).2.length:=by rw[I.len,bY];exact c
  simp[D,ni,k,N,P,d,c,w,f,q,J,K,R,jg,f53];exact⟨by rw[Od];rfl,by omega,fun j H o=>by rw[zt _ _ _ _ o,r j (by omega) o,zt _ _ _ _ o,zt _ _ _ _ (by omega),zt _ _ _ _ (by omega)]⟩
noncomputable abbrev Css1:Ctx:=zQ prog [(94,zf false [] (FKs hkP))]
noncomputable abbrev ss1S:AM.Spec:=we Css1 f93
theorem RS:zg prog 93 ss1S:=zpj (zph mixed ⟨fw,trivial⟩:AM.Good Css1 _) func93
def aY(s:qa):kV:=⟨95,10,false,[s.V]⟩
theorem zea(s:qa)(k:za)(b:Kf s.outs<=zx)(c:k.length<=zx)(Y:Hp)(Z id:Nat)(a:Y id=some (aY s)):ss1S [str k,.ref id 0 0] Y Z=some (qz (Zy s.outs k).2,Y,Z):=by
 unfold ss1S we;rw[zd (by simp[f93])];refine yu rfl ?_;have d:=fun Y Z=>CA s.outs k Y Z b c
 simp[aY]at a;simp[a,d,f93]
def KV(f:za->Bool):Nat->List za->Int
 |_,[]=>-1
 |k,s::l=>if f s=true then k else KV f (k+1) l
theorem r9(f:za->Bool):∀(l:List za) (k:Nat),decide (0<=KV f k l)=l.any f
 |[],k=>by simp[KV]
 |s::l,k=>by
  cases h:f s
  ·rw[KV,h,ze (by simp),r9 f l (k+1),wN,h];rfl
  ·rw[KV,h,zd rfl,wN,h];simp
noncomputable abbrev Csix:Ctx:=zQ prog [(93,ss1S)]
noncomputable abbrev sixS:AM.Spec:=we Csix f144
theorem RT:zg prog 144 sixS:=zpj (zph mixed ⟨RS,trivial⟩:AM.Good Csix _) func144
def tU(id:Nat):O:=.fn (.func 93) [] [.ref id 0 0]
theorem zeb(s:qa)(hs:s.cb<=zx)(Y:Hp)(Z id:Nat)(q:Y id=some (aY s)) :
  sixS [.sl 1 (zJ s.ins),tU id] Y Z=some (int (KV (fun k=>(Zy s.outs k).2) 0 s.ins),Y,Z):=by
 have r:s.cb=1+s.name.length+Kf s.ins+Kf s.outs+s.cond.cb:=rfl;have t:=Jv s.ins;have u:=fun k (o:k∈s.ins)=>fu o
 unfold zx at hs;unfold sixS we;rw[zd (by simp[f144])];refine yu rfl ?_;have e:(zJ s.ins).length=s.ins.length:=by simp[zJ]
 simp[tU,e];refine zI (fun k U Y1 f=>U 0=.sl 1 (zJ s.ins)/\U 1=tU id/\U 7=int s.ins.length/\U 8=int k/\Y1=Y/\f=Z/\KV (fun k=>(Zy s.outs k).2) 0 s.ins=KV (fun k=>(Zy s.outs k).2) k (s.ins.drop k)) s.ins.length ⟨by simp,by simp[tU],by simp,by simp,rfl,rfl,by simp⟩ ?_;rintro k U Y1 f o ⟨i,j,l,m,rfl,rfl,c⟩;by_cases b:k<s.ins.length
 ·have p:=zlL k;obtain⟨y,n⟩:=exI (s.ins[k]);have v:=u y (by rw[<-n];exact zj b);have d:k<(zJ s.ins).length:=by omega
  have g:(zJ s.ins)[k]=[str y]:=by simp[zJ,n]
  have a:=zea s y (by unfold zx;omega) (by unfold zx;omega) Y1 f id q;rw[zc b,n,KV]at c;cases h:(Zy s.outs y).2
  ·rw[h,ze (by simp)]at c;rw[h]at a;simp[i,j,l,m,tU,b,e,d,g,a,p];exact⟨by omega,c⟩
  ·rw[h,zd rfl]at c;rw[h]at a;simp[i,j,l,m,tU,b,e,d,g,a,p,c,f144]
 ·obtain rfl:k=s.ins.length:=by omega
  rw[zo]at c;simp only[KV]at c;simp[i,j,l,m,c,f144]
noncomputable abbrev Csct:Ctx:=zQ prog [(144,sixS)]
noncomputable abbrev sctS:AM.Spec:=we Csct f92
theorem RU:zg prog 92 sctS:=zpj (zph mixed ⟨RT,trivial⟩:AM.Good Csct _) func92
theorem zec(s:qa)(hs:s.cb<=zx)(Y:Hp)(Z id:Nat)(b:Y id=some (aY s)) :
  sctS [.sl 1 (zJ s.ins),tU id] Y Z=some (qz (s.ins.any fun k=>(Zy s.outs k).2),Y,Z):=by
 unfold sctS we;rw[zd (by simp[f92])];refine yu rfl ?_;have a:=zeb s hs Y Z id b;have c:=r9 (fun k=>(Zy s.outs k).2) s.ins 0;simp only[tU]at a;simp[tU,a,c,f92]
noncomputable def FSgm (out:qa->O):zb->Option O:=z6 (α:=qa) (fun s=>[.agg s.V]) (fun s=>s.cb<=zx) out
theorem RV(out:qa->O)(s:qa)(Y:Hp)(Z:Nat)(h:s.cb<=zx)(c:(out s).flat=true):zf false [] (FSgm out) [.agg s.V] Y Z=some (out s,Y,Z):=
 hPc s _ _ (by simp[jc]) (fun a b e=>by simp only[zh,zD,O.agg.injEq]at e;exact Xi e) h (.inl c)
noncomputable abbrev Csg1:Ctx:=zQ prog [(91,zf false [] (FTl (fun l=>int (vE l)) fun l=>Kf l<=zx)),(92,sctS),(95,GC fun c=>int c.check)]
theorem zed{l m:List za}(a:bG m):(l.any fun k=>(Zy m k).2)=l.any fun k=>m.contains k:=by congr 1;funext k;exact nR a k
theorem gf(s:qa)(h:s.cb<=zx):zr Csg1 f51 [.agg s.V]=some (int (Zk s)):=by
 have n:s.cb=1+s.name.length+Kf s.ins+Kf s.outs+s.cond.cb:=rfl;unfold zx at h;have j:=fun Y Z=>fv (fun l=>int (vE l)) (fun l=>Kf l<=zx) s.ins Y Z (by unfold zx;omega) rfl
 have m:=fun Y Z=>fv (fun l=>int (vE l)) (fun l=>Kf l<=zx) s.outs Y Z (by unfold zx;omega) rfl
 have o:=fun Y Z=>xX (fun c=>int c.check) s.cond Y Z (by unfold zx;omega)
 refine zm rfl ?_;simp[zz,zS,zy];rw[zT];by_cases b:vE s.ins=0
 case neg=>
  have a:Zk s=vE s.ins:=by unfold Zk;rw[ze b]
  have g:=nzT b;simp[j,g,a,qS,f51]
 have p:=zpg 1;have q:=zpg 2;simp[j,b,p];rw[zT];by_cases d:vE s.outs=0
 case neg=>
  have a:Zk s=vE s.outs:=by unfold Zk;rw[zd b,ze d]
  have i:=nzT d;simp[m,i,a,qS,f51]
 simp[m,d,q];rw[zT];have e:=zec s (by unfold zx;omega) (qR (qR (fun _=>none) 0 (some (aY s))) 1 (some ⟨88,1,true,[[.sl 1 (zJ s.ins)],[.sl 1 (zJ s.outs)]]⟩)) 2 0 (by simp);rw[zed (rh d)]at e;simp only[tU,aY]at e;cases f:s.ins.any fun k=>s.outs.contains k
 ·have a:Zk s=s.cond.check:=by unfold Zk;rw[zd b,zd d,f,ze (by simp)]
  rw[f]at e;simp[e,o,a,qS,f51]
 ·have a:Zk s=7:=by unfold Zk;rw[zd b,zd d,f,zd rfl]
  rw[f]at e;simp[e,a,qS,f51]
theorem dT:zg prog 51 (zf false [] (FSgm fun s=>int (Zk s))):=
 pS1 (zph mixed ⟨np,RU,Xh,trivial⟩:AM.Good Csg1 _) func51 false [] fun s a=>⟨by simp[f51],_,gf s a,zW _⟩
def KW(l:List qa)(k:Nat):Option za:=if k=0 then none else(l[k-1]?).map qa.name
noncomputable def FSs (out:List qa->O):zb->Option O:=z6 (α:=List qa) (fun l=>[.sl 10 (l.map qa.V)]) (fun l=>QZ l<=zx) out
theorem za4(out:List qa->O)(l:List qa)(Y:Hp)(Z:Nat)(h:QZ l<=zx)(c:(out l).flat=true):zf false [] (FSs out) [.sl 10 (l.map qa.V)] Y Z=some (out l,Y,Z):=
 hPc l _ _ rfl (fun a b e=>by simp only[zh,zD]at e;exact kH e) h (.inl c)
noncomputable abbrev Csgs:Ctx:=zQ prog [(27,zf false [] (FS wb)),(51,zf false [] (FSgm fun s=>int (Zk s))),(52,zf false [] FKn),(53,r7 2097153)]
theorem zee:Gd Csgs:=zph mixed ⟨xW,dT,GW,r8 _,trivial⟩
theorem RW:Q9 Csgs g0F 23 f23:=zpi func23
theorem dU(l:List qa)(h:QZ l<=zx):zr Csgs f23 [.sl 10 (l.map qa.V)]=some (int (jA l)):=by
 have hlen:=Wk l;have hlim:zx=2097152:=rfl;refine zm rfl ?_;by_cases o:(100:Int)<l.length
 ·have d:jA l=2:=by unfold jA;rw[zd o]
  simp[o,d,f23]
 refine km (fun U Y Z=>U 0=.sl 10 (l.map qa.V)) (by simp) ?_;rintro U Y Z c;refine km (fun U Y Z=>U 0=.sl 10 (l.map qa.V)) (by simp[c,o]) ?_;clear c U Y Z;rintro U Y Z c;refine km (fun U Y Z=>U 0=.sl 10 (l.map qa.V)/\Jf none l=0) ?_ ?_
 ·simp[c];refine zI (fun k U Y Z=>U 0=.sl 10 (l.map qa.V)/\U 13=.sl 10 (l.map qa.V)/\U 14=int l.length/\U 15=int k/\Jf none l=Jf (KW l k) (l.drop k)) l.length ⟨by simp[c],by simp,by simp,by simp,by simp[KW]⟩ ?_;clear c U Y Z;rintro k U Y Z hk ⟨c,e,f,g,a⟩;by_cases b:k<l.length
  ·have G:=zlL k;obtain⟨s,hs⟩:=exI (l[k]);have L:=Yn (zj b);rw[hs]at L;have M:s.cb=1+s.name.length+Kf s.ins+Kf s.outs+s.cond.cb:=rfl;have i:s.name.length<=zx:=by omega
   have B:KW l (k+1)=some s.name:=by simp[KW,b,hs]
   have p:=fun Y Z=>RV (fun s=>int (Zk s)) s Y Z (by omega) rfl
   rw[LM b,hs]at a;cases r:wb s.name
   ·rw[r,ze (by simp)]at a;have d:jA l=5:=by unfold jA;rw[ze o,a,ze (by decide)]
    simp[c,e,f,g,b,hs,i,r,d,f23]
   rw[r,zd rfl]at a;have key:vf (KW l k) s.name=true\/vf (KW l k) s.name=false:=by cases vf (KW l k) s.name<;>simp
   by_cases k0:k=0
   ·subst k0;have w1:=zpg 1;simp only[KW,vf,qA,zF,qJ]at a;by_cases m:Zk s=0
    ·rw[zd m]at a;simp[c,e,f,g,b,hs,i,r,p,m,w1];exact⟨by omega,by rw[a,B];simp⟩
    ·rw[ze m]at a;have t:=nzT m;have d:jA l=Zk s:=by unfold jA;rw[ze o,a,ze m]
     simp[c,e,f,g,b,hs,i,r,p,t,d,f23]
   ·obtain⟨j,rfl⟩:∃j,k=j+1:=⟨k-1,by omega⟩;have H:j<l.length:=by omega
    have N:i6.wrap ((j:Int)+1-1)=(j:Int):=by rw[zi (by omega) (by omega)];omega
    have u:=zpg (j:Int);have Q:((j:Int)+1).toNat=j+1:=by omega
    have R:0<(j:Int)+1:=by omega
    have S:0<=(j:Int)+1:=by omega
    have T:(j:Int)+1<l.length:=by omega
    have wk:=zpg ((j:Int)+1+1);have W:(Op.bytesLess s.name l[j].name||s.name==l[j].name)=K3 s.name l[j].name:=rfl;have X:KW l (j+1)=some l[j].name:=by simp[KW,H]
    simp only[X,vf]at a;cases C:K3 s.name l[j].name
    ·rw[C,ze (by simp)]at a;by_cases m:Zk s=0
     ·rw[zd m]at a;simp[c,e,f,g,b,H,hs,i,r,N,u,Q,R,S,T,W,C,wk,p,m];exact⟨by omega,by rw[a,B]⟩
     ·rw[ze m]at a;have t:=nzT m;have d:jA l=Zk s:=by unfold jA;rw[ze o,a,ze m]
      simp[c,e,f,g,b,H,hs,i,r,N,u,Q,R,S,T,W,C,p,t,d,f23]
    ·rw[C,zd rfl]at a;have d:jA l=8:=by unfold jA;rw[ze o,a,ze (by decide)]
     simp[c,e,f,g,b,H,hs,i,r,N,u,Q,R,S,T,W,C,d,f23]
  ·obtain rfl:k=l.length:=by omega
   rw[zo]at a;have a:Jf none l=0:=by rw[a];rfl
   simp[c,e,f,g,a]
 clear c U Y Z;rintro U Y Z ⟨c,hG⟩;refine km (fun U Y Z=>U 0=.sl 10 (l.map qa.V)/\(l.all fun s=>Y6 l s.cond)=true) ?_ ?_
 ·simp[c];refine zI (fun k U Y Z=>U 0=.sl 10 (l.map qa.V)/\U 43=.sl 10 (l.map qa.V)/\U 44=int l.length/\U 45=int k/\(l.all fun s=>Y6 l s.cond)=(l.drop k).all fun s=>Y6 l s.cond) l.length ⟨by simp[c],by simp,by simp,by simp,by simp⟩ ?_;clear c U Y Z;rintro k U Y Z hk ⟨c,v,w,y,a⟩;by_cases b:k<l.length
  ·have G:=zlL k;obtain⟨s,hs⟩:=exI (l[k]);have L:=Yn (zj b);rw[hs]at L;have M:s.cb=1+s.name.length+Kf s.ins+Kf s.outs+s.cond.cb:=rfl;have q:=fun Y Z=>za3 l s.cond Y Z (by omega) (by omega)
   rw[zc b,hs,q8]at a;cases I:Y6 l s.cond
   ·rw[I,kT]at a;have d:jA l=9:=by unfold jA;rw[ze o,zd hG,a,ze (by simp)]
    simp[c,v,w,y,b,hs,q,I,d,f23]
   ·rw[I,jb]at a;simp[c,v,w,y,b,hs,q,I,G];exact⟨by omega,a⟩
  ·obtain rfl:k=l.length:=by omega
   rw[zo]at a;simp only[JA]at a;simp[c,v,w,y];exact ql.1 a
 clear c U Y Z;rintro U Y Z ⟨c,hK⟩;have q:∀s∈l,∀n∈s.cond.names,vD l n=true:=fun s hs n hn=>ql.1 (ql.1 hK s hs) n hn
 have hm1:l.length<=maxLen:=by unfold maxLen;omega
 have hm2:l.length*8<=140737488355328:=by omega
 simp[c,ZA,hm1,hm2];obtain⟨P,hP⟩:=exI Z;rw[hP];refine zI (fun k U Y Z=>U 0=.sl 10 (l.map qa.V)/\U 8=.own P 0 l.length/\U 59=int l.length/\U 60=int k/\P<Z/\∃st:List Int,st.length=l.length/\Z2 st<2097153/\Y P=some (Dl st)/\rj l=(U1 l st ((List.range l.length).drop k)).1) l.length
  ⟨by simp[c],by simp,by simp,by simp,by simp,List.replicate l.length 0,by simp,by rw[rl];omega,by simp[Dl],by simp[rj]⟩ ?_
 clear c hP U Y Z;rintro k U Y Z hk ⟨c,h8,z,A,SS,st,D,E,hb,a⟩;by_cases b:k<l.length
 ·have G:=zlL k;obtain⟨x,Y2,OD,J,rfl,r2,n2,f2⟩:=GX l h q P 2097153 st k Y Z E D b SS hb;have F:=xj (yU l) 2097153 st k;rw[zc (by simpa using b),List.getElem_range]at a;unfold U1 at a;cases K:(vv (yU l) 2097153 st k).1
  ·rw[QO K]at a;rw[K]at J;simp[c,h8,z,A,b,J,G];exact⟨by omega,by omega,_,by rw[F.len];exact D,zpf F.wh E,r2,by rw[a];rfl⟩
  ·rw[WZ K]at a;rw[K]at J;have d:jA l=12:=by unfold jA;rw[ze o,zd hG,zd hK,zd a]
   simp[c,h8,z,A,b,J,d,f23]
 ·obtain rfl:k=l.length:=by omega
  have a:rj l=false:=by rw[a,jH (by simp)];rfl
  have d:jA l=0:=by unfold jA;rw[ze o,zd hG,zd hK,a,ze (by simp)]
  simp[c,h8,z,A,d,f23]
theorem cc:zg prog 23 (zf false [] (FSs fun l=>int (jA l))):=
 zX (fn:=f23) zee RW false [] _ fun args r h=>by obtain⟨l,rfl,a,rfl⟩:=zp h;exact⟨zG (zl 1) (by decide),_,dU l a,zW _⟩
noncomputable def WG (s:qa) (q:za):Int:=if wb s.name=true then(if K3 s.name q=true then 8 else Zk s)else 5
noncomputable def FSgB (out:qa->za->O):zb->Option O:=z6 (α:=qa×za) (fun a=>[.agg a.1.V,str a.2]) (fun a=>a.1.cb<=zx) fun a=>out a.1 a.2
theorem RX(out:qa->za->O)(s:qa)(q:za)(Y:Hp)(Z:Nat)(h:s.cb<=zx)(c:(out s q).flat=true):zf false [] (FSgB out) [.agg s.V,str q] Y Z=some (out s q,Y,Z):=
 hPc (s,q) _ _ (by simp[jc]) (fun a b e=>by obtain⟨d,f⟩:=a;obtain⟨g,i⟩:=b;simp only[zh,zD,O.agg.injEq]at e;rw[Xi e.1,q9 e.2]) h (.inl c)
noncomputable abbrev Crsg:Ctx:=zQ prog [(37,zf false [] (FS wb)),(123,zf false [] (FTl (fun l=>int (vE l)) fun l=>Kf l<=zx)),(47,zf false [1] (Iu fun l v=>qz (decide (v∈l)))),(124,GC fun c=>int c.check)]
theorem gg{α:Type}{p:α->Bool}{l:List α}{k:Nat}(h:k<l.length):(l.drop k).any p=(p l[k]||(l.drop (k+1)).any p):=by rw[zc h,wN]
theorem dV(s:qa)(q:za)(h:s.cb<=zx):zr Crsg f72 [.agg s.V,str q]=some (int (WG s q)):=by
 have D:s.cb=1+s.name.length+Kf s.ins+Kf s.outs+s.cond.cb:=rfl;have E:=Jv s.ins;have F:=Jv s.outs;unfold zx at h;have a:s.name.length<=zx:=by unfold zx;omega
 have u:=fun Y Z=>fv (fun l=>int (vE l)) (fun l=>Kf l<=zx) s.ins Y Z (by unfold zx;omega) rfl
 have B:=fun Y Z=>fv (fun l=>int (vE l)) (fun l=>Kf l<=zx) s.outs Y Z (by unfold zx;omega) rfl
 have G:=fun Y Z=>xX (fun c=>int c.check) s.cond Y Z (by unfold zx;omega)
 have r:(Op.bytesLess s.name q||s.name==q)=K3 s.name q:=rfl;refine zm rfl ?_;unfold WG;cases n:wb s.name
 ·simp[a,n,f72]
 cases t:K3 s.name q
 case true=>simp[a,n,r,t,f72]
 by_cases b:vE s.ins=0
 case neg=>
  have e:Zk s=vE s.ins:=by unfold Zk;rw[ze b]
  have w:=nzT b;simp[a,n,r,t,u,w,e,f72]
 by_cases o:vE s.outs=0
 case neg=>
  have e:Zk s=vE s.outs:=by unfold Zk;rw[zd b,ze o]
  have y:=nzT o;simp[a,n,r,t,u,b,B,y,e,f72]
 simp[a,n,r,t,u,b,B,o];refine zI (fun k U Y Z=>U 2=.ref 0 0 0/\U 32=.sl 1 (zJ s.ins)/\U 33=int s.ins.length/\U 34=int k/\1<=Z/\Y 0=some (aY s)/\(s.ins.any fun k=>s.outs.contains k)=(s.ins.drop k).any fun k=>s.outs.contains k) s.ins.length
  ⟨by simp,by simp,by simp,by simp,by simp,by simp[aY],by simp⟩ ?_
 rintro k U Y Z K ⟨z,f,g,i,H,p,m⟩;simp only[aY]at p;by_cases j:k<s.ins.length
 ·have I:=zlL k;obtain⟨x,A⟩:=exI (s.ins[k]);rw[gg j,A]at m;have C:=fun Y Z=>Wn (fun l v=>qz (decide (v∈l))) s.outs x Y Z (by unfold zx;omega)
  by_cases d:x∈s.outs
  ·have e:Zk s=7:=by unfold Zk;rw[zd b,zd o,m];simp[d]
   simp[z,f,g,i,j,A,p,C,d,e,f72]
  ·have J:s.outs.contains x=false:=by simpa using d
   rw[J,ye]at m;simp[z,f,g,i,j,A,p,C,d,I]
   and_intros<;>first|omega|exact p|rfl|simpa using m
 ·obtain rfl:k=s.ins.length:=by omega
  rw[zo]at m;have e:Zk s=s.cond.check:=by unfold Zk;rw[zd b,zd o,m];simp
  simp[z,f,g,i,p,G,e,f72]
theorem cd:zg prog 72 (zf false [] (FSgB fun s q=>int (WG s q))):=
 pS1 (zph mixed ⟨Zi,lk,je,Ys,trivial⟩:AM.Good Crsg _) func72 false [] fun⟨s,q⟩ a=>⟨zG (zl 2) (by decide),_,dV s q a,zW _⟩
noncomputable def GY (Ta:Qq):AM.Spec:=we (zQ prog Ta) f158
noncomputable def Oe (Ta:Qq):AM.Spec:=we (zQ prog [(158,GY Ta)]) f118
theorem Mu{Ta:Qq}(h:de True prog [] Ta):zg prog 158 (GY Ta):=zpj (zw (q:=[]) mixed h) func158
theorem Mv{Ta:Qq}(h:de True prog [] Ta):zg prog 118 (Oe Ta):=zpj (zw (q:=[]) (l:=[(158,GY Ta)]) mixed ⟨Mu h,by simp,trivial⟩) func118
theorem za5{U:Type}{T:Nat->Prop}{Rep:U->Hp->Prop}{step:U->qn->Bool×U}{Ta:Qq}{g:Nat}{sp:AM.Spec}{fi cap:zb}{Z0:Nat}(A:lookup Ta g=some sp)(xs:List qn)(D:xs.length<=zx)
  (E:∀s x Y Z,x∈xs->Z0<=Z->Rep s Y->∃r b c,sp (fi++.agg x.V::cap) Y Z=some (r,b,c)/\jg T Rep (qz (step s x).1) (step s x).2 Y Z r b c)
  (h:U) (i:Hp) (a:Nat) (P:Z0<=a) (F:Rep h i) :
  ∃r b c,Oe Ta [.sl 5 (xs.map qn.V),.fn (.func g) fi cap] i a=some (r,b,c)/\jg T Rep (qz (wG step h xs).1) (wG step h xs).2 i a r b c:=by
 have q:∃r b c,GY Ta [.sl 5 (xs.map qn.V),.fn (.func g) fi cap] i a=some (r,b,c)/\∃z:Int,r=int z/\decide (0<=z)=(wG step h xs).1/\jg T Rep (int z) (wG step h xs).2 i a r b c:=by
  unfold GY we;rw[zd (by simp[f158])];refine qw rfl ?_;unfold zx at D;simp;refine zI (fun k U Y Z=>U 0=.sl 5 (xs.map qn.V)/\U 1=.fn (.func g) fi cap/\U 7=int xs.length/\U 8=int k/\a<=Z/\(∀j,j<a->¬T j->Y j=i j)/\∃s,Rep s Y/\wG step h xs=wG step s (xs.drop k)) xs.length ⟨by simp,by simp,by simp,by simp,zl _,fun _ _ _=>rfl,h,F,by simp⟩ ?_;rintro k U Y Z Q ⟨t,u,v,w,y,m,s,n,f⟩;by_cases d:k<xs.length
  ·have G:=zlL k;obtain⟨x,p⟩:=exI (xs[k]);obtain⟨r,Y2,H,l,rfl,B,R,I⟩:=E s x Y Z (by rw[<-p];exact zj d) (by omega) n;rw[zc d,p]at f;have o:∀j,j<a->¬T j->Y2 j=i j:=fun j J C=>by rw[I j (by omega) C];exact m j J C
   cases e:(step s x).1
   ·rw[QO e]at f;rw[e]at l;simp[t,u,v,w,d,p,A,l,G];exact⟨by omega,by omega,o,_,B,f⟩
   ·rw[WZ e]at f;rw[e]at l;simp[t,u,v,w,d,p,A,l,f,jg,f158];exact⟨B,by omega,o⟩
  ·obtain rfl:k=xs.length:=by omega
   rw[zo]at f;simp only[wG]at f;simp[t,u,v,w,f,jg,f158];exact⟨n,y,m⟩
 obtain⟨r,b,c,l,z,rfl,K,_,L,M,N⟩:=q;unfold Oe we;rw[zd (by simp[f118])];refine qw rfl ?_;simp[l,K,jg,f118];exact⟨L,M,N⟩
@[simp]theorem zmr(s:qZ):s.V.length=11:=rfl
@[simp]theorem zkL(s:qZ):s.V.take 11=s.V:=qq (by simp)
noncomputable def GZ (Ta:Qq):AM.Spec:=we (zQ prog Ta) f257
noncomputable def Of (Ta:Qq):AM.Spec:=we (zQ prog [(257,GZ Ta)]) f208
theorem Mw{Ta:Qq}(h:de True prog [] Ta):zg prog 257 (GZ Ta):=zpj (zw (q:=[]) mixed h) func257
theorem Mx{Ta:Qq}(h:de True prog [] Ta):zg prog 208 (Of Ta):=zpj (zw (q:=[]) (l:=[(257,GZ Ta)]) mixed ⟨Mw h,by simp,trivial⟩) func208
theorem za6{U:Type}{T:Nat->Prop}{Rep:U->Hp->Prop}{step:U->qZ->Bool×U}{Ta:Qq}{g:Nat}{sp:AM.Spec}{fi cap:zb}{Z0:Nat}(A:lookup Ta g=some sp)(xs:List qZ)(D:xs.length<=zx)
  (E:∀s x Y Z,x∈xs->Z0<=Z->Rep s Y->∃r b c,sp (fi++.agg x.V::cap) Y Z=some (r,b,c)/\jg T Rep (qz (step s x).1) (step s x).2 Y Z r b c)
  (h:U) (i:Hp) (a:Nat) (P:Z0<=a) (F:Rep h i) :
  ∃r b c,Of Ta [.sl 11 (xs.map qZ.V),.fn (.func g) fi cap] i a=some (r,b,c)/\jg T Rep (qz (wG step h xs).1) (wG step h xs).2 i a r b c:=by
 have q:∃r b c,GZ Ta [.sl 11 (xs.map qZ.V),.fn (.func g) fi cap] i a=some (r,b,c)/\∃z:Int,r=int z/\decide (0<=z)=(wG step h xs).1/\jg T Rep (int z) (wG step h xs).2 i a r b c:=by
  unfold GZ we;rw[zd (by simp[f257])];refine qw rfl ?_;unfold zx at D;simp;refine zI (fun k U Y Z=>U 0=.sl 11 (xs.map qZ.V)/\U 1=.fn (.func g) fi cap/\U 7=int xs.length/\U 8=int k/\a<=Z/\(∀j,j<a->¬T j->Y j=i j)/\∃s,Rep s Y/\wG step h xs=wG step s (xs.drop k)) xs.length ⟨by simp,by simp,by simp,by simp,zl _,fun _ _ _=>rfl,h,F,by simp⟩ ?_;rintro k U Y Z Q ⟨t,u,v,w,y,m,s,n,f⟩;by_cases d:k<xs.length
  ·have G:=zlL k;obtain⟨x,p⟩:=exI (xs[k]);obtain⟨r,Y2,H,l,rfl,B,R,I⟩:=E s x Y Z (by rw[<-p];exact zj d) (by omega) n;rw[zc d,p]at f;have o:∀j,j<a->¬T j->Y2 j=i j:=fun j J C=>by rw[I j (by omega) C];exact m j J C
   cases e:(step s x).1
   ·rw[QO e]at f;rw[e]at l;simp[t,u,v,w,d,p,A,l,G];exact⟨by omega,by omega,o,_,B,f⟩
   ·rw[WZ e]at f;rw[e]at l;simp[t,u,v,w,d,p,A,l,f,jg,f257];exact⟨B,by omega,o⟩
  ·obtain rfl:k=xs.length:=by omega
   rw[zo]at f;simp only[wG]at f;simp[t,u,v,w,f,jg,f257];exact⟨n,y,m⟩
 obtain⟨r,b,c,l,z,rfl,K,_,L,M,N⟩:=q;unfold Of we;rw[zd (by simp[f208])];refine qw rfl ?_;simp[l,K,jg,f208];exact⟨L,M,N⟩
def hsP(a b:za):O:=qz (Lib.hasSuffix a b)
theorem nz(a b:za)(c:a.length<=zx)(d:b.length<=zx):zr Cw0 f192 [str a,str b]=some (hsP a b):=by
 refine zm rfl ?_;have hs:=Lib.hasSuffix_of_drop a b;unfold zx at c d;by_cases h:b.length<=a.length
 ·rw[y8 h,jb]at hs;have e:i6.wrap ((a.length:Int)-b.length)=((a.length-b.length:Nat):Int):=by rw[zi (by omega) (by omega)];omega
  have f:(a.drop (a.length-b.length)).take (a.length-(a.length-b.length))=a.drop (a.length-b.length):=qq (by simp);simp[h,e,hsP,<-hs,f,f192]
 ·rw[jm h,kT]at hs;have g:¬((b.length:Int)<=a.length):=by omega
  simp[h,g,hsP,<-hs,f192]
theorem lp:zg prog 192 (zf false [] (Zo hsP fun _ _=>True)):=
 zX (fn:=f192) I8 (zpi func192) false [] _ fun args r h=>by obtain⟨a,b,rfl,c,d,_,rfl⟩:=kC h;exact⟨by simp[f192],_,nz a b c d,zW _⟩
theorem Dm(a b:za)(Y:Hp)(Z:Nat)(h:a.length<=zx)(c:b.length<=zx):zf false [] (Zo hsP fun _ _=>True) [str a,str b] Y Z=some (qz (Lib.hasSuffix a b),Y,Z):=kl _ _ a b Y Z h c trivial rfl
noncomputable abbrev Chsf:Ctx:=zQ prog [(192,zf false [] (Zo hsP fun _ _=>True))]
theorem XX:zg prog 160 (zf false [] (Zo hsP fun _ _=>True)):=
 zX (fn:=f160) (zph mixed ⟨lp,trivial⟩:AM.Good Chsf _) (zpi func160) false [] _ fun args r h=>by obtain⟨a,b,rfl,c,d,_,rfl⟩:=kC h;exact⟨by simp[f160],_,zm rfl (by simp[Dm,c,d,hsP,f160]),zW _⟩
noncomputable def FCu (f:Cut->O):zb->Option O:=z6 (α:=Cut) (fun c=>[.agg c.V]) (fun c=>c.v.small) f
theorem G3(f:Cut->O)(c:Cut)(Y:Hp)(Z:Nat)(h:c.v.small)(d:(f c).flat=true):zf false [] (FCu f) [.agg c.V] Y Z=some (f c,Y,Z):=
 hPc c _ _ (by simp[Cut.V]) (fun a b e=>by simp only[zh,zD,O.agg.injEq]at e;exact ZR e) h (.inl d)
def Qi(c:Cut):Bool:=c.v.a==0&&(c.v.b==0&&(c.v.c==0&&((c.v.pre.length:Int)==0&&!c.after)))
theorem G5(c:Cut):zr Cw0 f256 [.agg c.V]=some (qz (Qi c)):=by
 refine zm rfl ?_;obtain⟨⟨x,y,z,p⟩,f⟩:=c;by_cases a:x=0
 case neg=>have d:=eqF0 a;simp[Cut.V,d,Qi,f256]
 by_cases b:y=0
 case neg=>have e:=eqF0 b;simp[Cut.V,a,e,Qi,f256]
 by_cases g:z=0
 case neg=>have h:=eqF0 g;simp[Cut.V,a,b,h,Qi,f256]
 cases i:((p.length:Int)==0)
 ·simp[Cut.V,a,b,g,i,Qi,f256]
 ·cases f<;>simp[Cut.V,a,b,g,i,Qi,f256]
theorem Dn:zg prog 256 (zf false [] (FCu fun c=>qz (Qi c))):=
 pS1 I8 func256 false [] fun c _=>⟨by simp[f256],_,G5 c,zW _⟩
noncomputable def dW (v:wQ) (c:Cut):Bool:=decide (0<xG v c.v)||(xG v c.v==0&&!c.after)
noncomputable def FVC (f:wQ->Cut->O):zb->Option O:=z6 (α:=wQ×Cut) (fun a=>[.agg a.1.V,.agg a.2.V]) (fun a=>a.1.small/\a.2.v.small) (fun a=>f a.1 a.2)
theorem G6(f:wQ->Cut->O)(v:wQ)(c:Cut)(Y:Hp)(Z:Nat)(h:v.small)(d:c.v.small)(g:(f v c).flat=true):zf false [] (FVC f) [.agg v.V,.agg c.V] Y Z=some (f v c,Y,Z):=
 hPc (v,c) _ _ (by simp[Cut.V,wQ.V]) (fun a b e=>by obtain⟨i,j⟩:=a;obtain⟨k,l⟩:=b;simp only[zh,zD,O.agg.injEq]at e;rw[YF e.1,ZR e.2]) ⟨h,d⟩ (.inl g)
theorem G7(v:wQ)(c:Cut)(h:v.small)(f:c.v.small):zr Ccu f210 [.agg v.V,.agg c.V]=some (qz (dW v c)):=by
 refine zm rfl ?_;have a:=fun Y Z=>Cb v c.v Y Z h f
 simp only[wQ.V]at a;by_cases d:0<xG v c.v
 ·simp[Cut.V,wQ.V,a,d,dW,f210]
 by_cases e:xG v c.v=0
 ·cases g:c.after<;>simp[Cut.V,wQ.V,a,e,g,dW,f210]
 ·have b:=eqF0 e;simp[Cut.V,wQ.V,a,d,b,dW,f210]
theorem Dp:zg prog 210 (zf false [] (FVC fun v c=>qz (dW v c))):=
 pS1 Ut func210 false [] fun⟨v,c⟩ ⟨a,b⟩=>⟨by simp[f210],_,G7 v c a b,zW _⟩
noncomputable def xT (s:qZ):Int:=if s.yR=true then(if Qi s.hi=true then 0 else 3)else if yT s.hi.v=0 then(if 0<=wz s.lo s.hi then 8 else 0)else yT s.hi.v
noncomputable def Z4 (p:Option qZ) (s:qZ):Bool:=match p with
 |none=>false
 |some q=>q.yR||decide (0<=wz q.hi s.lo)
noncomputable def lq:Option qZ->List qZ->Int
 |_,[]=>0
 |p,s::l=>if yT s.lo.v=0 then(if xT s=0 then(if Z4 p s=true then 8 else lq (some s) l)else xT s)else yT s.lo.v
theorem AZ{l:List qZ}{k:Nat}(h:k<l.length)(p:Option qZ):lq p (l.drop k)=if yT l[k].lo.v=0 then(if xT l[k]=0 then(if Z4 p l[k]=true then 8 else lq (some l[k]) (l.drop (k+1)))else xT l[k])else yT l[k].lo.v:=by rw[zc h,lq]
def Ji(l:List qZ)(k:Nat):Option qZ:=if k=0 then none else l[k-1]?
noncomputable def xQ (l:List qZ):Int:=if(100:Int)<l.length then 2 else lq none l
noncomputable def inS (v:wQ) (s:qZ):Bool:=dW v s.lo&&(s.yR||!dW v s.hi)
noncomputable abbrev Ccrg:Ctx:=zQ prog [(198,qG [.g kJ] (NK fun v=>int (yT v))),(256,zf false [] (FCu fun c=>qz (Qi c))),(253,qG [.g jP,.g jP] (Ce fun v w=>int (wz v w)))]
theorem zef:AM.Good Ccrg (fun g=>[253].contains g):=zw mixed ⟨Qz,by simp,Dn,by simp,Zr,fun _=>y7 _ _,trivial⟩
theorem RY:Q9 Ccrg (fun g=>[253].contains g) 207 f207:=zpi func207
theorem J6(v:wQ)(Y:Hp)(Z:Nat)(h:v.small):qG [.g kJ] (NK fun v=>int (yT v)) [.agg v.V] Y Z=some (int (yT v),Y,Z):=pz (fun v=>int (yT v)) v (.agg v.V) Y Y Z (.agg v.V) (by simp[wQ.V]) (by simp[wQ.V]) h rfl
theorem nA(l:List qZ)(hl:zlM l):zr Ccrg f207 [.sl 11 (qb l)]=some (int (xQ l)):=by
 obtain⟨R,S⟩:=hl;unfold zx at R;have e:(qb l).length=l.length:=by simp[qb]
 have T:∀(k:Nat) (h:k<(qb l).length) (h':k<l.length),(qb l)[k]=l[k].V:=fun k h h'=>by simp[qb]
 refine zm rfl ?_;by_cases E:(100:Int)<l.length
 ·have p:xQ l=2:=by unfold xQ;rw[zd E]
  simp[e,E,p,f207]
 simp[e,E];refine zI (fun k U Y Z=>U 0=.sl 11 (qb l)/\U 10=.sl 11 (qb l)/\U 11=int l.length/\U 12=int k/\lq none l=lq (Ji l k) (l.drop k)) l.length ⟨by simp,by simp,by simp,by simp,by simp[Ji]⟩ ?_;rintro k U Y Z hk ⟨x,f,g,i,o⟩;by_cases b:k<l.length
 ·have hw:=zlL k;obtain⟨s,hs⟩:=exI (l[k]);have y:=S s (by rw[<-hs];exact zj b);have a:k<(qb l).length:=by omega
  have m:=T k a b;rw[hs]at m;have H:Ji l (k+1)=some s:=by simp[Ji,b,hs]
  have z:=fun Y Z=>J6 s.lo.v Y Z y.1
  have I:=fun Y Z=>J6 s.hi.v Y Z y.2
  have J:=fun Y Z=>G3 (fun c=>qz (Qi c)) s.hi Y Z y.2 rfl
  have K:=fun Y Z=>Qf s.lo s.hi Y Z y.1 y.2
  simp only[wQ.V,Cut.V]at z I J K;rw[AZ b,hs]at o;by_cases u:yT s.lo.v=0
  case neg=>
   rw[ze u]at o;have d1':=nzT u;have p:xQ l=yT s.lo.v:=by unfold xQ;rw[ze E,o]
   simp[x,f,g,i,e,b,a,m,qZ.V,Cut.V,z,d1',p,f207]
  rw[zd u]at o;by_cases B:xT s=0
  case neg=>
   rw[ze B]at o;have p:xQ l=xT s:=by unfold xQ;rw[ze E,o]
   cases n:s.yR
   ·by_cases d:yT s.hi.v=0
    ·by_cases w:0<=wz s.lo s.hi
     ·have W:xT s=8:=by unfold xT;rw[n,ze (by simp),zd d,zd w]
      simp[x,f,g,i,e,b,a,m,qZ.V,Cut.V,z,I,K,u,n,d,w,p,W,f207]
     ·exact absurd (by unfold xT;rw[n,ze (by simp),zd d,ze w]) B
    ·have e2':=nzT d;have W:xT s=yT s.hi.v:=by unfold xT;rw[n,ze (by simp),ze d]
     simp[x,f,g,i,e,b,a,m,qZ.V,Cut.V,z,I,u,n,e2',p,W,f207]
   ·cases d:Qi s.hi
    ·have W:xT s=3:=by unfold xT;rw[n,zd rfl,d,ze (by simp)]
     simp[x,f,g,i,e,b,a,m,qZ.V,Cut.V,z,J,u,n,d,p,W,f207]
    ·exact absurd (by unfold xT;rw[n,zd rfl,d,zd rfl]) B
  rw[zd B]at o;have C:(s.yR=true/\Qi s.hi=true)\/(s.yR=false/\yT s.hi.v=0/\¬0<=wz s.lo s.hi):=by
   unfold xT at B;cases n:s.yR
   ·rw[n,ze (by simp)]at B;by_cases d:yT s.hi.v=0
    ·rw[zd d]at B;by_cases w:0<=wz s.lo s.hi
     ·rw[zd w]at B;omega
     ·exact .inr ⟨rfl,d,w⟩
    ·rw[ze d]at B;exact absurd B d
   ·rw[n,zd rfl]at B;cases d:Qi s.hi
    ·rw[d,ze (by simp)]at B;omega
    ·exact .inl ⟨rfl,rfl⟩
  by_cases k0:k=0
  ·subst k0;have w1:=zpg 1;simp only[Ji,Z4,qA,zF,qJ]at o;have F:lq none l=lq (Ji l 1) l.tail:=by rw[o,H];simp
   rcases C with⟨n,d⟩|⟨n,d,w⟩
   ·simp[x,f,g,i,e,b,a,m,qZ.V,Cut.V,z,J,u,n,d,w1];exact⟨by omega,F⟩
   ·simp[x,f,g,i,e,b,a,m,qZ.V,Cut.V,z,I,K,u,n,d,w,w1];exact⟨by omega,F⟩
  ·obtain⟨j,rfl⟩:∃j,k=j+1:=⟨k-1,by omega⟩;have D:j<l.length:=by omega
   have r:j<(qb l).length:=by omega
   obtain⟨q,hq⟩:=exI (l[j]);have hqq:=S q (by rw[<-hq];exact zj D);have t:=T j r D;rw[hq]at t;have L:i6.wrap ((j:Int)+1-1)=(j:Int):=by rw[zi (by omega) (by omega)];omega
   have A:=zpg (j:Int);have M:((j:Int)+1).toNat=j+1:=by omega
   have N:0<(j:Int)+1:=by omega
   have P:0<=(j:Int)+1:=by omega
   have Q:(j:Int)+1<l.length:=by omega
   have wk:=zpg ((j:Int)+1+1);have hpj:Ji l (j+1)=some q:=by simp[Ji,D,hq]
   have X:=fun Y Z=>Qf q.hi s.lo Y Z hqq.2 y.1
   simp only[Cut.V]at X;rw[hpj]at o;cases G:q.yR
   ·by_cases o2:0<=wz q.hi s.lo
    ·have ho:Z4 (some q) s=true:=by simp[Z4,o2]
     rw[ho,zd rfl]at o;have p:xQ l=8:=by unfold xQ;rw[ze E,o]
     rcases C with⟨n,d⟩|⟨n,d,w⟩
     ·simp[x,f,g,i,e,b,a,m,D,r,t,qZ.V,Cut.V,z,J,X,u,n,d,G,o2,L,A,M,N,P,Q,p,f207]
     ·simp[x,f,g,i,e,b,a,m,D,r,t,qZ.V,Cut.V,z,I,K,X,u,n,d,w,G,o2,L,A,M,N,P,Q,p,f207]
    ·have ho:Z4 (some q) s=false:=by simp[Z4,G];omega
     rw[ho,ze (by simp)]at o;rcases C with⟨n,d⟩|⟨n,d,w⟩
     ·simp[x,f,g,i,e,b,a,m,D,r,t,qZ.V,Cut.V,z,J,X,u,n,d,G,o2,L,A,M,N,P,Q,wk];exact⟨by omega,by rw[o,H]⟩
     ·simp[x,f,g,i,e,b,a,m,D,r,t,qZ.V,Cut.V,z,I,K,X,u,n,d,w,G,o2,L,A,M,N,P,Q,wk];exact⟨by omega,by rw[o,H]⟩
   ·have ho:Z4 (some q) s=true:=by simp[Z4,G]
    rw[ho,zd rfl]at o;have p:xQ l=8:=by unfold xQ;rw[ze E,o]
    rcases C with⟨n,d⟩|⟨n,d,w⟩
    ·simp[x,f,g,i,e,b,a,m,D,r,t,qZ.V,Cut.V,z,J,u,n,d,G,L,A,M,N,P,Q,p,f207]
    ·simp[x,f,g,i,e,b,a,m,D,r,t,qZ.V,Cut.V,z,I,K,u,n,d,w,G,L,A,M,N,P,Q,p,f207]
 ·obtain rfl:k=l.length:=by omega
  rw[zo]at o;have p:xQ l=0:=by unfold xQ;rw[ze E,o];rfl
  simp[x,f,g,i,p,f207]
noncomputable def FRs (f:List qZ->O):zb->Option O:=z6 (α:=List qZ) (fun l=>[.sl 11 (qb l)]) zlM f
theorem G8(f:List qZ->O)(l:List qZ)(Y:Hp)(Z:Nat)(h:zlM l)(c:(f l).flat=true):zf false [] (FRs f) [.sl 11 (qb l)] Y Z=some (f l,Y,Z):=
 hPc l _ _ rfl (fun a b e=>by
  simp only[zh,zD]at e;injection e with _ e
  exact xY e) h (.inl c)
theorem lr:zg prog 207 (zf false [] (FRs fun l=>int (xQ l))):=
 zX (fn:=f207) zef RY false [] _ fun args r h=>by obtain⟨l,rfl,a,rfl⟩:=zp h;exact⟨zG (zl 1) (by decide),_,nA l a,zW _⟩
noncomputable abbrev Cwt1:Ctx:=zQ prog [(210,zf false [] (FVC fun v c=>qz (dW v c)))]
noncomputable abbrev wt1S:AM.Spec:=we Cwt1 f209
theorem RZ:zg prog 209 wt1S:=zpj (zph mixed ⟨Dp,trivial⟩:AM.Good Cwt1 _) func209
def boxV(v:wQ):kV:=⟨192,4,false,[v.V]⟩
theorem zeg(v:wQ)(s:qZ)(f:v.small)(i:s.lo.v.small)(j:s.hi.v.small)(Y:Hp)(Z id:Nat)(hid:id<Z)(a:Y id=some (boxV v)):wt1S [.agg s.V,.ref id 0 0] Y Z=some (qz (inS v s),qR Y Z (some ⟨234,11,false,[s.V]⟩),Z+1):=by
 unfold wt1S we;rw[zd (by simp[f209])];refine yu rfl ?_;have b:=fun Y Z=>G6 (fun v c=>qz (dW v c)) v s.lo Y Z f i rfl
 have g:=fun Y Z=>G6 (fun v c=>qz (dW v c)) v s.hi Y Z f j rfl
 have d:¬id=Z:=by omega
 simp only[boxV,wQ.V]at a;simp only[Cut.V,wQ.V]at b g;cases e:dW v s.lo
 ·simp[qZ.V,Cut.V,a,d,b,e,inS,f209]
 ·cases h:s.yR
  ·simp[qZ.V,Cut.V,a,d,b,g,e,h,inS,f209]
  ·simp[qZ.V,Cut.V,a,d,b,e,h,inS,f209]
noncomputable def dX (v:wQ) (l:List qZ):Bool×Int:=if yT v=0 then(if xQ l=0 then(l.any (inS v),0)else(false,xQ l))else(false,yT v)
noncomputable def cg (v:wQ) (l:List qZ):O:=.wY [qz (dX v l).1,int (dX v l).2]
noncomputable def FVR (f:wQ->List qZ->O):zb->Option O:=z6 (α:=wQ×List qZ) (fun a=>[.agg a.1.V,.sl 11 (qb a.2)]) (fun a=>a.1.small/\zlM a.2) (fun a=>f a.1 a.2)
theorem G9(f:wQ->List qZ->O)(v:wQ)(l:List qZ)(Y:Hp)(Z:Nat)(h:v.small)(d:zlM l)(g:(f v l).flat=true):zf false [] (FVR f) [.agg v.V,.sl 11 (qb l)] Y Z=some (f v l,Y,Z):=
 hPc (v,l) _ _ (by simp[wQ.V]) (fun a b e=>by obtain⟨j,k⟩:=a;obtain⟨m,n⟩:=b;simp only[zh,zD,O.agg.injEq]at e;obtain⟨i,c⟩:=e;injection c with _ c;rw[YF i,xY c]) ⟨h,d⟩ (.inl g)
noncomputable abbrev TAwt:Qq:=[(209,wt1S)]
noncomputable abbrev Cwth:Ctx:=zQ prog [(198,qG [.g kJ] (NK fun v=>int (yT v))),(207,zf false [] (FRs fun l=>int (xQ l))),(208,Of TAwt)]
theorem Ha(v:wQ)(l:List qZ)(k:v.small)(c:zlM l):zr Cwth f165 [.agg v.V,.sl 11 (qb l)]=some (cg v l):=by
 refine zm rfl ?_;have d:=fun Y Z=>J6 v Y Z k
 have m:=fun Y Z=>G8 (fun l=>int (xQ l)) l Y Z c rfl
 obtain⟨r,o,p,e,rfl,_,_,_⟩:=za6 (U:=Unit) (T:=fun _=>False) (Rep:=fun _ Y=>Y 0=some (boxV v)) (step:=fun _ s=>(inS v s,())) (Ta:=TAwt) (g:=209) (sp:=wt1S) (fi:=[]) (cap:=[.ref 0 0 0]) (Z0:=1) (by simp) l c.1
  (fun _ s Y Z hs q n=>⟨_,_,_,zeg v s k (c.2 s hs).1 (c.2 s hs).2 Y Z 0 (by omega) n,rfl,(zt _ _ _ _ (by omega)).trans n,by omega,fun j t _=>zt _ _ _ _ (by omega)⟩) () (qR (fun _=>none) 0 (some (boxV v))) 1 (zl _) (by simp)
 rw[Vo]at e;simp only[boxV,wQ.V]at e;rw[show l.map qZ.V=qb l from rfl]at e;simp only[wQ.V]at d;by_cases a:yT v=0
 case neg=>
  have h:=nzT a;have b:dX v l=(false,yT v):=by unfold dX;rw[ze a]
  simp[wQ.V,d,h,cg,b,qS,f165]
 by_cases f:xQ l=0
 case neg=>
  have i:=nzT f;have b:dX v l=(false,xQ l):=by unfold dX;rw[zd a,ze f]
  simp[wQ.V,d,a,m,i,cg,b,qS,f165]
 have b:dX v l=(l.any (inS v),0):=by unfold dX;rw[zd a,zd f]
 simp[wQ.V,d,a,m,f,e,cg,b,qS,f165]
theorem tV:zg prog 165 (zf false [] (FVR cg)):=
 pS1 (zph mixed ⟨Qz,lr,Mx ⟨RZ,by simp,trivial⟩,trivial⟩:AM.Good Cwth _) func165 false [] fun⟨v,l⟩ ⟨a,b⟩=>⟨by simp[f165],_,Ha v l a b,zW _⟩
end Go.Q
namespace Go.LikeLaw
inductive Lk:List UInt8->List UInt8->Prop
 |nil:Lk [] []
 |Iq {t p:List UInt8}:Lk t p->Lk t (42::p)
 |Ir {c:UInt8} {t p:List UInt8}:Lk t (42::p)->Lk (c::t) (42::p)
 |one {c q:UInt8} {t p:List UInt8}:q≠42->(q=63\/q=c)->Lk t p->Lk (c::t) (q::p)
theorem Be{t:za}:Lk t []↔t=[]:=by
 constructor
 ·intro h;cases h;rfl
 ·rintro rfl;exact .nil
theorem VH{t p:za}:Lk t (42::p)↔∃a b,t=a++b/\Lk b p:=by
 constructor
 ·intro h;generalize d:(42::p:za)=q at h
  induction h with
  |nil=>cases d
  |Iq h _=>cases d;exact⟨[],_,rfl,h⟩
  | @Ir c t i h e=>obtain⟨a,b,rfl,g⟩:=e d;exact⟨c::a,b,rfl,g⟩
  |one f _ _=>cases d;exact absurd rfl f
 ·rintro⟨a,b,rfl,h⟩
  induction a with
  |nil=>exact .Iq h
  |cons c a e=>exact .Ir e
theorem gh{c q:UInt8}{t p:za}(a:q≠42):Lk (c::t) (q::p)↔(q=63\/q=c)/\Lk t p:=by
 constructor
 ·intro h;cases h with
  |Iq=>exact absurd rfl a
  |Ir=>exact absurd rfl a
  |one _ b d=>exact⟨b,d⟩
 ·rintro⟨b,d⟩;exact .one a b d
theorem a6{q:UInt8}{p:za}(a:q≠42):¬Lk [] (q::p):=by intro h;cases h;exact a rfl
theorem zeh{p:za}:Lk [] p↔∀q∈p,q=42:=by
 induction p with
 |nil=>simp[Lk.nil]
 |cons q p b=>
  by_cases a:q=42
  ·subst a;rw[VH];constructor
   ·rintro⟨e,f,h,c⟩;obtain⟨_,rfl⟩:=List.append_eq_nil_iff.1 h.symm;simpa using b.1 c
   ·intro h;exact⟨[],[],rfl,b.2 fun x d=>h x (by simp[d])⟩
  ·constructor
   ·intro h;exact absurd h (a6 a)
   ·intro h;exact absurd (h q (by simp)) a
theorem append{d e f g:za}(h:Lk d e)(i:Lk f g):Lk (d++f) (e++g):=by
 induction h with
 |nil=>exact i
 |Iq _ c=>exact .Iq c
 |Ir _ c=>exact .Ir c
 |one a b _ c=>exact .one a b c
theorem split{k:za}:∀{g t:za},Lk t (g++k)->∃d e,t=d++e/\Lk d g/\Lk e k
 |[],t,h=>⟨[],t,rfl,.nil,h⟩
 |q::g,t,h=>by
  by_cases f:q=42
  ·subst f;obtain⟨a,b,rfl,l⟩:=VH.1 h;obtain⟨d,e,rfl,i,j⟩:=split l;exact⟨a++d,e,by simp,VH.2 ⟨a,d,rfl,i⟩,j⟩
  ·cases t with
   |nil=>exact absurd h (a6 f)
   |cons c t=>obtain⟨a,b⟩:=(gh f).1 h;obtain⟨d,e,rfl,i,j⟩:=split b;exact⟨c::d,e,rfl,.one f a i,j⟩
theorem za7(t:za):Lk t [42]:=VH.2 ⟨t,[],by simp,.nil⟩
theorem lu{t p:za}:Lk t (p++[42])↔∃a b,t=a++b/\Lk a p:=by
 constructor
 ·intro h;obtain⟨a,b,e,c,_⟩:=split h;exact⟨a,b,e,c⟩
 ·rintro⟨a,b,rfl,h⟩;exact append h (za7 b)
theorem tW{p:za}:Lk [] (p++[42])↔Lk [] p:=by
 rw[lu];constructor
 ·rintro⟨a,b,e,h⟩;obtain⟨rfl,_⟩:=List.append_eq_nil_iff.1 e.symm;exact h
 ·intro h;exact⟨[],[],rfl,h⟩
theorem sa{t p:za}{c:UInt8}:Lk (t++[c]) (p++[42])↔Lk (t++[c]) p\/Lk t (p++[42]):=by
 rw[lu,lu];constructor
 ·rintro⟨t1,a,e,h⟩;rcases List.eq_nil_or_concat a with rfl|⟨b,d,rfl⟩
  ·left;have:t++[c]=t1:=by simpa using e
   rwa [this]
  ·right;rw[List.concat_eq_append,<-qT]at e;obtain⟨f,g⟩:=List.append_inj' e rfl;exact⟨t1,b,f,h⟩
 ·rintro (h|⟨t1,a,rfl,h⟩)
  ·exact⟨t++[c],[],by simp,h⟩
  ·exact⟨t1,a++[c],by simp,h⟩
theorem Dq{p:za}{q:UInt8}(a:q≠42):¬Lk [] (p++[q]):=by intro h;obtain⟨c,d,e,_,b⟩:=split h;obtain⟨_,rfl⟩:=List.append_eq_nil_iff.1 e.symm;exact a6 a b
theorem za8{t p:za}{c q:UInt8}(g:q≠42):Lk (t++[c]) (p++[q])↔Lk t p/\(q=63\/q=c):=by
 constructor
 ·intro h;obtain⟨m,i,e,j,f⟩:=split h;cases i with
  |nil=>exact absurd f (a6 g)
  |cons d i=>
   obtain⟨a,b⟩:=(gh g).1 f;have:i=[]:=Be.1 b;subst this;obtain⟨k,l⟩:=List.append_inj' e rfl;obtain rfl:c=d:=by simpa using l
   exact⟨k ▸ j,a⟩
 ·rintro⟨j,f⟩;exact append j (.one g f .nil)
theorem XY{s:za}(hs:∀q∈s,q≠42){p:za}:∀{t:za},Lk t (s++p)->s.length<=t.length/\Lk (t.drop s.length) p:=by
 induction s with
 |nil=>intro t h;exact⟨by simp,h⟩
 |cons q s d=>
  intro t h;have a:q≠42:=hs q (by simp);cases t with
  |nil=>exact absurd h (a6 a)
  |cons c t=>obtain⟨_,b⟩:=(gh a).1 h;obtain⟨g,e⟩:=d (fun x f=>hs x (by simp[f])) b;exact⟨by simp;omega,by simpa using e⟩
structure Inv (t p:List UInt8) (star:Int) (fr i k:Nat):Prop where
 hi:i<=t.length
 hk:k<=p.length
 none_:star<0->star=-1/\(Lk t p↔Lk (t.drop i) (p.drop k))
 some_:0<=star->∃s,p.drop (star.toNat+1)=s++p.drop k/\star.toNat+1+s.length=k/\fr+s.length=i/\(∀q∈s,q≠42) /\
  (∀r,Lk (t.drop i) r->Lk (t.drop fr) (s++r))/\(Lk t p↔∃f,fr<=f/\f<=t.length/\Lk (t.drop f) (p.drop (star.toNat+1)))
theorem Inv.start(t p:za):Inv t p (-1) 0 0 0:=⟨by simp,by simp,fun _=>⟨rfl,by simp⟩,fun h=>by omega⟩
theorem VA{l:za}{k:Nat}(h:k<l.length):l.drop k=l[k]::l.drop (k+1):=zc h
theorem Inv.zhT{t p:za}{a:Int}{l i k:Nat}(h:Inv t p a l i k)(o:k<p.length)(q:p[k]=42):Inv t p k i i (k+1):=by
 have hd:=VA o;rw[q]at hd;have b:Lk (t.drop i) (p.drop k)↔∃f,i<=f/\f<=t.length/\Lk (t.drop f) (p.drop (k+1)):=by
  rw[hd,VH];constructor
  ·rintro⟨c,g,e,d⟩;have u:c.length+g.length=t.length-i:=by have:=zC List.length e;simp at this;omega
   refine⟨i+c.length,by omega,by have:=h.hi;omega,?_⟩;rw[<-gB,e];simpa using d
  ·rintro⟨f,D,d,v⟩;refine⟨(t.drop i).take (f-i),t.drop f,?_,v⟩;rw[show t.drop f=(t.drop i).drop (f-i) by rw[gB];congr 1;omega];exact(kQ _ _).symm
 refine⟨h.hi,by omega,fun E=>by omega,fun _=>⟨[],by simp,by simp,by simp,by simp,fun r w=>by simpa using w,?_⟩⟩;have x:(k:Int).toNat=k:=by simp
 rw[x];by_cases hs:a<0
 ·rw[(h.none_ hs).2,b]
 ·obtain⟨s,m,F,G,y,z,A⟩:=h.some_ (by omega);rw[A];constructor
  ·rintro⟨f,H,I,n⟩;rw[m]at n;obtain⟨B,j⟩:=XY y n;rw[gB]at j;simp at B;rw[hd,VH]at j;obtain⟨c,g,e,d⟩:=j;have u:c.length+g.length=t.length-(f+s.length):=by have:=zC List.length e;simp at this;omega
   refine⟨f+s.length+c.length,by omega,by omega,?_⟩;rw[<-gB,e];simpa using d
  ·rintro C;exact⟨l,zl _,by have:=h.hi;omega,by rw[m];exact z _ (b.2 C)⟩
theorem Inv.fit{t p:za}{a:Int}{d i k:Nat}(h:Inv t p a d i k)(hi:i<t.length)(g:k<p.length)(b:p[k]≠42)(e:p[k]=63\/p[k]=t[i]):Inv t p a d (i+1) (k+1):=by
 have hd:=VA g;have f:=VA hi;refine⟨by omega,by omega,fun hs=>⟨(h.none_ hs).1,?_⟩,fun hs=>?_⟩
 ·rw[(h.none_ hs).2,hd,f,gh b];exact⟨fun h=>h.2,fun h=>⟨e,h⟩⟩
 ·obtain⟨s,j,u,v,l,m,n⟩:=h.some_ hs;refine⟨s++[p[k]],by rw[j,hd];simp,by simp;omega,by simp;omega,?_,?_,n⟩
  ·intro q c;rcases qg.1 c with h|h
   ·exact l q h
   ·simp at h;rw[h];exact b
  ·intro r o;rw[qT];refine m _ ?_;rw[f];exact .one b e o
theorem zkM{t p:za}{i k:Nat}(hi:i<t.length)(h:k<p.length->∀d:k<p.length,p[k]≠42/\¬(p[k]=63\/p[k]=t[i])):¬Lk (t.drop i) (p.drop k):=by
 intro c;rw[VA hi]at c;by_cases d:k<p.length
 ·rw[VA d]at c;obtain⟨a,b⟩:=h d d;exact b ((gh a).1 c).1
 ·rw[@zeP _ p _ (by omega)]at c;cases c
theorem Inv.none{t p:za}{a:Int}{b i k:Nat}(h:Inv t p a b i k)(hs:a<0)(c:¬Lk (t.drop i) (p.drop k)):¬Lk t p:=by rw[(h.none_ hs).2];exact c
theorem Inv.back{t p:za}{a:Int}{c i k:Nat}(h:Inv t p a c i k)(hi:i<t.length)(hs:0<=a)(g:¬Lk (t.drop i) (p.drop k)):Inv t p a (c+1) (c+1) (a.toNat+1):=by
 obtain⟨s,j,v,l,m,w,n⟩:=h.some_ hs;have x:=h.hk;refine⟨by omega,by omega,fun h=>by omega,fun _=>⟨[],by simp,by simp,by simp,by simp,fun r o=>by simpa using o,?_⟩⟩;rw[n];constructor
 ·rintro⟨f,q,d,b⟩;by_cases u:f=c
  ·subst u;rw[j]at b;obtain⟨y,e⟩:=XY m b;rw[gB,l]at e;exact absurd e g
  ·exact⟨f,by omega,d,b⟩
 ·rintro⟨f,q,d,b⟩;exact⟨f,by omega,d,b⟩
theorem Inv.done{t p:za}{a:Int}{b i k:Nat}(h:Inv t p a b i k)(hi:i=t.length):Lk t p↔∀q∈p.drop k,q=42:=by
 have e:t.drop i=[]:=zeP (by omega);rw[<-zeh];by_cases hs:a<0
 ·rw[(h.none_ hs).2,e]
 ·obtain⟨s,c,r,u,d,g,j⟩:=h.some_ (by omega);rw[j,c];constructor
  ·rintro⟨f,v,w,l⟩;obtain⟨m,n⟩:=XY d l;simp at m;rwa [gB,zeP (by omega)]at n
  ·intro o;exact⟨b,zl _,by omega,g _ (by rw[e];exact o)⟩
def tX(n m:Nat)(a:Int)(b i:Nat):Nat:=((m:Int)-a).toNat*((n+2)*(n+2))+(n-b)*(n+2)+(n-i)
end Go.LikeLaw
namespace Go.Q
open Go.RowKit Go.AM Go.LikeLaw
theorem zhs(l:za):l.dropWhile (·==42)=[]↔∀q∈l,q=42:=by
 induction l with
 |nil=>simp
 |cons x l b=>
  by_cases a:x=42
  ·simp[a,b]
  ·simp[a]
theorem R0(l:za):Lib.trimB l 42=[]↔∀q∈l,q=42:=by
 unfold Lib.trimB Lib.trimLeftB Lib.trimRightB;rw[zhs];constructor
 ·intro h;have a:∀m:za,(∀q∈m.dropWhile (·==42),q=42)->∀q∈m,q=42:=by
   intro m
   induction m with
   |nil=>simp
   |cons x m f=>
    by_cases b:x=42
    ·subst b;simp only[List.dropWhile_cons,beq_self_eq_true,qA];intro c q hq;rcases zA.1 hq with rfl|hq
     ·rfl
     ·exact f c q hq
    ·have d:=eqF0 b;simp only[List.dropWhile_cons,d,zF,qJ];intro c;exact absurd (c x (by simp)) b
  intro q hq;exact a l.reverse (fun q hq=>h q (by simpa using hq)) q (by simpa using hq)
 ·intro h q hq;have e:=List.mem_reverse.1 hq;exact h q (List.mem_reverse.1 ((List.dropWhile_sublist _).mem e))
noncomputable abbrev Clk:Ctx:=zQ prog [(194,zf false [] (Zo tbP fun _ b=>oY b))]
theorem zht:AM.Good Clk (fun g=>[194].contains g):=zw mixed ⟨lU,fun _=>zu _ _,trivial⟩
theorem Hb(a:za)(Y:Hp)(Z:Nat)(h:a.length<=zx):zf false [] (Zo tbP fun _ b=>oY b) [str a,str [42]] Y Z=some (str (Lib.trimB a 42),Y,Z):=kl _ _ a [42] Y Z h (by decide) ⟨42,rfl,by decide⟩ rfl
theorem R1{n m:Nat}{a:Int}{b i k:Nat}(e:a<k)(f:k<m):tX n m k i i<tX n m a b i:=by
 unfold tX;obtain⟨d,hd⟩:∃d:Nat,((m:Int)-a).toNat=((m:Int)-(k:Int)).toNat+1+d:=⟨((m:Int)-a).toNat-((m:Int)-(k:Int)).toNat-1,by omega⟩;have c:(((m:Int)-(k:Int)).toNat+1+d)*((n+2)*(n+2))=((m:Int)-(k:Int)).toNat*((n+2)*(n+2))+(n+2)*(n+2)+d*((n+2)*(n+2)):=by rw[q7 (_+1) d,q7 _ 1,OA]
 rw[hd,c];have g:(n-i)*(n+2)<=n*(n+2):=zY _ (by omega);have h:(n+2)*(n+2)=n*(n+2)+2*(n+2):=by rw[q7]
 omega
theorem A0{n m:Nat}{a:Int}{b i:Nat}(d:b<=i)(e:i<n):tX n m a (b+1) (b+1)<tX n m a b i:=by
 unfold tX;have:n-b=(n-(b+1))+1:=by omega
 have c:(n-(b+1)+1)*(n+2)=(n-(b+1))*(n+2)+(n+2):=by rw[q7 _ 1,OA]
 rw[this,c];omega
theorem Hc{n m:Nat}{a:Int}{b i:Nat}(c:i<n):tX n m a b (i+1)<tX n m a b i:=by unfold tX;omega
open Classical in
noncomputable def KB (t p:za):Bool:=decide (Lk t p)
theorem Hd{t p:za}(h:¬Lk t p):KB t p=false:=by simp[KB,h]
structure LInv (t p:List UInt8) (star:Int) (fr i k:Nat):Prop extends LikeLaw.Inv t p star fr i k where
 s0:-1<=star
 s1:star<k
 f1:fr<=i
theorem R2(t p:za)(K:t.length<=zx)(Y:p.length<=zx):zr Clk f162 [str t,str p]=some (qz (KB t p)):=by
 have z:=Hb;refine zm rfl ?_;simp;refine ZE (fun st=>∃(a:Int) (d i k:Nat),st.U 0=str t/\st.U 1=str p/\st.U 5=int a/\st.U 6=int d/\st.U 7=int i/\st.U 8=int k/\LInv t p a d i k)
  (fun st=>tX t.length p.length (Wz (st.U 5)) (Wz (st.U 6)).toNat (Wz (st.U 7)).toNat) ⟨-1,0,0,0,by simp,by simp,by simp,by simp,by simp,by simp,LikeLaw.Inv.start t p,by omega,by omega,by omega⟩ ?_
 rintro⟨U,Y,Z⟩ ⟨a,d,i,k,f,g,j,l,m,n,e⟩;simp only at f g j l m n;have A:=e.hk;have H:=e.hi;have L:=e.s0;have M:=e.s1;have G:=e.f1;unfold zx at *;by_cases hi:i<t.length
 ·have u:(∀A:k<p.length,p[k]≠42/\¬(p[k]=63\/p[k]=t[i]))->¬Lk (t.drop i) (p.drop k):=fun h=>zkM hi fun _=>h
  have v:(∀A:k<p.length,p[k]≠42/\¬(p[k]=63\/p[k]=t[i]))->(a<0->KB t p=false)/\(0<=a->LInv t p a (d+1) (d+1) (a.toNat+1)):=fun h=>
   ⟨fun hs=>Hd (e.none hs (u h)),fun hs=>⟨e.back hi hs (u h),by omega,by omega,by omega⟩⟩
  have s:i6.wrap ((d:Int)+1)=((d+1:Nat):Int):=by rw[zi (by omega) (by omega)];omega
  have w:i6.wrap ((i:Int)+1)=((i+1:Nat):Int):=by rw[zi (by omega) (by omega)];omega
  have B:i6.wrap ((k:Int)+1)=((k+1:Nat):Int):=by rw[zi (by omega) (by omega)];omega
  by_cases b:k<p.length
  ·by_cases hs:p[k]=42
   ·simp[f,g,j,l,m,n,hi,b,hs];exact⟨⟨i,rfl,i,rfl,k+1,B,e.zhT b hs,by omega,by omega,by omega⟩,R1 e.s1 b⟩
   ·have q:((p[k].toNat:Int)==42)=false:=by rw[show(42:Int)=((42:UInt8).toNat:Int)from rfl,oN];simpa using hs
    by_cases x:p[k]=63
    ·simp[f,g,j,l,m,n,hi,b,x];exact⟨⟨d,rfl,i+1,w,k+1,B,e.fit hi b hs (.inl x),by omega,by omega,by omega⟩,by rw[w];exact Hc hi⟩
    ·have r:((p[k].toNat:Int)==63)=false:=by rw[show(63:Int)=((63:UInt8).toNat:Int)from rfl,oN];simpa using x
     by_cases y:p[k]=t[i]
     ·have o:((p[k].toNat:Int)==(t[i].toNat:Int))=true:=by rw[oN];simp[y]
      simp[f,g,j,l,m,n,hi,b,q,r,o];exact⟨⟨d,rfl,i+1,w,k+1,B,e.fit hi b hs (.inr y),by omega,by omega,by omega⟩,by rw[w];exact Hc hi⟩
     ·have o:((p[k].toNat:Int)==(t[i].toNat:Int))=false:=by rw[oN];simp[y]
      obtain⟨C,D⟩:=v fun _=>⟨hs,by simp[x,y]⟩
      by_cases c:0<=a
      ·have E:i6.wrap (a+1)=((a.toNat+1:Nat):Int):=by rw[zi (by omega) (by omega)];omega
       simp[f,g,j,l,m,n,hi,b,q,r,o,c];exact⟨⟨d+1,s,d+1,s,a.toNat+1,E,D c⟩,by rw[s];exact A0 G hi⟩
      ·simp[f,g,j,l,m,n,hi,b,q,r,o,c,f162,C (by omega)]
  ·obtain⟨C,D⟩:=v fun h=>absurd h b
   by_cases c:0<=a
   ·have E:i6.wrap (a+1)=((a.toNat+1:Nat):Int):=by rw[zi (by omega) (by omega)];omega
    simp[f,g,j,l,m,n,hi,b,c];exact⟨⟨d+1,s,d+1,s,a.toNat+1,E,D c⟩,by rw[s];exact A0 G hi⟩
   ·simp[f,g,j,l,m,n,hi,b,c,f162,C (by omega)]
 ·have hd:=e.done (by omega);have I:(p.drop k).length<=zx:=by simp[zx];omega
  have J:(Lib.trimB (p.drop k) 42).isEmpty=KB t p:=by rw[qc];simp only[List.isEmpty_iff,R0,KB,zP,hd]
  have F:((p.drop k).take (p.length-k))=p.drop k:=qq (by simp);simp[f,g,j,l,m,n,hi,A,F,J,z (p.drop k) Y Z I,f162]
noncomputable def R3 (a b:za):O:=qz (KB a b)
theorem My:zg prog 162 (zf false [] (Zo R3 fun _ _=>True)):=
 zX (fn:=f162) zht (zpi func162) false [] _ fun args r h=>by obtain⟨a,b,rfl,c,d,_,rfl⟩:=kC h;exact⟨by simp[f162],_,R2 a b c d,zW _⟩
end Go.Q
namespace Go.Q
theorem sb:∀(b:List (List Zw)) (o r:List qZ),(∀a∈b,∀c∈a,c.xP)->js o->XT b o=some r->js r
 |[],o,r,_,d,h=>by simp only[XT]at h;injection h with h;subst h;exact d
 |l::b,o,r,e,d,h=>by
  simp only[XT]at h;split at h
  ·rename_i m f;have g:js [yp wu]:=(QM vV).2;exact sb b _ r (fun a i=>e a (by simp[i])) (vt or d (pR l _ m (e l (by simp)) g f).1) h
  ·cases h
theorem cV(t:za):zlM (xv t).1:=by
 have b:zlM []:=⟨by simp,fun s hs=>by cases hs⟩;unfold xv;split
 ·exact b
 rename_i e;split
 ·exact b
 rename_i f d;split
 ·exact b
 rename_i o h;split
 ·exact b
 rename_i g;have i:=(pS _ f t.length (fun s hs=>xf hs) d).1;exact js.small (sb f [] o (fun a j c k=>(i a j).1 c k) (fun s hs=>by cases hs) h) (show o.length<=zx by unfold zx;omega)
theorem Mz{v:wQ}(h:yT v=0):v.small:=by
 unfold yT at h;split at h
 case isFalse=>omega
 split at h
 ·omega
 rename_i c;split at h
 ·omega
 rename_i a;refine⟨by unfold zx;omega,fun p Y=>?_⟩;have:¬wX p=true:=fun b=>a (vy.2 ⟨p,Y,b⟩)
 unfold wX at this;simp only[qd,zP,not_or]at this;unfold zx;omega
theorem lv{t:za}{v:wQ}(h:eU t=some v):yT v=0/\v.small:=by
 have a:yT v=0:=by
  unfold eU at h;split at h
  ·split at h
   ·split at h
    ·rename_i b;injection h with h
     rw[<-h];exact b
    ·cases h
   ·cases h
  ·cases h
 exact⟨a,Mz a⟩
noncomputable def a7 (l:List qn) (v:qn) (k:Nat):Bool:=match l[k]? with
 |some x=>decide (qV x v<0)
 |none=>false
noncomputable def tY (l:List qn) (v:qn):Nat×Bool:=(kI (a7 l v) 0 l.length,match l[kI (a7 l v) 0 l.length]? with
 |some x=>qV x v==0
 |none=>false)
noncomputable def FLv (f:List qn->qn->O) (b:zb):zb->Option O:=z6 (α:=List qn×qn) (fun a=>.sl 5 (a.1.map qn.V)::.agg a.2.V::b) (fun a=>VG a.1<=zx/\a.2.vb<=zx) (fun a=>f a.1 a.2)
theorem za9{d:zb}:∀a b:List qn×qn,O.sl 5 (a.1.map qn.V)::.agg a.2.V::d=O.sl 5 (b.1.map qn.V)::.agg b.2.V::d->a=b:=by rintro⟨g,h⟩ ⟨i,j⟩ e;simp only[zh,zD,O.agg.injEq]at e;obtain⟨c,f⟩:=e;injection c with _ c;rw[E1 c,Qt f]
noncomputable def lvT (l:List qn) (v:qn):O:=.wY [int (tY l v).1,qz (tY l v).2]
def sd:O:=.fn (.func 157) [] []
theorem zba(l:List qn)(v:qn)(Y:Hp)(Z:Nat)(h:VG l<=zx)(a:v.vb<=zx):zf false [] (FLv lvT [sd]) [.sl 5 (l.map qn.V),.agg v.V,sd] Y Z=some (lvT l v,Y,Z):=
 hPc (l,v) _ _ (by simp[Zj v,sd]) za9 ⟨h,a⟩ (.inl rfl)
theorem Og(l:List qn)(v:qn)(Y:Hp)(Z:Nat)(h:VG l<=zx)(a:v.vb<=zx):zf false [] (FLv (fun l v=>qz (tY l v).2) []) [.sl 5 (l.map qn.V),.agg v.V] Y Z=some (qz (tY l v).2,Y,Z):=
 hPc (l,v) _ _ (by simp[Zj v]) za9 ⟨h,a⟩ (.inl rfl)
noncomputable abbrev Cbsv:Ctx:=zQ prog [(157,zf false [] (Uu zx))]
theorem zei:AM.Good Cbsv (fun g=>[157].contains g):=zw mixed ⟨aA zx,fun _=>zu _ _,trivial⟩
theorem zbb(l:List qn)(v:qn)(y:VG l<=zx)(z:v.vb<=zx):zr Cbsv f156 [.sl 5 (l.map qn.V),.agg v.V,sd]=some (lvT l v):=by
 have G:=ju l;unfold zx at y z;refine zm rfl ?_;simp[sd];refine ZE (fun st=>st.U 0=.sl 5 (l.map qn.V)/\st.U 2=.fn (.func 157) [] []/\st.U 4=.ref 0 0 0/\st.U 8=int l.length/\st.Y 0=some ⟨61,5,false,[v.V]⟩/\∃lo hi:Nat,lo<=hi/\hi<=l.length/\st.U 9=int lo/\st.U 10=int hi/\kI (a7 l v) 0 l.length=kI (a7 l v) lo hi)
  (fun st=>(Wz (st.U 10)).toNat-(Wz (st.U 9)).toNat) ⟨by simp,by simp,by simp,by simp,by simp,0,l.length,by simp,by simp,by simp,by simp,rfl⟩ ?_
 rintro⟨U,Y,Z⟩ ⟨i,j,n,o,p,lo,hi,A,t,q,c,f⟩;simp only at i j n o q c p;have d:=fun(k:Nat) (w:k<l.length) Y Z=>YG zx l[k] v Y Z ⟨by have:=kD (zj w);unfold zx;omega,by have:=kD (zj w);unfold zx;omega,by unfold zx;omega⟩
 by_cases b:lo<hi
 ·have x:=zpg ((lo:Int)+hi);have B:(lo+hi)/2<l.length:=by omega
  obtain⟨m,C⟩:∃m,m=(lo+hi)/2:=⟨_,rfl⟩;have g:i6.wrap ((IntKind.u64.wrap ((lo:Int)+hi)).fdiv (2 ^ min 1 IntKind.u64.bits))=(m:Int):=by
   have D:IntKind.u64.wrap ((lo:Int)+hi)=(lo:Int)+hi:=by rw[Kb];omega
   have E:(2 ^ min 1 IntKind.u64.bits:Int)=2:=by decide
   rw[D,E,Ql _ (by omega),zi (by omega) (by omega)];omega
  have a:m<l.length:=by omega
  have F:=zlL m;have u:a7 l v m=decide (qV l[m] v<0):=by simp[a7,a]
  rw[QN (lo:=lo) b,<-C,u]at f;have e:=d m a;by_cases s:qV l[m] v<0
  ·simp only[s,cY,qA]at f;simp[i,j,n,o,q,c,p,b,x,g,a,e,s,F];exact⟨⟨m+1,hi,by omega,t,by omega,rfl,f⟩,by omega⟩
  ·simp only[s,gz,zF,qJ]at f;simp[i,j,n,o,q,c,p,b,x,g,a,e,s];exact⟨⟨lo,m,by omega,by omega,rfl,rfl,f⟩,by omega⟩
 ·have f:kI (a7 l v) 0 l.length=lo:=by rw[f,J1 (lo:=lo) b]
  unfold lvT tY;rw[f];by_cases h:lo<l.length
  ·have e:=d lo h;simp[i,j,n,o,q,c,p,b,h,e,f156,qS]
  ·have r:l[lo]?=none:=wP (by omega);simp[i,j,n,o,q,c,p,b,h,r,f156,qS]
theorem R4:zg prog 156 (zf false [] (FLv lvT [sd])):=
 pS1 zei func156 false [] fun⟨l,v⟩ ⟨a,b⟩=>⟨zG (zl 3) (by decide),_,zbb l v a b,zW _⟩
noncomputable abbrev Cam:Ctx:=zQ prog [(156,zf false [] (FLv lvT [sd]))]
theorem mE:zg prog 117 (zf false [] (FLv (fun l v=>qz (tY l v).2) [])):=
 pS1 (zph mixed ⟨R4,trivial⟩:AM.Good Cam _) func117 false [] fun⟨l,v⟩ ⟨a,b⟩=>by
  have c:∀Y Z,zf false [] (FLv lvT [sd]) [.sl 5 (l.map qn.V),.agg v.V,.fn (.func 157) [] []] Y Z=some (.wY [int (tY l v).1,qz (tY l v).2],Y,Z):=fun Y Z=>zba l v Y Z a b
  exact⟨by simp[f117],_,zm rfl (by simp[c,f117]),zW _⟩
def gj(op n w:Int):Bool:=if op=3 then decide (n<w)else if op=4 then decide (n<=w)else if op=5 then decide (w<n)else decide (w<=n)
noncomputable def FOd:zb->Option O:=z6 (α:=Int×Int×Int) (fun a=>[int a.1,int a.2.1,int a.2.2]) (fun _=>True) (fun a=>qz (gj a.1 a.2.1 a.2.2))
theorem He(a b c:Int)(Y:Hp)(Z:Nat):zf false [] FOd [int a,int b,int c] Y Z=some (qz (gj a b c),Y,Z):=
 hPc (a,b,c) _ _ rfl (fun x y e=>by obtain⟨d,f,g⟩:=x;obtain⟨h,i,j⟩:=y;simp only[zh,zD]at e;rw[qB e.1,qB e.2.1,qB e.2.2]) trivial (.inl rfl)
theorem tZ:zg prog 121 (zf false [] FOd):=
 pS1 yz func121 false [] fun⟨a,b,c⟩ _=>by
  refine⟨by simp[f121],_,zm rfl ?_,zW _⟩;by_cases d:a=3
  ·simp[d,gj,f121]
  have e:=eqF0 d;by_cases f:a=4
  ·simp[f,gj,f121]
  have g:=eqF0 f;by_cases h:a=5
  ·simp[h,gj,f121]
  have i:=eqF0 h;simp[d,e,f,g,h,i,gj,f121]
noncomputable def verF (s p:za):Bool:=match eU s with
 |none=>false
 |some v=>(dX v (xv p).1).1
noncomputable def VB (op:Int) (s p:za):Bool:=if op=7 then p.isPrefixOf s else if op=8 then Lib.hasSuffix s p else if op=9 then Lib.contains s p else if op=10 then KB s p else verF s p
noncomputable def FFt:zb->Option O:=z6 (α:=Int×za×za) (fun a=>[int a.1,str a.2.1,str a.2.2]) (fun a=>a.2.1.length+1<=zx/\a.2.2.length+1<=zx) (fun a=>qz (VB a.1 a.2.1 a.2.2))
theorem Hf(a:Int)(b c:za)(Y:Hp)(Z:Nat)(h:b.length+1<=zx)(d:c.length+1<=zx):zf false [] FFt [int a,str b,str c] Y Z=some (qz (VB a b c),Y,Z):=
 hPc (a,b,c) _ _ rfl (fun x y e=>by obtain⟨f,g,i⟩:=x;obtain⟨j,k,l⟩:=y;simp only[zh,zD]at e;rw[qB e.1,q9 e.2.1,q9 e.2.2]) ⟨h,d⟩ (.inl rfl)
noncomputable abbrev Cfts:Ctx:=zQ prog [(159,zf false [] (Zo TZ fun _ _=>True)),(160,zf false [] (Zo hsP fun _ _=>True)),(161,zf false [] (Zo EF fun _ _=>True)),(162,zf false [] (Zo R3 fun _ _=>True)),(163,zf false [] (Kg ic)),(164,zf false [] (Kg pT)),(165,zf false [] (FVR cg))]
theorem R5(a:Int)(b c:za)(h:b.length+1<=zx)(r:c.length+1<=zx):zr Cfts f122 [int a,str b,str c]=some (qz (VB a b c)):=by
 refine zm rfl ?_;have s:=fun Y Z=>bt b c Y Z (by omega) (by omega)
 have t:=fun Y Z=>Dm b c Y Z (by omega) (by omega)
 have u:∀Y Z,zf false [] (Zo EF fun _ _=>True) [str b,str c] Y Z=some (qz (Lib.contains b c),Y,Z):=fun Y Z=>kl _ _ b c Y Z (by omega) (by omega) trivial rfl
 have m:∀Y Z,zf false [] (Zo R3 fun _ _=>True) [str b,str c] Y Z=some (qz (KB b c),Y,Z):=fun Y Z=>kl _ _ b c Y Z (by omega) (by omega) trivial rfl
 have d:=fun Y Z=>kK ic b Y Z h
 have i:=fun Y Z=>kK pT c Y Z r
 by_cases n:a=7
 ·simp[n,s,VB,f122]
 have j:=eqF0 n;by_cases o:a=8
 ·simp[o,t,VB,f122]
 have k:=eqF0 o;by_cases p:a=9
 ·simp[p,u,VB,f122]
 have l:=eqF0 p;by_cases f:a=10
 ·simp[f,m,VB,f122]
 have e:=eqF0 f;have w:VB a b c=verF b c:=by unfold VB;rw[ze n,ze o,ze p,ze f]
 rw[w];unfold verF;cases q:eU b with
 |none=>simp only[ic,q]at d;simp[j,k,l,e,d,XI,wQ.V,f122]
 |some v=>
  have hs:=(lv q).2;have g:=fun Y Z=>G9 cg v (xv c).1 Y Z hs (cV c) rfl
  simp only[ic,q]at d;simp only[pT]at i;simp only[cg]at g;simp only[wQ.V]at d g;simp[j,k,l,e,d,i,g,f122]
theorem MA:zg prog 122 (zf false [] FFt):=
 pS1 (zph mixed ⟨Y3,XX,JR,My,Kp,XU,tV,trivial⟩:AM.Good Cfts _) func122 false [] fun⟨a,b,c⟩ ⟨d,e⟩=>⟨by simp[f122],_,R5 a b c d e,zW _⟩
def Jw(c:qO):kV:=⟨70,7,false,[c.V]⟩
noncomputable abbrev Cps1:Ctx:=zQ prog [(117,zf false [] (FLv (fun l v=>qz (tY l v).2) []))]
noncomputable abbrev ps1S:AM.Spec:=we Cps1 f119
theorem R6:zg prog 119 ps1S:=zpj (zph mixed ⟨mE,trivial⟩:AM.Good Cps1 _) func119
theorem zej(c:qO)(v:qn)(g:c.cb<=zx)(b:v.vb<=zx)(Y:Hp)(Z id:Nat)(hid:id<Z)(a:Y id=some (Jw c)):ps1S [.agg v.V,.ref id 0 0] Y Z=some (qz (tY c.yC v).2,qR Y Z (some ⟨61,5,false,[v.V]⟩),Z+1):=by
 have d:=Qb c;unfold ps1S we;rw[zd (by simp[f119])];refine yu rfl ?_;have e:=fun Y Z=>Og c.yC v Y Z (by omega) b
 have f:¬id=Z:=by omega
 simp only[Jw]at a;simp[a,f,e,f119]
def A1(l:List qn):Int:=match l with
 |[]=>0
 |x::_=>x.n
noncomputable def Jj (c:qO) (v:qn):Bool:=if c.op=1 then true else if c.op=2 then(tY c.yC v).2 else if c.op=12 then v.kind==4&&v.items.any (fun x=>(tY c.yC x).2)else if jx c.op=true then v.kind==2&&gj c.op v.n (A1 c.yC)else v.kind==3&&VB c.op v.s c.pat
noncomputable def FPs:zb->Option O:=z6 (α:=qO×qn) (fun a=>[.agg a.1.V,.agg a.2.V]) (fun a=>a.1.cb<=zx/\a.2.vb<=zx/\(jx a.1.op=true->0<a.1.yC.length)) (fun a=>qz (Jj a.1 a.2))
theorem zbc(c:qO)(v:qn)(Y:Hp)(Z:Nat)(h:c.cb<=zx)(d:v.vb<=zx)(f:jx c.op=true->0<c.yC.length):zf false [] FPs [.agg c.V,.agg v.V] Y Z=some (qz (Jj c v),Y,Z):=
 hPc (c,v) _ _ (by simp[Zj v,qY]) (fun a b e=>by obtain⟨g,i⟩:=a;obtain⟨j,k⟩:=b;simp only[zh,zD,O.agg.injEq]at e;rw[vQ e.1,Qt e.2]) ⟨h,d,f⟩ (.inl rfl)
noncomputable abbrev TAps:Qq:=[(119,ps1S)]
noncomputable abbrev Cps:Ctx:=zQ prog [(117,zf false [] (FLv (fun l v=>qz (tY l v).2) [])),(118,Oe TAps),(120,zf false [] (ep jx)),(121,zf false [] FOd),(122,zf false [] FFt)]
theorem zhu:Gd Cps:=zph mixed ⟨mE,Mv ⟨R6,by simp,trivial⟩,aF,tZ,MA,trivial⟩
theorem zbd:Q9 Cps g0F 69 f69:=zpi func69
theorem Hg(c:qO)(v:qn)(C:c.cb<=zx)(D:v.vb<=zx)(E:jx c.op=true->0<c.yC.length):zr Cps f69 [.agg c.V,.agg v.V]=some (qz (Jj c v)):=by
 have F:=Qb c;have G:=Zp v;refine zm rfl ?_;have u:zx=2097152:=rfl;by_cases f:c.op=1
 ·have a:Jj c v=true:=by unfold Jj;rw[zd f]
  simp[f,a,f69]
 have b:=eqF0 f;by_cases i:c.op=2
 ·have a:Jj c v=(tY c.yC v).2:=by unfold Jj;rw[ze f,zd i]
  have o:=fun Y Z=>Og c.yC v Y Z (by omega) D
  simp[i,o,a,f69]
 have d:=eqF0 i;by_cases k:c.op=12
 ·have a:Jj c v=(v.kind==4&&v.items.any fun x=>(tY c.yC x).2):=by unfold Jj;rw[ze f,ze i,zd k]
  have H:=ju v.items;have p:=fun x (m:x∈v.items)=>kD m
  obtain⟨r,J,K,q,rfl,_,_,_⟩:=za5 (U:=Unit) (T:=fun _=>False) (Rep:=fun _ Y=>Y 0=some (Jw c)) (step:=fun _ x=>((tY c.yC x).2,())) (Ta:=TAps) (g:=119) (sp:=ps1S) (fi:=[]) (cap:=[.ref 0 0 0]) (Z0:=1) (by simp) v.items (by omega)
   (fun _ x Y Z m L w=>⟨_,_,_,zej c x C (by have:=p x m;omega) Y Z 0 (by omega) w,rfl,(zt _ _ _ _ (by omega)).trans w,by omega,fun j M _=>zt _ _ _ _ (by omega)⟩) () (qR (qR (fun _=>none) 0 (some (Jw c))) 1 (some ⟨61,5,false,[v.V]⟩)) 2 (by omega) (by simp)
  rw[Vo]at q;simp only[Jw]at q;rw[a];cases y:v.kind==4
  ·simp[k,y,f69]
  ·simp[k,y,q,f69]
 have e:=eqF0 k;cases h:jx c.op
 ·have a:Jj c v=(v.kind==3&&VB c.op v.s c.pat):=by unfold Jj;rw[ze f,ze i,ze k,h,ze (by simp)]
  have o:=fun Y Z=>Hf c.op v.s c.pat Y Z (by omega) (by omega)
  rw[a];cases z:v.kind==3
  ·simp[b,d,e,h,z,f69]
  ·simp[b,d,e,h,z,o,f69]
 ·have a:Jj c v=(v.kind==2&&gj c.op v.n (A1 c.yC)):=by unfold Jj;rw[ze f,ze i,ze k,zd h]
  have A:=E h;obtain⟨x,l,m⟩:∃x l,c.yC=x::l:=by
   cases t:c.yC with
   |nil=>rw[t]at A;cases A
   |cons x l=>exact⟨x,l,rfl⟩
  have o:=fun Y Z=>He c.op v.n x.n Y Z
  rw[a];have I:A1 c.yC=x.n:=by rw[m];rfl
  rw[I];cases B:v.kind==2
  ·simp[b,d,e,h,B,f69]
  ·simp[b,d,e,h,B,m,o,f69]
theorem Dr:zg prog 69 (zf false [] FPs):=
 zX (fn:=f69) zhu zbd false [] _ fun args r h=>by obtain⟨⟨c,v⟩,rfl,⟨a,b,d⟩,rfl⟩:=zp h;exact⟨by simp[f69],_,Hg c v a b d,zW _⟩
theorem se{α d:Type}(f:d->α)(c:α->α->Int):∀a b:List d,yr c (a.map f) (b.map f)=yr (fun x y=>c (f x) (f y)) a b
 |[],[]=>rfl
 |[],_::_=>rfl
 |_::_,[]=>rfl
 |x::a,y::b=>by simp only[wD,yr,se f c a b]
def R7(v:qn):Int:=if v.kind=1\/v.kind=2 then v.n else 0
def R8(v:qn):za:=if v.kind=3 then v.s else[]
def Hh(v:qn):List qn:=if v.kind=4 then v.items else[]
def Hi(v:qn):List (za×qn):=if v.kind=5 then v.fields else[]
theorem MB(a b:qn):qV a b=Zx (fun x y=>wR x.kind y.kind) (Zx (fun x y=>wR (R7 x) (R7 y)) (Zx (fun x y=>yK (R8 x) (R8 y)) (Zx (fun x y=>yr qV (Hh x) (Hh y)) fun x y=>yr ka (Hi x) (Hi y)))) a b:=by
 rw[Ve];unfold Zx;by_cases i:a.kind=b.kind
 ·have j:wR a.kind b.kind=0:=by rw[i];exact Qw.refl _
  have s:wR 0 0=0:=Qw.refl _;have n:yK [] []=0:=b4.refl _;have k:yr qV [] []=0:=rfl;have g:yr ka [] []=0:=rfl;rw[zd i,zd j];unfold R7 R8 Hh Hi;dsimp only;by_cases o:b.kind=1\/b.kind=2
  ·have t:¬b.kind=3:=by omega
   have l:¬b.kind=4:=by omega
   have e:¬b.kind=5:=by omega
   have m:a.kind=1\/a.kind=2:=by omega
   have f:¬a.kind=3:=by omega
   have d:¬a.kind=4:=by omega
   have c:¬a.kind=5:=by omega
   simp only[zd o,ze t,ze l,ze e,zd m,ze f,ze d,ze c,n,k,g,qA];split
   ·rename_i h;exact h
   ·rfl
  ·have m:¬(a.kind=1\/a.kind=2):=by omega
   simp only[ze o,ze m,s,qA];by_cases p:b.kind=3
   ·have l:¬b.kind=4:=by omega
    have e:¬b.kind=5:=by omega
    have f:a.kind=3:=by omega
    have d:¬a.kind=4:=by omega
    have c:¬a.kind=5:=by omega
    simp only[zd p,ze l,ze e,zd f,ze d,ze c,k,g,qA];split
    ·rename_i h;exact h
    ·rfl
   ·have f:¬a.kind=3:=by omega
    simp only[ze p,ze f,n,qA];by_cases q:b.kind=4
    ·have e:¬b.kind=5:=by omega
     have d:a.kind=4:=by omega
     have c:¬a.kind=5:=by omega
     simp only[zd q,ze e,zd d,ze c,g];split
     ·rename_i h;exact h
     ·rfl
    ·have d:¬a.kind=4:=by omega
     simp only[ze q,ze d,k,qA];by_cases r:b.kind=5
     ·have c:a.kind=5:=by omega
      simp only[zd r,zd c]
     ·have c:¬a.kind=5:=by omega
      simp only[ze r,ze c,g]
 ·have j:¬wR a.kind b.kind=0:=by unfold wR;split<;>(try split)<;>omega
  rw[ze i,ze j]
abbrev a8(n:Nat):={v:qn // v.vb<=n}
def MC(n:Nat)(v:a8 (n+1)):List (a8 n):=(Hh v.1).attach.map fun x=>⟨x.1,by
 have a:=x.2;unfold Hh at a;split at a
 ·have b:=kD a;have c:=Zp v.1;have d:=v.2;omega
 ·cases a⟩
def MD(n:Nat)(v:a8 (n+1)):List (za×a8 n):=(Hi v.1).attach.map fun x=>(x.1.1,⟨x.1.2,by
 have a:=x.2;unfold Hi at a;split at a
 ·have b:=xr a;have c:=Zp v.1;have d:=v.2;omega
 ·cases a⟩)
theorem Hj(n:Nat)(v:a8 (n+1)):(MC n v).map (·.1)=Hh v.1:=by unfold MC;rw[List.map_map];exact List.attach_map_subtype_val _
theorem Hk(n:Nat)(v:a8 (n+1)):(MD n v).map (fun x=>(x.1,x.2.1))=Hi v.1:=by unfold MD;rw[List.map_map];exact List.attach_map_subtype_val _
theorem ME(a b:za×qn):ka a b=Zx (fun x y=>yK x.1 y.1) (fun x y=>qV x.2 y.2) a b:=by
 unfold ka Zx Xb;simp only[Xb];split
 ·split
  ·rename_i c;rw[c]
  ·rfl
 ·rfl
theorem nU:∀n:Nat,TO fun a b:a8 n=>qV a.1 b.1
 | 0=>⟨fun x=>absurd x.2 (by have:=JT x.1;omega),fun x _=>absurd x.2 (by have:=JT x.1;omega),fun x _ _=>absurd x.2 (by have:=JT x.1;omega)⟩
 |n+1=>by
  have c:=nU n;have:(fun a b:a8 (n+1)=>qV a.1 b.1)=Zx (fun x y=>wR x.1.kind y.1.kind) (Zx (fun x y=>wR (R7 x.1) (R7 y.1)) (Zx (fun x y=>yK (R8 x.1) (R8 y.1)) (Zx (fun x y=>yr (fun p q:a8 n=>qV p.1 q.1) (MC n x) (MC n y)) fun x y=>yr (Zx (fun p q:za×a8 n=>yK p.1 q.1) fun p q=>qV p.2.1 q.2.1) (MD n x) (MD n y)))):=by
   funext a b;rw[MB];unfold Zx;have d:yr qV (Hh a.1) (Hh b.1)=yr (fun p q:a8 n=>qV p.1 q.1) (MC n a) (MC n b):=by rw[<-Hj n a,<-Hj n b,se]
   have e:yr ka (Hi a.1) (Hi b.1)=yr (fun x y:za×a8 n=>if yK x.1 y.1=0 then qV x.2.1 y.2.1 else yK x.1 y.1) (MD n a) (MD n b):=by rw[<-Hk n a,<-Hk n b,se];congr 1;funext x y;exact ME _ _
   simp only[d,e]
  rw[this];exact TO.lex (Qw.pull fun x:a8 (n+1)=>x.1.kind) (TO.lex (Qw.pull fun x:a8 (n+1)=>R7 x.1) (TO.lex (b4.pull fun x:a8 (n+1)=>R8 x.1) (TO.lex ((nM c).pull (MC n)) ((nM (TO.lex (b4.pull fun p:List UInt8×a8 n=>p.1) (c.pull fun p:List UInt8×a8 n=>p.2))).pull (MD n)))))
theorem Yd:TO qV where
 refl x:=(nU x.vb).refl ⟨x,zl _⟩
 flip x y:=(nU (x.vb+y.vb)).flip ⟨x,by omega⟩ ⟨y,by omega⟩
 tr x y z:=(nU (x.vb+y.vb+z.vb)).tr ⟨x,by omega⟩ ⟨y,by omega⟩ ⟨z,by omega⟩
def UpV(l:List qn):Prop:=l.Pairwise fun a b=>qV a b<0
theorem zek{l:List qn}(m:UpV l)(v:qn):(tY l v).2=l.any fun w=>qV v w==0:=by
 rw[qc,vy];constructor
 ·intro h;unfold tY at h;simp only at h;split at h
  ·rename_i x r;refine⟨x,zM r,?_⟩;rw[jq]at h⊢;exact(Yd.eq x v).1 h
  ·cases h
 ·rintro⟨w,s,o⟩;rw[jq]at o;have g:=(Yd.eq v w).1 o;obtain⟨j,p⟩:=VE s;obtain⟨a,b⟩:=zn.1 p;have t:kI (a7 l v) 0 l.length=j:=by
   refine bF (n:=l.length) (fun k i=>?_) (fun k i c=>?_) (kM _) (Nat.le_of_lt a) (zl _)
   ·have d:=QY.1 m k j (by omega) a i;rw[b]at d;have e:qV l[k] v<0:=by
     have q:=Yd.tr l[k] w v (by omega) (by omega);rcases Qk q with f|f
     ·exact f
     ·have u:=Yd.tr w v l[k] (by omega) (by have:=(Yd.eq l[k] v).1 f;omega);have:=(Yd.flip l[k] w).1 d;omega
    simp[a7,show k<l.length by omega,e]
   ·rcases zpe i with h|rfl
    ·have d:=QY.1 m j k a c h;rw[b]at d;have e:¬qV l[k] v<0:=fun q=>by have f:=Yd.tr w l[k] v (by omega) (by omega);have u:=Yd.tr l[k] v w (by omega) (by omega);have:=(Yd.flip w l[k]).1 d;omega
     simp[a7,c,e]
    ·have e:¬qV w v<0:=by omega
     simp[a7,a,b,e]
  unfold tY;simp only[t,p];rw[jq];exact g
theorem gk:zg prog 177 (zf false [] FOd):=
 pS1 yz func177 false [] fun⟨a,b,c⟩ _=>by
  refine⟨by simp[f177],_,zm rfl ?_,zW _⟩;by_cases d:a=3
  ·simp[d,gj,f177]
  have e:=eqF0 d;by_cases f:a=4
  ·simp[f,gj,f177]
  have g:=eqF0 f;by_cases h:a=5
  ·simp[h,gj,f177]
  have i:=eqF0 h;simp[d,e,f,g,h,i,gj,f177]
noncomputable def dY (v:qn) (l:List qn):Bool:=l.any fun w=>qV v w==0
noncomputable def FVL (out:qn->List qn->O):zb->Option O:=z6 (α:=qn×List qn) (fun a=>[.agg a.1.V,.sl 5 (a.2.map qn.V)]) (fun a=>a.1.vb<=zx/\VG a.2<=zx) fun a=>out a.1 a.2
theorem Hl(out:qn->List qn->O)(v:qn)(l:List qn)(Y:Hp)(Z:Nat)(h:v.vb<=zx/\VG l<=zx)(d:(out v l).flat=true):zf false [] (FVL out) [.agg v.V,.sl 5 (l.map qn.V)] Y Z=some (out v l,Y,Z):=
 hPc (v,l) _ _ (by simp[Zj]) (fun a b e=>by obtain⟨g,i⟩:=a;obtain⟨j,k⟩:=b;simp only[zh,zD,O.agg.injEq]at e;obtain⟨f,c⟩:=e;injection c with _ c;rw[Qt f,yX (fun _ _=>Qt) c]) h (.inl d)
noncomputable abbrev zfJ:Ctx:=zQ prog [(217,zf false [] (Uu zx))]
theorem MF(v:qn)(l:List qn)(m:v.vb<=zx)(t:VG l<=zx):zr zfJ f175 [.agg v.V,.sl 5 (l.map qn.V)]=some (qz (dY v l)):=by
 have q:=fun w (f:w∈l)=>kD f
 have n:=ju l;have o:zx=2097152:=rfl;refine zm rfl ?_;unfold dY;simp;refine zI (fun k U Y Z=>U 2=.ref 0 0 0/\U 7=.sl 5 (l.map qn.V)/\U 8=int l.length/\U 9=int k/\1<=Z/\Y 0=some ⟨61,5,false,[v.V]⟩/\(l.any fun w=>qV v w==0)=(l.drop k).any fun w=>qV v w==0) l.length
  ⟨by simp,by simp,by simp,by simp,by simp,by simp,by simp⟩ ?_
 rintro k U Y Z u ⟨g,h,i,j,r,c,b⟩;have n1:¬0=Z:=by omega
 by_cases a:k<l.length
 ·have f:=zlL k;obtain⟨x,e⟩:=exI (l[k]);have s:=q x (by rw[<-e];exact zj a);rw[gg a,e]at b;have p:=fun Y Z=>YG zx v x Y Z ⟨m,m,by omega⟩
  cases d:(qV v x==0)
  ·rw[d,ye]at b;simp[g,h,i,j,a,e,c,n1,p,d,f]
   and_intros<;>first|omega|exact c|exact b|simpa using b|simp[n1,c]
  ·rw[d,Wu]at b;simp[g,h,i,j,a,e,c,n1,p,d,b,f175]
 ·obtain rfl:k=l.length:=by omega
  rw[zo]at b;simp[g,h,i,j,b,f175]
theorem Hm:zg prog 175 (zf false [] (FVL fun v l=>qz (dY v l))):=
 pS1 (zph mixed ⟨aK zx,trivial⟩:AM.Good zfJ _) func175 false [] fun⟨v,l⟩ a=>⟨zG (zl 2) (by decide),_,MF v l a.1 a.2,zW _⟩
theorem J7:∀a b:List qO,yh (a++b)=yh a++yh b
 |[],b=>rfl
 |x::a,b=>by show x.names++yh (a++b)=(x.names++yh a)++yh b;rw[J7 a b,qT]
theorem QS{l:List qO}{k:Nat}(h:k<l.length):yh (l.take (k+1))=yh (l.take k)++l[k].names:=by rw[zR h,J7];show _++(l[k].names++[])=_;rw[kr]
theorem A2{n:Nat}(a:∀c:qO,c.cb<=n->c.names.length<=c.cb):∀l:List qO,lG l<=n->(yh l).length<=lG l
 |[],_=>zl _
 |x::l,h=>by
  have b:lG (x::l)=x.cb+lG l:=by simp[lG]
  have d:=a x (by omega);have e:=A2 a l (by omega);show(x.names++yh l).length<=_;rw[qt];omega
theorem kS:∀(n:Nat) (c:qO),c.cb<=n->c.names.length<=c.cb
 | 0,c,h=>by have:=V7 c;omega
 |n+1,c,h=>by have a:=Qb c;have:=A2 (kS n) c.args (by omega);rw[vw,qt];split<;>simp<;>omega
noncomputable abbrev Cnm (n:Nat):Ctx:=zQ prog [(125,zf false [] (FC (fun c=>.sl 1 (zJ c.names)) n))]
theorem Dt(n:Nat)(c:qO)(h:c.cb<=zx/\c.cb<=n+1):∃C,zr (Cnm n) f125 [.agg c.V]=some C/\ag C (.sl 1 (zJ c.names)):=by
 have D:=Qb c;have E:=jW c.args;have w:=kS _ c (zl _);obtain⟨F,L⟩:=h;unfold zx at F;have g:∀k,(yh (c.args.take k)).length<=c.cb:=fun k=>by
  have e:yh c.args=yh (c.args.take k)++yh (c.args.drop k):=by rw[<-J7,kQ]
  have:=zC List.length e;rw[vw,qt]at w;rw[qt]at this;omega
 refine Q8 rfl ?_;by_cases v:c.kind=5
 ·have s:=fun Y Z=>wg.yL (P:=prog) (t:=88) (c:=[str c.name]) (wg.nil Y Z 9 1) XZ BH D2 D3 rfl (by omega) (by simp[maxLen]) (by simp)
  have i:(c.kind==5)=true:=by simpa using v
  simp only[WA]at s;simp[qY,i,zz,zS,zy,s];refine zI (fun k U Y Z=>U 15=.sl 7 (c.args.map qO.V)/\U 16=int c.args.length/\U 17=int k/\wg Y Z 9 1 (U 3) (zJ ([c.name]++yh (c.args.take k)))) c.args.length
   ⟨by simp,by simp,by simp,by simp;exact .inr ⟨_,by omega,rfl,by simp[zJ,yh]⟩⟩ ?_
  rintro k U Y Z G ⟨b,d,f,j⟩;by_cases a:k<c.args.length
  ·have y:=zlL k;obtain⟨x,l⟩:=exI (c.args[k]);have m:x∈c.args:=by rw[<-l];exact zj a
   have z:=vC m;have A:=kS _ x (zl _);have B:=fun Y Z=>ZQ (fun c=>.sl 1 (zJ c.names)) n x Y Z ⟨by unfold zx;omega,by omega⟩
   have H:=g k;have o:=j.more (some ⟨70,7,false,[x.V]⟩);obtain⟨I,J,K,p,q,_⟩:=o.Yu (P:=prog) (t:=88) (ys:=zJ x.names) XZ BH D2 D3 rfl (by omega) (by simp[maxLen,wF];omega) (by simp[wF];omega);have u:=QS a;rw[l]at u;simp[b,d,f,a,l,B,p,y,JF];refine⟨by omega,?_⟩;rw[u];simpa[zJ]using q
  ·obtain rfl:k=c.args.length:=by omega
   rw[wo]at j;have r:=j.freeze Z;simp[b,d,f,f125];rw[vw];simpa[v]using r
 ·have i:=eqF0 v;simp[qY,i];refine zI (fun k U Y Z=>U 15=.sl 7 (c.args.map qO.V)/\U 16=int c.args.length/\U 17=int k/\wg Y Z 9 1 (U 3) (zJ (yh (c.args.take k)))) c.args.length
   ⟨by simp,by simp,by simp,by simp;exact .inl ⟨rfl,by simp[zJ,yh]⟩⟩ ?_
  rintro k U Y Z G ⟨b,d,f,j⟩;by_cases a:k<c.args.length
  ·have y:=zlL k;obtain⟨x,l⟩:=exI (c.args[k]);have m:x∈c.args:=by rw[<-l];exact zj a
   have z:=vC m;have A:=kS _ x (zl _);have B:=fun Y Z=>ZQ (fun c=>.sl 1 (zJ c.names)) n x Y Z ⟨by unfold zx;omega,by omega⟩
   have H:=g k;have o:=j.more (some ⟨70,7,false,[x.V]⟩);obtain⟨I,J,K,p,q,_⟩:=o.Yu (P:=prog) (t:=88) (ys:=zJ x.names) XZ BH D2 D3 rfl (by omega) (by simp[maxLen,wF];omega) (by simp[wF];omega);have u:=QS a;rw[l]at u;simp[b,d,f,a,l,B,p,y,JF];refine⟨by omega,?_⟩;rw[u];simpa[zJ]using q
  ·obtain rfl:k=c.args.length:=by omega
   rw[wo]at j;have r:=j.freeze Z;simp[b,d,f,f125];rw[vw];simpa[v]using r
theorem cW:∀n,zg prog 125 (zf false [] (FC (fun c=>.sl 1 (zJ c.names)) n)):=by
 intro n
 induction n with
 |zero=>exact eR ⟨_,func125,by kernel_rfl,by kernel_rfl⟩
 |succ n a=>
  have b:Gd (Cnm n):=zph mixed ⟨a,trivial⟩;exact zX (fn:=f125) b (zpi func125) false [] _ fun args r h=>by obtain⟨c,rfl,d,rfl⟩:=WT h;obtain⟨e,f,g⟩:=Dt n c d;exact⟨zG (zl 1) (by decide),e,f,g⟩
def gI(l:List qa)(a:List za):Bool:=a.all fun n=>(yE n l).isSome
def dZ(l:List qa)(cs:List qO):Int:=if(cs.all fun c=>gI l c.names)=true then 0 else 9
theorem lx{α:Type}{p:α->Bool}{l:List α}{k:Nat}(h:k<l.length):(l.drop k).all p=(p l[k]&&(l.drop (k+1)).all p):=by rw[zc h,q8]
noncomputable def FSC (out:List qa->List qO->O):zb->Option O:=z6 (α:=List qa×List qO) (fun a=>[.sl 10 (a.1.map qa.V),.sl 7 (a.2.map qO.V)]) (fun a=>a.1.length<=zx/\lG a.2<=zx) fun a=>out a.1 a.2
theorem zbe(out:List qa->List qO->O)(l:List qa)(cs:List qO)(h:l.length<=zx/\lG cs<=zx):FSC out [.sl 10 (l.map qa.V),.sl 7 (cs.map qO.V)]=some (out l cs):=
 zE (V:=fun a:List qa×List qO=>[O.sl 10 (a.1.map qa.V),.sl 7 (a.2.map qO.V)]) (a:=(l,cs)) (fun a b e=>by obtain⟨f,g⟩:=a;obtain⟨i,j⟩:=b;simp only[zh,zD]at e;obtain⟨d,c⟩:=e;injection c with _ c;rw[kH d,yX (fun _ _=>vQ) c]) h
noncomputable abbrev zfK:Ctx:=zQ prog [(125,zf false [] (FC (fun c=>.sl 1 (zJ c.names)) zx)),(126,zf false [] (RO (fun l s=>Vz (yE s l)) fun l _=>l.length<=zx))]
theorem lz(l:List qa)(cs:List qO)(z:l.length<=zx)(G:lG cs<=zx):zr zfK f73 [.sl 10 (l.map qa.V),.sl 7 (cs.map qO.V)]=some (int (dZ l cs)):=by
 have v:zx=2097152:=rfl;have A:=jW cs;refine zm rfl ?_;obtain⟨B,w⟩:=exI (cs.all fun c=>gI l c.names);unfold dZ;rw[w];simp;refine zI (fun k U Y Z=>U 0=.sl 10 (l.map qa.V)/\U 11=.sl 7 (cs.map qO.V)/\U 12=int cs.length/\U 13=int k/\B=(cs.drop k).all fun c=>gI l c.names) cs.length
  ⟨by simp,by simp,by simp,by simp,by simp[w]⟩ ?_
 rintro k U Y Z H ⟨g,a,b,e,f⟩;by_cases h:k<cs.length
 ·have C:=zlL k;obtain⟨x,q⟩:=exI (cs[k]);have r:x∈cs:=by rw[<-q];exact zj h
  have D:=vC r;have E:=kS _ x (zl _);have F:=fun Y Z=>ZQ (fun c=>.sl 1 (zJ c.names)) zx x Y Z ⟨by omega,by omega⟩
  rw[lx h,q]at f;simp[g,a,b,e,h,q,F];refine zI (fun j U Y Z=>U 0=.sl 10 (l.map qa.V)/\U 11=.sl 7 (cs.map qO.V)/\U 12=int cs.length/\U 13=int k/\U 18=.sl 1 (zJ x.names)/\U 19=int x.names.length/\U 20=int j/\B=(gI l (x.names.drop j)&&(cs.drop (k+1)).all fun c=>gI l c.names)) x.names.length
   ⟨by simp[g],by simp[a],by simp[b],by simp[e],by simp,by simp,by simp,by simpa using f⟩ ?_
  rintro j U Y Z I ⟨g,a,b,e,i,m,n,f⟩;by_cases o:j<x.names.length
  ·have t:=zlL j;obtain⟨y,u⟩:=exI (x.names[j]);have p:∀Y Z,zf false [] (RO (fun l s=>Vz (yE s l)) fun l _=>l.length<=zx) [.sl 10 (l.map qa.V),str y] Y Z=some (.wY [.agg (Ms (yE y l)).V,qz (yE y l).isSome],Y,Z):=fun Y Z=>ln (fun l s=>Vz (yE s l)) (fun l _=>l.length<=zx) l y Y Z z
   unfold gI at f;rw[lx o,u]at f;cases d:(yE y l).isSome
   ·rw[d,kT,kT]at f;rw[d]at p;simp[g,a,b,e,i,m,n,o,u,p,f,f73]
   ·rw[d,jb]at f;rw[d]at p;simp[g,a,b,e,i,m,n,o,u,p,t];exact⟨by omega,f⟩
  ·obtain rfl:j=x.names.length:=by omega
   rw[zo]at f;have f:B=(cs.drop (k+1)).all fun c=>gI l c.names:=by simpa[gI]using f
   simp[g,a,b,e,i,m,n,C];exact⟨by omega,f⟩
 ·obtain rfl:k=cs.length:=by omega
  rw[zo]at f;simp[g,a,b,e,f,f73]
theorem KC:zg prog 73 (zf false [] (FSC fun l cs=>int (dZ l cs))):=
 pS1 (zph mixed ⟨cW zx,Ya,trivial⟩:AM.Good zfK _) func73 false [] fun⟨l,cs⟩ a=>⟨zG (zl 2) (by decide),_,lz l cs a.1 a.2,zW _⟩
noncomputable abbrev Csgn (n:Nat):Ctx:=zQ prog [(171,zf false [] (FC (fun c=>.sl 1 (zJ c.names)) n))]
theorem ua(n:Nat)(c:qO)(h:c.cb<=zx/\c.cb<=n+1):∃C,zr (Csgn n) f171 [.agg c.V]=some C/\ag C (.sl 1 (zJ c.names)):=by
 have D:=Qb c;have E:=jW c.args;have w:=kS _ c (zl _);obtain⟨F,L⟩:=h;unfold zx at F;have g:∀k,(yh (c.args.take k)).length<=c.cb:=fun k=>by
  have e:yh c.args=yh (c.args.take k)++yh (c.args.drop k):=by rw[<-J7,kQ]
  have:=zC List.length e;rw[vw,qt]at w;rw[qt]at this;omega
 refine Q8 rfl ?_;by_cases v:c.kind=5
 ·have s:=fun Y Z=>wg.yL (P:=prog) (t:=88) (c:=[str c.name]) (wg.nil Y Z 9 1) XZ BH D2 D3 rfl (by omega) (by simp[maxLen]) (by simp)
  have i:(c.kind==5)=true:=by simpa using v
  simp only[WA]at s;simp[qY,i,zz,zS,zy,s];refine zI (fun k U Y Z=>U 15=.sl 7 (c.args.map qO.V)/\U 16=int c.args.length/\U 17=int k/\wg Y Z 9 1 (U 3) (zJ ([c.name]++yh (c.args.take k)))) c.args.length
   ⟨by simp,by simp,by simp,by simp;exact .inr ⟨_,by omega,rfl,by simp[zJ,yh]⟩⟩ ?_
  rintro k U Y Z G ⟨b,d,f,j⟩;by_cases a:k<c.args.length
  ·have y:=zlL k;obtain⟨x,l⟩:=exI (c.args[k]);have m:x∈c.args:=by rw[<-l];exact zj a
   have z:=vC m;have A:=kS _ x (zl _);have B:=fun Y Z=>ZQ (fun c=>.sl 1 (zJ c.names)) n x Y Z ⟨by unfold zx;omega,by omega⟩
   have H:=g k;have o:=j.more (some ⟨70,7,false,[x.V]⟩);obtain⟨I,J,K,p,q,_⟩:=o.Yu (P:=prog) (t:=88) (ys:=zJ x.names) XZ BH D2 D3 rfl (by omega) (by simp[maxLen,wF];omega) (by simp[wF];omega);have u:=QS a;rw[l]at u;simp[b,d,f,a,l,B,p,y,JF];refine⟨by omega,?_⟩;rw[u];simpa[zJ]using q
  ·obtain rfl:k=c.args.length:=by omega
   rw[wo]at j;have r:=j.freeze Z;simp[b,d,f,f171];rw[vw];simpa[v]using r
 ·have i:=eqF0 v;simp[qY,i];refine zI (fun k U Y Z=>U 15=.sl 7 (c.args.map qO.V)/\U 16=int c.args.length/\U 17=int k/\wg Y Z 9 1 (U 3) (zJ (yh (c.args.take k)))) c.args.length
   ⟨by simp,by simp,by simp,by simp;exact .inl ⟨rfl,by simp[zJ,yh]⟩⟩ ?_
  rintro k U Y Z G ⟨b,d,f,j⟩;by_cases a:k<c.args.length
  ·have y:=zlL k;obtain⟨x,l⟩:=exI (c.args[k]);have m:x∈c.args:=by rw[<-l];exact zj a
   have z:=vC m;have A:=kS _ x (zl _);have B:=fun Y Z=>ZQ (fun c=>.sl 1 (zJ c.names)) n x Y Z ⟨by unfold zx;omega,by omega⟩
   have H:=g k;have o:=j.more (some ⟨70,7,false,[x.V]⟩);obtain⟨I,J,K,p,q,_⟩:=o.Yu (P:=prog) (t:=88) (ys:=zJ x.names) XZ BH D2 D3 rfl (by omega) (by simp[maxLen,wF];omega) (by simp[wF];omega);have u:=QS a;rw[l]at u;simp[b,d,f,a,l,B,p,y,JF];refine⟨by omega,?_⟩;rw[u];simpa[zJ]using q
  ·obtain rfl:k=c.args.length:=by omega
   rw[wo]at j;have r:=j.freeze Z;simp[b,d,f,f171];rw[vw];simpa[v]using r
theorem sf:∀n,zg prog 171 (zf false [] (FC (fun c=>.sl 1 (zJ c.names)) n)):=by
 intro n
 induction n with
 |zero=>exact eR ⟨_,func171,by kernel_rfl,by kernel_rfl⟩
 |succ n a=>
  have b:Gd (Csgn n):=zph mixed ⟨a,trivial⟩;exact zX (fn:=f171) b (zpi func171) false [] _ fun args r h=>by obtain⟨c,rfl,d,rfl⟩:=WT h;obtain⟨e,f,g⟩:=ua n c d;exact⟨zG (zl 1) (by decide),e,f,g⟩
def KX(n:za)(l:List qa):Bool:=l.any fun s=>s.name==n
theorem ec(n:za):∀l:List qa,(yE n l).isSome=KX n l
 |[]=>rfl
 |s::l=>by
  have a:=ec n l;unfold KX at a⊢;rw[wN,<-a];by_cases h:s.name=n
  ·simp[yE,h]
  ·simp[yE,h]
theorem MG{l:List qa}{j:Nat}(h:j<l.length)(n:za):KX n (l.take (j+1))=(KX n (l.take j)||l[j].name==n):=by unfold KX;rw[zR h,List.any_append];simp
noncomputable def FSCn (out:List qa->qO->O):zb->Option O:=z6 (α:=List qa×qO) (fun a=>[.sl 10 (a.1.map qa.V),.agg a.2.V]) (fun a=>a.1.length<=zx/\a.2.cb<=zx) fun a=>out a.1 a.2
theorem R9(out:List qa->qO->O)(l:List qa)(c:qO)(Y:Hp)(Z:Nat)(h:l.length<=zx)(d:c.cb<=zx)(f:(out l c).flat=true):zf false [] (FSCn out) [.sl 10 (l.map qa.V),.agg c.V] Y Z=some (out l c,Y,Z):=
 hPc (l,c) _ _ (by simp[qY]) (fun a b e=>by obtain⟨g,i⟩:=a;obtain⟨j,k⟩:=b;simp only[zh,zD,O.agg.injEq]at e;rw[kH e.1,vQ e.2]) ⟨h,d⟩ (.inl f)
noncomputable abbrev Cmis:Ctx:=zQ prog [(171,zf false [] (FC (fun c=>.sl 1 (zJ c.names)) zx))]
theorem Du(l:List qa)(c:qO)(D:l.length<=zx)(E:c.cb<=zx):zr Cmis f130 [.sl 10 (l.map qa.V),.agg c.V]=some (qz (!gI l c.names)):=by
 have v:zx=2097152:=rfl;have z:=kS _ c (zl _);refine zm rfl ?_;obtain⟨B,w⟩:=exI (gI l c.names);have A:=fun Y Z=>ZQ (fun c=>.sl 1 (zJ c.names)) zx c Y Z ⟨by omega,by omega⟩
 rw[w];simp[A];refine zI (fun k U Y Z=>U 0=.sl 10 (l.map qa.V)/\U 11=.sl 1 (zJ c.names)/\U 12=int c.names.length/\U 13=int k/\B=gI l (c.names.drop k)) c.names.length
  ⟨by simp,by simp,by simp,by simp,by simp[w]⟩ ?_
 rintro k U Y Z F ⟨g,a,b,e,f⟩;by_cases o:k<c.names.length
 ·have C:=zlL k;obtain⟨y,u⟩:=exI (c.names[k]);have x:=JU o;rw[u]at x;unfold gI at f;rw[lx o,u,ec]at f;simp[g,a,b,e,o,x,u];refine zI (fun j U Y Z=>U 0=.sl 10 (l.map qa.V)/\U 11=.sl 1 (zJ c.names)/\U 12=int c.names.length/\U 13=int k/\U 6=str y/\U 7=qz (KX y (l.take j))/\U 17=.sl 10 (l.map qa.V)/\U 18=int l.length/\U 19=int j) l.length
   ⟨by simp[g],by simp[a],by simp[b],by simp[e],by simp,by simp[KX],by simp,by simp,by simp⟩ ?_
  clear g a b e U Y Z;rintro j U Y Z G ⟨g,a,b,e,t,h,i,m,n⟩;by_cases p:j<l.length
  ·have q:=zlL j;obtain⟨s,hs⟩:=exI (l[j]);have r:=MG p y;rw[hs]at r;cases d:KX y (l.take j)
   ·rw[d]at h r;simp[g,a,b,e,t,h,i,m,n,p,hs,q];exact⟨by omega,by rw[r];simp⟩
   ·rw[d]at h r;simp[g,a,b,e,t,h,i,m,n,p,hs,q];exact⟨by omega,by rw[r];simp⟩
  ·obtain rfl:j=l.length:=by omega
   rw[wo]at h;cases d:KX y l
   ·rw[d,kT]at f;rw[d]at h;simp[g,a,b,e,t,h,i,m,n,f,f130]
   ·rw[d,jb]at f;rw[d]at h;simp[g,a,b,e,t,h,i,m,n,C];exact⟨by omega,f⟩
 ·obtain rfl:k=c.names.length:=by omega
  rw[zo]at f;have f:B=true:=f;simp[g,a,b,e,f,f130]
theorem ub:zg prog 130 (zf false [] (FSCn fun l c=>qz (!gI l c.names))):=
 pS1 (zph mixed ⟨sf zx,trivial⟩:AM.Good Cmis _) func130 false [] fun⟨l,c⟩ ⟨a,b⟩=>⟨by simp[f130],_,Du l c a b,zW _⟩
noncomputable def Hn (Ta:Qq):AM.Spec:=we (zQ prog Ta) f112
noncomputable def Ho (Ta:Qq):AM.Spec:=we (zQ prog [(112,Hn Ta)]) f64
theorem MH{Ta:Qq}(h:de True prog [] Ta):zg prog 112 (Hn Ta):=zpj (zw (q:=[]) mixed h) func112
theorem sg{Ta:Qq}(h:de True prog [] Ta):zg prog 64 (Ho Ta):=zpj (zw (q:=[]) (l:=[(112,Hn Ta)]) mixed ⟨MH h,by simp,trivial⟩) func64
theorem si{U:Type}{T:Nat->Prop}{Rep:U->Hp->Prop}{step:U->qO->Bool×U}{Ta:Qq}{g:Nat}{sp:AM.Spec}{fi cap:zb}{Z0:Nat}(A:lookup Ta g=some sp)(xs:List qO)(D:xs.length<=zx)
  (E:∀s x Y Z,x∈xs->Z0<=Z->Rep s Y->∃r b c,sp (fi++.agg x.V::cap) Y Z=some (r,b,c)/\jg T Rep (qz (step s x).1) (step s x).2 Y Z r b c)
  (h:U) (i:Hp) (a:Nat) (P:Z0<=a) (F:Rep h i) :
  ∃r b c,Ho Ta [.sl 7 (xs.map qO.V),.fn (.func g) fi cap] i a=some (r,b,c)/\jg T Rep (qz (wG step h xs).1) (wG step h xs).2 i a r b c:=by
 have q:∃r b c,Hn Ta [.sl 7 (xs.map qO.V),.fn (.func g) fi cap] i a=some (r,b,c)/\∃z:Int,r=int z/\decide (0<=z)=(wG step h xs).1/\jg T Rep (int z) (wG step h xs).2 i a r b c:=by
  unfold Hn we;rw[zd (by simp[f112])];refine qw rfl ?_;unfold zx at D;simp;refine zI (fun k U Y Z=>U 0=.sl 7 (xs.map qO.V)/\U 1=.fn (.func g) fi cap/\U 7=int xs.length/\U 8=int k/\a<=Z/\(∀j,j<a->¬T j->Y j=i j)/\∃s,Rep s Y/\wG step h xs=wG step s (xs.drop k)) xs.length ⟨by simp,by simp,by simp,by simp,zl _,fun _ _ _=>rfl,h,F,by simp⟩ ?_;rintro k U Y Z Q ⟨t,u,v,w,y,m,s,n,f⟩;by_cases d:k<xs.length
  ·have G:=zlL k;obtain⟨x,p⟩:=exI (xs[k]);obtain⟨r,Y2,H,l,rfl,B,R,I⟩:=E s x Y Z (by rw[<-p];exact zj d) (by omega) n;rw[zc d,p]at f;have o:∀j,j<a->¬T j->Y2 j=i j:=fun j J C=>by rw[I j (by omega) C];exact m j J C
   cases e:(step s x).1
   ·rw[QO e]at f;rw[e]at l;simp[t,u,v,w,d,p,A,l,G];exact⟨by omega,by omega,o,_,B,f⟩
   ·rw[WZ e]at f;rw[e]at l;simp[t,u,v,w,d,p,A,l,f,jg,f112];exact⟨B,by omega,o⟩
  ·obtain rfl:k=xs.length:=by omega
   rw[zo]at f;simp only[wG]at f;simp[t,u,v,w,f,jg,f112];exact⟨n,y,m⟩
 obtain⟨r,b,c,l,z,rfl,K,_,L,M,N⟩:=q;unfold Ho we;rw[zd (by simp[f64])];refine qw rfl ?_;simp[l,K,jg,f64];exact⟨L,M,N⟩
def sV(gs:List za)(c:qO):Bool:=c.names.all fun n=>decide (n∈gs)
theorem zhv(gs:List za)(c:qO):sV gs c=((!(c.kind==5)||decide (c.name∈gs))&&c.args.all (sV gs)):=by
 have h:∀l:List qO,(yh l).all (fun n=>decide (n∈gs))=l.all (sV gs):=fun l=>by
  induction l with
  |nil=>rfl
  |cons x l d=>rw[yh,List.all_append,d,q8];rfl
 have e:sV gs c=c.names.all fun n=>decide (n∈gs):=rfl
 rw[e,vw,List.all_append,h];by_cases a:c.kind=5
 ·simp[a]
 ·have b:=eqF0 a;simp[a,b]
noncomputable def nm1S (sp:AM.Spec):AM.Spec:=we (zQ prog [(101,sp)]) f149
noncomputable abbrev TAnm (sp:AM.Spec):Qq:=[(149,nm1S sp)]
noncomputable abbrev CnmS (sp:AM.Spec):Ctx:=zQ prog [(64,Ho (TAnm sp))]
noncomputable def Hq:Nat->AM.Spec
 | 0=>fun _ _ _=>none
 |k+1=>we (CnmS (Hq k)) f101
theorem Sa{sp:AM.Spec}(h:zg prog 101 sp):zg prog 149 (nm1S sp):=
 zpj (zw (q:=[]) (l:=[(101,sp)]) mixed ⟨h,by simp,trivial⟩) func149
theorem sj:∀k,zg prog 101 (Hq k)
 | 0=>WY ⟨_,func101,by kernel_rfl,by kernel_rfl⟩
 |k+1=>zpj (C:=CnmS (Hq k)) (zph mixed ⟨sg ⟨Sa (sj k),by simp,trivial⟩,trivial⟩) func101
theorem sk(b:Bk)(gs:List za)(id m g:Nat):∀(k:Nat) (c:qO) (Y:Hp) (Z:Nat),c.cb<=k->c.cb<=zx->id<Z->g<Z->Y id=some (QD b m g false)->Y g=some (xq gs) ->
  ∃x l o,Hq k [.ref id 0 0,.agg c.V] Y Z=some (x,l,o)/\pM (qz (sV gs c)) Y Z x l o
 | 0,c,_,_,h,_,_,_,_,_=>absurd h (by have:=V7 c;omega)
 |k+1,c,A,a,N,B,hid,I,p,q=>by
  have J:=Qb c;have K:=jW c.args;have e:=zhv gs c;have w:¬id=a:=by omega
  have f:¬id=a+1:=by omega
  have D:¬g=a:=by omega
  have s:¬g=a+1:=by omega
  have z:=p;rw[vd]at z;have i:=F2 (Y:=qR (qR A a (some ⟨54,1,false,[[.ref id 0 0]]⟩)) (a+1) (some ⟨70,7,false,[c.V]⟩)) c.name (by rw[zt _ _ _ _ s,zt _ _ _ _ D];exact q);obtain⟨r,l,o,t,rfl,_,L,n⟩:=si (U:=Unit) (T:=fun _=>False) (Rep:=fun _ Y=>Y id=some (QD b m g false)/\Y g=some (xq gs)/\Y a=some ⟨54,1,false,[[.ref id 0 0]]⟩) (step:=fun _ y=>(!sV gs y,())) (Ta:=TAnm (Hq k)) (g:=149) (sp:=nm1S (Hq k)) (fi:=[]) (cap:=[.ref a 0 0]) (Z0:=a+2) (by simp) c.args (by unfold zx at B;unfold zx;omega)
   (fun _ y Y Z M P ⟨E,F,G⟩=>by
    have Q:=vC M;obtain⟨r,l,o,t,rfl,L,n⟩:=sk b gs id m g k y (qR Y Z (some ⟨70,7,false,[y.V]⟩)) (Z+1) (by omega) (by omega) (by omega) (by omega) (by rw[zt _ _ _ _ (by omega)];exact E) (by rw[zt _ _ _ _ (by omega)];exact F);refine⟨_,l,o,?_,rfl,⟨by rw[n id (by omega),zt _ _ _ _ (by omega)];exact E,by rw[n g (by omega),zt _ _ _ _ (by omega)];exact F,by rw[n a (by omega),zt _ _ _ _ (by omega)];exact G⟩,by omega,fun j H _=>by rw[n j (by omega),zt _ _ _ _ (by omega)]⟩;unfold nm1S we;rw[zd (by simp[f149])];refine yu rfl ?_;have n1:¬a=Z:=by omega
    simp[G,n1,t,f149]) () (qR (qR A a (some ⟨54,1,false,[[.ref id 0 0]]⟩)) (a+1) (some ⟨70,7,false,[c.V]⟩)) (a+2) (zl _)
   ⟨by rw[zt _ _ _ _ f,zt _ _ _ _ w];exact p,by rw[zt _ _ _ _ s,zt _ _ _ _ D];exact q,by rw[zt _ _ _ _ (by omega)];simp⟩
  rw[iM]at t;have u:∀j,j<a->l j=A j:=fun j H=>by rw[n j (by omega) (fun h=>h),zt _ _ _ _ (by omega),zt _ _ _ _ (by omega)]
  unfold Hq we;rw[zd (by simp[f101])];refine qw rfl ?_;by_cases v:c.kind=5
  ·by_cases d:c.name∈gs
   ·have e:sV gs c=c.args.all (sV gs):=by rw[e];simp[d]
    rw[y8 d]at i;simp[z,w,f,v,i,t,e,pM,f101];exact⟨by omega,u⟩
   ·have e:sV gs c=false:=by rw[e];simp[v,d]
    rw[jm d]at i;simp[z,w,f,v,i,e,pM,f101];exact⟨by omega,fun j H=>by rw[zt _ _ _ _ (by omega),zt _ _ _ _ (by omega)]⟩
  ·have e:sV gs c=c.args.all (sV gs):=by rw[e];simp[v]
   have C:(c.kind != 5)=true:=by simpa using v
   simp[z,w,f,C,t,e,pM,f101];exact⟨by omega,u⟩
noncomputable def Z5 (gs:List za) (L:List wL) (a:za) (l:List za) (x:Xp):Int×List za:=
 if y9 x.name a=0 then(if(Zy (L.map wL.name) x.wE).2=true then(if wb x.flag=true then(if x.cond.check=0 then(if sV gs x.cond=true then(if yV l x.qy=0 then(if wW x.xR 20=0 then(yY x.zN,vg l x.qy)else(wW x.xR 20,vg l x.qy))else(yV l x.qy,vg l x.qy))else(9,l))else(x.cond.check,l))else(5,l))else(9,l))else(y9 x.name a,l)
noncomputable abbrev Oh:Ctx:=zQ prog [(99,zf false [] (PY fun a b=>int (y9 a b))),(45,zf false [] L0),(27,zf false [] (FS wb)),(95,GC fun c=>int c.check),(101,Hq zx),(100,we L6 f100),(102,zf false [] (LY (fun l n=>int (wW l n)) fun _ n=>1<=n/\n<=20)),(103,zf false [] (FPh fun l=>int (yY l)))]
theorem zbf:AM.Good Oh (fun g=>[45].contains g):=zw mixed ⟨Qu,by simp,Vq,fun _=>zu _ _,xW,by simp,Xh,by simp,sj zx,by simp,Xm,by simp,Kv,by simp,fA,by simp,trivial⟩
theorem gl:zg prog 56 (we Oh f56):=zpj zbf func56
theorem nB(b:Bk)(l:List za)(d:za)(x:Xp)(hb:b.cb<=zx)(M:x.cb<=zx)(D:Hp)(Z0 id m g:Nat)(hid:id<Z0)(hmd:m<Z0)(hne:id≠m)(hgd:g<Z0)(hgm:g≠m)(gs:List za)(E:D id=some (QD b m g false))(u:D m=some (xq l))(N:D g=some (xq gs)) :
  ∃X Y' Z',we Oh f56 [.ref id 0 0,.agg x.V,str d] D Z0=some (X,Y',Z')/\vF (int (Z5 gs b.zk d l x).1) (Z5 gs b.zk d l x).2 m D Z0 X Y' Z':=by
 unfold we;rw[zd (by simp[f56])];refine qw rfl ?_;have hleL:=wa xw b.zk;have S8:b.cb=yt wL.cb b.zk+yt vK.cb b.holds+yt Xp.cb b.zZ:=rfl;have hxc:x.cb=x.name.length+x.wE.length+x.flag.length+x.cond.cb+x.qy.length+x.xR.length+yt yM.cb x.zN:=rfl;unfold zx at hb M;have I:¬m=Z0:=by omega
 have w:¬id=Z0:=by omega
 have f:=fun Y Z=>bH (fun a b=>int (y9 a b)) x.name d Y Z (by unfold zx;omega) (by simp)
 have k:=fun Y Z=>Vp b.zk x.wE Y Z (by unfold zx;omega)
 have q:x.flag.length<=zx:=by unfold zx;omega
 have r:=fun Y Z=>xX (fun c=>int c.check) x.cond Y Z (by unfold zx;omega)
 have J:=fun Y Z=>YJ (fun l n=>int (wW l n)) (fun _ n=>1<=n/\n<=20) x.xR 20 Y Z ⟨by omega,by omega⟩
 have P:=fun Y Z=>fy (fun l=>int (yY l)) x.zN Y Z (by unfold zx;omega)
 have ng:¬g=Z0:=by omega
 obtain⟨xn,Y1,nn,h,rfl,hn1,y⟩:=sk b gs id m g zx x.cond (qR D Z0 (some ⟨74,13,false,[x.V]⟩)) (Z0+1) (by unfold zx;omega) (by unfold zx;omega) (by omega) (by omega) (by rw[zt _ _ _ _ w];exact E) (by rw[zt _ _ _ _ ng];exact N);have Q:Y1 id=some (QD b m g false):=by rw[y id (by omega),zt _ _ _ _ w];exact E
 have K:Y1 m=some (xq l):=by rw[y m (by omega),zt _ _ _ _ I];exact u
 have z:Y1 Z0=some ⟨74,13,false,[x.V]⟩:=by rw[y Z0 (by omega)];simp
 have A:∀j,j<Z0->Y1 j=D j:=fun j s=>by rw[y j (by omega),zt _ _ _ _ (by omega)]
 have F:=fB b l x.qy (by unfold zx;omega) false Y1 nn id m g Q K;have B:¬Z0=m:=by omega
 have C:=E;rw[vd]at C;rw[qD]at h z;rw[qY]at h;simp only[qY]at r;rw[qD];by_cases i:y9 x.name d=0
 case neg=>
  have o:Z5 gs b.zk d l x=(y9 x.name d,l):=by unfold Z5;rw[ze i]
  have R:=nzT i;simp[f,R,o,f56,vF];exact⟨by rw[zt _ _ _ _ I];exact u,fun j s e=>by rw[zt _ _ _ _ (by omega)]⟩
 cases p:(Zy (b.zk.map wL.name) x.wE).2
 ·have o:Z5 gs b.zk d l x=(9,l):=by unfold Z5;rw[zd i,p,ze (by simp)]
  simp[f,i,w,C,k,p,o,f56,vF];exact⟨by rw[zt _ _ _ _ I];exact u,fun j s e=>by rw[zt _ _ _ _ (by omega)]⟩
 cases t:wb x.flag
 ·have o:Z5 gs b.zk d l x=(5,l):=by unfold Z5;rw[zd i,p,zd rfl,t,ze (by simp)]
  simp[f,i,w,C,k,p,q,t,o,f56,vF];exact⟨by rw[zt _ _ _ _ I];exact u,fun j s e=>by rw[zt _ _ _ _ (by omega)]⟩
 by_cases v:x.cond.check=0
 case neg=>
  have o:Z5 gs b.zk d l x=(x.cond.check,l):=by unfold Z5;rw[zd i,p,zd rfl,t,zd rfl,ze v]
  have S:=nzT v;simp[f,i,w,C,k,p,q,t,r,S,o,f56,vF];exact⟨by rw[zt _ _ _ _ I];exact u,fun j s e=>by rw[zt _ _ _ _ (by omega)]⟩
 cases G:sV gs x.cond
 ·have o:Z5 gs b.zk d l x=(9,l):=by unfold Z5;rw[zd i,p,zd rfl,t,zd rfl,zd v,G,ze (by simp)]
  rw[G]at h;simp[f,i,w,C,k,p,q,t,r,v,h,o,f56,vF];exact⟨by omega,K,fun j s e=>A j s⟩
 rw[G]at h;by_cases H:yV l x.qy=0
 case neg=>
  have o:Z5 gs b.zk d l x=(yV l x.qy,vg l x.qy):=by unfold Z5;rw[zd i,p,zd rfl,t,zd rfl,zd v,G,zd rfl,ze H]
  have T:=nzT H;simp[f,i,w,C,k,p,q,t,r,v,h,z,F,T,o,f56,vF];exact⟨by omega,fun j s e=>by rw[zt _ _ _ _ e];exact A j s⟩
 by_cases L:wW x.xR 20=0
 case neg=>
  have o:Z5 gs b.zk d l x=(wW x.xR 20,vg l x.qy):=by unfold Z5;rw[zd i,p,zd rfl,t,zd rfl,zd v,G,zd rfl,zd H,ze L]
  have W:=nzT L;simp[f,i,w,C,k,p,q,t,r,v,h,z,B,F,H,J,W,o,f56,vF];exact⟨by omega,fun j s e=>by rw[zt _ _ _ _ e];exact A j s⟩
 ·have o:Z5 gs b.zk d l x=(yY x.zN,vg l x.qy):=by unfold Z5;rw[zd i,p,zd rfl,t,zd rfl,zd v,G,zd rfl,zd H,zd L]
  simp[f,i,w,C,k,p,q,t,r,v,h,z,B,F,H,J,L,P,o,f56,vF];exact⟨by omega,fun j s e=>by rw[zt _ _ _ _ e];exact A j s⟩
noncomputable def WH (gs:List za) (L:List wL):za->List za->List Xp->Int×List za
 |_,l,[]=>(0,l)
 |before,l,x::xs=>if(Z5 gs L before l x).1=0 then WH gs L x.name (Z5 gs L before l x).2 xs else Z5 gs L before l x
noncomputable def kA (gs:List za) (b:Bk):Int:=
 if(20:Int)<b.zk.length\/(10:Int)<b.holds.length\/(100:Int)<b.zZ.length then 2
 else if(wq [] [] b.zk).1=0 then
  (if(yn b.zk [] (wq [] [] b.zk).2 b.holds).1=0 then
   (if(WH gs b.zk [] (yn b.zk [] (wq [] [] b.zk).2 b.holds).2 b.zZ).1=0 then(if Wm b.zk b.zZ 0 b.zZ=true then 13 else 0)
    else(WH gs b.zk [] (yn b.zk [] (wq [] [] b.zk).2 b.holds).2 b.zZ).1)
   else(yn b.zk [] (wq [] [] b.zk).2 b.holds).1)
 else(wq [] [] b.zk).1
theorem Oi{gs:List za}{L:List wL}{a:za}{l:List za}{x:Xp}(h:(Z5 gs L a l x).1=0):Z3 L a l x=Z5 gs L a l x/\sV gs x.cond=true:=by
 unfold Z5 at h⊢;unfold Z3;by_cases b:y9 x.name a=0
 case neg=>rw[ze b]at h;exact absurd h b
 rw[zd b]at h⊢;rw[zd b];by_cases d:(Zy (L.map wL.name) x.wE).2=true
 case neg=>rw[ze d]at h;simp at h
 rw[zd d]at h⊢;rw[zd d];by_cases e:wb x.flag=true
 case neg=>rw[ze e]at h;simp at h
 rw[zd e]at h⊢;rw[zd e];by_cases c:x.cond.check=0
 case neg=>rw[ze c]at h;exact absurd h c
 rw[zd c]at h⊢;rw[zd c];by_cases f:sV gs x.cond=true
 case neg=>rw[ze f]at h;simp at h
 rw[zd f]at h⊢;exact⟨rfl,f⟩
theorem gm{gs:List za}{L:List wL}:∀{xs:List Xp} {a:za} {l:List za},(WH gs L a l xs).1=0->(Zt L a l xs).1=0/\∀x∈xs,sV gs x.cond=true
 |[],_,_,h=>⟨rfl,fun x d=>by cases d⟩
 |x::xs,a,l,h=>by
  simp only[WH]at h;split at h
  ·rename_i c;obtain⟨e,f⟩:=Oi c;obtain⟨g,i⟩:=gm h;refine⟨by simp only[Zt];rw[e,zd c];exact g,fun y b=>?_⟩;rcases zA.1 b with rfl|b
   ·exact f
   ·exact i y b
  ·rename_i c;exact absurd h c
theorem Sb{gs:List za}{b:Bk}(h:kA gs b=0):w5 b=0/\∀x∈b.zZ,sV gs x.cond=true:=by
 unfold kA at h;unfold w5;split at h
 ·simp at h
 rename_i a;rw[ze a];split at h
 case isFalse c=>exact absurd h c
 rename_i d;rw[zd d];split at h
 case isFalse c=>exact absurd h c
 rename_i e;rw[zd e];split at h
 case isFalse c=>exact absurd h c
 rename_i f;obtain⟨g,i⟩:=gm f;rw[zd g];exact⟨h,i⟩
noncomputable abbrev Oj:Ctx:=zQ prog [(54,we U8 f54),(55,we U9 f55),(56,we Oh f56),(57,we Ccls f57)]
theorem zbg:Gd Oj:=zph mixed ⟨fC,mo,gl,cN,trivial⟩
theorem sn:zg prog 25 (we Oj f25):=zpj zbg func25
theorem MI(b:Bk)(hb:b.cb<=zx)(I:Hp)(Z0 id m g:Nat)(hid:id<Z0)(hmd:m<Z0)(hgd:g<Z0)(d:id≠m)(l:g≠m)(gs:List za)(w:I id=some (QD b m g false))(hm0:I m=some (xq []))(hg0:I g=some (xq gs)) :
  ∃x1 Y' Z',we Oj f25 [.ref id 0 0] I Z0=some (x1,Y',Z')/\x1=int (kA gs b):=by
 unfold we;rw[zd (by simp[f25])];refine qw rfl ?_;have hlen:=wa aJ b.zZ;have hleL:=wa xw b.zk;have hleH:=wa Wl b.holds;have S8:b.cb=yt wL.cb b.zk+yt vK.cb b.holds+yt Xp.cb b.zZ:=rfl;have n:=hb;unfold zx at hb;obtain⟨x1,Y1,nx1,J,rfl,l3,l4,l5⟩:=ry b [] n false I Z0 id m g hid hmd d w hm0;have y:Y1 id=some (QD b m g false):=by rw[l5 id hid d];exact w
 obtain⟨K,z⟩:∃e,wq [] [] b.zk=e:=⟨_,rfl⟩;rw[z]at J l4;obtain⟨x2,Y2,OD,T,rfl,g3,g4,g5⟩:=Aw b K.2 n false Y1 nx1 id m g (by omega) (by omega) d y l4;have A:Y2 id=some (QD b m g false):=by rw[g5 id (by omega) d];exact y
 have L:Y2 g=some (xq gs):=by rw[g5 g (by omega) l,l5 g hgd l];exact hg0
 obtain⟨F,M⟩:∃e,yn b.zk [] K.2 b.holds=e:=⟨_,rfl⟩;rw[M]at T g4;obtain⟨e3,B⟩:∃e,WH gs b.zk [] F.2 b.zZ=e:=⟨_,rfl⟩;have u:=w;rw[vd]at u;have i:=A;rw[vd]at i;by_cases C:(20:Int)<b.zk.length
 ·have h:kA gs b=2:=by unfold kA;rw[zd (.inl C)]
  simp[u,C,h,f25]
 by_cases G:(10:Int)<b.holds.length
 ·have h:kA gs b=2:=by unfold kA;rw[zd (.inr (.inl G))]
  simp[u,C,G,h,f25]
 by_cases N:(100:Int)<b.zZ.length
 ·have h:kA gs b=2:=by unfold kA;rw[zd (.inr (.inr N))]
  simp[u,C,G,N,h,f25]
 have c:kA gs b=if K.1=0 then(if F.1=0 then(if e3.1=0 then(if Wm b.zk b.zZ 0 b.zZ=true then 13 else 0)else e3.1)else F.1)else K.1:=by unfold kA;rw[ze (by omega),z,M,B]
 by_cases H:K.1=0
 case neg=>rw[ze H]at c;have Nl:=nzT H;simp[u,C,G,N,J,Nl,c,f25]
 rw[zd H]at c;by_cases W:F.1=0
 case neg=>rw[ze W]at c;have c2':=nzT W;simp[u,C,G,N,J,H,T,c2',c,f25]
 rw[zd W]at c;simp[u,C,G,N,J,H,T,W,i];refine zI (fun k U Y Z=>U 0=.ref id 0 0/\U 48=.sl 13 (b.zZ.map Xp.V)/\U 49=int b.zZ.length/\U 50=int k/\Z0<=Z/\Y id=some (QD b m g false)/\Y g=some (xq gs)/\∃(a:za) (l':List za),U 5=str a/\Y m=some (xq l')/\e3=WH gs b.zk a l' (b.zZ.drop k)) b.zZ.length
  ⟨by simp,by simp,by simp,by simp,by simp;omega,A,L,[],F.2,by simp,g4,by simp[B]⟩ ?_
 clear J l3 l4 l5 y T g3 g4 g5 A i u L;rintro k U Y Z hk ⟨X,o,p,q,hnx,D,P,a,l',h5,hm,j⟩;by_cases r:k<b.zZ.length
 ·obtain⟨x,hx⟩:=exI (b.zZ[k]);have hmx:=yv (f:=Xp.cb) (zj r);rw[hx]at hmx;have nm:¬m=Z:=by omega
  have ni:¬id=Z:=by omega
  have hw:=zlL k;rw[zc r,hx]at j;simp only[WH]at j;obtain⟨x3,s,nx3,v,rfl,q3,q4,q5⟩:=nB b l' a x n (by unfold zx;omega) (qR Y Z (some (ZJ x))) (Z+1) id m g (by omega) (by omega) d (by omega) l gs (by rw[zt _ _ _ _ ni];exact D) (by rw[zt _ _ _ _ nm];exact hm) (by rw[zt _ _ _ _ (by omega)];exact P);have hc3:s id=some (QD b m g false):=by rw[q5 id (by omega) d,zt _ _ _ _ ni];exact D
  have hg3:s g=some (xq gs):=by rw[q5 g (by omega) l,zt _ _ _ _ (by omega)];exact P
  have Q:s Z=some (ZJ x):=by rw[q5 Z (by omega) (by omega)];simp
  simp only[ZJ,qD]at v Q;by_cases R:(Z5 gs b.zk a l' x).1=0
  case neg=>
   rw[ze R]at j;have h:kA gs b=(Z5 gs b.zk a l' x).1:=by rw[c,j,ze R]
   have d1':=nzT R;simp[X,h5,o,p,q,r,hx,qD,v,d1',h,f25]
  ·rw[zd R]at j;simp[X,h5,o,p,q,r,hx,qD,v,R,Q,hw];exact⟨by omega,by omega,hc3,hg3,_,q4,j⟩
 ·obtain rfl:k=b.zZ.length:=by omega
  rw[zo]at j;simp only[WH]at j;have hz:(WH gs b.zk [] F.2 b.zZ).1=0:=by rw[B,j]
  have hyr:=W5 (by rw[z];exact H);have S:=bJ (gm hz).1;obtain⟨x3,s,nx3,v,rfl,q3,q4⟩:=mq b n (fun x E=>⟨⟨W6 (S x E).1,by have:=yv (f:=Xp.cb) E;unfold zx;omega⟩,(S x E).2⟩) hyr false Y Z id m g (by omega) D;have h:kA gs b=if Wm b.zk b.zZ 0 b.zZ=true then 13 else 0:=by rw[c,j,zd rfl]
  cases t:Wm b.zk b.zZ 0 b.zZ
  ·rw[t,ze (by simp)]at h;rw[t]at v;simp[X,o,p,q,v,h,f25]
  ·rw[t,zd rfl]at h;rw[t]at v;simp[X,o,p,q,v,h,f25]
theorem sq(l:List qa)(b:Bk)(C:QZ l<=zx)(v:bG (l.map qa.name))(D:Hp)(Z0:Nat):∃w n x,we C0 f24 [.sl 10 (l.map qa.V),.agg b.V] D Z0=some (w,n,x)/\w=.ref (Z0+1+1+1) 0 0/\Z0+1+1+1+1<=x/\n (Z0+1)=some (xq [])/\n (Z0+1+1)=some (xq (l.map qa.name))/\n (Z0+1+1+1)=some (QD b (Z0+1) (Z0+1+1) false):=by
 have E:=Wk l;unfold zx at C;unfold we;rw[zd (by simp[f24])];refine qw rfl ?_;simp[Bk.V,qe,qM];refine zI (fun k U Y Z=>U 13=.sl 10 (l.map qa.V)/\U 14=int l.length/\U 15=int k/\U 5=.ref (Z0+1+1+1) 0 0/\Z0+1+1+1+1<=Z/\Y (Z0+1)=some (xq [])/\Y (Z0+1+1)=some (xq ((l.take k).map qa.name))/\Y (Z0+1+1+1)=some (QD b (Z0+1) (Z0+1+1) false)) l.length
  ⟨by simp,by simp,by simp,by simp,by simp,by simp[xq,rv],by simp[xq,rv],by simp[vd]⟩ ?_
 rintro k U Y Z M ⟨d,e,f,z,o,A,p,B⟩;by_cases c:k<l.length
 ·have F:=zlL k;obtain⟨s,hs⟩:=exI (l[k]);have q:s.name ∉ (l.take k).map qa.name:=by
   intro g;obtain⟨y,G,H⟩:=wA.1 g;obtain⟨j,r⟩:=VE G;have t:j<k:=by have:=(zn.1 r).1;simp at this;omega
   have u:l[j]?=some y:=by rw[List.getElem?_take_of_lt t]at r;exact r
   have I:=(Cz v u).1;have N:=(Cz v (i:=k) (s:=s) (by rw[zq c,hs])).1;rw[H]at I;omega
  have J:¬Z0+1+1=Z:=by omega
  have K:¬Z0+1+1+1=Z:=by omega
  have L:¬Z0+1=Z:=by omega
  have a:=NZ (Y:=qR Y Z (some (aY s))) (id:=Z0+1+1) (l:=(l.take k).map qa.name) s.name (by rw[zt _ _ _ _ J];exact p) q;have h:(l.take k).map qa.name++[s.name]=(l.take (k+1)).map qa.name:=by rw[zR c,hs];simp
  rw[h]at a;have m:=B;rw[vd]at m;simp only[aY]at a;simp[d,e,f,z,c,hs,m,K,a,F];exact⟨by omega,by omega,by rw[zt _ _ _ _ L];exact A,by simp[vd]⟩
 ·obtain rfl:k=l.length:=by omega
  rw[wo]at p;simp[d,e,f,z,f24];exact⟨o,A,p,B⟩
noncomputable def QW (l:List qa) (b:Bk):Int:=if jA l=0 then kA (l.map qa.name) b else jA l
noncomputable def FLB (out:List qa->Bk->O):zb->Option O:=z6 (α:=List qa×Bk) (fun a=>[.sl 10 (a.1.map qa.V),.agg a.2.V]) (fun a=>QZ a.1<=zx/\a.2.cb<=zx) (fun a=>out a.1 a.2)
theorem zbh(out:List qa->Bk->O)(l:List qa)(b:Bk)(Y:Hp)(Z:Nat)(h:QZ l<=zx)(c:b.cb<=zx):zf false [] (FLB out) [.sl 10 (l.map qa.V),.agg b.V] Y Z=some (out l b,Y,Z):=
 hPc (l,b) _ _ (by simp[Bk.V]) (fun a b e=>by obtain⟨d,f⟩:=a;obtain⟨g,i⟩:=b;simp only[zh,zD,O.agg.injEq]at e;rw[kH e.1,W0 e.2]) ⟨h,c⟩ (.inr (by simp[Bk.V]))
noncomputable abbrev Cck2:Ctx:=zQ prog [(23,zf false [] (FSs fun l=>int (jA l))),(24,we C0 f24),(25,we Oj f25)]
theorem zel:Gd Cck2:=zph mixed ⟨cc,XW,sn,trivial⟩
theorem MJ(l:List qa)(b:Bk)(g:QZ l<=zx)(h:b.cb<=zx):zr Cck2 Tryz.f9 [.sl 10 (l.map qa.V),.agg b.V]=some (int (QW l b)):=by
 refine zm rfl ?_;have i:=fun Y Z=>za4 (fun l=>int (jA l)) l Y Z g rfl
 by_cases a:jA l=0
 case neg=>
  have c:=nzT a;have d:QW l b=jA l:=by unfold QW;rw[ze a]
  simp[Bk.V,i,c,d,qS,Tryz.f9]
 have e:=Cy a;have d:QW l b=kA (l.map qa.name) b:=by unfold QW;rw[zd a]
 obtain⟨q,Y1,f,j,rfl,r,k,m,n⟩:=sq l b g e.up (qR (fun _=>none) 0 (some ⟨27,3,false,[b.V]⟩)) 1;obtain⟨s,Y2,o,p,rfl⟩:=MI b h Y1 f 4 2 3 (by omega) (by omega) (by omega) (by omega) (by omega) (l.map qa.name) n k m;simp only[Bk.V]at j;simp[Bk.V,i,a,j,p,d,qS,Tryz.f9]
theorem Hr:zg prog 9 (zf false [] (FLB fun l b=>int (QW l b))):=
 pS1 zel func9 false [] fun⟨l,b⟩ ⟨a,c⟩=>⟨by simp[Tryz.f9],_,MJ l b a c,zW _⟩
theorem zem(l:List qa)(c:qO):gI l c.names=sV (l.map qa.name) c:=by
 have h:∀n,(yE n l).isSome=decide (n∈l.map qa.name):=fun n=>by rw[ec,qc];unfold KX;simp[vy]
 unfold gI sV;congr 1;funext n;exact h n
theorem zhw{gs:List za}{L:List wL}{a:za}{l:List za}{x:Xp}(h:(Z5 gs L a l x).1=0):(Z5 gs L a l x).2=l++[x.qy]:=by have b:=(Oi h).1;rw[<-b]at h⊢;exact zaj h
noncomputable def gn (gs:List za) (b:Bk) (k:Nat):Int:=match b.zZ[k]? with
 |some x=>(Z5 gs b.zk (vG b.zZ k) (yJ b k) x).1
 |none=>0
theorem Hs{gs:List za}{b:Bk}{k:Nat}(h:k<b.zZ.length):gn gs b k=(Z5 gs b.zk (vG b.zZ k) (yJ b k) b.zZ[k]).1:=by unfold gn;rw[zq h]
theorem MK{gs:List za}{b:Bk}{k:Nat}(h:k<b.zZ.length):(WH gs b.zk (vG b.zZ k) (yJ b k) (b.zZ.drop k)).1=if gn gs b k=0 then(WH gs b.zk (vG b.zZ (k+1)) (yJ b (k+1)) (b.zZ.drop (k+1))).1 else gn gs b k:=by
 rw[zc h,WH,Hs h];by_cases a:(Z5 gs b.zk (vG b.zZ k) (yJ b k) b.zZ[k]).1=0
 ·rw[zd a,zd a,zhw a,Xv h,mD h]
 ·rw[ze a,ze a]
noncomputable def FExN:zb->Option O:=z6 (α:=List qa×Bk×Nat) (fun a=>[.sl 10 (a.1.map qa.V),.agg a.2.1.V,int a.2.2,qz false]) (fun a=>(a.1.length<=zx/\a.2.1.cb<=zx/\bG (a.2.1.zk.map wL.name))/\a.2.2<a.2.1.zZ.length) (fun a=>int (gn (a.1.map qa.name) a.2.1 a.2.2))
theorem Sc(l:List qa)(b:Bk)(n:Nat)(Y:Hp)(Z:Nat)(a:l.length<=zx)(h:b.cb<=zx)(c:bG (b.zk.map wL.name))(d:n<b.zZ.length):zf false [] FExN [.sl 10 (l.map qa.V),.agg b.V,int n,qz false] Y Z=some (int (gn (l.map qa.name) b n),Y,Z):=
 hPc (l,b,n) _ _ (by simp[Bk.V]) (fun x y e=>by obtain⟨i,j,f⟩:=x;obtain⟨k,m,g⟩:=y;simp only[zh,zD,O.agg.injEq]at e;have:=qB e.2.2;rw[kH e.1,W0 e.2.1,show f=g by omega]) ⟨⟨a,h,c⟩,d⟩ (.inl rfl)
abbrev zld:List Nat:=[131,47]
noncomputable abbrev zfL:Ctx:=zQ prog [(128,zf false [] (FNb fun a b c=>int (xZ a b c))),(49,zf false [] (FBS fun b s=>WC (jB s b.zk))),(37,zf false [] (FS wb)),(124,GC fun c=>int c.check),(130,zf false [] (FSCn fun l c=>qz (!gI l c.names))),(129,zf false [] (FS YK)),(131,zf false [] (FBn fun b n=>.sl 1 (zJ (yJ b n)))),(47,zf false [1] (Iu fun l v=>qz (decide (v∈l)))),(85,zf false [] (LY (fun l n=>int (wW l n)) fun _ n=>1<=n/\n<=20)),(132,zf false [] (FPh fun l=>int (yY l)))]
theorem zbi:AM.Good zfL (fun g=>zld.contains g):=zw mixed ⟨Kx,by simp,xJ,by simp,Zi,by simp,Ys,by simp,ub,by simp,Yp,by simp,fK,fun _=>zu _ _,je,fun _=>zu _ _,QH,by simp,cQ,by simp,trivial⟩
theorem ML(L:List qa)(b:Bk)(n:Nat)(S:L.length<=zx)(T:b.cb<=zx)(hu:bG (b.zk.map wL.name))(W:n<b.zZ.length):zr zfL f77 [.sl 10 (L.map qa.V),.agg b.V,int n,qz false]=some (int (gn (L.map qa.name) b n)):=by
 refine zm rfl ?_;have hL:=wa xw b.zk;have hH:=wa Wl b.holds;have hX:=wa aJ b.zZ;have S8:b.cb=yt wL.cb b.zk+yt vK.cb b.holds+yt Xp.cb b.zZ:=rfl;have d:=Hs (gs:=L.map qa.name) W;obtain⟨x,hx⟩:=exI (b.zZ[n]);have X:=yv (f:=Xp.cb) (zj W);rw[hx]at d X;have hxc:x.cb=x.name.length+x.wE.length+x.flag.length+x.cond.cb+x.qy.length+x.xR.length+yt yM.cb x.zN:=rfl;have h:=fun Y Z=>Vr (fun b s=>WC (jB s b.zk)) b x.wE Y Z T
 have D:=fun Y Z=>Gf (fun b n=>.sl 1 (zJ (yJ b n))) b n Y Z ⟨T,by omega⟩
 have hsn:(yJ b n).length<=zx:=by unfold yJ;simp;omega
 have B:=fun Y Z=>Wn (fun l v=>qz (decide (v∈l))) (yJ b n) x.qy Y Z hsn
 simp only[Bk.V]at h D;unfold zx at T;have i:=fun Y Z=>fH (fun a b c=>int (xZ a b c)) x.name (vG b.zZ n) (decide (n=0)) Y Z (by unfold zx;omega) rfl
 have hnf:xZ x.name (vG b.zZ n) (decide (n=0))=y9 x.name (vG b.zZ n):=by
  rw[Ky];by_cases N:n=0
  ·subst N;simp[vG]
  ·simp[N]
 simp only[hnf]at i;have z:x.flag.length<=zx:=by unfold zx;omega
 have F:x.qy.length<=zx:=by unfold zx;omega
 have u:=fun Y Z=>R9 (fun l c=>qz (!gI l c.names)) L x.cond Y Z S (by unfold zx;omega) rfl
 have hnn:gI L x.cond.names=sV (L.map qa.name) x.cond:=zem L x.cond;rw[hnn]at u;simp only[qY]at u;have A:=fun Y Z=>xX (fun c=>int c.check) x.cond Y Z (by unfold zx;omega)
 have K:=fun Y Z=>YJ (fun l n=>int (wW l n)) (fun _ n=>1<=n/\n<=20) x.xR 20 Y Z ⟨by omega,by omega⟩
 have hph:=fun Y Z=>fy (fun l=>int (yY l)) x.zN Y Z (by unfold zx;omega)
 simp only[qY]at A;have w:((n:Int)==0)=decide (n=0):=by rw[qc];simp
 refine kY (fun st=>st.U 0=.sl 10 (L.map qa.V)/\st.U 2=int n/\st.U 3=qz false/\st.U 5=.ref 0 0 0/\st.Y 0=some ⟨27,3,false,[b.V]⟩/\st.Z=1) (by simp[Bk.V]) ?_;rintro⟨U,Y,Z⟩ ⟨k,m,o,p,g,r⟩;simp only at k m o p g r;subst r;have C:=g;simp only[Bk.V]at C;refine kY (fun st=>st.U 0=.sl 10 (L.map qa.V)/\st.U 2=int n/\st.U 3=qz false/\st.U 5=.ref 0 0 0/\st.Y 0=some ⟨27,3,false,[b.V]⟩/\st.Z=2/\st.U 9=.ref 1 0 0/\st.Y 1=some ⟨74,13,false,[x.V]⟩) (by simp[k,m,o,p,C,W,hx,qD,Bk.V]) ?_;clear k m o p g C U Y;rintro⟨U,Y,Z⟩ ⟨k,m,o,p,g,r,y,t⟩;simp only at k m o p g r y t;subst r;refine kY (fun st=>st.U 0=.sl 10 (L.map qa.V)/\st.U 2=int n/\st.U 3=qz false/\st.U 5=.ref 0 0 0/\st.Y 0=some ⟨27,3,false,[b.V]⟩/\st.Z=2/\st.U 9=.ref 1 0 0/\st.Y 1=some ⟨74,13,false,[x.V]⟩/\st.U 10=str []) (by simp[k,m,o,p,g,y,t]) ?_;clear k m o p g y t U Y;rintro⟨U,Y,Z⟩ ⟨k,m,o,p,g,r,y,t,e⟩;simp only at k m o p g r y t e;subst r;refine kY (fun st=>st.U 0=.sl 10 (L.map qa.V)/\st.U 2=int n/\st.U 3=qz false/\st.U 5=.ref 0 0 0/\st.Y 0=some ⟨27,3,false,[b.V]⟩/\st.Z=2/\st.U 9=.ref 1 0 0/\st.Y 1=some ⟨74,13,false,[x.V]⟩/\st.U 10=str (vG b.zZ n)) ?_ ?_
 ·have C:=g;simp only[Bk.V]at C;by_cases N:n=0
  ·subst N;simp[k,m,o,p,g,y,t,e,vG]
  ·obtain⟨j,rfl⟩:∃j,n=j+1:=⟨n-1,by omega⟩;have hj:j<b.zZ.length:=by omega
   have wj:i6.wrap ((j:Int)+1-1)=(j:Int):=by rw[zi (by omega) (by omega)];omega
   have wj':=zpg (j:Int);have j2:0<(j:Int)+1:=by omega
   have I:=Xv hj;simp[k,m,o,p,C,y,t,e,j2,wj,wj',hj,I,qD,Bk.V]
 clear k m o p g y t e U Y;rintro⟨U,Y,Z⟩ ⟨k,m,o,p,g,r,y,t,e⟩;simp only at k m o p g r y t e;subst r;simp only[Bk.V]at g;simp only[qD]at t;obtain⟨pn,I⟩:=exI (vG b.zZ n);rw[I]at e i d;obtain⟨l,hl⟩:=exI (yJ b n);rw[hl]at D B d;unfold Z5 at d;by_cases E:y9 x.name pn=0
 case neg=>rw[ze E]at d;have Nl:=nzT E;simp[k,m,o,p,g,y,t,e,w,i,Nl,d,f77]
 rw[zd E]at d;rcases bL hu x.wE with⟨f1,q,hq,_,f2⟩|⟨f1,f2⟩
 case inr=>rw[f1,ze (by simp)]at d;simp only[f2,Xo]at h;simp[k,m,o,p,g,y,t,e,w,i,E,h,d,f77]
 rw[f1,zd rfl]at d;simp only[f2,W7]at h;cases G:wb x.flag
 ·rw[G,ze (by simp)]at d;simp[k,m,o,p,g,y,t,e,w,i,E,h,z,G,d,f77]
 rw[G,zd rfl]at d;by_cases H:x.cond.check=0
 case neg=>rw[ze H]at d;have c4':=nzT H;simp[k,m,o,p,g,y,t,e,w,i,E,h,z,G,A,c4',d,f77]
 rw[zd H]at d;by_cases P:sV (L.map qa.name) x.cond=true
 case neg=>
  rw[ze P]at d;have cn':sV (L.map qa.name) x.cond=false:=by simpa using P
  rw[cn']at u;simp at d;simp[k,m,o,p,g,y,t,e,w,i,E,h,z,G,A,H,u,d,f77]
 rw[zd P]at d;rw[P]at u;cases J:YK x.qy
 ·have M:yV l x.qy=3:=by simp[yV,J]
  rw[M]at d;simp at d;simp[k,m,o,p,g,y,t,e,w,i,E,h,z,G,A,H,u,F,J,d,f77]
 by_cases Q:x.qy∈l
 ·have M:yV l x.qy=7:=by simp[yV,J,Q]
  rw[M]at d;simp at d;rw[y8 Q]at B;simp[k,m,o,p,g,y,t,e,w,i,E,h,z,G,A,H,u,F,J,D,B,d,f77]
 have M:yV l x.qy=0:=by simp[yV,J,Q]
 rw[zd M]at d;rw[jm Q]at B;by_cases R:wW x.xR 20=0
 case neg=>rw[ze R]at d;have c6':=nzT R;simp[k,m,o,p,g,y,t,e,w,i,E,h,z,G,A,H,u,F,J,D,B,K,c6',d,f77]
 rw[zd R]at d;simp[k,m,o,p,g,y,t,e,w,i,E,h,z,G,A,H,u,F,J,D,B,K,R,hph,d,f77]
theorem Ht:zg prog 77 (zf false [] FExN):=
 pS1 zbi func77 false [] fun⟨l,b,n⟩ ⟨⟨a,c,d⟩,e⟩=>⟨by simp[f77],_,ML l b n a c d e,zW _⟩
theorem zen(l:List qa)(n:za):(Ms (yE n l)).cond.names=xo l n:=by unfold xo Ms;cases yE n l<;>rfl
def qm(out:List za):List qa->Nat
 |[]=>0
 |s::l=>(if out.contains s.name=true then 0 else s.cond.names.length)+qm out l
theorem Ol(out:List za)(n:za):∀l:List qa,qm (out++[n]) l<=qm out l
 |[]=>zl _
 |s::l=>by
  have:=Ol out n l;simp only[qm];by_cases h:out.contains s.name=true
  ·rw[zd h,zd (by simp at h⊢;exact .inl h)];omega
  ·rw[ze h];split<;>omega
theorem nV{out:List za}{n:za}(h:n ∉ out):∀l:List qa,(xo l n).length+qm (out++[n]) l<=qm out l
 |[]=>zl _
 |s::l=>by
  by_cases hs:s.name=n
  ·have a:xo (s::l) n=s.cond.names:=by simp[xo,yE,hs]
   have:=Ol out n l;rw[a];simp only[qm];rw[zd (by simp[hs]),ze (by rw[hs];simpa using h)];omega
  ·have a:xo (s::l) n=xo l n:=by simp[xo,yE,hs]
   have:=nV h l;rw[a];simp only[qm];have b:(out++[n]).contains s.name=out.contains s.name:=by simp[hs]
   rw[b];omega
theorem zbj(out:List za):∀l:List qa,qm out l<=QZ l
 |[]=>kM _
 |s::l=>by
  have a:=zbj out l;have b:=kS _ s.cond (zl _);have c:QZ (s::l)=s.cb+QZ l:=by simp[QZ]
  have d:s.cb=1+s.name.length+Kf s.ins+Kf s.outs+s.cond.cb:=rfl;simp only[qm];split<;>omega
theorem zbk:∀(x y:List za),bG x->bG y->(∀c,c∈x↔c∈y)->x=y
 |[],[],_,_,_=>rfl
 |[],b::y,_,_,h=>absurd ((h b).2 (by simp)) (by simp)
 |a::x,[],_,_,h=>absurd ((h a).1 (by simp)) (by simp)
 |a::x,b::y,k,l,h=>by
  obtain⟨i,m⟩:=wU.1 k;obtain⟨j,n⟩:=wU.1 l;have f:a=b:=by
   rcases zA.1 ((h a).1 (by simp))with e|e
   ·exact e
   ·rcases zA.1 ((h b).2 (by simp))with g|g
    ·exact g.symm
    ·have:=xi (i b g) (j a e);rw[aI]at this;cases this
  subst f;rw[zbk x y m n fun c=>⟨fun d=>?_,fun d=>?_⟩]
  ·rcases zA.1 ((h c).1 (by simp[d]))with e|e
   ·subst e;have:=i c d;rw[aI]at this;cases this
   ·exact e
  ·rcases zA.1 ((h c).2 (by simp[d]))with e|e
   ·subst e;have:=j c d;rw[aI]at this;cases this
   ·exact e
theorem Om{l:List za}(h:l.Nodup):bG (l.mergeSort fun x y=>decide (x<=y)):=by
 have Y:=zny l fun x y=>decide (x<=y)
 have hs:=List.pairwise_mergeSort (le:=fun x y:za=>decide (x<=y)) (fun a b c d e=>by simp only[zP]at d e⊢;exact List.le_trans d e) (fun a b=>by simp only[qd,zP];exact List.le_total a b) l;have f:(l.mergeSort fun x y=>decide (x<=y)).Nodup:=Y.nodup_iff.2 h;refine(hs.and f).imp fun{a b} g=>?_
 rw[bytesLess_eq];obtain⟨d,e⟩:=g;simp only[zP]at d⊢;exact xy fun f=>e (List.le_antisymm d (List.not_lt.1 f))
theorem KY{l:List za}(h:l.Nodup):Lib.compact l=l:=by
 refine Lib.compact_all l fun j a=>?_
 unfold Lib.keeps;simp only[zP];by_cases b:j=0
 ·exact .inl b
 ·refine .inr fun e=>?_
  rw[XC _ _ (by simpa using a),XC _ _ (by simp;omega)]at e;simp only[List.getElem_toArray]at e;exact(QY.1 h (j-1) j (by omega) a (by omega)) e.symm
open Classical in
noncomputable def ed (l:List qa) (a:List za):List za:=if h:∃L,bG L/\∀n,n∈L↔gE (xo l) a n then h.choose else[]
theorem Dv{l:List qa}{a out:List za}(h:Io (xo l) a out []):Lib.compact (out.mergeSort fun x y=>decide (x<=y))=ed l a:=by
 have d:=Om h.nodup;have Y:=zny out fun x y=>decide (x<=y)
 have e:∀n,n∈(out.mergeSort fun x y=>decide (x<=y))↔gE (xo l) a n:=fun n=>Y.mem_iff.trans (h.done n)
 rw[KY (Y.nodup_iff.2 h.nodup)];have b:∃L,bG L/\∀n,n∈L↔gE (xo l) a n:=⟨_,d,e⟩;unfold ed;rw[Oy b];exact zbk _ _ d b.choose_spec.1 fun c=>(e c).trans (b.choose_spec.2 c).symm
theorem zbl{l:List qa}{a:List za}(h:∃out,Io (xo l) a out [])(n:za):n∈ed l a↔gE (xo l) a n:=by
 obtain⟨out,h⟩:=h;have b:=Om h.nodup;have Y:=zny out fun x y=>decide (x<=y)
 rw[<-Dv h,KY (Y.nodup_iff.2 h.nodup)];exact Y.mem_iff.trans (h.done n)
theorem Dw(l:List qa)(start:List za):∀(n:Nat) (out b:List za),Io (xo l) start out b->b.length+qm out l<=n->∃c,Io (xo l) start c []
 |_,out,[],h,_=>⟨out,h⟩
 | 0,_,_::_,_,h=>by simp at h
 |n+1,out,a::q,h,e=>by
  simp only[zV]at e;by_cases d:a∈out
  ·exact Dw l start n out q (h.skip d) (by omega)
  ·have:=nV d l;exact Dw l start n _ _ (h.take d) (by rw[qt];omega)
theorem On(l:List qa)(a:List za)(n:za):n∈ed l a↔gE (xo l) a n:=zbl (Dw l a _ [] a (.begin _ _) (zl _)) n
def uo(Y:Hp)(Z:Nat)(e s:Nat)(v:O)(xs:List zb):Prop:=(v=.nil/\xs=[])\/(xs≠[]/\∃id,id<Z/\v=.own id 0 xs.length/\Y id=some ⟨e,s,true,xs⟩)
theorem uo.more{Y:Hp}{Z e s:Nat}{v:O}{xs:List zb}(h:uo Y Z e s v xs)(b:Option kV):uo (qR Y Z b) (Z+1) e s v xs:=by
 rcases h with⟨rfl,rfl⟩|⟨a,id,d,rfl,c⟩
 ·exact .inl ⟨rfl,rfl⟩
 ·exact .inr ⟨a,id,by omega,rfl,by rw[zt _ _ _ _ (by omega)];exact c⟩
theorem uo.Yu{P:Program}{Y:Hp}{Z e s by_:Nat}{v:O}{xs:List zb}{ys:List zb}{z:zb}{t:TypeId}(h:uo Y Z e s v xs)(b:yg P t=some e)(hs:qF P e=some s)(c:j7 P e=some by_)(d:yN P e=some z)
  (a:z.length=s) (f:0<s) (g:xs.length+ys.length<=maxLen) (i:(xs.length+ys.length)*by_<=140737488355328) :
  ∃k l m,jU P Y Z t t v (.sl s ys)=some (k,l,m)/\uo l m e s k (xs++ys):=by
 rcases h with⟨rfl,rfl⟩|⟨n,id,hid,rfl,o⟩
 ·simp at g i;by_cases j:ys=[]
  ·subst j;exact⟨.nil,Y,Z,by simp[jU,b,hs,c,d,a,f,AM.view,maxLen],.inl ⟨rfl,rfl⟩⟩
  ·exact⟨.own Z 0 ys.length,_,Z+1,by simp[jU,b,hs,c,d,a,f,g,i,AM.view,j];rfl,.inr ⟨by simpa using j,Z,by omega,by simp,by simp⟩⟩
 ·exact⟨.own Z 0 (xs.length+ys.length),_,Z+1,by simp[jU,b,hs,c,d,a,f,g,i,AM.view,o];rfl,.inr ⟨by simp[n],Z,by omega,by simp,by simp⟩⟩
def A3(a:List za):Option kV:=if a=[]then none else some ⟨9,1,true,zJ a⟩
theorem uo.ret{Y:Hp}{Z:Nat}{v:O}{a:List za}(h:uo Y Z 9 1 v (zJ a))(c:Nat):aj (A3 a) v Y c:=by
 rcases h with⟨rfl,b⟩|⟨b,id,hid,rfl,d⟩
 ·have:a=[]:=by simpa[zJ]using b
  subst this;rfl
 ·have f:a≠[]:=fun e=>b (by rw[e];rfl)
  unfold A3;rw[ze f];exact⟨id,rfl,d,rfl⟩
theorem uc(c:qO)(I:c.cb<=zx):∃x Y Z,kj (Cnm zx) f125 [.agg c.V] (fun _=>none) 0=some (x,Y,Z)/\aj (A3 c.names) x Y Z:=by
 have B:=Qb c;have C:=jW c.args;have s:=kS _ c (zl _);have A:zx=2097152:=rfl;have g:∀k,(yh (c.args.take k)).length<=c.cb:=fun k=>by
  have e:yh c.args=yh (c.args.take k)++yh (c.args.drop k):=by rw[<-J7,kQ]
  have:=zC List.length e;rw[vw,qt]at s;rw[qt]at this;omega
 refine VV rfl ?_;by_cases r:c.kind=5
 ·have p:=fun Y Z=>wg.yL (P:=prog) (t:=88) (c:=[str c.name]) (wg.nil Y Z 9 1) XZ BH D2 D3 rfl (by omega) (by simp[maxLen]) (by simp)
  have h:(c.kind==5)=true:=by simpa using r
  simp only[WA]at p;simp[qY,h,zz,zS,zy,p];refine zI (fun k U Y Z=>U 15=.sl 7 (c.args.map qO.V)/\U 16=int c.args.length/\U 17=int k/\uo Y Z 9 1 (U 3) (zJ ([c.name]++yh (c.args.take k)))) c.args.length
   ⟨by simp,by simp,by simp,by simp;exact .inr ⟨by simp[zJ],_,by omega,rfl,by simp[zJ,yh]⟩⟩ ?_
  rintro k U Y Z D ⟨b,d,f,i⟩;by_cases a:k<c.args.length
  ·have u:=zlL k;obtain⟨x,j⟩:=exI (c.args[k]);have l:x∈c.args:=by rw[<-j];exact zj a
   have v:=vC l;have w:=kS _ x (zl _);have y:=fun Y Z=>ZQ (fun c=>.sl 1 (zJ c.names)) zx x Y Z ⟨by omega,by omega⟩
   have E:=g k;have m:=i.more (some ⟨70,7,false,[x.V]⟩);obtain⟨F,G,H,n,o⟩:=m.Yu (P:=prog) (t:=88) (ys:=zJ x.names) XZ BH D2 D3 rfl (by omega) (by simp[maxLen,wF];omega) (by simp[wF];omega);have q:=QS a;rw[j]at q;simp[b,d,f,a,j,y,n,u,JF];refine⟨by omega,?_⟩;rw[q];simpa[zJ]using o
  ·obtain rfl:k=c.args.length:=by omega
   rw[wo]at i;have z:=i.ret Z;simp[b,d,f,f125];rw[vw];simpa[r]using z
 ·have h:=eqF0 r;simp[qY,h];refine zI (fun k U Y Z=>U 15=.sl 7 (c.args.map qO.V)/\U 16=int c.args.length/\U 17=int k/\uo Y Z 9 1 (U 3) (zJ (yh (c.args.take k)))) c.args.length
   ⟨by simp,by simp,by simp,by simp;exact .inl ⟨rfl,by simp[zJ,yh]⟩⟩ ?_
  rintro k U Y Z D ⟨b,d,f,i⟩;by_cases a:k<c.args.length
  ·have u:=zlL k;obtain⟨x,j⟩:=exI (c.args[k]);have l:x∈c.args:=by rw[<-j];exact zj a
   have v:=vC l;have w:=kS _ x (zl _);have y:=fun Y Z=>ZQ (fun c=>.sl 1 (zJ c.names)) zx x Y Z ⟨by omega,by omega⟩
   have E:=g k;have m:=i.more (some ⟨70,7,false,[x.V]⟩);obtain⟨F,G,H,n,o⟩:=m.Yu (P:=prog) (t:=88) (ys:=zJ x.names) XZ BH D2 D3 rfl (by omega) (by simp[maxLen,wF];omega) (by simp[wF];omega);have q:=QS a;rw[j]at q;simp[b,d,f,a,j,y,n,u,JF];refine⟨by omega,?_⟩;rw[q];simpa[zJ]using o
  ·obtain rfl:k=c.args.length:=by omega
   rw[wo]at i;have z:=i.ret Z;simp[b,d,f,f125];rw[vw];simpa[r]using z
noncomputable def FNf:zb->Option (Option kV):=z6 (α:=qO) (fun c=>[.agg c.V]) (fun c=>c.cb<=zx) fun c=>A3 c.names
theorem Hu(c:qO)(Y:Hp)(Z:Nat)(h:c.cb<=zx):jj [] FNf [.agg c.V] Y Z=if c.names=[]then some (.nil,Y,Z)else some (.own Z 0 c.names.length,qR Y Z (some ⟨9,1,true,zJ c.names⟩),Z+1):=by
 have e:FNf [.agg c.V]=some (A3 c.names):=zE (V:=fun c:qO=>[O.agg c.V]) (a:=c) (fun a b e=>by simp only[zh,zD,O.agg.injEq]at e;exact vQ e) h
 unfold jj;simp only[show zv Y [.agg c.V]=some ([.agg c.V],Y) by simp[qY],show yP [] [O.agg c.V]=[O.agg c.V]from rfl,e];unfold A3;by_cases d:c.names=[]
 ·rw[zd d,zd d]
 ·rw[ze d,ze d];simp[zJ]
theorem ud:zg prog 125 (jj [] FNf):=
 Q7 (fn:=f125) (code:=_) (zph mixed ⟨cW zx,trivial⟩:AM.Good (Cnm zx) _) ⟨func125,by kernel_rfl,rfl,by kernel_rfl⟩ [] _ fun args r h=>by obtain⟨c,rfl,a,rfl⟩:=zp h;exact⟨by simp[f125],uc c a⟩
end Go.Q
namespace Go.AM
open Go.RowKit Go.Sort Go.Proofs
variable{dr:Prop}
abbrev Jy(zs:List za):List zb:=zs.map fun n=>[str n]
theorem zbm{a b:List za}(h:Jy a=Jy b):a=b:=
 yX (fun x y e=>by have:=List.head_eq_of_cons_eq e;exact q9 this) h
@[simp]theorem mG(zs:List za):(Jy zs).length=zs.length:=by simp[Jy]
theorem zbn{zs:List za}{i:Nat}{c:zb}(h:(Jy zs)[i]?=some c):∃hi:i<zs.length,c=[str zs[i]]:=by
 unfold Jy at h;rw[qQ]at h;cases a:zs[i]? with
 |none=>rw[a]at h;cases h
 |some x=>rw[a]at h;obtain⟨hi,rfl⟩:=zn.1 a;exact⟨hi,by simpa using h.symm⟩
def MM(P:Program)(f:Nat)(F:List za->List za)(a:Bool):Prop:=
 ∀(blk cap:Nat) (zs:List za) (w:World),Holds encStr w blk 0 zs.toArray->blk<w.heap.size->zs.length<4611686018427387904->zs.length<=cap ->
  Calls P f #[.slice (some ⟨blk,0,none⟩) zs.length cap] w fun e w'=>e=.returned (if a then .slice (some ⟨blk,0,none⟩) (F zs).length cap else .tuple #[]) /\
   ∃(q:Nat) (b:Array Obj) (d:List za),d.length=zs.length/\(∃r,d=F zs++r)/\w'=grow (putRow encStr (Sort.ahead w q) blk 0 d.toArray) b
open Classical in
noncomputable def sr (es:List zb):Option (List za):=if h:∃zs:List za,es=Jy zs then some h.choose else none
theorem Sd(zs:List za):sr (Jy zs)=some zs:=by have a:∃ys:List za,Jy zs=Jy ys:=⟨zs,rfl⟩;unfold sr;rw[Oy a];have e:=zbm a.choose_spec;rw[<-e]
theorem MN{es:List zb}{zs:List za}(h:sr es=some zs):es=Jy zs:=by
 unfold sr at h;split at h
 ·rename_i a;injection h with h
  rw[<-h];exact a.choose_spec
 ·cases h
noncomputable def gp (F:List za->List za) (a:Bool):AM.Spec:=fun args Y Z=>
 match args with
 |[.nil]=>some (if a then .nil else .wY [],Y,Z)
 |[.own id off n]=>match Y id with
  |some b=>match sr b.es with
   |some zs=>if off=0/\b.arr=true/\b.s=1/\n=zs.length/\zs.length<4611686018427387904 then
     some (if a then .own id 0 (F zs).length else .wY [],qR Y id (some ⟨b.e,b.s,b.arr,Jy (F zs)⟩),Z)else none
   |none=>none
  |none=>none
 |_=>none
theorem ss(F:List za->List za)(a:Bool){id e:Nat}{zs:List za}{Y:Hp}{Z:Nat}(h:Y id=some ⟨e,1,true,Jy zs⟩)(b:zs.length<4611686018427387904) :
  gp F a [.own id 0 zs.length] Y Z=some (if a then .own id 0 (F zs).length else .wY [],qR Y id (some ⟨e,1,true,Jy (F zs)⟩),Z):=by
 unfold gp;simp only[h,Sd];simp only[b,and_self,qA]
theorem su(w:World)(blk:Nat)(d:Array za){a:Array Value}{e:TypeId}(h:w.heap[blk]?=some (.cells a e (0,0))) :
  putRow encStr w blk 0 d=w.setRow blk (putCells encStr 0 d a):=by
 unfold putRow mapBlock World.setRow;congr 1;apply Array.ext_getElem?;intro i;simp only[Qv];by_cases hi:blk=i
 ·subst hi;simp only[qA,h,zK,onCells]
 ·simp[hi]
theorem Dx(w:World)(blk q:Nat)(d:Array za)(a:Array Obj):Fr dr (putRow encStr w blk 0 d) (fun _=>False) (grow (putRow encStr (Sort.ahead w q) blk 0 d) a):=by
 refine⟨rfl,rfl,rfl,?_,fun _=>?_,fun b c _=>?_⟩
 ·show _<=(_++a).size;rw[Wv];exact Nat.le_add_right _ _
 ·exact Nat.le_add_right _ _
 ·exact vZ c
theorem mH{P:Program}{f:Nat}{F:List za->List za}{k:Bool}(J:∃fn,P.funcs[f]?=some fn/\(fn.name== "runtime.NumGoroutine")=false/\fn.body.isNone=false)(K:MM P f F k)(B:∀w,Calls P f #[.slice none 0 0] w fun e w'=>e=.returned (if k then .slice none 0 0 else .tuple #[])/\w'=w):xB dr P f (gp F k):=by
 refine⟨J,?_⟩;intro args Y Z r Y' Z' h w S G vs hi hz;unfold gp at h;split at h
 case h_3=>cases h
 case h_1=>
  obtain⟨u,us,rfl,I,y⟩:=hz.kc;obtain rfl:=y.YU;obtain rfl:=I.ZV;injection h with h;injection h with L h;injection h with M N;subst L;subst M;subst N;refine(B w).mono fun e w' Q=>?_
  obtain⟨rfl,rfl⟩:=Q;refine⟨_,S,G,rfl,.refl hi,?_⟩;cases k with
  |false=>exact kv
  |true=>exact .c .nil
 rename_i id off n;obtain⟨u,us,rfl,I,y⟩:=hz.kc;obtain rfl:=y.YU;have l:=I.Za;obtain⟨cap,g1,g2,g3,g4,rfl⟩:=I.xA;split at h
 case h_2=>cases h
 rename_i b hb;split at h
 case h_2=>cases h
 rename_i zs m;have m:=MN m;split at h
 case isFalse=>cases h
 rename_i hx;obtain⟨rfl,harr,R,hn,C⟩:=hx;injection h with h
 injection h with L h;injection h with M N;subst L;subst M;subst N;subst hn;have o:=hi.live id b hb;have a:(G id).s=1:=by rw[<-o.bs];exact R
 obtain⟨p,T,c2,c3⟩:=o.row l;rw[a]at c3 g4;have t:=o.fit l;rw[m,a]at t;simp only[mG,zk1,wJ]at t g4;have z:∀j (D:j<zs.length),p[j]?=some (encStr zs[j]):=fun j D=>by obtain⟨u,q1,q2⟩:=c3 j 0 [str zs[j]] (str zs[j]) (by rw[m];simp[Jy,D]) rfl;rw[zk1,Wt]at q1;obtain⟨rfl,_⟩:=q2.2.1.yq;exact q1
 have hH:Holds encStr w (G id).g 0 zs.toArray:=by
  intro j D;have W:j<zs.length:=by simpa using D
  constructor
  ·rw[wJ,zga w _ _ p _ _ T,z j W,XC _ j D];simp
  ·simp[World.frozen?,T]
 have X:=K (G id).g cap zs w hH o.lt C g2;rw[a];simp only[zeQ];refine X.mono fun e w' Q=>?_
 obtain⟨rfl,q,os,d,hd1,⟨rr,E⟩,rfl⟩:=Q;have hFl:(F zs).length<=zs.length:=by rw[<-hd1,E,qt];omega
 have A:=vA.set (dr:=dr) hi hb l (putCells encStr 0 d.toArray p) (Jy (F zs)) (by simp[putCells,c2])
  (fun c hc=>by obtain⟨x,_,rfl⟩:=wA.1 hc;rw[a];rfl)
  (by rw[a,mG];omega)
  (fun i j c pv hci H=>by
   obtain⟨hil,rfl⟩:=zbn hci;have hj0:j=0:=by have:=(zn.1 H).1;simpa using this
   subst hj0;obtain rfl:str (F zs)[i]=pv:=by simpa using H
   refine⟨encStr (F zs)[i],?_,fun _=>.v rfl,.c (.v rfl),rfl⟩;rw[a,zk1,Wt];have hic:i<p.size:=by rw[c2];omega
   unfold putCells;rw[Array.getElem?_mapIdx,QX hic];simp only[zK];have hid:i<d.length:=by omega
   rw[zd ⟨kM _,by simpa using hid⟩];have:d.toArray[i-0]! = (F zs)[i]:=by rw[Nat.sub_zero,XC _ i (by simpa using hid)];simp[E,List.getElem_append_left hil]
   rw[this])
 rw[<-su w _ _ T]at A;refine⟨_,S,G,rfl,A.trans (vA.grown A.inv (Dx w (G id).g q d.toArray os)),?_⟩;cases k with
 |false=>exact kv
 |true=>simp only[qA];have:=qx.own (w:=grow (putRow encStr (Sort.ahead w q) (G id).g 0 d.toArray) os) (S:=S) (G:=G) (Z:=Z) (id:=id) (off:=0) (n:=(F zs).length) (cap:=cap) g1 (by omega) g3 (by rw[a];omega) l;simpa using this
end Go.AM
namespace Go.Proofs
open Go.Shelf
def Tryz.Is:Go.Shelf.Ren:=⟨fun|125=>216|128=>268|129=>269|190=>169|258=>215|302=>260|303=>261|304=>262|305=>263|306=>264|307=>265|308=>181|309=>266|310=>267|329=>297|330=>298|333=>296|334=>299|335=>300|336=>222|344=>335|n=>n,fun|0=>0|3=>3|4=>4|5=>5|9=>9|31=>88|46=>137|51=>284|53=>111|131=>86|182=>277|183=>278|218=>300|222=>304|228=>332|229=>106|n=>n,fun|n=>n⟩
theorem Tryz.OL:Go.Proofs.Lays.n190 prog Tryz.Is:={
 mixed:=by kernel_rfl
 f125:=func216.trans (zC some (by kernel_rfl))
 f128:=func268.trans (zC some (by kernel_rfl))
 f129:=func269.trans (zC some (by kernel_rfl))
 f190:=func169.trans (zC some (by kernel_rfl))
 f258:=func215.trans (zC some (by kernel_rfl))
 f302:=func260.trans (zC some (by kernel_rfl))
 f303:=func261.trans (zC some (by kernel_rfl))
 f304:=func262.trans (zC some (by kernel_rfl))
 f305:=func263.trans (zC some (by kernel_rfl))
 f306:=func264.trans (zC some (by kernel_rfl))
 f307:=func265.trans (zC some (by kernel_rfl))
 f308:=func181.trans (zC some (by kernel_rfl))
 f309:=func266.trans (zC some (by kernel_rfl))
 f310:=func267.trans (zC some (by kernel_rfl))
 f329:=func297.trans (zC some (by kernel_rfl))
 f330:=func298.trans (zC some (by kernel_rfl))
 f333:=func296.trans (zC some (by kernel_rfl))
 f334:=func299.trans (zC some (by kernel_rfl))
 f335:=func300.trans (zC some (by kernel_rfl))
 f336:=func222.trans (zC some (by kernel_rfl))
 f344:=func335.trans (zC some (by kernel_rfl))
 t0:=underlying0
 a0:=isAgg0
 z0:=sizeOf0
 v0:=zeroValue0
 t3:=underlying3
 a3:=isAgg3
 z3:=sizeOf3
 v3:=zeroValue3
 t4:=underlying4
 a4:=isAgg4
 z4:=sizeOf4
 v4:=zeroValue4
 t5:=underlying5
 a5:=isAgg5
 z5:=sizeOf5
 v5:=zeroValue5
 t9:=underlying9
 a9:=isAgg9
 z9:=sizeOf9
 v9:=zeroValue9
 t31:=underlying88
 a31:=isAgg88
 z31:=sizeOf88
 v31:=zeroValue88
 t46:=underlying137
 a46:=isAgg137
 z46:=sizeOf137
 v46:=zeroValue137
 t51:=underlying284
 a51:=isAgg284
 z51:=sizeOf284
 v51:=zeroValue284
 t53:=underlying111
 a53:=isAgg111
 z53:=sizeOf111
 v53:=zeroValue111
 t131:=underlying86
 a131:=isAgg86
 z131:=sizeOf86
 v131:=zeroValue86
 t182:=underlying277
 a182:=isAgg277
 z182:=sizeOf277
 v182:=zeroValue277
 t183:=underlying278
 a183:=isAgg278
 z183:=sizeOf278
 v183:=zeroValue278
 t218:=underlying300
 a218:=isAgg300
 z218:=sizeOf300
 v218:=zeroValue300
 t222:=underlying304
 a222:=isAgg304
 z222:=sizeOf304
 v222:=zeroValue304
 t228:=underlying332
 a228:=isAgg332
 z228:=sizeOf332
 v228:=zeroValue332
 t229:=underlying106
 a229:=isAgg106
 z229:=sizeOf106
 v229:=zeroValue106}
def Tryz.It:Go.Shelf.Ren:=⟨fun|194=>170|n=>n,fun|0=>0|3=>3|4=>4|9=>9|31=>88|n=>n,fun|n=>n⟩
theorem Tryz.OM:Go.Proofs.Lays.n194 prog Tryz.It:={
 mixed:=by kernel_rfl
 f194:=func170.trans (zC some (by kernel_rfl))
 t0:=underlying0
 a0:=isAgg0
 z0:=sizeOf0
 v0:=zeroValue0
 t3:=underlying3
 a3:=isAgg3
 z3:=sizeOf3
 v3:=zeroValue3
 t4:=underlying4
 a4:=isAgg4
 z4:=sizeOf4
 v4:=zeroValue4
 t9:=underlying9
 a9:=isAgg9
 z9:=sizeOf9
 v9:=zeroValue9
 t31:=underlying88
 a31:=isAgg88
 z31:=sizeOf88
 v31:=zeroValue88}
end Go.Proofs
namespace Go.Q
open Go.RowKit Go.AM Go.Sort
abbrev cX(zs:List za):List za:=zs.mergeSort fun x y=>decide (x<=y)
theorem zbo:MM prog 169 cX false:=by
 intro blk cap zs w a b c g;refine(Any.slices_Sort_string Tryz.OL blk 0 cap zs w a b c).mono fun e w' d=>?_
 obtain⟨rfl,n,f,rfl⟩:=d;exact⟨rfl,n,f,_,by rw[List.length_mergeSort],⟨[],by simp⟩,rfl⟩
theorem Hv:MM prog 170 Lib.compact true:=by
 intro blk cap zs w a d f b;refine(Any.slices_Compact_string Tryz.OM blk 0 cap zs w a (by omega) b).mono fun e w' c=>?_
 obtain⟨rfl,q,rfl⟩:=c;refine⟨rfl,q,#[],Lib.compact zs++List.replicate (zs.length-(Lib.compact zs).length) [],?_,⟨_,rfl⟩,by simp⟩;have:=Lib.compact_length_le zs;simp;omega
theorem Hw:zg prog 169 (gp cX false):=
 mH ⟨_,func169,by decide,by kernel_rfl⟩ zbo fun w=>Any.slices_Sort_string_none Tryz.OL none 0 w
theorem sv:zg prog 170 (gp Lib.compact true):=
 mH ⟨_,func170,by decide,by kernel_rfl⟩ Hv fun w=>Any.slices_Compact_string_empty Tryz.OM none 0 w
def Ja(l:List za):List za:=Lib.compact (cX l)
noncomputable abbrev zfM:Ctx:=zQ prog [(168,jj [] (We 9 1)),(169,gp cX false),(170,gp Lib.compact true)]
theorem Hy(l:List za)(g:l.length<=zx)(y:O)(c:lF 1 (zJ l) y):∃i,zr zfM f127 [y]=some i/\qW i (.sl 1 (zJ (Ja l))):=by
 refine kB rfl ?_;have m:l.length<4611686018427387904:=by unfold zx at g;omega
 have d:(cX l).length=l.length:=List.length_mergeSort _;have a:=pd (e:=9) c (by simpa[zJ]using g) (fun _=>none) 0;have f:y=.nil/\l=[]\/(Qa 9 1 (zJ l) y 0).1=.own 0 0 l.length/\(Qa 9 1 (zJ l) y 0).2.1 (fun _=>none)=qR (fun _=>none) 0 (some ⟨9,1,true,Jy l⟩)/\(Qa 9 1 (zJ l) y 0).2.2=1:=by
  generalize b:zJ l=es at c;cases c with
  |nil=>exact .inl ⟨rfl,by simpa[zJ]using b⟩
  |em=>exact .inr ⟨by simp[Qa,<-b,zJ],by simp[Qa,<-b,zJ,Jy],rfl⟩
  |sl=>exact .inr ⟨by simp[Qa,<-b,zJ],by simp[Qa,<-b,zJ,Jy],rfl⟩
 rcases f with⟨rfl,rfl⟩|⟨n,o,p⟩
 ·simp only[Qa]at a;have q:Ja []=[]:=by simp[Ja,cX,Lib.compact,Lib.compactUpTo]
  simp[a,gp,f127];rw[q];exact⟨.nil,by simp,qW.cZ (.inl ⟨rfl,rfl⟩)⟩
 ·rw[n,o,p]at a;have r:=ss cX false (id:=0) (e:=9) (zs:=l) (Y:=qR (fun _=>none) 0 (some ⟨9,1,true,Jy l⟩)) (Z:=1) (by simp) m;have j:=fun Y (h:Y 0=some ⟨9,1,true,Jy (cX l)⟩)=>ss Lib.compact true (id:=0) (e:=9) (zs:=cX l) (Y:=Y) (Z:=1) h (by omega)
  rw[d]at j;have k:=j _ (by simp:qR (qR (fun _=>none) 0 (some (⟨9,1,true,Jy l⟩:kV))) 0 (some ⟨9,1,true,Jy (cX l)⟩) 0=_);simp at k;simp[a,r,k,f127];refine⟨.sl 1 (zJ (Ja l)),?_,qW.refl _⟩;simp[Ja,zJ,Jy];exact qq (by simp)
theorem Dy:zg prog 127 (zf true [1] (FTl (fun l=>.sl 1 (zJ (Ja l))) fun l=>l.length<=zx)):=
 xE (fn:=f127) (zph mixed ⟨fl,Hw,sv,trivial⟩:AM.Good zfM _) (zpi func127) true [1] _ fun args r h w S vs b=>by obtain⟨l,rfl,c,rfl⟩:=zp h;obtain⟨u,rfl,d⟩:=Jr b;obtain⟨y,e,a⟩:=Ey d;obtain⟨f,g,i⟩:=Hy l c y e;exact⟨_,f,.cons a .nil,zG (zl 1) (by decide),g,i⟩
end Go.Q
