/- Lemmas. -/
import Derived.Orders
import Derived.Test.YtcebnehlnlcckaaGreatDoorG12
set_option maxRecDepth 100000
set_option maxHeartbeats 4000000
open Go Proofs Proofs.YtcebnehlnlcckaaGreatDoor Proofs.Tryz RowKit AM SpanLaw Q Zz
namespace Go.Q
theorem IV(s:za):(Vn s&&decide ((s.length:Int)<=40))=VG s:=by
 cases s with
 |nil=>rfl
 |cons c s=>rw[qx];simp[VG,Vn,kd,jE];exact⟨fun h=>⟨⟨by omega,h.2⟩,h.1,by omega,by omega⟩,fun h=>⟨h.2.1,h.1.2⟩⟩
noncomputable abbrev Crsl:Ctx:=zR prog [(123,zg false [] (FS Vn))]
theorem tB:zf prog 124 (zg false [] (FS VG)):=
 vX (C:=Crsl) (zS mixed ⟨eV,trivial⟩) func124 false [] fun s hs=>by
  refine⟨by simp[f124],_,zm rfl ?_,qc _⟩;rw[<-IV];cases a:Vn s
  ·simp[a,zI,hs,f124]
  ·simp[a,zI,hs,f124]
theorem tC{v n:Int}(h:v<0):jE v 0 (n-1)=false:=by simp[jE];omega
theorem tD{v n:Int}(h:n<=v):jE v 0 (n-1)=false:=by simp[jE];omega
theorem za5{v n:Int}(h:0<=v)(g:v<n):jE v 0 (n-1)=true:=by simp[jE];omega
theorem cS(v n:Int):v<0\/(¬v<0/\n<=v)\/(¬v<0/\¬n<=v/\jE v 0 (n-1)=true):=by
 by_cases h:v<0
 ·exact .inl h
 ·by_cases g:n<=v
  ·exact .inr (.inl ⟨h,g⟩)
  ·exact .inr (.inr ⟨h,g,za5 (by omega) (by omega)⟩)
noncomputable abbrev Uq:Ctx:=zR prog [(49,zg false [] (FS qG)),(124,zg false [] (FS VG)),(125,zg false [] (FRN (fun l n=>int (Z7 l n)) fun _ n=>1<=n/\n<=20))]
theorem IW(s:JR)(n:Int)(h:s.cb<=zw/\1<=n/\n<=20):zo Uq f87 [.agg s.V,int n]=some (int (XF s n)):=by
 obtain⟨p,q,r⟩:=h;unfold JR.cb zw at p;have t:=fun Y Z=>uV (fun l n=>int (Z7 l n)) (fun _ n=>1<=n/\n<=20) s.rs n Y Z ⟨q,r⟩
 refine zm rfl ?_;unfold XF;by_cases b:s.by_=[]
 ·rw[ze b];by_cases a:s.V1=[]
  ·by_cases c:s.rs=[]
   ·rw[zd (by simp[a,c])];rcases cS s.var n with d|⟨d,e⟩|⟨d,e,g⟩
    ·rw[tC d];simp[JR.V,b,a,c,d,zI,f87]
    ·rw[tD e];simp[JR.V,b,a,c,d,e,zI,f87]
    ·rw[g];simp[JR.V,b,a,c,d,e,zI,f87]
   ·have m:0<s.rs.length:=jl.2 c;rw[ze (.inr c)];simp[JR.V,b,a,c,m,zI,f87]
  ·have i:s.V1.isEmpty=false:=by simpa using a
   rw[ze (.inl a)];simp[JR.V,b,a,i,zI,f87]
 ·have f:s.by_.isEmpty=false:=by simpa using b
  have j:s.by_.length<=zw:=by unfold zw;omega
  have k:s.V1.length<=zw:=by unfold zw;omega
  rw[zd b];by_cases a:s.var=0
  ·rw[zd (by simpa using a)];cases c:qG s.by_
   ·simp[JR.V,b,f,j,k,a,c,zI,f87]
   ·cases o:VG s.V1
    ·simp[JR.V,b,f,j,k,a,c,o,zI,f87]
    ·simp[JR.V,b,f,j,k,a,c,o,t,zI,f87]
  ·have i:=xN a;rw[ze a];simp[JR.V,b,f,a,i,zI,f87]
theorem EM:zf prog 87 (zg false [] HK):=
 vX (C:=Uq) (zS mixed ⟨xw,tB,bb,trivial⟩) func87 false [] fun⟨s,n⟩ a=>⟨by simp[f87],_,IW s n a,qc _⟩
noncomputable def FFg (out:wC->O):zb->Option O:=qf (α:=wC) (fun f=>[.agg f.V]) (fun f=>f.cb<=zw) out
theorem OC(out:wC->O)(f:wC)(Y:Hp)(Z:Nat)(h:f.cb<=zw):zg false [] (FFg out) [.agg f.V] Y Z=some (out f,Y,Z):=
 yA (V:=fun f:wC=>[O.agg f.V]) (fun a b e=>by simp only[zh,zA,O.agg.injEq]at e;exact WS e) f (fun Y=>by simp[qd]) h (.inr (by simp[qd])) Y Z
def vi(f:wC):kN:=⟨45,11,false,[f.V]⟩
noncomputable abbrev Crvr:Ctx:=zR prog [(83,GV fun v=>int v.check),(84,zg false [] (Lp zw))]
theorem EN(f:wC)(h:f.cb<=zw):zo Crvr f50 [.agg f.V]=some (int (xX f.vars f.off)):=by
 have Po:f.cb=1+f.name.length+Ys f.vars+(f.wT.map jB.cb).sum+(f.Wz.map kB.cb).sum+(f.WW.map Zh.cb).sum+f.WA.cb:=rfl;have hvl:=ja f.vars;have nT:zw=268435456:=rfl;have m:=qd f;obtain⟨l,hl⟩:=yx f.vars;obtain⟨off,A⟩:∃o,f.off=o:=⟨_,rfl⟩;rw[hl,A]at m;rw[hl]at hvl Po;rw[hl,A];refine zm rfl ?_;by_cases H:l.length=0
 ·have:l=[]:=zT.1 H;subst this;simp[m,xX,zI,f50]
 have I:((l.length:Int)==0)=false:=by simpa using H
 by_cases X:(20:Int)<l.length
 ·have hv:xX l off=2:=by unfold xX;rw[zd H,ze X]
  simp[m,I,X,hv,zI,f50]
 obtain⟨u,J,hk0⟩:∃u,l[0]?=some u/\FJ l=u.kind:=by
  cases l with
  |nil=>exact absurd rfl H
  |cons v l=>exact⟨v,rfl,rfl⟩
 have hv:xX l off=if XG u.kind [] l=0 then(if jE off 0 ((l.length:Int)-1)=true then 0 else 1)else XG u.kind [] l:=by unfold xX;rw[zd H,zd X,hk0]
 rw[hv];simp[m,I,X];refine zF (fun k U Y Z=>U 1=.ref 0 0 0/\U 19=.sl 5 (l.map qu.V)/\U 20=int l.length/\U 21=int k/\0<Z/\Y 0=some (vi f)/\XG u.kind [] l=XG u.kind (l.take k) (l.drop k)) l.length
  ⟨by simp,by simp,by simp,by simp,by simp,by simp[vi,m],by simp⟩ ?_
 rintro k U Y Z hk ⟨r,a,b,c,hnx,G,n⟩;have K:¬0=Z:=by omega
 have x:¬Z=0:=by omega
 have i:=G;simp only[vi,m]at i;by_cases s:k<l.length
 case neg=>
  obtain rfl:k=l.length:=by omega
  rw[zn,XG]at n;rw[n,ze rfl];rcases cS off l.length with d|⟨d,e⟩|⟨d,e,g⟩
  ·rw[tC d];simp[r,a,b,c,i,d,zI,f50]
  ·rw[tD e];simp[r,a,b,c,i,d,e,zI,f50]
  ·rw[g];simp[r,a,b,c,i,d,e,zI,f50]
 have hw:=ql k;obtain⟨v,t⟩:=yx (l[k]);have hm:=ko (show v∈l by rw[<-t];exact zj s);have L:=fun Y Z=>QV (fun v=>int v.check) v Y Z (by omega)
 rw[oZ s,t]at n;by_cases M:v.check=0
 case neg=>have d1':=xN M;rw[zd M]at n;rw[n,zd M];simp[r,a,b,c,i,K,x,s,t,L,d1',zI,f50]
 rw[ze M]at n;rw[M]at L;by_cases N:v.kind=0
 ·rw[ze (.inl N)]at n;rw[n];simp[r,a,b,c,i,K,x,s,t,L,N,zI,f50]
 have P:=jD N;by_cases Q:v.kind=u.kind
 case neg=>
  have B:(v.kind != u.kind)=true:=by simpa using Q
  rw[ze (.inr Q)]at n;rw[n];simp[r,a,b,c,i,K,x,s,t,L,P,B,J,zI,f50]
 rw[zd (fun h=>h.elim N fun h=>h Q)]at n;have B:(v.kind != u.kind)=false:=by simpa using Q
 have d3z:¬u.kind=0:=by rw[<-Q];exact N
 obtain⟨T,hT⟩:=yx (l.take k);have hTl:T.length=k:=by rw[<-hT,wB];omega
 have hsp:∀Y,yG prog Y 37 (.sl 5 (l.map qu.V)) none (some (some (int k)))=some (.sl 5 (T.map qu.V)):=fun Y=>by rw[QL AW (by rw[w9];omega),<-gS,hT]
 have hTm:∀w∈T,w.vb<=zw:=fun w hw=>by have:=ko (JQ (hT ▸ hw));omega
 rw[hT]at n;simp[r,a,b,c,i,K,x,s,t,L,P,B,d3z,J,hsp,hTl];refine zF (fun j p Y' Z'=>p 1=.ref 0 0 0/\p 19=.sl 5 (l.map qu.V)/\p 20=int l.length/\p 21=int k/\p 4=.ref Z 0 0/\p 47=.sl 5 (T.map qu.V)/\p 48=int k/\p 49=int j/\Z<Z'/\Y' 0=some (vi f)/\Y' Z=some (VH v)/\(T.any fun w=>wz v w==0)=(T.drop j).any fun w=>wz v w==0) k
  ⟨by simp[r],by simp[a],by simp[b],by simp[c],by simp,by simp,by simp,by simp,gv _,by simp[K,i,vi,m],by simp[VH],by simp⟩ ?_
 clear r a b c G i;rintro j σ1 Y1 R hj ⟨r,a,b,c,h4,C,D,E,Tx,G,hbv,F⟩;have i:=G;simp only[vi,m]at i;have q:=hbv;simp only[VH]at q;by_cases S:j<k
 ·have y:j<T.length:=by omega
  obtain⟨w,z⟩:=yx (T[j]);have hwb:=hTm w (by rw[<-z];exact zj y);have g2:=fun Y Z=>Wd zw v w Y Z ⟨by omega,by omega,hwb⟩
  have W:=ql j;have m1:¬Z=R:=by omega
  have m2:¬0=R:=by omega
  rw[zc y,z,yr]at F;cases e1:wz v w==0
  ·rw[e1,km]at F;simp[r,a,b,c,h4,C,D,E,S,y,z,q,m1,g2,e1,W];refine⟨by omega,by omega,by simp[m2,G],by simp[m1,q,VH],F⟩
  ·rw[e1,KI]at F;rw[F,ze rfl]at n;rw[n];simp[r,a,b,c,h4,C,D,E,S,y,z,q,m1,g2,e1,zI,f50]
 ·obtain rfl:j=k:=by omega
  rw[wF (by omega)]at F;rw[F]at n;simp only[List.any_nil,zq,qn]at n;simp[r,a,b,c,h4,C,D,E,hw];exact⟨by omega,by omega,G,n⟩
theorem BZ:zf prog 50 (zg false [] (FFg fun f=>int (xX f.vars f.off))):=
 vX (C:=Crvr) (zS mixed ⟨bO,VJ zw,trivial⟩) func50 false [] fun f a=>⟨by simp[f50],_,EN f a,qc _⟩
noncomputable abbrev Crpq:Ctx:=zR prog [(49,zg false [] (FS qG))]
theorem EO(l:List jB)(h:(l.map jB.cb).sum<=zw):zo Crpq f51 [.sl 2 (l.map jB.V)]=some (int (X9 l)):=by
 have J:=kq jB.cb Kt l;have H:zw=268435456:=rfl;refine zm rfl ?_;unfold X9;by_cases y:(10:Int)<l.length
 ·rw[ze y];simp[y,zI,f51]
 rw[zd y];simp[y];refine zF (fun k U Y Z=>U 0=.sl 2 (l.map jB.V)/\U 10=.sl 2 (l.map jB.V)/\U 11=int l.length/\U 12=int k/\lY [] l=lY (l.take k) (l.drop k)) l.length
  ⟨by simp,by simp,by simp,by simp,by simp⟩ ?_
 rintro k U Y Z R ⟨g,a,b,c,e⟩;by_cases i:k<l.length
 case neg=>
  obtain rfl:k=l.length:=by omega
  rw[zn,lY]at e;rw[e];simp[g,a,b,c,zI,f51]
 have K:=ql k;obtain⟨p,m⟩:=yx (l[k]);have S:=vF jB.cb (show p∈l by rw[<-m];exact zj i);have L:p.cb=1+p.flag.length:=rfl;have v:p.flag.length<=zw:=by omega
 rw[o0 i,m]at e;cases z:qG p.flag
 ·rw[z]at e;simp only[zq,qn]at e;rw[e];simp[g,a,b,c,i,m,jB.V,v,z,zI,f51]
 rw[z,ze rfl]at e;obtain⟨T,B⟩:=yx (l.take k);have C:T.length=k:=by rw[<-B,wB];omega
 have D:∀Y,yG prog Y 38 (.sl 2 (l.map jB.V)) none (some (some (int k)))=some (.sl 2 (T.map jB.V)):=fun Y=>by rw[QL AX (by rw[w9];omega),<-gS,B]
 rw[B]at e;simp[g,a,b,c,i,m,jB.V,v,z,D,C];refine zF (fun j d M N=>d 0=.sl 2 (l.map jB.V)/\d 10=.sl 2 (l.map jB.V)/\d 11=int l.length/\d 12=int k/\d 4=.ref Z 0 0/\d 23=.sl 2 (T.map jB.V)/\d 24=int k/\d 25=int j/\Z<N/\M Z=some (Wh p)/\(T.any fun q=>q.flag==p.flag)=(T.drop j).any fun q=>q.flag==p.flag) k
  ⟨by simp[g],by simp[a],by simp[b],by simp[c],by simp,by simp,by simp,by simp,gv _,by simp[Wh,jB.V],by simp⟩ ?_
 clear g a b c;rintro j P Y1 E W ⟨g,a,b,c,F,n,o,r,Q,G,s⟩;have f:=G;simp only[Wh,jB.V]at f;by_cases w:j<k
 ·have t:j<T.length:=by omega
  obtain⟨q,u⟩:=yx (T[j]);have x:=ql j;have I:¬Z=E:=by omega
  rw[zc t,u,yr]at s;cases A:q.flag==p.flag
  ·rw[A,km]at s;simp[g,a,b,c,F,n,o,r,w,t,u,jB.V,f,I,A,x];refine⟨by omega,by omega,by simp[Wh,jB.V],s⟩
  ·rw[A,KI]at s;rw[s,ze rfl]at e;rw[e];simp[g,a,b,c,F,n,o,r,w,t,u,jB.V,f,I,A,zI,f51]
 ·obtain rfl:j=k:=by omega
  rw[wF (by omega)]at s;rw[s]at e;simp only[List.any_nil,zq,qn]at e;simp[g,a,b,c,F,n,o,r,K];exact⟨by omega,e⟩
theorem B0:zf prog 51 (zg false [] FPq):=
 vX (C:=Crpq) (zS mixed ⟨xw,trivial⟩) func51 false [] fun l a=>⟨by simp[f51],_,EO l a,qc _⟩
def KZ(s:za):Nat->List kB->Int
 |_,[]=>-1
 |i,t::l=>if s∈t.keys then i else KZ s (i+1) l
theorem pI(s:za):∀(l:List kB) (i:Nat),decide (0<=KZ s i l)=decide (s∈l.flatMap kB.keys)
 |[],i=>rfl
 |t::l,i=>by
  unfold KZ;by_cases h:s∈t.keys
  ·rw[ze h];simp[h]
  ·rw[zd h,pI s l (i+1)];simp[h]
noncomputable def FTo:zb->Option O:=qf (α:=List kB×za) (fun a=>[.sl 2 (a.1.map kB.V),str a.2]) (fun a=>(a.1.map kB.cb).sum<=zw) fun a=>int (KZ a.2 0 a.1)
theorem OD(l:List kB)(s:za)(Y:Hp)(Z:Nat)(h:(l.map kB.cb).sum<=zw):zg false [] FTo [.sl 2 (l.map kB.V),str s] Y Z=some (int (KZ s 0 l),Y,Z):=
 yA (V:=fun a:List kB×za=>[O.sl 2 (a.1.map kB.V),str a.2]) (fun a b e=>by obtain⟨f,g⟩:=a;obtain⟨i,j⟩:=b;simp only[zh,zA]at e;obtain⟨c,d⟩:=e;injection c with _ c;rw[yX (fun _ _=>sx) c,wb d]) (l,s) (fun Y=>by simp) h (.inl rfl) Y Z
noncomputable abbrev Cto:Ctx:=zR prog [(14,zg false [1] (IG fun l v=>wo (decide (v∈l))))]
theorem SV(l:List kB)(s:za)(h:(l.map kB.cb).sum<=zw):zo Cto f86 [.sl 2 (l.map kB.V),str s]=some (int (KZ s 0 l)):=by
 have n:=kq kB.cb sy l;have j:zw=268435456:=rfl;refine zm rfl ?_;simp;refine zF (fun k U Y Z=>U 1=str s/\U 7=.sl 2 (l.map kB.V)/\U 8=int l.length/\U 9=int k/\KZ s 0 l=KZ s k (l.drop k)) l.length ⟨by simp,by simp,by simp,by simp,by simp⟩ ?_;rintro k U Y Z r ⟨e,f,g,i,b⟩;by_cases a:k<l.length
 ·have o:=ql k;obtain⟨t,c⟩:=yx (l[k]);have u:=vF kB.cb (show t∈l by rw[<-c];exact zj a);have p:t.cb=1+Yr t.keys:=rfl;have q:=Q1 t.keys;have m:=fun Y Z=>JM (fun l v=>wo (decide (v∈l))) t.keys s Y Z (by omega)
  rw[zc a,c,KZ]at b;by_cases d:s∈t.keys
  ·rw[ze d]at b;simp[e,f,g,i,a,c,kB.V,m,d,b,zI,f86]
  ·rw[zd d]at b;simp[e,f,g,i,a,c,kB.V,m,d,o];exact⟨by omega,b⟩
 ·obtain rfl:k=l.length:=by omega
  rw[zn,KZ]at b;simp[e,f,g,i,b,zI,f86]
theorem OE:zf prog 86 (zg false [] FTo):=
 vX (C:=Cto) (zS mixed ⟨kf,trivial⟩) func86 false [] fun⟨l,s⟩ a=>⟨by simp[f86],_,SV l s a,qc _⟩
theorem OG:HJ prog 39=some 2:=by kernel_rfl
theorem OH{α:Type}(f:α->Nat)(l:List α)(k:Nat):((l.take k).map f).sum<=(l.map f).sum:=by
 conv=>rhs;rw[<-vU k l,nR,List.sum_append]
 omega
def Ga(t:kB):kN:=⟨109,2,false,[t.V]⟩
noncomputable abbrev Crtg:Ctx:=zR prog [(85,zg false [] (FS kd)),(86,zg false [] FTo)]
theorem EP(f:wC)(h:f.cb<=zw)(hv:f.vars.length<=20):zo Crtg f52 [.agg f.V]=some (int (JH f.Wz f.vars.length)):=by
 have Po:f.cb=1+f.name.length+Ys f.vars+(f.wT.map jB.cb).sum+(f.Wz.map kB.cb).sum+(f.WW.map Zh.cb).sum+f.WA.cb:=rfl;have nT:zw=268435456:=rfl;have p:=qd f;obtain⟨l,hl⟩:=yx f.Wz;obtain⟨vs,L⟩:∃o,f.vars=o:=⟨_,rfl⟩;rw[hl,L]at p;rw[hl]at Po;rw[L]at hv;rw[hl,L];have hc:(l.map kB.cb).sum<=zw:=by omega
 have hll:=kq kB.cb sy l;refine zm rfl ?_;unfold JH;by_cases c2:(20:Int)<l.length
 ·rw[ze c2];simp[p,c2,zI,f52]
 rw[zd c2];simp[p,c2];refine zF (fun k U Y Z=>U 1=.ref 0 0 0/\U 12=.sl 2 (l.map kB.V)/\U 13=int l.length/\U 14=int k/\0<Z/\Y 0=some (vi f)/\cp vs.length [] l=cp vs.length ((l.take k).flatMap kB.keys) (l.drop k)) l.length
  ⟨by simp,by simp,by simp,by simp,by simp,by simp[vi,p],by simp⟩ ?_
 rintro k U Y Z hk ⟨x,b,c,m,hnx,X,y⟩;have W:¬0=Z:=by omega
 have E:¬Z=0:=by omega
 have n:=X;simp only[vi,p]at n;by_cases u:k<l.length
 case neg=>
  obtain rfl:k=l.length:=by omega
  rw[zn,cp]at y;rw[y];simp[x,b,c,m,zI,f52]
 have hw:=ql k;obtain⟨t,v⟩:=yx (l[k]);have hm:=vF kB.cb (show t∈l by rw[<-v];exact zj u);have htc:t.cb=1+Yr t.keys:=rfl;have htl:=Q1 t.keys;have hkm:=fun s (hs:s∈t.keys)=>Kp hs
 rw[o6 u,v]at y;have hin:jE t.var 0 ((vs.length:Int)-1)=false->cp vs.length [] l=1:=fun e=>by rw[y,e,zd (by simp)]
 rcases cS t.var vs.length with d|⟨d,e⟩|⟨d,e,g⟩
 ·rw[hin (tC d)];simp[x,b,c,m,n,W,E,u,v,kB.V,d,zI,f52]
 ·rw[hin (tD e)];simp[x,b,c,m,n,W,E,u,v,kB.V,d,e,zI,f52]
 rw[g,ze rfl]at y;by_cases d2:t.keys.length=0
 ·rw[ze d2]at y;have G:t.keys=[]:=zT.1 d2;rw[y];simp[x,b,c,m,n,W,E,u,v,kB.V,d,e,G,zI,f52]
 have G:((t.keys.length:Int)==0)=false:=by simpa using d2
 rw[zd d2]at y;by_cases d3:(1000:Int)<t.keys.length
 ·rw[ze d3]at y;rw[y];simp[x,b,c,m,n,W,E,u,v,kB.V,d,e,G,d3,zI,f52]
 rw[zd d3]at y;obtain⟨T,hT⟩:=yx (l.take k);have H:∀Y,yG prog Y 39 (.sl 2 (l.map kB.V)) none (some (some (int k)))=some (.sl 2 (T.map kB.V)):=fun Y=>by rw[QL OG (by rw[w9];omega),<-gS,hT]
 have hTc:(T.map kB.cb).sum<=zw:=by have:=OH kB.cb l k;rw[hT]at this;omega
 have hT1:(l.take (k+1)).flatMap kB.keys=T.flatMap kB.keys++t.keys:=by rw[zX u,hT,v];simp
 rw[hT,<-hT1]at y;obtain⟨seen,F⟩:∃s,T.flatMap kB.keys=s:=⟨_,rfl⟩;rw[F]at y;simp[x,b,c,m,n,W,E,u,v,kB.V,d,e,G,d3];refine zF (fun j q Y' Z'=>q 1=.ref 0 0 0/\q 12=.sl 2 (l.map kB.V)/\q 13=int l.length/\q 14=int k/\q 3=int k/\q 4=.ref Z 0 0/\q 42=.sl 1 (zx t.keys)/\q 43=int t.keys.length/\q 44=int j/\Z<Z'/\Y' 0=some (vi f)/\Y' Z=some (Ga t)/\ub seen none t.keys=ub seen (vx t.keys j) (t.keys.drop j)) t.keys.length
  ⟨by simp[x],by simp[b],by simp[c],by simp[m],by simp,by simp,by simp,by simp,by simp,gv _,by simp[W,n,vi,p],by simp[Ga,kB.V],by simp[vx]⟩ ?_
 clear x b c m X n;rintro j σ1 Y1 nx1 hj ⟨x,b,c,m,M,N,A,B,C,Tx,X,hbt,a⟩;have n:=X;simp only[vi,p]at n;have w:=hbt;simp only[Ga,kB.V]at w;by_cases r:j<t.keys.length
 ·obtain⟨s,hs⟩:=yx (t.keys[j]);have D:s.length<=zw:=by have:=hkm s (by rw[<-hs];exact zj r);omega
  have g3:=fun Y Z=>OD T s Y Z hTc
  have P:=pI s T 0;rw[F]at P;rw[A1 r,hs]at a;have Le:vx t.keys (j+1)=some s:=by simp[vx,r,hs]
  have I:∀z:Int,z≠0->ub seen none t.keys=z->cp vs.length [] l=z:=fun z hz hh=>by rw[y,zd (by rw[hh];exact hz),hh]
  cases K:kd s
  ·rw[K]at a;simp only[zq,qn]at a;rw[I 3 (by decide) a];simp[x,b,c,m,M,N,A,B,C,r,hs,D,K,zI,f52]
  rw[K,ze rfl]at a;have hx:(s∈seen/\0<=KZ s 0 T)\/(s ∉ seen/\¬0<=KZ s 0 T):=by
   by_cases J:s∈seen
   ·exact .inl ⟨J,by simpa[J]using P⟩
   ·exact .inr ⟨J,by simpa[J]using P⟩
  by_cases k0:j=0
  ·subst k0;have w1:=wu 1;simp only[vx,js,qB,zq,qn]at a;rcases hx with⟨Q,R⟩|⟨Q,R⟩
   ·rw[ze Q]at a;rw[I 7 (by decide) a];simp[x,b,c,m,M,N,A,B,C,r,hs,D,K,n,H,g3,R,zI,f52]
   ·rw[zd Q]at a;simp[x,b,c,m,M,N,A,B,C,r,hs,D,K,n,H,g3,R,w1];exact⟨by omega,Tx,by simp[vi,p],by simp[w,Ga,kB.V],by rw[a,Le];simp⟩
  ·obtain⟨i,rfl⟩:∃i,j=i+1:=⟨j-1,by omega⟩;have hi:i<t.keys.length:=by omega
   have wj:IntKind.i64.wrap ((i:Int)+1-1)=(i:Int):=by rw[wR (by omega) (by omega)];omega
   have S:=wu (i:Int);have j1:((i:Int)+1).toNat=i+1:=by omega
   have j2:0<(i:Int)+1:=by omega
   have j3:0<=(i:Int)+1:=by omega
   have j4:(i:Int)+1<t.keys.length:=by omega
   have wk:=wu ((i:Int)+1+1);have el:(Op.bytesLess s t.keys[i]||s==t.keys[i])=Vs s t.keys[i]:=rfl;have hpj:vx t.keys (i+1)=some t.keys[i]:=by simp[vx,hi]
   simp only[hpj,js]at a;cases d4:Vs s t.keys[i]
   ·rw[d4]at a;simp only[zq,qn]at a;rcases hx with⟨Q,R⟩|⟨Q,R⟩
    ·rw[ze Q]at a;rw[I 7 (by decide) a];simp[x,b,c,m,M,N,A,B,C,hi,r,hs,D,K,w,wj,S,j1,j2,j3,j4,el,d4,n,H,g3,R,zI,f52]
    ·rw[zd Q]at a;simp[x,b,c,m,M,N,A,B,C,hi,r,hs,D,K,w,wj,S,j1,j2,j3,j4,el,d4,n,H,g3,R,wk];exact⟨by omega,Tx,by simp[vi,p],rfl,by rw[a,Le]⟩
   ·rw[d4,ze rfl]at a;rw[I 8 (by decide) a];simp[x,b,c,m,M,N,A,B,C,hi,r,hs,D,K,w,wj,S,j1,j2,j3,j4,el,d4,zI,f52]
 obtain rfl:j=t.keys.length:=by omega
 rw[zn,ub]at a;rw[a,ze rfl]at y;simp[x,b,c,m,M,N,A,B,C,hw];exact⟨by omega,by omega,X,y⟩
noncomputable def FFgV (out:wC->O):zb->Option O:=qf (α:=wC) (fun f=>[.agg f.V]) (fun f=>f.cb<=zw/\1<=f.vars.length/\f.vars.length<=20) out
theorem IX(out:wC->O)(f:wC)(Y:Hp)(Z:Nat)(h:f.cb<=zw/\1<=f.vars.length/\f.vars.length<=20):zg false [] (FFgV out) [.agg f.V] Y Z=some (out f,Y,Z):=
 yA (V:=fun f:wC=>[O.agg f.V]) (fun a b e=>by simp only[zh,zA,O.agg.injEq]at e;exact WS e) f (fun Y=>by simp[qd]) h (.inr (by simp[qd])) Y Z
theorem B4:zf prog 52 (zg false [] (FFgV fun f=>int (JH f.Wz f.vars.length))):=
 vX (C:=Crtg) (zS mixed ⟨bD,OE,trivial⟩) func52 false [] fun f a=>⟨by simp[f52],_,EP f a.1 a.2.2,qc _⟩
def yz(n:za):List wC->Option wC
 |[]=>none
 |f::l=>if f.name=n then some f else yz n l
def V3:wC:=⟨[],false,[],0,[],[],[],⟨0,[],[],[]⟩⟩
def tE(r:Option wC):wC:=r.getD V3
def Yp(r:Option wC):O:=.wP [.agg (tE r).V,wo r.isSome]
theorem B5{l:List wC}{k:Nat}(h:k<l.length)(s:za):yz s (l.drop k)=if l[k].name=s then some l[k]else yz s (l.drop (k+1)):=by rw[zc h,yz]
theorem mB:qX (.agg [str [],wo false,.nil,int 0,.nil,.nil,.nil,int 0,str [],str [],.nil]) (.agg V3.V):=by rw[qd];exact ka.agg (.cons (.refl _) (.cons (.refl _) (.cons (.ah (.inl ⟨rfl,rfl⟩)) (.cons (.refl _) (.cons (.ah (.inl ⟨rfl,rfl⟩)) (.cons (.ah (.inl ⟨rfl,rfl⟩)) (.cons (.ah (.inl ⟨rfl,rfl⟩)) (.cons (.refl _) (.cons (.refl _) (.cons (.refl _) (.cons (.ah (.inl ⟨rfl,rfl⟩)) .nil)))))))))))
theorem tF(c:ky)(s:za)(h:c.cb<=zw):∃q,zo C0 f18 [.agg c.V,str s]=some q/\qX q (Yp (yz s c.flags)):=by
 have i:=eA c h;obtain⟨S,l⟩:=c;simp only at i⊢;unfold zw at i;refine WO rfl ?_;simp[ky.V];refine zF (fun k U Y Z=>U 1=str s/\U 4=.ref 1 0 0/\U 9=.sl 11 (l.map wC.V)/\U 10=int l.length/\U 11=int k/\2<=Z/\Y 1=some ⟨45,11,false,[[str [],wo false,.nil,int 0,.nil,.nil,.nil,int 0,str [],str [],.nil]]⟩/\yz s l=yz s (l.drop k)) l.length
  ⟨by simp,by simp,by simp,by simp,by simp,by simp,by simp[qb,qE],by simp⟩ ?_
 rintro k U Y Z u ⟨j,m,n,a,b,r,o,e⟩;have n1:¬1=Z:=by omega
 have f:¬Z=1:=by omega
 by_cases g:k<l.length
 ·have t:=ql k;rw[B5 g]at e;by_cases d:l[k].name=s
  ·rw[ze d]at e;have p:(l[k].name==s)=true:=by simpa using d
   rw[e];simp[j,m,n,a,b,g,qd l[k],p,n1,f,o,f18];exact⟨Yp (some l[k]),by simp[Yp,tE,qd],.refl _⟩
  ·rw[zd d]at e;have p:=jD d;simp[j,m,n,a,b,g,qd l[k],p,n1,f,t]
   and_intros<;>first|omega|exact e|simp[n1,f,o]
 ·obtain rfl:k=l.length:=by omega
  rw[zn]at e;rw[e];simp[j,m,n,a,b,yz,o,qb,qE,f18];refine⟨.wP [.agg [str [],wo false,.nil,int 0,.nil,.nil,.nil,int 0,str [],str [],.nil],wo false],by simp,?_⟩;exact ka.wP (.cons mB (.cons (.refl _) .nil))
theorem Jd:zf prog 18 (zg false [] (mA fun c s=>Yp (yz s c.flags))):=
 Qu (fn:=f18) (qq (q:=[]) mixed trivial:AM.Good C0 _) (qN func18) false [] _ fun args r h w S vs a=>by obtain⟨⟨c,s⟩,rfl,b,rfl⟩:=zN h;obtain⟨d,e,f⟩:=tF c s b;exact⟨_,d,a,by simp[f18],e,f⟩
noncomputable def pJ (a:List qA) (f:wC):Int:=if KY a f.WW f.vars.length=0 then XF f.WA f.vars.length else KY a f.WW f.vars.length
noncomputable def FSF (out:List qA->wC->O) (b:List qA->wC->Prop):zb->Option O:=qf (α:=List qA×wC) (fun a=>[.sl 10 (a.1.map qA.V),.agg a.2.V]) (fun a=>b a.1 a.2) fun a=>out a.1 a.2
theorem OI(out:List qA->wC->O)(d:List qA->wC->Prop)(c:List qA)(f:wC)(Y:Hp)(Z:Nat)(h:d c f):zg false [] (FSF out d) [.sl 10 (c.map qA.V),.agg f.V] Y Z=some (out c f,Y,Z):=
 yA (V:=fun a:List qA×wC=>[O.sl 10 (a.1.map qA.V),.agg a.2.V]) (fun a b e=>by obtain⟨g,i⟩:=a;obtain⟨j,k⟩:=b;simp only[zh,zA,O.agg.injEq]at e;rw[vO e.1,WS e.2]) (c,f) (fun Y=>by simp[qd]) h (.inr (by simp[qd])) Y Z
def Gb(a:List qA)(f:wC):Prop:=Jg a<=zw/\XE (a.map qA.name)/\f.cb<=zw/\1<=f.vars.length/\f.vars.length<=20
noncomputable abbrev Crru:Ctx:=zR prog [(49,zg false [] (FS qG)),(79,GC fun c=>int c.check),(80,zg false [] (FC (fun c=>.sl 1 (zx c.names)) zw)),(81,zg false [] (H9 (fun l s=>YN (ym s l)) fun l _=>l.length<=zw)),(87,zg false [] HK)]
theorem nO{L:List qA}(h:XE (L.map qA.name))(s:za):(ym s L).isSome=j7 L s:=by
 rcases cx h s with⟨a,_,b,_⟩|⟨a,b⟩
 ·rw[a,b];rfl
 ·rw[a,b];rfl
set_option maxHeartbeats 8000000 in
theorem ER(b:List qA)(f:wC)(h:Gb b f):zo Crru f53 [.sl 10 (b.map qA.V),.agg f.V]=some (int (pJ b f)):=by
 obtain⟨hs,hup,hfc,hv1,hv2⟩:=h;have Po:f.cb=1+f.name.length+Ys f.vars+(f.wT.map jB.cb).sum+(f.Wz.map kB.cb).sum+(f.WW.map Zh.cb).sum+f.WA.cb:=rfl;have nT:zw=268435456:=rfl;have UE:=Kq b;have v:=qd f;unfold pJ;obtain⟨l,hl⟩:=yx f.WW;obtain⟨vs,P⟩:∃o,f.vars=o:=⟨_,rfl⟩;obtain⟨fa,Q⟩:∃o,f.WA=o:=⟨_,rfl⟩;rw[hl,P,Q]at v;rw[hl,Q]at Po;rw[P]at hv1 hv2;rw[hl,P,Q];have hll:=kq Zh.cb FH l;have g9:=fun Y Z=>Xm fa vs.length Y Z ⟨by omega,by omega,by omega⟩
 simp only[JR.V]at g9;refine zm rfl ?_;unfold KY;by_cases c2:(40:Int)<l.length
 ·rw[ze c2];simp[v,c2,zI,f53]
 rw[zd c2];have A:∀z:Int,z≠0->ct b vs.length [] l=z->(if ct b vs.length [] l=0 then XF fa vs.length else ct b vs.length [] l)=z:=fun z hz hh=>by rw[hh,zd hz]
 simp[v,c2];refine zF (fun k U Y Z=>U 0=.sl 10 (b.map qA.V)/\U 3=.ref 0 0 0/\U 20=.sl 12 (l.map Zh.V)/\U 21=int l.length/\U 22=int k/\0<Z/\Y 0=some (vi f)/\ct b vs.length [] l=ct b vs.length (l.take k) (l.drop k)) l.length
  ⟨by simp,by simp,by simp,by simp,by simp,by simp,by simp[vi,v],by simp⟩ ?_
 rintro k U Y Z hk ⟨w,x,e,g,m,hnx,N,u⟩;have n0:¬0=Z:=by omega
 have n0':¬Z=0:=by omega
 have t:=N;simp only[vi,v]at t;by_cases H:k<l.length
 case neg=>
  obtain rfl:k=l.length:=by omega
  rw[zn,ct]at u;rw[ze u];simp[w,x,e,g,m,t,g9,zI,f53]
 have hw:=ql k;obtain⟨r,I⟩:=yx (l[k]);have hm:=vF Zh.cb (show r∈l by rw[<-I];exact zj H);have hrc:r.cb=1+r.name.length+r.cond.cb+r.uc.cb:=rfl;have hfl:r.name.length<=zw:=by omega
 have hnc:=vQ r.cond.cb r.cond (zk _);have g2:=fun Y Z=>Zv (fun c=>int c.check) r.cond Y Z (by omega)
 have g3:=fun Y Z=>QX (fun c=>.sl 1 (zx c.names)) zw r.cond Y Z ⟨by omega,by omega⟩
 have g4:=fun Y Z=>Xm r.uc vs.length Y Z ⟨by omega,by omega,by omega⟩
 rw[q6]at g2 g3;simp only[JR.V]at g4;rw[o9 H,I]at u;cases d1:qG r.name
 ·rw[d1]at u;simp only[zq,qn]at u;rw[A 5 (by decide) u];simp[w,x,e,g,m,H,I,jU r,hfl,d1,zI,f53]
 rw[d1,ze rfl]at u;obtain⟨T,hT⟩:=yx (l.take k);have hTl:T.length=k:=by rw[<-hT,wB];omega
 have hsp:∀Y,yG prog Y 40 (.sl 12 (l.map Zh.V)) none (some (some (int k)))=some (.sl 12 (T.map Zh.V)):=fun Y=>by rw[QL AY (by rw[w9];omega),<-gS,hT]
 rw[hT]at u;simp[w,x,e,g,m,t,n0,n0',H,I,jU r,hfl,d1,hsp,hTl];refine zF (fun j d Y' Z'=>d 0=.sl 10 (b.map qA.V)/\d 3=.ref 0 0 0/\d 20=.sl 12 (l.map Zh.V)/\d 21=int l.length/\d 22=int k/\d 6=.ref Z 0 0/\d 34=.sl 12 (T.map Zh.V)/\d 35=int k/\d 36=int j/\Z<Z'/\Y' 0=some (vi f)/\Y' Z=some (YL r)/\(T.any fun q=>q.name==r.name)=(T.drop j).any fun q=>q.name==r.name) k
  ⟨by simp[w],by simp[x],by simp[e],by simp[g],by simp[m],by simp,by simp,by simp,by simp,gv _,by simp[n0,t,vi,v],by simp[YL,jU r],by simp⟩ ?_
 clear w x e g m N t;rintro j σ1 Y1 nx1 hj ⟨w,x,e,g,m,B,C,D,E,R,N,F,y⟩;have t:=N;simp only[vi,v]at t;have p:=F;simp only[YL,jU r]at p;have m1:¬Z=nx1:=by omega
 have m2:¬0=nx1:=by omega
 by_cases PH:j<k
 ·have S:j<T.length:=by omega
  obtain⟨q,W⟩:=yx (T[j]);have hwj':=ql j;rw[zc S,W,yr]at y;cases J:q.name==r.name
  ·rw[J,km]at y;simp[w,x,e,g,m,B,C,D,E,PH,S,W,jU q,p,m1,J,hwj'];exact⟨by omega,by omega,by simp[m2,t,vi,v],by simp[YL,jU r],y⟩
  ·rw[J,KI]at y;rw[y,ze rfl]at u;rw[A 7 (by decide) u];simp[w,x,e,g,m,B,C,D,E,PH,S,W,jU q,p,m1,J,zI,f53]
 obtain rfl:j=k:=by omega
 rw[wF (by omega)]at y;rw[y]at u;simp only[List.any_nil,zq,qn]at u;by_cases d5:r.cond.check=0
 case neg=>have d5':=xN d5;rw[zd d5]at u;rw[A _ d5 u];simp[w,x,e,g,m,B,C,D,E,p,g2,d5',zI,f53]
 rw[ze d5]at u;rw[d5]at g2;obtain⟨G,hns⟩:∃n,r.cond.names=n:=⟨_,rfl⟩;have Tv:ke b r.cond=G.all (j7 b):=by unfold ke;rw[hns]
 rw[hns]at g3 hnc;rw[Tv]at u;have hel:(zx G).length=G.length:=by simp[zx]
 simp[w,x,e,g,m,B,C,D,E,p,g2,g3,hel];refine zF (fun i d Y' Z'=>d 0=.sl 10 (b.map qA.V)/\d 3=.ref 0 0 0/\d 20=.sl 12 (l.map Zh.V)/\d 21=int l.length/\d 22=int j/\d 6=.ref Z 0 0/\d 54=.sl 1 (zx G)/\d 55=int G.length/\d 56=int i/\Z<Z'/\Y' 0=some (vi f)/\Y' Z=some (YL r)/\G.all (j7 b)=(G.drop i).all (j7 b)) G.length
  ⟨by simp[w],by simp[x],by simp[e],by simp[g],by simp[m],by simp[B],by simp,by simp,by simp,R,N,F,by simp⟩ ?_
 clear w x e g m B C D E N t F p m1 m2 R y;rintro i σ2 Y2 CJ hi ⟨w,x,e,g,m,B,K,L,M,R,N,F,y⟩;have t:=N;simp only[vi,v]at t;have p:=F;simp only[YL,jU r]at p;have m1:¬Z=CJ:=by omega
 have m2:¬0=CJ:=by omega
 by_cases X:i<G.length
 ·obtain⟨a,hai⟩:=yx (G[i]);have hwi:=ql i;have g5:=fun Y Z=>ea (fun l s=>YN (ym s l)) (fun l _=>l.length<=zw) b a Y Z (by omega)
  have pS:YN (ym a b)=.wP [.agg (Bc (ym a b)).V,wo (j7 b a)]:=by unfold YN;rw[nO hup]
  simp only[pS,w8]at g5;rw[zc X,hai,wO]at y;cases J:j7 b a
  ·rw[J,JP]at y;rw[y]at u;simp only[zq,qn]at u;rw[J]at g5;rw[A 9 (by decide) u];simp[w,x,e,g,m,B,K,L,M,X,hai,g5,zI,f53]
  ·rw[J,kX]at y;rw[J]at g5;simp[w,x,e,g,m,B,K,L,M,X,hai,g5,hwi];exact⟨by omega,by omega,by simp[m2,t,vi,v],by simp[m1,p,YL,jU r],y⟩
 obtain rfl:i=G.length:=by omega
 rw[zn,tP]at y;rw[y,ze rfl]at u;by_cases d7:XF r.uc vs.length=0
 ·rw[ze d7]at u;rw[d7]at g4;simp[w,x,e,g,m,B,K,L,M,t,p,g4,hw];exact⟨by omega,by omega,by simp[vi,v],u⟩
 ·have d7':=xN d7;rw[zd d7]at u;rw[A _ d7 u];simp[w,x,e,g,m,B,K,L,M,t,p,g4,d7',zI,f53]
theorem B6:zf prog 53 (zg false [] (FSF (fun s f=>int (pJ s f)) Gb)):=
 vX (C:=Crru) (zS mixed ⟨xw,af,Jb zw,QM,EM,trivial⟩) func53 false [] fun⟨s,f⟩ a=>⟨by simp[f53],_,ER s f a,qc _⟩
end Go.Q
namespace Go.AM
structure CH {α:Type} (next:α->List α) (a0:α) (x:Option α) (out queue:List α):Prop where
 nodup:out.Nodup
 only:∀a∈out,Yu next (next a0) a
 qs:∀a∈queue,a=a0\/a∈out
 cur:∀a,x=some a->a=a0\/a∈out
 step:∀a,a=a0\/a∈out->a∈queue\/x=some a\/∀b∈next a,b∈out
theorem CH.begin{α:Type}(next:α->List α)(b:α):CH next b none [] [b]:=
 ⟨.nil,(fun a h=>by cases h),fun a h=>.inl (by simpa using h),(fun a h=>by cases h),fun a h=>by
  rcases h with rfl|h
  ·exact .inl (by simp)
  ·cases h⟩
theorem CH.pop{α:Type}{next:α->List α}{d a:α}{out q:List α}(h:CH next d none out (a::q)):CH next d (some a) out q:=
 ⟨h.nodup,h.only,fun b c=>h.qs b (by simp[c]),fun b c=>by
  injection c with c;subst c;exact h.qs _ (by simp),fun b c=>by
  rcases h.step b c with h1|h1|h1
  ·rcases zv.1 h1 with rfl|h1
   ·exact .inr (.inl rfl)
   ·exact .inl h1
  ·cases h1
  ·exact .inr (.inr h1)⟩
theorem CH.push{α:Type}{next:α->List α}{g a b:α}{out q:List α}(h:CH next g (some a) out q)(j:b∈next a)(l:b ∉ out):CH next g (some a) (out++[b]) (q++[b]):=by
 refine⟨?_,fun c hc=>?_,fun c hc=>?_,fun c hc=>?_,fun c hc=>?_⟩
 ·rw[Gj];refine⟨h.nodup,by simp,fun x m y k=>?_⟩;rintro rfl;simp at k;subst k;exact l m
 ·rcases zK.1 hc with hc|hc
  ·exact h.only c hc
  ·simp at hc;subst hc;rcases h.cur a rfl with rfl|ha
   ·exact .here j
   ·exact .there (h.only a ha) j
 ·rcases zK.1 hc with hc|hc
  ·rcases h.qs c hc with e|e
   ·exact .inl e
   ·exact .inr (by simp[e])
  ·exact .inr (zK.2 (.inr hc))
 ·rcases h.cur c hc with e|e
  ·exact .inl e
  ·exact .inr (by simp[e])
 ·by_cases f:c=b
  ·exact .inl (by simp[f])
  ·have i:c=g\/c∈out:=hc.imp (fun e=>e) fun e=>by simpa[f]using e
   rcases h.step c i with e|e|e
   ·exact .inl (by simp[e])
   ·exact .inr (.inl e)
   ·exact .inr (.inr fun d hd=>by simp[e d hd])
theorem CH.fin{α:Type}{next:α->List α}{d a:α}{out q:List α}(h:CH next d (some a) out q)(hd:∀b∈next a,b∈out):CH next d none out q:=
 ⟨h.nodup,h.only,h.qs,(fun a h=>by cases h),fun c f=>by
  rcases h.step c f with e|e|e
  ·exact .inl e
  ·injection e with e;subst e;exact .inr (.inr hd)
  ·exact .inr (.inr e)⟩
theorem CH.done{α:Type}{next:α->List α}{c:α}{out:List α}(h:CH next c none out [])(b:α):b∈out↔Yu next (next c) b:=by
 have d:∀a,a=c\/a∈out->∀b∈next a,b∈out:=fun a f=>by
  rcases h.step a f with e|e|e
  ·cases e
  ·cases e
  ·exact e
 refine⟨h.only b,fun g=>?_⟩
 induction g with
 |here e=>exact d c (.inl rfl) _ e
 |there _ e i=>exact d _ (.inr i) _ e
theorem OJ{α:Type}[DecidableEq α]:∀{l m:List α},l.Nodup->(∀a∈l,a∈m)->l.length<=m.length
 |[],_,_,_=>j9 _
 |a::l,m,h,hs=>by
  obtain⟨e,f⟩:=List.nodup_cons.1 h;have c:=hs a (by simp);have:=OJ (l:=l) (m:=m.erase a) f fun b d=>by rw[List.mem_erase_of_ne (by rintro rfl;exact e d)];exact hs b (by simp[d])
  have g:=List.length_erase_of_mem c;have Y:=List.length_pos_of_mem c;simp only[zP];omega
end Go.AM
namespace Go.Q
theorem pK:∀{L:List wC} {s:za},(∃y∈L,y.name=s)->∃j:Nat,∃h:j<L.length,yz s L=some L[j]/\L[j].name=s
 |[],s,h=>by obtain⟨y,hy,_⟩:=h;cases hy
 |x::L,s,h=>by
  by_cases a:x.name=s
  ·exact⟨0,by simp,by simp[yz,a],a⟩
  ·obtain⟨y,hy,e⟩:=h;rcases zv.1 hy with rfl|hy
   ·exact absurd e a
   ·obtain⟨j,b,c,d⟩:=pK ⟨y,hy,e⟩;exact⟨j+1,by simpa using b,by simp[yz,a,c],by simpa using d⟩
theorem fJ:∀{L:List wC} {s:za},(∀y∈L,y.name≠s)->yz s L=none
 |[],s,_=>rfl
 |x::L,s,h=>by have a:=h x (by simp);simp only[yz,zd a];exact fJ fun y b=>h y (by simp[b])
theorem KD{L:List wC}(h:XE (L.map wC.name))(s:za):(xq L s=true/\∃a:j8 L s<L.length,yz s L=some L[j8 L s]/\L[j8 L s].name=s)\/(xq L s=false/\yz s L=none):=by
 by_cases b:∃y∈L,y.name=s
 ·obtain⟨j,a,f,d⟩:=pK b;have:=lQ h (j:=j) (s:=s) (by simp[a,d]);unfold xq j8;rw[this];exact .inl ⟨rfl,a,f,d⟩
 ·refine .inr ⟨?_,fJ fun y g e=>b ⟨y,g,e⟩⟩;unfold xq;cases i:(Qp (L.map wC.name) s).2 with
  |false=>rfl
  |true=>
   have:=ss i;rw[qo]at this;cases c:L[(Qp (L.map wC.name) s).1]? with
   |none=>rw[c]at this;cases this
   |some y=>rw[c]at this;simp only[zy,zW]at this;exact absurd ⟨y,zL c,this⟩ b
theorem mC{L:List wC}(h:XE (L.map wC.name)){j:Nat}(a:j<L.length):xq L L[j].name=true/\j8 L L[j].name=j:=by have:=lQ h (j:=j) (s:=L[j].name) (by simp[a]);unfold xq j8;rw[this];exact⟨rfl,rfl⟩
def kK(l:List wC)(n:za):List za:=(tE (yz n l)).wT.map jB.flag
open Classical in
noncomputable def kT (l:List wC) (n:za):List za:=if h:∃L,XE L/\∀x,x∈L↔Yu (kK l) (kK l n) x then h.choose else[]
theorem pL{l:List wC}{n:za}{L:List za}(b:XE L)(d:∀x,x∈L↔Yu (kK l) (kK l n) x):kT l n=L:=by have a:∃L,XE L/\∀x,x∈L↔Yu (kK l) (kK l n) x:=⟨L,b,d⟩;unfold kT;rw[Te a];exact EA _ _ a.choose_spec.1 b fun c=>(a.choose_spec.2 c).trans (d c).symm
theorem IY{l:List wC}{n:za}{out:List za}(h:CH (kK l) n none out []):Lib.compact (out.mergeSort fun x y=>decide (x<=y))=kT l n:=by
 have b:=tj h.nodup;have Y:=pR out fun x y=>decide (x<=y)
 have c:∀a,a∈(out.mergeSort fun x y=>decide (x<=y))↔Yu (kK l) (kK l n) a:=fun a=>Y.mem_iff.trans (h.done a)
 rw[Q4 (Y.nodup_iff.2 h.nodup)];exact(pL b c).symm
structure WI (l:List wC):Prop where
 len:l.length<=200
 up:XE (l.map wC.name)
 has:∀f∈l,∀p∈f.wT,xq l p.flag=true
theorem eF{c:List qA}:∀(l:List wC) (p:Option za),vP c p l=0->XE (l.map wC.name)/\(∀q,p=some q->∀b∈l.map wC.name,Op.bytesLess q b=true)
 |[],p,_=>⟨.nil,fun _ _ _ hb=>by cases hb⟩
 |a::l,p,h=>by
  simp only[vP]at h;split at h
  case isFalse=>simp at h
  split at h
  ·simp at h
  rename_i f;split at h
  case isFalse g=>exact absurd h g
  obtain⟨i,e⟩:=eF l _ h;refine⟨wG.2 ⟨e _ rfl,i⟩,fun q j b hb=>?_⟩;subst j;have d:Op.bytesLess q a.name=true:=vM (by simpa[js]using f);rcases zv.1 hb with rfl|hb
  ·exact d
  ·exact xV d (e _ rfl b hb)
theorem tG{c:ky}(h:ZP c=0):WI c.flags:=by
 obtain⟨b,d,_⟩:=eB h;refine⟨b,?_,fun f e p Y=>(ZL (ZM d f e) p Y).1⟩;unfold ZP at h;split at h
 case isFalse a=>exact absurd h a
 split at h
 ·simp at h
 split at h
 case isFalse a=>exact absurd h a
 rename_i g;exact(eF _ _ g).1
theorem JN{l:List wC}(h:∀f∈l,∀p∈f.wT,xq l p.flag=true)(i:Nat):∀j∈wI l i,j<l.length:=by
 intro j a;unfold wI at a;split at a
 ·rename_i s hs;obtain⟨n,b,rfl⟩:=qw.1 a;exact JI (h s (zL hs) n b)
 ·cases a
theorem Xv{l:List wC}(h:WI l){i:Nat}(hi:i<l.length):kK l l[i].name=(wI l i).map fun j=>(l[j]?.getD V3).name:=by
 obtain⟨e,f⟩:=mC h.up hi;rcases KD h.up l[i].name with⟨_,g,a,_⟩|⟨a,_⟩
 ·unfold kK wI;rw[a,zl hi];have c:l[j8 l l[i].name]=l[i]:=by congr 1
  simp only[tE,Wo,c,List.map_map];refine pQ fun p Y=>?_
  rcases KD h.up p.flag with⟨_,d,_,b⟩|⟨b,_⟩
  ·simp only[Function.comp,zl d,Wo,b]
  ·rw[h.has _ (zj hi) p Y]at b;cases b
 ·rw[e]at a;cases a
theorem tH{l:List wC}(h:WI l)(i:Nat):Vis (wI l) l.length [] (wI l i) (gu l i):=by have a:=tA l.length;have b:=h.len;exact mv (F6 (JN h.has) 268435457) _ _ (by simp) (by simp) (fun k c=>JN h.has i k c) (by omega)
theorem gO{l:List wC}(h:WI l)(i j:Nat):j∈gu l i↔Wr (fun a b=>b∈wI l a) i j:=by
 have c:=tH h i;constructor
 ·intro f;rcases c.from_ j f with e|⟨k,d,e⟩
  ·cases e
  ·rcases e with rfl|e
   ·exact .one d
   ·exact(Wr.one (E:=fun a b=>b∈wI l a) d).trans e
 ·intro g
  induction g with
  |one e=>exact c.here _ e
  |tail _ e m=>exact c.shut _ m (by simp) _ e
theorem Gc{l:List wC}{f:Nat->Bool}{x:za}{k:Nat}:x∈Yo l f k↔∃j,j<k/\f j=true/\∃a:j<l.length,l[j].name=x:=by
 unfold Yo;rw[List.mem_filterMap];constructor
 ·rintro⟨j,a,e⟩;split at e
  ·rename_i b;rw[Option.map_eq_some_iff]at e;obtain⟨y,d,g⟩:=e;obtain⟨c,h⟩:=zi.1 d;exact⟨j,ye.1 a,b,c,by rw[h];exact g⟩
  ·cases e
 ·rintro⟨j,a,b,c,e⟩;exact⟨j,ye.2 a,by rw[ze b,zl c,zy,e]⟩
theorem Ge(l:List wC)(f:Nat->Bool):∀k,k<=l.length->(Yo l f k).Sublist ((l.map wC.name).take k)
 | 0,_=>by simp[Yo]
 |k+1,h=>by
  have a:=Ge l f k (by omega);rw[eE (by omega),zX (by rw[w9];omega)];refine a.append ?_;split
  ·simp
  ·simp
theorem za6{l:List wC}(h:XE (l.map wC.name))(f:Nat->Bool):XE (Yo l f l.length):=
 List.Pairwise.sublist ((Ge l f l.length (zk _)).trans (List.take_sublist _ _)) h
theorem OK{l:List wC}(h:WI l){i:Nat}(hi:i<l.length)(x:za):Yu (kK l) (kK l l[i].name) x↔∃j,j∈gu l i/\∃d:j<l.length,l[j].name=x:=by
 have m:=tH h i;constructor
 ·intro q
  induction q with
  |here e=>rw[Xv h hi]at e;obtain⟨j,d,rfl⟩:=qw.1 e;have c:=JN h.has i j d;exact⟨j,m.here _ d,c,by rw[zl c];rfl⟩
  |there _ e n=>obtain⟨j,d,c,rfl⟩:=n;rw[Xv h c]at e;obtain⟨k,p,rfl⟩:=qw.1 e;have f:=JN h.has j k p;exact⟨k,m.shut _ d (by simp) _ p,f,by rw[zl f];rfl⟩
 ·rintro⟨j,d,c,rfl⟩;have r:=(gO h i j).1 d;clear d
  induction r with
  |one e=>refine .here ?_;rw[Xv h hi];exact qw.2 ⟨_,e,by rw[zl c];rfl⟩
  | @tail a b o e n=>have g:a<l.length:=m.lt a ((gO h i a).2 o);refine .there (n g) ?_;rw[Xv h g];exact qw.2 ⟨_,e,by rw[zl c];rfl⟩
theorem cT{l:List wC}(h:WI l){i:Nat}(hi:i<l.length):kT l l[i].name=Yo l (fun j=>decide (j∈gu l i)) l.length:=
 pL (za6 h.up _) fun x=>by
  rw[Gc,OK h hi];constructor
  ·rintro⟨j,_,b,a,e⟩;exact⟨j,by simpa using b,a,e⟩
  ·rintro⟨j,b,a,e⟩;exact⟨j,a,by simpa using b,a,e⟩
theorem mD{l:List wC}(h:WI l){i j:Nat}(hi:i<l.length)(a:j<l.length):l[j].name∈kT l l[i].name↔j∈gu l i:=by
 rw[cT h hi,Gc];constructor
 ·rintro⟨k,c,d,_,e⟩;have b:=(mC h.up c).2;rw[e,(mC h.up a).2]at b;subst b;simpa using d
 ·intro f;exact⟨j,a,by simpa using f,a,rfl⟩
theorem ES{l:List wC}(h:WI l):Yj l=true↔∃i:Nat,Wr (fun a b=>b∈wI l a) i i:=by
 have G:=h.len;constructor
 ·intro E;have f:∀(q:List Nat) (s:List Int),(∀g:Nat,s[g]?≠some 1)->(qP (yE (wI l) 268435457) s q).1=true->∃c,Wr (fun a b=>b∈wI l a) c c:=by
   intro q
   induction q with
   |nil=>intro s _ e;simp[qP]at e
   |cons a q p=>
    intro s hs e;simp only[qP]at e;split at e
    ·rename_i r;exact aJ (wI l) _ s a (fun g k=>(hs g k).elim) r
    ·exact p _ (fun g k=>hs g (((jt (wI l) _ s a).Lg g).1 k)) e
  refine f _ _ (fun g k=>?_) E;rw[xI]at k;split at k<;>simp at k
 ·rintro⟨i,hi⟩;refine ZS fun t=>?_
  have t:Yj l=false:=by simpa using t
  have hs:=JN h.has;have f:∀(q:List Nat) (s:List Int),(∀v∈s,v=0\/v=1\/v=2)->s.length=l.length->vN s<268435457->(∀b∈q,b<l.length)->(∀j:Nat,s[j]?=some 2->Acc (fun x y=>x∈wI l y) j)->(qP (yE (wI l) 268435457) s q).1=false ->
    ∀b,b∈q->Acc (fun x y=>x∈wI l y) b:=by
   intro q
   induction q with
   |nil=>intro s _ _ _ _ _ _ b d;cases d
   |cons a q p=>
    intro s n m B C d e;simp only[qP]at e;split at e
    ·simp at e
    ·rename_i r;have u:=jt (wI l) 268435457 s a;obtain⟨D,F⟩:=VF (wI l) _ s a n B (by rw[m];exact C a (by simp)) (fun x b d=>by rw[m];exact hs x b d) d (by simpa using r);intro b Th;rcases zv.1 Th with rfl|Th
     ·exact D b F
     ·exact p _ (u.kP n) (u.len.trans m) (vY u.wh B) (fun b d=>C b (by simp[d])) D e b Th
  have o:=f (List.range l.length) (List.replicate l.length 0) (fun v n=>by rw[zgg]at n;exact .inl n.2) (by simp) (by rw[Kr];omega) (fun b d=>ye.1 d)
   (fun j w=>by rw[xI]at w;split at w<;>simp at w) t
  obtain⟨b,d,_⟩:=hi.head;have z:i<l.length:=by
   refine Nat.lt_of_not_le fun A=>?_
   unfold wI at d;rw[jr A]at d;cases d
  exact AH (o i (ye.2 z)) hi
theorem IZ{l:List wC}(h:WI l):(l.any fun f=>decide (f.name∈kT l f.name))=Yj l:=by
 rw[qx,ES h,List.any_eq_true];constructor
 ·rintro⟨f,b,e⟩;obtain⟨i,hi,rfl⟩:=List.mem_iff_getElem.1 b;exact⟨i,(gO h i i).1 ((mD h hi hi).1 (by simpa using e))⟩
 ·rintro⟨i,c⟩;have a:=(gO h i i).2 c;have hi:=(tH h i).lt i a;exact⟨l[i],zj hi,by simpa using(mD h hi hi).2 a⟩
end Go.Q
namespace Go.AM
variable{dr:Prop}{C:Ctx}{N:Nat}{pf:FuncId->Bool}
variable{dr:Prop}{C:Ctx}{N:Nat}{pf:FuncId->Bool}
variable{dr:Prop}{C:Ctx}{N:Nat}{pf:FuncId->Bool}
structure Des (d:Nat->Nat) (v:Nat->O) (n:Nat) (σ0:Nat->O) (ls:Array Bool) (U:Nat->O):Prop where
 done:∀j,j<n->ls[j]?=some true->U (d j)=v j
 rest:∀t,(∀j,j<n->d j≠t)->U t=σ0 t
variable{dr:Prop}{C:Ctx}{N:Nat}{pf:FuncId->Bool}
section
variable{f:FuncId}{fn:Func}{code:Code}
end
end Go.AM
namespace Go.Q
theorem bd:∀{L:List wC} {s:za} {f:wC},yz s L=some f->f∈L
 |[],_,_,h=>by cases h
 |x::L,s,f,h=>by
  unfold yz at h;split at h
  ·injection h with h;subst h;simp
  ·exact zeg _ (bd h)
theorem mE{l:List wC}(h:WI l)(a:za):∀b∈kK l a,b∈l.map wC.name:=by
 intro b c;unfold kK at c;cases e:yz a l with
 |none=>rw[e]at c;simp[tE,V3]at c
 |some f=>
  rw[e]at c;obtain⟨p,Y,rfl⟩:=qw.1 c;rcases KD h.up p.flag with⟨_,g,_,d⟩|⟨d,_⟩
  ·exact qw.2 ⟨_,zj g,d⟩
  ·rw[h.has f (bd e) p Y]at d;cases d
theorem ET{l:List wC}(h:WI l){n a:za}(b:Yu (kK l) (kK l n) a):a∈l.map wC.name:=by
 cases b with
 |here e=>exact mE h _ _ e
 |there _ e=>exact mE h _ _ e
theorem tI{l:List wC}(h:WI l){c:za}{x:Option za}{out q:List za}(b:CH (kK l) c x out q):out.length<=l.length:=by
 have:=OJ b.nodup (m:=l.map wC.name) fun a d=>ET h (b.only a d)
 rwa [w9]at this
theorem I0{c:ky}(h:c.cb<=zw)(a:za):(tE (yz a c.flags)).wT.length<=zw:=by
 cases b:yz a c.flags with
 |none=>simp[tE,V3]
 |some f=>have g:=vF wC.cb (bd b);have d:f.cb=1+f.name.length+Ys f.vars+(f.wT.map jB.cb).sum+(f.Wz.map kB.cb).sum+(f.WW.map Zh.cb).sum+f.WA.cb:=rfl;have e:=kq jB.cb Kt f.wT;have i:c.cb=Jg c.V2+(c.flags.map wC.cb).sum:=rfl;show f.wT.length<=zw;omega
noncomputable abbrev Ll:Ctx:=zR prog [(18,zg false [] (mA fun c s=>Yp (yz s c.flags))),(14,zg false [1] (IG fun l v=>wo (decide (v∈l)))),(19,zg true [1] (PF (fun l=>.sl 1 (zx (Qh l))) fun l=>l.length<=zw))]
theorem SX:AM.Good Ll (fun g=>[18].contains g):=qq mixed ⟨Jd,fun _=>zu _ _,kf,by simp,cL,by simp,trivial⟩
def RndI(c:ky)(a:za)(n:Nat)(st:St):Prop:=st.U 2=.ref 0 0 0/\st.Y 0=some (jv c.V2 c.flags)/\0<st.Z/\∃out q,wa st.Y st.Z 9 1 (st.U 5) (zx out)/\Que st.Y st.Z (st.U 5) (st.U 6) q/\CH (kK c.flags) a none out q/\q.length+(c.flags.length-out.length)=n/\n<=201
def RgQ(f:wC)(a:Nat->O)(Y:Hp)(Z:Nat)(st:St):Prop:=st.U 2=.ref 0 0 0/\st.U 5=a 5/\st.U 6=a 6/\st.U 7=.ref Z 0 0/\qR Y Z (some (vi f))=st.Y/\Z+1=st.Z
def tY(Y:Hp)(Z:Nat)(v w:O)(q:List za):Prop:=((∃ad,w=.v (.slice (some ad) 0 0))/\q=[])\/∃id off es,id<Z/\w=.own id off q.length/\Y id=some ⟨9,1,true,es⟩/\off+q.length=es.length/\es.drop off=zx q/\∀m,v≠.own id 0 m
def RndJ(c:ky)(e a:za)(f:wC)(d:Nat)(j:Nat)(st:St):Prop:=∃k,k+j=f.wT.length/\st.U 2=.ref 0 0 0/\st.U 27=.sl 2 (f.wT.map jB.V)/\st.U 28=int f.wT.length/\st.U 29=int k/\st.Y 0=some (jv c.V2 c.flags)/\0<st.Z/\∃out q,wa st.Y st.Z 9 1 (st.U 5) (zx out)/\tY st.Y st.Z (st.U 5) (st.U 6) q/\CH (kK c.flags) e (some a) out q/\(∀b∈(f.wT.take k).map jB.flag,b∈out)/\q.length+(c.flags.length-out.length)=d/\d<=201
theorem mG{Y:Hp}{Z:Nat}{v:O}{K:List za}(g:wa Y Z 9 1 v (zx K))(s:za)(h:K.length<1000000000000):∃Y2,yW prog (qR Y Z (some ⟨9,1,true,[[str s]]⟩)) (Z+1) 26 26 v (.own Z 0 1)=some (.own (Z+1) 0 (K.length+1),Y2,Z+2)/\wa Y2 (Z+2) 9 1 (.own (Z+1) 0 (K.length+1)) (zx (K++[s]))/\∀j,j<Z->(∀n,v≠.own j 0 n)->Y2 j=Y j:=by
 have a:=g.y8 (P:=prog) (t:=26) (c:=[str s]) dq Dh G9 Ha rfl (by omega) (by simp[qJ,maxLen];omega) (by simp[qJ];omega);have b:=wa.after (Y:=Y) (Z:=Z) (e:=9) (s:=1) (v:=v) (xs:=zx K) (c:=[str s]) (tmp:=some ⟨9,1,true,[[str s]]⟩);have d:zx K++[[str s]]=zx (K++[s]):=by simp[zx]
 rw[qJ]at a;refine⟨_,a,?_,fun j i f=>?_⟩
 ·rw[<-d];simpa[qJ]using b
 ·rw[zM _ _ _ _ (by omega),yO g _ j f,zM _ _ _ _ (by omega)]
theorem tY.que{Y:Hp}{Z:Nat}{v w:O}{q:List za}(h:tY Y Z v w q):Que Y Z v w q:=by
 rcases h with h|h
 ·exact .inr (.inl h)
 ·exact .inr (.inr h)
theorem tY.more{Y:Hp}{Z:Nat}{v w:O}{q:List za}(h:tY Y Z v w q)(b:Option kN):tY (qR Y Z b) (Z+1) v w q:=by
 rcases h with h|⟨id,off,es,e,a,c,d⟩
 ·exact .inl h
 ·exact .inr ⟨id,off,es,by omega,a,by rw[zM _ _ _ _ (by omega)];exact c,d⟩
noncomputable def SY:zb->Option O:=qf (α:=ky×za) (fun a=>[.agg a.1.V,str a.2]) (fun a=>a.1.cb<=zw/\WI a.1.flags) fun a=>.sl 1 (zx (kT a.1.flags a.2))
theorem eG(c:ky)(n:za)(Y:Hp)(Z:Nat)(h:c.cb<=zw/\WI c.flags):zg false [] SY [.agg c.V,str n] Y Z=some (.sl 1 (zx (kT c.flags n)),Y,Z):=
 yA (V:=fun a:ky×za=>[O.agg a.1.V,str a.2]) (fun a b e=>by obtain⟨d,f⟩:=a;obtain⟨g,i⟩:=b;simp only[zh,zA,O.agg.injEq]at e;rw[cn e.1,wb e.2]) (c,n) (fun Y=>by simp[ky.V]) h (.inr (by simp[ky.V])) Y Z
theorem I1(c:ky)(nm:za)(hc:c.cb<=zw)(hok:WI c.flags){code:Code}(hb:f13.body=some code):Wp True Ll f13.ntmps code ⟨kE [.agg c.V,str nm],fun _=>none,0⟩ (J2 Ll.P f13 (Jl (.sl 1 (zx (kT c.flags nm))))):=by
 have nT:zw=268435456:=rfl;have o:=SX;have hln:=hok.len;injection hb with hb
 subst hb;refine Wp.cut o (fun U Y Z=>U 1=str nm/\U 2=.ref 0 0 0/\Y 0=some (jv c.V2 c.flags)/\Z=1) (by kernel_rfl) (by simp[ky.V,jv]) ?_;rintro U Y _ ⟨h1,N,t,rfl⟩;refine Wp.cut o (fun d w y=>d 1=U 1/\d 2=U 2/\d 5=.nil/\w=Y/\y=1) (by kernel_rfl) (by simp) ?_;rintro g Y _ ⟨e1,e2,h5,rfl,rfl⟩;rw[h1]at e1;rw[N]at e2;clear h1 N U;refine Wp.cut o (fun U Y Z=>RndI c nm (1+c.flags.length) ⟨U,Y,Z⟩) (by kernel_rfl) ?_ ?_
 ·simp[e1,zr,zJ,zp];exact⟨by simp[e2],by simp[t],by simp,[],[nm],by simp[h5];exact .inl ⟨rfl,by simp[zx]⟩,.inr (.inr ⟨1,0,zx [nm],by simp,by simp,by simp[zx],by simp[zx],by simp,by simp[h5]⟩),.begin _ _,by simp,by omega⟩
 clear e1 e2 h5 t g Y;rintro U Y Z hI;refine Wp.seq (Wp.block (Wp.loop (RndI c nm) _ hI ?_));clear hI U Y Z;rintro n ⟨U,Y,Z⟩ ⟨N,t,Q,out,q,hO,hQ,hB,hn,hnb⟩;simp only at N t Q hO hQ;have hol:=tI hok hB;cases q with
 |nil=>have hlen:=hQ.len;refine Wp.seq (Wp.of o (by kernel_rfl) ?_);simp[hlen];obtain⟨w,e1⟩:=fG hO (by omega);have hv:Qh out=kT c.flags nm:=IY hB;refine Wp.of o (by kernel_rfl) ?_;simp[e1,hv,Jl,f13];exact qc _
 |cons a q=>
  obtain⟨id,off,es,hid,h6,M,A,pT,R⟩:=(hQ.resolve_left (by rintro⟨_,e⟩;cases e)).resolve_left (by rintro⟨_,e⟩;cases e);obtain⟨hga,hdr2⟩:=BS pT;simp only[zP]at hn A h6;obtain⟨f,hf⟩:=yx (tE (yz a c.flags));have hfp:f.wT.length<=zw:=by rw[<-hf];exact I0 hc a
  have S:kK c.flags a=f.wT.map jB.flag:=by unfold kK;rw[hf]
  have gf:=fun Y Z=>QQ (fun c s=>Yp (yz s c.flags)) c a Y Z hc
  have hft:Yp (yz a c.flags)=.wP [.agg f.V,wo (yz a c.flags).isSome]:=by rw[<-hf];rfl
  simp only[hft,qd,ky.V]at gf;have T:=t;simp only[jv]at T;have hB1:=hB.pop;have n0:¬0=Z:=by omega
  have n1:¬Z=0:=by omega
  have n2:¬id=Z:=by omega
  have n3:¬Z=id:=by omega
  refine Wp.cut o (fun d w y=>d 2=U 2/\d 5=U 5/\d 6=U 6/\w=Y/\y=Z) (by kernel_rfl) (by simp[h6]) ?_;rintro g Y Z ⟨e2,e5,e6,rfl,rfl⟩;rw[N]at e2;rw[<-e5]at hO R;rw[h6]at e6;clear N h6 e5 hQ U;refine Wp.block ?_;refine Wp.seq (Wp.mono (K:=fun e st=>e=.normal/\RgQ f g Y Z st) ?_ ?_)
  ·refine Wp.Lj mixed ?_;rw[show KC _ _ _=[[0,1,2,3,4,5,6,7,8,9,10],[0,1,2,3,4,5,6,8,7,9,10],[0,1,2,3,4,5,6,8,9,7,10],[0,1,2,3,4,5,7,6,8,9,10],[0,1,2,3,4,5,7,8,6,9,10],[0,1,2,3,4,5,8,6,7,9,10],[0,1,2,3,4,5,8,6,9,7,10],[0,1,2,3,4,5,8,7,6,9,10],[0,1,2,3,4,8,5,6,7,9,10],[0,1,2,3,4,8,5,6,9,7,10],[0,1,2,3,4,8,5,7,6,9,10],[0,1,2,3,8,4,5,6,7,9,10],[0,1,2,3,8,4,5,6,9,7,10],[0,1,2,3,8,4,5,7,6,9,10],[0,1,2,8,3,4,5,6,7,9,10],[0,1,2,8,3,4,5,6,9,7,10],[0,1,2,8,3,4,5,7,6,9,10],[0,1,8,2,3,4,5,6,7,9,10],[0,1,8,2,3,4,5,6,9,7,10],[0,1,8,2,3,4,5,7,6,9,10],[0,8,1,2,3,4,5,6,7,9,10],[0,8,1,2,3,4,5,6,9,7,10],[0,8,1,2,3,4,5,7,6,9,10],[1,0,2,3,4,5,6,7,8,9,10],[1,0,2,3,4,5,6,8,7,9,10],[1,0,2,3,4,5,6,8,9,7,10],[1,0,2,3,4,5,7,6,8,9,10],[1,0,2,3,4,5,7,8,6,9,10],[1,0,2,3,4,5,8,6,7,9,10],[1,0,2,3,4,5,8,6,9,7,10],[1,0,2,3,4,5,8,7,6,9,10],[1,0,2,3,4,8,5,6,7,9,10],[1,0,2,3,4,8,5,6,9,7,10],[1,0,2,3,4,8,5,7,6,9,10],[1,0,2,3,8,4,5,6,7,9,10],[1,0,2,3,8,4,5,6,9,7,10],[1,0,2,3,8,4,5,7,6,9,10],[1,0,2,8,3,4,5,6,7,9,10],[1,0,2,8,3,4,5,6,9,7,10],[1,0,2,8,3,4,5,7,6,9,10],[1,0,8,2,3,4,5,6,7,9,10],[1,0,8,2,3,4,5,6,9,7,10],[1,0,8,2,3,4,5,7,6,9,10],[1,2,0,3,4,5,6,7,8,9,10],[1,2,0,3,4,5,6,8,7,9,10],[1,2,0,3,4,5,6,8,9,7,10],[1,2,0,3,4,5,7,6,8,9,10],[1,2,0,3,4,5,7,8,6,9,10],[1,2,0,3,4,5,8,6,7,9,10],[1,2,0,3,4,5,8,6,9,7,10],[1,2,0,3,4,5,8,7,6,9,10],[1,2,0,3,4,8,5,6,7,9,10],[1,2,0,3,4,8,5,6,9,7,10],[1,2,0,3,4,8,5,7,6,9,10],[1,2,0,3,8,4,5,6,7,9,10],[1,2,0,3,8,4,5,6,9,7,10],[1,2,0,3,8,4,5,7,6,9,10],[1,2,0,8,3,4,5,6,7,9,10],[1,2,0,8,3,4,5,6,9,7,10],[1,2,0,8,3,4,5,7,6,9,10],[1,2,3,0,4,5,6,7,8,9,10],[1,2,3,0,4,5,6,8,7,9,10],[1,2,3,0,4,5,6,8,9,7,10],[1,2,3,0,4,5,7,6,8,9,10],[1,2,3,0,4,5,7,8,6,9,10],[1,2,3,0,4,5,8,6,7,9,10],[1,2,3,0,4,5,8,6,9,7,10],[1,2,3,0,4,5,8,7,6,9,10],[1,2,3,0,4,8,5,6,7,9,10],[1,2,3,0,4,8,5,6,9,7,10],[1,2,3,0,4,8,5,7,6,9,10],[1,2,3,0,8,4,5,6,7,9,10],[1,2,3,0,8,4,5,6,9,7,10],[1,2,3,0,8,4,5,7,6,9,10],[1,2,3,8,0,4,5,6,7,9,10],[1,2,3,8,0,4,5,6,9,7,10],[1,2,3,8,0,4,5,7,6,9,10],[1,2,8,0,3,4,5,6,7,9,10],[1,2,8,0,3,4,5,6,9,7,10],[1,2,8,0,3,4,5,7,6,9,10],[1,2,8,3,0,4,5,6,7,9,10],[1,2,8,3,0,4,5,6,9,7,10],[1,2,8,3,0,4,5,7,6,9,10],[1,8,0,2,3,4,5,6,7,9,10],[1,8,0,2,3,4,5,6,9,7,10],[1,8,0,2,3,4,5,7,6,9,10],[1,8,2,0,3,4,5,6,7,9,10],[1,8,2,0,3,4,5,6,9,7,10],[1,8,2,0,3,4,5,7,6,9,10],[1,8,2,3,0,4,5,6,7,9,10],[1,8,2,3,0,4,5,6,9,7,10],[1,8,2,3,0,4,5,7,6,9,10],[8,0,1,2,3,4,5,6,7,9,10],[8,0,1,2,3,4,5,6,9,7,10],[8,0,1,2,3,4,5,7,6,9,10],[8,1,0,2,3,4,5,6,7,9,10],[8,1,0,2,3,4,5,6,9,7,10],[8,1,0,2,3,4,5,7,6,9,10],[8,1,2,0,3,4,5,6,7,9,10],[8,1,2,0,3,4,5,6,9,7,10],[8,1,2,0,3,4,5,7,6,9,10],[8,1,2,3,0,4,5,6,7,9,10],[8,1,2,3,0,4,5,6,9,7,10],[8,1,2,3,0,4,5,7,6,9,10]]from by kernel_rfl];intro lst hl;simp only[zv,gy,or_false]at hl;rcases hl with rfl|rfl|rfl|rfl|rfl|rfl|rfl|rfl|rfl|rfl|rfl|rfl|rfl|rfl|rfl|rfl|rfl|rfl|rfl|rfl|rfl|rfl|rfl|rfl|rfl|rfl|rfl|rfl|rfl|rfl|rfl|rfl|rfl|rfl|rfl|rfl|rfl|rfl|rfl|rfl|rfl|rfl|rfl|rfl|rfl|rfl|rfl|rfl|rfl|rfl|rfl|rfl|rfl|rfl|rfl|rfl|rfl|rfl|rfl|rfl|rfl|rfl|rfl|rfl|rfl|rfl|rfl|rfl|rfl|rfl|rfl|rfl|rfl|rfl|rfl|rfl|rfl|rfl|rfl|rfl|rfl|rfl|rfl|rfl|rfl|rfl|rfl|rfl|rfl|rfl|rfl|rfl|rfl|rfl|rfl|rfl|rfl|rfl|rfl|rfl|rfl|rfl|rfl|rfl
   all_goals --DEV sorry
    refine Qo.ord o _ (by kernel_rfl) (by decide) ?_;simp[e2,e6,M,hga,A,T,gf,n0,n1,n2,n3,RgQ,vi,qd]
  rintro e ⟨U,Y1,i⟩ ⟨rfl,f2,f5,f6,f7,u,z⟩;simp only at f2 f5 f6 f7 u z;simp only[cO];have x:wa Y1 i 9 1 (U 5) (zx out):=by rw[<-u,<-z,f5];exact hO.more _
  have W:∀m,U 5≠.own id 0 m:=by rw[f5];exact R
  have X:Y1 id=some ⟨9,1,true,es⟩:=by rw[<-u,zM _ _ _ _ (by omega)];exact M
  have hbf:Y1 Z=some (vi f):=by rw[<-u];simp
  have hbc:Y1 0=some (jv c.V2 c.flags):=by rw[<-u,zM _ _ _ _ (by omega)];exact t
  have hid1:id<i:=by omega
  have C:0<i:=by omega
  rw[e6]at f6;clear e2 e6 f5 u z hO M t T R hid Q g;refine Wp.seq (Wp.region ?_);show Qo True Ll _ _ (List.range' 0 1++(1::(List.range' 2 1++[]))) _ _;refine Qo.gA o 0 1 (by decide) (by decide) ?_;simp[f6];refine Qo.slice (n:=1) (e:=9) rfl (by decide) rfl un26 Dh X rfl (by omega) ?_;rintro r hr;refine Qo.gA o 2 1 (by decide) (by decide) ?_;simp;refine Qo.nil ?_;simp only[bz,cO];rw[Nat.add_sub_cancel]at hr;refine Wp.any (fun d w y=>d 2=.ref 0 0 0/\d 5=U 5/\d 6=r/\d 7=.ref Z 0 0/\w=Y1/\y=i) (by simp[f2,f7]) ?_;rintro g Y1 i ⟨e2,e5,e6,e7,rfl,rfl⟩;rw[<-e5]at x W;clear f2 f6 f7 e5 U;have D:tY Y1 i (g 5) (g 6) q:=by
   rcases hr with hr|⟨hr1,ad,hr2⟩
   ·exact .inr ⟨id,off+1,es,hid1,by rw[e6,hr],X,by omega,hdr2,W⟩
   ·exact .inl ⟨⟨ad,by rw[e6,hr2]⟩,xr (by omega)⟩
  clear hr X hid1 pT hdr2 hga A W e6;have hbf':=hbf;simp only[vi,qd]at hbf';refine Wp.cut o (fun d w y=>RndJ c nm a f (n-1) f.wT.length ⟨d,w,y⟩) (by kernel_rfl) ?_ ?_
  ·simp[e7,hbf'];refine⟨0,by simp,by simp[e2],by simp,by simp,by simp,hbc,C,out,q,by simpa using x,by simpa using D,hB1,by simp,by omega,by omega⟩
  have hn1:1<=n:=by omega
  clear e2 e7 hbf hbf' hbc C x D hB1 hB gf hol hn n0 n1 n2 n3 g Y1 i out q id off es;rintro U Y Z hJ;refine Wp.block (Wp.loop (RndJ c nm a f (n-1)) _ hJ ?_);clear hJ U Y Z;rintro j ⟨U,Y,Z⟩ ⟨k,hkj,N,Ls,h28,h29,t,Q,out,q,hO,hQ,hB,hd,hn,hnb2⟩;simp only at N Ls h28 h29 t Q hO hQ;have hol:=tI hok hB;by_cases hlt:k<f.wT.length
  case neg=>
   obtain rfl:k=f.wT.length:=by omega
   refine Wp.cut o (fun d w y=>qR U 30 (wo false)=d/\Y=w/\Z=y) (by kernel_rfl) (by simp[h28,h29]) ?_;rintro _ _ _ ⟨rfl,rfl,rfl⟩;refine Wp.seq (Wp.of o (by kernel_rfl) ?_);simp;refine⟨n-1,by omega,by simp[N],t,Q,out,q,by simpa using hO,by simpa using hQ.que,hB.fin fun b hb=>hd b ?_,hn,by omega⟩;rw[wJ,<-S];exact hb
  obtain⟨p,Y0⟩:=yx (f.wT[k]);have hpm:p∈f.wT:=by rw[<-Y0];exact zj hlt
  have hbn:p.flag∈kK c.flags a:=by rw[S];exact qw.2 ⟨p,hpm,rfl⟩
  have hw:=ql k;have htk:(f.wT.take (k+1)).map jB.flag=(f.wT.take k).map jB.flag++[p.flag]:=by rw[zX hlt,Y0];simp
  refine Wp.cut o (fun d w y=>qR U 30 (wo true)=d/\Y=w/\Z=y) (by kernel_rfl) (by simp[h28,h29,hlt]) ?_;rintro _ _ _ ⟨rfl,rfl,rfl⟩;refine Wp.cut o (fun d w y=>qR U 30 (wo true)=d/\Y=w/\Z=y) (by kernel_rfl) (by simp) ?_;rintro _ _ _ ⟨rfl,rfl,rfl⟩;refine Wp.seq (Wp.block ?_);refine Wp.cut o (fun d w y=>d 2=.ref 0 0 0/\d 5=U 5/\d 6=U 6/\d 27=.sl 2 (f.wT.map jB.V)/\d 28=int f.wT.length/\d 29=int k/\d 10=.ref Z 0 0/\qR Y Z (some (Wh p))=w/\Z+1=y) (by kernel_rfl) (by simp[N,Ls,h28,h29,hlt,Y0,Wh,jB.V]) ?_;rintro g Y1 i ⟨g2,g5,g6,G,H,I,J,u,z⟩;have x:wa Y1 i 9 1 (g 5) (zx out):=by rw[<-u,<-z,g5];exact hO.more _
  have D:tY Y1 i (g 5) (g 6) q:=by rw[<-u,<-z,g5,g6];exact hQ.more _
  have hbp:Y1 Z=some (Wh p):=by rw[<-u];simp
  have hb1:Y1 0=some (jv c.V2 c.flags):=by rw[<-u,zM _ _ _ _ (by omega)];exact t
  have C:Z<i:=by omega
  have E:=hbp;simp only[Wh,jB.V]at E;clear u z g5 g6 N Ls h28 h29 t hO hQ U Y;have E7:=F1 (fun l v=>wo (decide (v∈l))) (v:=p.flag) x (by omega) rfl;by_cases hm:p.flag∈out
  ·rw[show decide (p.flag∈out)=true from by simpa using hm]at E7;refine Wp.cut o (fun d w y=>d 2=g 2/\d 5=g 5/\d 6=g 6/\d 27=g 27/\d 28=g 28/\d 29=g 29/\d 37=wo false/\Y1=w/\i=y) (by kernel_rfl) (by simp[J,E,E7]) ?_;rintro B _ _ ⟨k2,k5,k6,k27,k28,k29,k37,rfl,rfl⟩;refine Wp.cond (b:=false) (by simp[AM.get,k37]) ?_;simp only[zq,qn];refine Wp.of o (by kernel_rfl) ?_;simp;refine Wp.of o (by kernel_rfl) ?_;simp[k29,I,hw];refine⟨j-1,by omega,k+1,by omega,by simp[k2,g2],by simp[k27,G],by simp[k28,H],by simp,hb1,by simpa using vY (j9 _) C,out,q,by simpa[k5]using x,by simpa[k5,k6]using D,hB,fun b hb=>?_,hn,by omega⟩;rw[htk]at hb;rcases zK.1 hb with hb|hb
   ·exact hd b hb
   ·simp at hb;subst hb;exact hm
  rw[show decide (p.flag∈out)=false from by simpa using hm]at E7;have hB2:=hB.push hbn hm;have tU:=tI hok hB2;rw[qj,List.length_singleton]at tU;refine Wp.cut o (fun d w y=>d 2=g 2/\d 5=g 5/\d 6=g 6/\d 10=g 10/\d 27=g 27/\d 28=g 28/\d 29=g 29/\d 37=wo true/\Y1=w/\i=y) (by kernel_rfl) (by simp[J,E,E7]) ?_;rintro B _ _ ⟨k2,k5,k6,k10,k27,k28,k29,k37,rfl,rfl⟩;rw[g2]at k2;rw[J]at k10;rw[G]at k27;rw[H]at k28;rw[I]at k29;rw[<-k5]at x D;rw[<-k6]at D;clear g2 J G H I k5 k6 E7 g;refine Wp.cond (b:=true) (by simp[AM.get,k37]) ?_;simp only[qB];obtain⟨hp3,a1,O1,f1⟩:=mG x p.flag (by omega);have F:hp3 0=some (jv c.V2 c.flags):=by rw[f1 0 (by omega) (JD x hb1 rfl)];exact hb1
  have hbp3:hp3 Z=some (Wh p):=by rw[f1 Z (by omega) (JD x hbp rfl)];exact hbp
  have UM:=hbp3;simp only[Wh,jB.V]at UM;have hQ3:tY hp3 (i+2) (.own (i+1) 0 (out.length+1)) (B 6) q:=by
   rcases D with h|⟨id,off,es,i1,i2,i3,i4,i5,i6⟩
   ·exact .inl h
   ·exact .inr ⟨id,off,es,by omega,i2,by rw[f1 id i1 i6];exact i3,i4,i5,fun m e=>by injection e with e;omega⟩
  refine Wp.cut o (fun d w y=>d 2=B 2/\d 5=.own (i+1) 0 (out.length+1)/\d 6=B 6/\d 10=B 10/\d 27=B 27/\d 28=B 28/\d 29=B 29/\hp3=w/\i+2=y) (by kernel_rfl) (by simp[k10,E,zr,zJ,zp,a1]) ?_;rintro g _ L ⟨g2,g5,g6,J,G,H,I,rfl,z⟩;rw[z]at O1 hQ3;rw[<-g5]at O1 hQ3;rw[<-g6]at hQ3;rw[k2]at g2;rw[k10]at J;rw[k27]at G;rw[k28]at H;rw[k29]at I;have hnx3:Z<L:=by omega
  clear k2 k10 k27 k28 k29 k37 g5 g6 z a1 f1 x D hb1 hbp E hbp3 C B Y1 i;have hd2:∀b∈(f.wT.take (k+1)).map jB.flag,b∈out++[p.flag]:=fun b hb=>by
   rw[htk]at hb;rcases zK.1 hb with hb|hb
   ·simp[hd b hb]
   ·simpa using .inr (by simpa using hb)
  refine Wp.region ?_;show Qo True Ll _ _ (List.range' 0 4++(4::(List.range' 5 1++[]))) _ _;refine Qo.gA o 0 4 (by decide) (by decide) ?_;have m1:¬Z=L:=by omega
  simp[J,UM,zr,zJ,zp];rcases hQ3 with⟨⟨ad,hwq⟩,rfl⟩|⟨id,off,es,hid,hwq,M,A,pT,R⟩
  ·refine Qo.Gv (ad:=ad) (e:=9) (n:=1) (by_:=16) (ys:=zx [p.flag]) (v:=.own L 0 1) rfl (by decide) (by simp[hwq]) (by simp) (by simp[AM.view,zx]) dq Dh G9 Ha (by omega) rfl (by simp[zx,maxLen]) (by simp[zx]) ?_;rintro r w y (⟨hy0,rfl,rfl,rfl⟩|⟨rfl,rfl,rfl⟩)
   ·simp[zx]at hy0
   ·refine Qo.gA (l2:=[]) o 5 1 (by decide) (by decide) ?_;simp;refine Qo.nil ?_;simp only[bz,YY,cO];refine Wp.of o (by kernel_rfl) ?_;simp[I,hw];refine⟨j-1,by omega,k+1,by omega,by simp[g2],by simp[G],by simp[H],by simp,?_,by simp,out++[p.flag],[]++[p.flag],?_,.inr ⟨L+1,0,zx [p.flag],by simp,by simp[qJ],by simp,by simp[qJ],by simp,?_⟩,hB2,hd2,by simp only[qj,zP,kv]at hn⊢;omega,by omega⟩
    ·simp only[];rw[zM _ _ _ _ (by omega),zM _ _ _ _ (by omega)];exact F
    ·simpa using(O1.more _).more _
    ·intro m;simpa using gN O1 (by omega)
  ·have hid0:¬0=id:=by rintro rfl;rw[M]at F;injection F with F;injection F with _ _ F;cases F
   have hl1:q.length+(zx [p.flag]).length<=maxLen:=by simp[qJ,maxLen];omega
   have hl2:(q.length+(zx [p.flag]).length)*16<=140737488355328:=by simp[qJ];omega
   have hes3:qR hp3 L (some (⟨9,1,true,[[str p.flag]]⟩:kN)) id=some ⟨9,1,true,es⟩:=by rw[zM _ _ _ _ (by omega)];exact M
   refine Qo.append (e:=9) (n:=1) (by_:=16) (ys:=zx [p.flag]) (v:=.own L 0 1) rfl (by decide) (by simp[hwq]) (by simp) (by simp[AM.view,zx]) dq Dh G9 Ha (by omega) rfl hes3 rfl rfl A hl1 hl2 ?_;intro es' off' hew;obtain⟨hl',hd'⟩:=F8 A pT hew;refine Qo.gA (l2:=[]) o 5 1 (by decide) (by decide) ?_;simp;refine Qo.nil ?_;simp only[bz,YY,cO];refine Wp.of o (by kernel_rfl) ?_;simp[I,hw];refine⟨j-1,by omega,k+1,by omega,by simp[g2],by simp[G],by simp[H],by simp,?_,by simp,out++[p.flag],q++[p.flag],?_,.inr ⟨L+1,off',es',by simp,by simp[qJ],by simp,hl',hd',?_⟩,hB2,hd2,by simp only[qj,zP,kv]at hn⊢;omega,by omega⟩
   ·simp only[];rw[zM _ _ _ _ (by omega),zM _ _ _ _ hid0,zM _ _ _ _ (by omega)];exact F
   ·simpa using(pG (O1.more _) R).more _
   ·intro m;simpa using gN O1 (by omega)
theorem cU:zf prog 13 (zg false [] SY):=
 cN (C:=Ll) (fn:=f13) (code:=_) func13 (by kernel_rfl) rfl false [] _ fun args r h=>by obtain⟨⟨c,n⟩,rfl,⟨a,b⟩,rfl⟩:=zN h;exact⟨by simp[f13],I1 c n a b rfl⟩
noncomputable def KE (a:List qA) (f:wC) (b:za):Int:=if qG f.name=true then(if Vs f.name b=true then 8 else YM a f)else 5
noncomputable def FFb:zb->Option O:=qf (α:=List qA×wC×za) (fun a=>[.sl 10 (a.1.map qA.V),.agg a.2.1.V,str a.2.2]) (fun a=>Jg a.1<=zw/\XE (a.1.map qA.name)/\a.2.1.cb<=zw) fun a=>int (KE a.1 a.2.1 a.2.2)
theorem OL(c:List qA)(f:wC)(d:za)(Y:Hp)(Z:Nat)(h:Jg c<=zw/\XE (c.map qA.name)/\f.cb<=zw):zg false [] FFb [.sl 10 (c.map qA.V),.agg f.V,str d] Y Z=some (int (KE c f d),Y,Z):=
 yA (V:=fun a:List qA×wC×za=>[O.sl 10 (a.1.map qA.V),.agg a.2.1.V,str a.2.2]) (fun a b e=>by obtain⟨g,i,j⟩:=a;obtain⟨k,l,m⟩:=b;simp only[zh,zA,O.agg.injEq]at e;rw[vO e.1,WS e.2.1,wb e.2.2]) (c,f,d) (fun Y=>by simp[qd]) h (.inl rfl) Y Z
noncomputable abbrev Crfl:Ctx:=zR prog [(49,zg false [] (FS qG)),(50,zg false [] (FFg fun f=>int (xX f.vars f.off))),(51,zg false [] FPq),(52,zg false [] (FFgV fun f=>int (JH f.Wz f.vars.length))),(53,zg false [] (FSF (fun s f=>int (pJ s f)) Gb))]
theorem EU(a:List qA)(f:wC)(b:za)(h:Jg a<=zw/\XE (a.map qA.name)/\f.cb<=zw):zo Crfl f29 [.sl 10 (a.map qA.V),.agg f.V,str b]=some (int (KE a f b)):=by
 obtain⟨hs,u,o⟩:=h;have v:f.cb=1+f.name.length+Ys f.vars+(f.wT.map jB.cb).sum+(f.Wz.map kB.cb).sum+(f.WW.map Zh.cb).sum+f.WA.cb:=rfl;have c:f.name.length<=zw:=by omega
 have d:=fun Y Z=>OC (fun f=>int (xX f.vars f.off)) f Y Z o
 have k:=fun Y Z=>A3 f.wT Y Z (by omega)
 have g:(Op.bytesLess f.name b||f.name==b)=Vs f.name b:=rfl;simp only[qd]at d;refine zm rfl ?_;unfold KE;cases e:qG f.name
 ·simp[qd,c,e,zI,f29]
 rw[ze rfl];cases i:Vs f.name b
 case true=>rw[ze rfl];simp[qd,c,e,g,i,zI,f29]
 rw[zd (by simp)];unfold YM;by_cases j:xX f.vars f.off=0
 case neg=>have p:=xN j;rw[zd j];simp[qd,c,e,g,i,d,p,zI,f29]
 rw[ze j];rw[j]at d;obtain⟨x,y⟩:=pa j;have l:=fun Y Z=>IX (fun f=>int (JH f.Wz f.vars.length)) f Y Z ⟨o,by omega,by omega⟩
 have t:=fun Y Z=>OI (fun s f=>int (pJ s f)) Gb a f Y Z ⟨hs,u,o,by omega,by omega⟩
 simp only[qd]at l t;by_cases m:X9 f.wT=0
 case neg=>have q:=xN m;rw[zd m];simp[qd,c,e,g,i,d,k,q,zI,f29]
 rw[ze m];rw[m]at k;by_cases n:JH f.Wz f.vars.length=0
 case neg=>have r:=xN n;rw[zd n];simp[qd,c,e,g,i,d,k,l,r,zI,f29]
 rw[ze n];rw[n]at l;have w:(if KY a f.WW f.vars.length=0 then XF f.WA f.vars.length else KY a f.WW f.vars.length)=pJ a f:=rfl;rw[w];simp[qd,c,e,g,i,d,k,l,t,zI,f29]
theorem B7:zf prog 29 (zg false [] FFb):=
 vX (C:=Crfl) (zS mixed ⟨xw,BZ,B0,B4,B6,trivial⟩) func29 false [] fun⟨s,f,b⟩ a=>⟨by simp[f29],_,EU s f b a,qc _⟩
noncomputable def FSsD:zb->Option O:=qf (α:=List qA) (fun l=>[.sl 10 (l.map qA.V)]) (fun l=>2*Jg l<=zw) fun l=>int (kl l)
theorem I2(l:List qA)(Y:Hp)(Z:Nat)(h:2*Jg l<=zw):zg false [] FSsD [.sl 10 (l.map qA.V)] Y Z=some (int (kl l),Y,Z):=
 yA (V:=fun l:List qA=>[O.sl 10 (l.map qA.V)]) (fun a b e=>by simp only[zh,zA]at e;exact vO e) l (fun Y=>by simp) h (.inl rfl) Y Z
noncomputable def EV:zb->Option O:=qf (α:=ky) (fun c=>[.agg c.V]) (fun c=>2*c.cb<=zw) fun c=>int (ZP c)
theorem B8(c:ky)(Y:Hp)(Z:Nat)(h:2*c.cb<=zw):zg false [] EV [.agg c.V] Y Z=some (int (ZP c),Y,Z):=
 yA (V:=fun c:ky=>[O.agg c.V]) (fun a b e=>by simp only[zh,zA,O.agg.injEq]at e;exact cn e) c (fun Y=>by simp[ky.V]) h (.inl rfl) Y Z
theorem SZ{s:za}(h:qG s=true):Vs s []=false:=by
 cases s with
 |nil=>cases h
 |cons c s=>rfl
noncomputable abbrev Crcg:Ctx:=zR prog [(28,zg false [] FSsD),(29,zg false [] FFb),(18,zg false [] (mA fun c s=>Yp (yz s c.flags))),(13,zg false [] SY),(14,zg false [1] (IG fun l v=>wo (decide (v∈l))))]
theorem S3:AM.Good Crcg (fun g=>[13,14].contains g):=qq mixed ⟨VW,by simp,B7,by simp,Jd,by simp,cU,fun _=>zu _ _,kf,fun _=>zu _ _,trivial⟩
set_option maxHeartbeats 8000000 in
theorem I3(c:ky)(h:2*c.cb<=zw):zo Crcg f17 [.agg c.V]=some (int (ZP c)):=by
 obtain⟨S,L⟩:=c;have Gr:(⟨S,L⟩:ky).cb=Jg S+AV L:=rfl;have hfb:AV L=(L.map wC.cb).sum:=rfl;have hlen:=kq wC.cb Xl L;have nT:zw=268435456:=rfl;have g1:=fun Y Z=>I2 S Y Z (by omega)
 refine zm rfl ?_;refine ju (fun U Y Z=>U 1=.ref 0 0 0/\Y 0=some (jv S L)/\0<Z) (by simp[ky.V,jv]) ?_;rintro U Y Z ⟨m,n,b⟩;refine ju (fun U Y Z=>U 1=.ref 0 0 0/\Y 0=some (jv S L)/\0<Z/\kl S=0) ?_ ?_
 ·have a:=n;simp only[jv]at a;by_cases D:kl S=0
  ·rw[D]at g1;simp[m,a,g1];exact⟨rfl,b,D⟩
  ·have c1':=xN D;have C:ZP ⟨S,L⟩=kl S:=by unfold ZP;rw[zd D]
   simp[m,a,g1,c1',C,zI,f17]
 clear m n b U Y Z;rintro U Y Z ⟨m,n,b,D⟩;have hupS:XE (S.map qA.name):=(RS D).up;refine ju (fun U Y Z=>U 1=.ref 0 0 0/\Y 0=some (jv S L)/\0<Z/\¬(200:Int)<L.length) ?_ ?_
 ·have a:=n;simp only[jv]at a;by_cases M:(200:Int)<L.length
  ·have C:ZP ⟨S,L⟩=2:=by unfold ZP;rw[ze D,ze M]
   simp[m,a,M,C,zI,f17]
  ·simp[m,a,M];exact⟨rfl,b⟩
 clear m n b U Y Z;rintro U Y Z ⟨m,n,b,M⟩;refine ju (fun U Y Z=>U 1=.ref 0 0 0/\U 4=str []/\Y 0=some (jv S L)/\0<Z) (by simp[m];exact⟨n,b⟩) ?_;clear m n b U Y Z;rintro U Y Z ⟨m,h4,n,b⟩;refine ju (fun U Y Z=>U 1=.ref 0 0 0/\Y 0=some (jv S L)/\0<Z/\vP S none L=0) ?_ ?_
 ·have a:=n;simp only[jv]at a;simp[m,a];refine zF (fun k U Y Z=>U 1=.ref 0 0 0/\U 4=str ((kJ L k).getD [])/\U 27=.sl 11 (L.map wC.V)/\U 28=int L.length/\U 29=int k/\0<Z/\Y 0=some (jv S L)/\vP S none L=vP S (kJ L k) (L.drop k)) L.length
   ⟨by simp[m],by simp[h4,kJ],by simp,by simp,by simp,b,n,by simp[kJ]⟩ ?_
  clear m h4 n a b U Y Z;rintro k U Y Z hk ⟨m,h4,N,P,Q,b,n,t⟩;have J:¬0=Z:=by omega
  have u:¬Z=0:=by omega
  have a:=n;simp only[jv]at a;by_cases o:k<L.length
  ·have hw:=ql k;obtain⟨f,B⟩:=yx (L[k]);have hm:=vF wC.cb (show f∈L by rw[<-B];exact zj o);have Le:kJ L (k+1)=some f.name:=by simp[kJ,o,B]
   have g2:=fun Y Z=>OL S f ((kJ L k).getD []) Y Z ⟨by omega,hupS,by omega⟩
   simp only[qd]at g2;rw[ft o,B]at t;have R:(if qG f.name=true then(if js (kJ L k) f.name=true then 8 else if YM S f=0 then vP S (some f.name) (L.drop (k+1))else YM S f)else 5)=if KE S f ((kJ L k).getD [])=0 then vP S (some f.name) (L.drop (k+1))else KE S f ((kJ L k).getD []):=by
    have hcp:qG f.name=true->js (kJ L k) f.name=Vs f.name ((kJ L k).getD []):=fun hn=>by
     cases kJ L k with
     |none=>exact(SZ hn).symm
     |some q=>rfl
    unfold KE;cases d1:qG f.name
    ·simp
    ·rw[hcp d1];cases d2:Vs f.name ((kJ L k).getD [])
     ·simp
     ·simp
   rw[R]at t;by_cases c3:KE S f ((kJ L k).getD [])=0
   ·rw[ze c3]at t;rw[c3]at g2;simp[m,h4,N,P,Q,a,J,u,o,B,qd f,g2,hw];exact⟨by omega,by simp[Le],rfl,by rw[t,Le]⟩
   ·rw[zd c3]at t;have c3':=xN c3;have C:ZP ⟨S,L⟩=KE S f ((kJ L k).getD []):=by unfold ZP;simp only;rw[ze D,zd M,t,zd c3]
    simp[m,h4,N,P,Q,a,J,u,o,B,qd f,g2,c3',C,zI,f17]
  ·obtain rfl:k=L.length:=by omega
   rw[zn,vP]at t;simp[m,N,P,Q];exact⟨n,b,t⟩
 clear m h4 n b U Y Z;rintro U Y Z ⟨m,n,b,hG⟩;have hup:=(eF _ _ hG).1;refine ju (fun U Y Z=>U 1=.ref 0 0 0/\Y 0=some (jv S L)/\0<Z/\vg L L=0) ?_ ?_
 ·have a:=n;simp only[jv]at a;simp[m,a];refine zF (fun k U Y Z=>U 1=.ref 0 0 0/\U 45=.sl 11 (L.map wC.V)/\U 46=int L.length/\U 47=int k/\0<Z/\Y 0=some (jv S L)/\vg L L=vg L (L.drop k)) L.length
   ⟨by simp[m],by simp,by simp,by simp,b,n,by simp⟩ ?_
  clear m n a b U Y Z;rintro k U Y Z hk ⟨m,w,x,y,b,n,t⟩;by_cases o:k<L.length
  case neg=>
   obtain rfl:k=L.length:=by omega
   rw[zn,vg]at t;simp[m,w,x,y];exact⟨n,b,t⟩
  have hw:=ql k;obtain⟨f,B⟩:=yx (L[k]);have hm:=vF wC.cb (show f∈L by rw[<-B];exact zj o);have Po:f.cb=1+f.name.length+Ys f.vars+(f.wT.map jB.cb).sum+(f.Wz.map kB.cb).sum+(f.WW.map Zh.cb).sum+f.WA.cb:=rfl;have hpl:=kq jB.cb Kt f.wT;rw[cv o,B]at t;have T:∀z:Int,z≠0->kr L f.wT=z->ZP ⟨S,L⟩=z:=fun z hz hh=>by rw[hh,zd hz]at t;unfold ZP xj;simp only;rw[ze D,zd M,ze hG,t,zd hz]
  simp[m,w,x,y,o,B,qd f];refine zF (fun j U Y Z=>U 1=.ref 0 0 0/\U 45=.sl 11 (L.map wC.V)/\U 46=int L.length/\U 47=int k/\U 52=.sl 2 (f.wT.map jB.V)/\U 53=int f.wT.length/\U 54=int j/\0<Z/\Y 0=some (jv S L)/\kr L f.wT=kr L (f.wT.drop j)) f.wT.length
   ⟨by simp[m],by simp[w],by simp[x],by simp[y],by simp,by simp,by simp,Nat.lt_succ_of_lt b,(zM _ _ _ _ (by omega)).trans n,by simp⟩ ?_
  clear m w x y n b U Y Z;rintro j U Y Z hj ⟨m,w,x,y,E,F,G,b,n,r⟩;have J:¬0=Z:=by omega
  have u:¬Z=0:=by omega
  have n1:¬0=Z+1:=by omega
  have n2:¬Z=Z+1:=by omega
  have n3:¬Z+1=Z:=by omega
  have a:=n;simp only[jv]at a;by_cases H:j<f.wT.length
  ·have hwj:=ql j;obtain⟨p,I⟩:=yx (f.wT[j]);have gf:=fun Y Z=>QQ (fun c s=>Yp (yz s c.flags)) ⟨S,L⟩ p.flag Y Z (by omega)
   rw[cu H,I]at r;rcases KD hup p.flag with⟨d1,hix,K,_⟩|⟨d1,K⟩
   ·obtain⟨g,hg⟩:=yx (L[j8 L p.flag]);rw[hg]at K;have W:Yp (yz p.flag L)=.wP [.agg g.V,wo true]:=by rw[K];rfl
    simp only[W,qd,ky.V]at gf;have hvf:pb L p.flag=g.vars.length:=by unfold pb;rw[zl hix,hg]
    have A:ZE L p=if jE p.var 0 ((g.vars.length:Int)-1)=true then 0 else 1:=by unfold ZE;rw[d1,ze rfl,hvf]
    rcases cS p.var g.vars.length with d|⟨d,e⟩|⟨d,e,i⟩
    ·rw[tC d,zd (by simp)]at A;rw[A,zd (by decide)]at r;have C:=T 1 (by decide) r;simp[m,w,x,y,E,F,G,a,J,u,n1,n2,n3,H,I,jB.V,gf,d,C,zI,f17]
    ·rw[tD e,zd (by simp)]at A;rw[A,zd (by decide)]at r;have C:=T 1 (by decide) r;simp[m,w,x,y,E,F,G,a,J,u,n1,n2,n3,H,I,jB.V,gf,d,e,C,zI,f17]
    ·rw[i,ze rfl]at A;rw[A,ze rfl]at r;simp[m,w,x,y,E,F,G,a,J,u,n1,n2,n3,H,I,jB.V,gf,d,e,hwj];exact⟨by omega,rfl,r⟩
   ·have W:Yp (yz p.flag L)=.wP [.agg V3.V,wo false]:=by rw[K];rfl
    simp only[W,qd,ky.V]at gf;have A:ZE L p=9:=by unfold ZE;rw[d1,zd (by simp)]
    rw[A,zd (by decide)]at r;have C:=T 9 (by decide) r;simp[m,w,x,y,E,F,G,a,J,u,n1,n2,n3,H,I,jB.V,gf,C,zI,f17]
  ·obtain rfl:j=f.wT.length:=by omega
   rw[zn,kr]at r;rw[r,ze rfl]at t;simp[m,w,x,y,E,F,G,hw];exact⟨by omega,b,n,t⟩
 clear m n b U Y Z;rintro U Y Z ⟨m,n,b,hN⟩;have X:WI L:=⟨by omega,hup,fun f B p Y=>(ZL (ZM hN f B) p Y).1⟩;have a:=n;simp only[jv]at a;simp[m,a];refine zF (fun k U Y Z=>U 1=.ref 0 0 0/\U 83=.sl 11 (L.map wC.V)/\U 84=int L.length/\U 85=int k/\0<Z/\Y 0=some (jv S L)/\Yj L=(L.drop k).any fun f=>decide (f.name∈kT L f.name)) L.length
  ⟨by simp[m],by simp,by simp,by simp,b,n,by simp only[wS];exact(IZ X).symm⟩ ?_
 clear m n a b U Y Z;rintro k U Y Z hk ⟨m,h83,h84,h85,b,n,t⟩;have J:¬0=Z:=by omega
 have u:¬Z=0:=by omega
 have a:=n;simp only[jv]at a;by_cases o:k<L.length
 ·have hw:=ql k;obtain⟨f,B⟩:=yx (L[k]);have hfn:kT L f.name=Yo L (fun j=>decide (j∈gu L k)) L.length:=by rw[<-B];exact cT X o
  have Ti:(kT L f.name).length<=zw:=by rw[hfn];have:=VY L (fun j=>decide (j∈gu L k)) L.length;omega
  have gn:=fun Y Z=>eG ⟨S,L⟩ f.name Y Z ⟨by omega,X⟩
  have gc:=fun Y Z=>JM (fun l v=>wo (decide (v∈l))) (kT L f.name) f.name Y Z Ti
  simp only[ky.V]at gn;rw[zc o,B,yr]at t;by_cases d:f.name∈kT L f.name
  ·have C:ZP ⟨S,L⟩=12:=by
    have hlo:Yj L=true:=by rw[t];simp[d]
    unfold ZP xj;simp only;rw[ze D,zd M,ze hG,ze hN,ze hlo]
   simp[m,h83,h84,h85,a,J,u,o,B,qd f,gn,gc,d,C,zI,f17]
  ·have he':Yj L=(L.drop (k+1)).any fun f=>decide (f.name∈kT L f.name):=by rw[t];simp[d]
   simp[m,h83,h84,h85,a,J,u,o,B,qd f,gn,gc,d,hw];exact⟨by omega,rfl,he'⟩
 ·obtain rfl:k=L.length:=by omega
  rw[zn,List.any_nil]at t;have C:ZP ⟨S,L⟩=0:=by unfold ZP xj;simp only;rw[ze D,zd M,ze hG,ze hN,t,zd (by simp)]
  simp[m,h83,h84,h85,C,zI,f17]
theorem EW:zf prog 17 (zg false [] EV):=
 vX S3 func17 false [] fun c a=>⟨by simp[f17],_,I3 c a,qc _⟩
end Go.Q
namespace Go.Q
open Classical in
noncomputable def nQ {α:Type} (a b:α):Bool:=decide (a=b)
open Classical in
theorem Xw{α:Type}(a b:α):nQ a b=true↔a=b:=by unfold nQ;exact decide_eq_true_iff
theorem B9{α:Type}(a:α):nQ a a=true:=(Xw a a).2 rfl
theorem S5{α g i:Type}{a b:α}{c d:g}{e f:i}(h:a=b↔c=d/\e=f):nQ a b=(nQ c d&&nQ e f):=by rw[qx,zC,Xw,Xw,Xw];exact h
theorem S6(a b:za):nQ a b=(a==b):=by rw[qx,Xw,jq]
theorem OM{α:Type}(a b:α)(l m:List α):nQ (a::l) (b::m)=(nQ a b&&nQ l m):=S5 (by simp)
theorem S7{α:Type}{l m:List α}(h:l.length≠m.length):nQ l m=false:=by
 cases a:nQ l m
 ·rfl
 ·exact(h (zt List.length ((Xw l m).1 a))).elim
theorem ON{α:Type}{a b:List α}{k:Nat}(c:k<a.length)(d:k<b.length):nQ (a.drop k) (b.drop k)=(nQ a[k] b[k]&&nQ (a.drop (k+1)) (b.drop (k+1))):=by rw[zc c,zc d,OM]
end Go.Q
namespace Go.Q
theorem Ca(a b:List za)(s:a.length<=zw):zo C0 Tryz.f8 [.sl 1 (zx a),.sl 1 (zx b)]=some (wo (nQ a b)):=by
 unfold zw at s;refine zm rfl ?_;by_cases l:a.length=b.length
 case neg=>
  have d:((a.length:Int) != (b.length:Int))=true:=by simp;omega
  have m:nQ a b=false:=S7 l;simp[d,m,Tryz.f8]
 have d:((a.length:Int) != (b.length:Int))=false:=by simp[l]
 simp[d];refine zF (fun k U Y Z=>U 0=.sl 1 (zx a)/\U 1=.sl 1 (zx b)/\U 12=int a.length/\U 13=int k/\nQ a b=nQ (a.drop k) (b.drop k)) a.length
  ⟨by simp,by simp,by simp,by simp,by simp⟩ ?_
 rintro k U Y Z u ⟨n,o,e,f,g⟩;by_cases h:k<a.length
 ·have c:k<b.length:=by omega
  have t:=ql k;obtain⟨p,r⟩:=yx (a[k]);obtain⟨q,i⟩:=yx (b[k]);rw[ON h c,r,i,S6]at g;cases hd:(p==q)
  ·rw[hd,JP]at g;have j:¬p=q:=by simpa using hd
   simp[n,o,e,f,h,c,r,i,j,hd,g,Tryz.f8]
  ·rw[hd,kX]at g;have j:p=q:=by simpa using hd
   simp[n,o,e,f,h,c,r,i,j,t];exact⟨by omega,g⟩
 ·obtain rfl:k=a.length:=by omega
  rw[zn,l,zn,B9]at g;simp[n,o,e,f,g,Tryz.f8]
noncomputable def FTq:zb->Option O:=qf (α:=List za×List za) (fun a=>[.sl 1 (zx a.1),.sl 1 (zx a.2)]) (fun a=>a.1.length<=zw) (fun a=>wo (nQ a.1 a.2))
theorem Cb(a b:List za)(Y:Hp)(Z:Nat)(h:a.length<=zw):zg false [] FTq [.sl 1 (zx a),.sl 1 (zx b)] Y Z=some (wo (nQ a b),Y,Z):=
 XX (a,b) _ _ rfl (fun x y e=>by obtain⟨f,g⟩:=x;obtain⟨i,j⟩:=y;simp only[zh,zA]at e;obtain⟨c,d⟩:=e;rw[jd (O.sl.inj c).2,jd (O.sl.inj d).2]) h (.inl rfl)
theorem tJ:zf prog 8 (zg false [] FTq):=
 vX jS func8 false [] fun⟨a,b⟩ c=>⟨zG (zk 2) (by decide),_,Ca a b c,qc _⟩
noncomputable def EX (out:ky->za->O):zb->Option O:=qf (α:=ky×za) (fun a=>[.agg a.1.V,str a.2]) (fun a=>2*a.1.cb<=zw) fun a=>out a.1 a.2
theorem Xx(out:ky->za->O)(c:ky)(n:za)(Y:Hp)(Z:Nat)(h:2*c.cb<=zw):zg false [] (EX out) [.agg c.V,str n] Y Z=some (out c n,Y,Z):=
 yA (V:=fun a:ky×za=>[O.agg a.1.V,str a.2]) (fun a b e=>by obtain⟨d,f⟩:=a;obtain⟨g,i⟩:=b;simp only[zh,zA,O.agg.injEq]at e;rw[cn e.1,wb e.2]) (c,n) (fun Y=>by simp[ky.V]) h (.inr (by simp[ky.V])) Y Z
noncomputable def OO (c:ky) (n:za):wC:=if(jR c n).2=0 then tE (yz n c.flags)else V3
noncomputable def VZ (c:ky) (n:za):O:=.wP [.agg (OO c n).V,int (jR c n).2]
noncomputable abbrev Crfd:Ctx:=zR prog [(17,zg false [] EV),(18,zg false [] (mA fun c s=>Yp (yz s c.flags)))]
theorem EY(c:ky)(n:za)(h:2*c.cb<=zw):∃l,zo Crfd f12 [.agg c.V,str n]=some l/\qX l (VZ c n):=by
 have b:=fun Y Z=>B8 c Y Z h
 have i:=fun Y Z=>QQ (fun c s=>Yp (yz s c.flags)) c n Y Z (by omega)
 refine WO rfl ?_;unfold VZ OO;by_cases d:ZP c=0
 case neg=>
  have j:=xN d;have f:(jR c n).2=ZP c:=by unfold jR;rw[zd d]
  rw[f,zd d];simp only[ky.V]at b;simp[ky.V,b,j,qb,qE,f12];refine⟨.wP [.agg [str [],wo false,.nil,int 0,.nil,.nil,.nil,int 0,str [],str [],.nil],int (ZP c)],by simp,?_⟩;exact ka.wP (.cons mB (.cons (.refl _) .nil))
 rw[d]at b;rcases KD (tG d).up n with⟨k,m,a,_⟩|⟨k,a⟩
 ·obtain⟨g,o⟩:=yx (c.flags[j8 c.flags n]);rw[o]at a;have f:(jR c n).2=0:=by unfold jR;rw[ze d,ze k]
  have e:Yp (yz n c.flags)=.wP [.agg g.V,wo true]:=by rw[a];rfl
  rw[f,ze rfl,a];simp only[e,qd,ky.V]at b i;simp[ky.V,b,i,f12];exact⟨.wP [.agg g.V,int 0],by simp[qd],.refl _⟩
 ·have f:(jR c n).2=5:=by unfold jR;rw[ze d,zd (by simp[k])]
  have e:Yp (yz n c.flags)=.wP [.agg V3.V,wo false]:=by rw[a];rfl
  rw[f,zd (by decide)];simp only[e,qd,ky.V]at b i;simp[ky.V,b,i,qb,qE,f12];refine⟨.wP [.agg [str [],wo false,.nil,int 0,.nil,.nil,.nil,int 0,str [],str [],.nil],int 5],by simp,?_⟩;exact ka.wP (.cons mB (.cons (.refl _) .nil))
theorem Ce:zf prog 12 (zg false [] (EX VZ)):=
 Qu (fn:=f12) (C:=Crfd) (zS mixed ⟨EW,Jd,trivial⟩) (qN func12) false [] _ fun args r h w S vs a=>by obtain⟨⟨c,s⟩,rfl,b,rfl⟩:=zN h;obtain⟨d,e,f⟩:=EY c s b;exact⟨_,d,a,by simp[f12],e,f⟩
noncomputable abbrev CrN:Ctx:=zR prog [(12,zg false [] (EX VZ)),(13,zg false [] SY),(14,zg false [1] (IG fun l v=>wo (decide (v∈l))))]
theorem OP:Gd CrN:=zS mixed ⟨Ce,cU,kf,trivial⟩
theorem I4{c:ky}{n:za}(h:(jR c n).2=0):kT c.flags n=(xA c n).1:=by
 obtain⟨d,f,_⟩:=cP h;have a:=tG d;rcases KD a.up n with⟨_,b,_,e⟩|⟨e,_⟩
 ·have:=cT a b;rw[e]at this;rw[this];unfold xA;rw[ze h]
 ·rw[f]at e;cases e
theorem Cf(c:ky)(n:za)(h:2*c.cb<=zw):∃g,zo CrN Tryz.f5 [.agg c.V,str n]=some g/\YC g (Jc (xA c n)):=by
 have b:=fun Y Z=>Xx VZ c n Y Z h
 simp only[VZ,qd,ky.V]at b;refine xe rfl ?_;by_cases a:(jR c n).2=0
 case neg=>have d:=xN a;have i:=cQ (jR c n).2;unfold xA;rw[zd a];simp[ky.V,b,d,Tryz.f5];exact i _ _
 have e:=tG (cP a).1;have f:=fun Y Z=>eG c n Y Z ⟨by omega,e⟩
 have j:(xA c n).2=0:=by unfold xA;rw[ze a]
 rw[I4 a]at f;rw[a]at b;simp only[ky.V]at f;unfold Jc;rw[j];simp[ky.V,b,f,Jl,Tryz.f5];exact qc _
theorem tK:zf prog 5 (zg false [] (EX fun c n=>Jc (xA c n))):=
 vX OP func5 false [] fun⟨c,n⟩ a=>⟨by simp[Tryz.f5],Cf c n a⟩
theorem Cg(c:ky)(n:za)(h:2*c.cb<=zw):∃M,zo CrN Tryz.f7 [.agg c.V,str n]=some M/\YC M (Jc (Qi c n)):=by
 have A:=fun Y Z=>Xx VZ c n Y Z h
 simp only[VZ,qd,ky.V]at A;have N:zw=268435456:=rfl;refine xe rfl ?_;unfold Qi;by_cases t:(jR c n).2=0
 case neg=>have C:=xN t;have X:=cQ (jR c n).2;rw[zd t];simp[ky.V,A,C,Tryz.f7];exact X _ _
 obtain⟨i1,i2,_⟩:=cP t;have b:=tG i1;have hln:=b.len;rw[ze t];rw[t]at A;obtain⟨S,L⟩:=c;simp only at *;obtain⟨g,u⟩:∃g:Nat->Bool,(fun i=>decide (j8 L n∈gu L i))=g:=⟨_,rfl⟩;rw[u];have D:∀i (hi:i<L.length),decide (n∈kT L L[i].name)=g i:=fun i hi=>by
  rw[<-u];rcases KD b.up n with⟨_,E,_,e⟩|⟨e,_⟩
  ·have:=mD b hi E;rw[e]at this;simp only[this]
  ·rw[i2]at e;cases e
 have F:∀i (hi:i<L.length),(kT L L[i].name).length<=zw:=fun i hi=>by rw[cT b hi];have:=VY L (fun j=>decide (j∈gu L i)) L.length;unfold zw;omega
 simp[ky.V,A];refine zF (fun k U Y Z=>U 1=str n/\U 2=.ref 0 0 0/\U 21=.sl 11 (L.map wC.V)/\U 22=int L.length/\U 23=int k/\0<Z/\Y 0=some (jv S L)/\wa Y Z 9 1 (U 8) (zx (Yo L g k))) L.length
  ⟨by simp,by simp,by simp,by simp,by simp,by simp,by simp[jv],by simp[Yo,zx];exact .inl ⟨rfl,rfl⟩⟩ ?_
 rintro k U Y Z hk ⟨G,H,o,p,q,hnx,P,Q⟩;have I:¬0=Z:=by omega
 have w:¬Z=0:=by omega
 have r:=P;simp only[jv]at r;by_cases d:k<L.length
 ·have R:=ql k;obtain⟨f,B⟩:=yx (L[k]);have m:=D k d;have x:=F k d;rw[B]at m x;have J:=fun Y Z=>eG ⟨S,L⟩ f.name Y Z ⟨by omega,b⟩
  have T:=fun Y Z=>JM (fun l v=>wo (decide (v∈l))) (kT L f.name) n Y Z x
  simp only[ky.V]at J;have a:=eE (f:=g) d;rw[B]at a;have hnn:=VY L g k;have s:=Q.more (some ⟨45,11,false,[f.V]⟩);have y:qR Y Z (some ⟨45,11,false,[f.V]⟩) 0=some (jv S L):=by rw[zM _ _ _ _ I];exact P
  cases z:g k
  ·rw[z]at m a;simp only[zq,qn,jL]at a;have hd:¬n∈kT L f.name:=by simpa using m
   simp[G,H,o,p,q,r,I,w,d,B,qd f,J,T,hd,R];refine⟨by omega,rfl,by rw[a];simpa[qd f]using s⟩
  ·rw[z]at m a;simp only[qB]at a;have hd:n∈kT L f.name:=by simpa using m
   obtain⟨Y2,W,O1,f1⟩:=mG s f.name (by omega);have K:Y2 0=some (jv S L):=by rw[f1 0 (by omega) (JD s y rfl)];exact y
   simp only[qd f]at W;simp[G,H,o,p,q,r,I,w,d,B,qd f,J,T,hd,zr,zJ,zp,W,R];exact⟨by omega,K,by rw[a];exact O1⟩
 ·obtain rfl:k=L.length:=by omega
  simp[G,H,o,p,q,Tryz.f7];exact Q.gU _ _
theorem tL:zf prog 7 (zg false [] (EX fun c n=>Jc (Qi c n))):=
 vX OP func7 false [] fun⟨c,n⟩ a=>⟨by simp[Tryz.f7],Cg c n a⟩
noncomputable abbrev Cln:Ctx:=zR prog [(4,zg false [] (mA fun c n=>Jc (xA c n))),(5,zg false [] (EX fun c n=>Jc (xA c n))),(6,zg false [] (mA fun c n=>Jc (Qi c n))),(7,zg false [] (EX fun c n=>Jc (Qi c n))),(8,zg false [] FTq)]
theorem za7:AM.Good Cln (fun g=>[8].contains g):=qq mixed ⟨BW,by simp,tK,by simp,BX,by simp,tL,by simp,tJ,fun _=>zu _ _,trivial⟩
theorem OQ:J6 Cln (fun g=>[8].contains g) 3 Tryz.f3:=qN func3
theorem Gf{l:List wC}{f:Nat->Bool}(h:l.length<=zw):(Yo l f l.length).length<=zw:=zG (VY l f l.length) h
theorem S8(c:ky)(n:za)(h:2*c.cb<=zw):zo Cln Tryz.f3 [.agg c.V,str n]=some (wo true):=by
 have d:=eA c (by omega);obtain⟨a,f,l⟩:∃a f,xA c n=(a,f):=⟨_,_,rfl⟩;obtain⟨b,e,m⟩:∃b e,Qi c n=(b,e):=⟨_,_,rfl⟩;have g:a.length<=zw:=by
  have:(xA c n).1.length<=zw:=by
   unfold xA;split
   ·exact Gf d
   ·exact j9 _
  rwa [l]at this
 have i:b.length<=zw:=by
  have:(Qi c n).1.length<=zw:=by
   unfold Qi;split
   ·exact Gf d
   ·exact j9 _
  rwa [m]at this
 have o:=fun Y Z=>QQ (fun c n=>Jc (xA c n)) c n Y Z (by omega)
 have p:=fun Y Z=>Xx (fun c n=>Jc (xA c n)) c n Y Z h
 have q:=fun Y Z=>QQ (fun c n=>Jc (Qi c n)) c n Y Z (by omega)
 have r:=fun Y Z=>Xx (fun c n=>Jc (Qi c n)) c n Y Z h
 have j:Jc (xA c n)=.wP [.sl 1 (zx a),int f]:=by rw[l]
 have k:Jc (Qi c n)=.wP [.sl 1 (zx b),int e]:=by rw[m]
 have s:=fun Y Z=>Cb a a Y Z g
 have t:=fun Y Z=>Cb b b Y Z i
 rw[B9]at s t;simp only[j,ky.V]at o p;simp only[k,ky.V]at q r;refine zm rfl ?_;simp[ky.V,o,p,q,r,s,t,zI,Tryz.f3]
end Go.Q
namespace Go.AM
open Go.RowKit Go.WideShapes Go.ChangeShapes
def je{H:Type}(P:Program):Nat->TypeId->DataW H->zb->Prop
 | 0,_,_,_=>False
 |n+1,t,d,a=>match P.underlying t with
  |some .bool=>∃b,d=.lit (.bool b)/\a=[.v (.bool b)]
  |some (.int k)=>∃i,d=.lit (.int k i)/\a=[.v (.int k i)]/\(Lit.int k i).wf=true
  |some .string=>∃s:ByteArray,d=.lit (.string s.data.toList)/\a=[.v (.string s)]/\s.size<=maxLen
  |some (.slice e)=>∃(es:List zb) (ds:List (DataW H)),((d=.nil/\ds=[])\/∃sp,d=.slice ds sp)/\a=[.sl (P.cellsOf e) es]/\es.length<=maxLen/\Zip (fun c y=>c.length=P.cellsOf e/\je P n e y c) es ds
  |some (.struct g)=>∃ds:List (DataW H),d=.agg ds/\a.length=P.cellsOf t/\ds.length=g.size/\∀(i:Nat) f y,g[i]?=some f->ds[i]?=some y->je P n f.type y ((a.drop f.offset).take (P.cellsOf f.type))
  |_=>False
section
variable{H:Type}{V:TypeId×Value->H}{P:Program}{w:World}{sp:Nat->Bool}{held:Bool}
theorem KF{T:List TypeId}(hT:gC P T=true):∀(I:Nat) (t:TypeId) (cs:List Value) (d:DataW H) (ps:List MemPlace),t∈T->DataW.trod V P w 0 sp held I t cs=some (d,ps) ->
  ∃l,Zip (fun x u=>wH w (fun b=>b<w.heap.size) x u/\u.oneCell'=true) l cs/\cs.length=P.cellsOf t/\je P I t d l
 | 0,t,cs,d,ps,_,h=>by simp[DataW.trod]at h
 |n+1,t,cs,d,ps,ht,h=>by
  have p:=zY.1 hT t ht;have one:∀{x:O} {u:Value},wH w (fun b=>b<w.heap.size) x u->u.oneCell'=true->Zip (fun x u=>wH w (fun b=>b<w.heap.size) x u/\u.oneCell'=true) [x] [u]:=fun E h2=>.cons ⟨E,h2⟩ .nil
  split at p
  ·rename_i A;obtain⟨b,rfl,z⟩:=DataW.trod_bool A h;simp only[Lc]at z;exact⟨[.v (.bool b)],one (.v rfl) rfl,by simpa using(by simpa using p:P.cellsOf t=1).symm,by unfold je;rw[A];exact⟨b,z.1,rfl⟩⟩
  ·rename_i k A;obtain⟨i,rfl,z,hwf⟩:=DataW.trod_int A h;simp only[Lc]at z;exact⟨[.v (.int k i)],one (.v rfl) rfl,by simpa using(by simpa using p:P.cellsOf t=1).symm,by unfold je;rw[A];exact⟨i,z.1,rfl,hwf⟩⟩
  ·rename_i A;obtain⟨s,rfl,z,hs⟩:=DataW.trod_string A h;simp only[Lc]at z;exact⟨[.v (.string s)],one (.v rfl) rfl,by simpa using(by simpa using p:P.cellsOf t=1).symm,by unfold je;rw[A];exact⟨s,z.1,rfl,hs⟩⟩
  ·rename_i e A;simp only[zC,jq,qz,List.contains_iff_mem]at p;obtain⟨⟨W,heT⟩,hce⟩:=p;rcases DataW.trod_slice A h with⟨rfl,z⟩|⟨a,len,cap,g,rest,m,hm,rfl,z,_,hlc,hcm,hel,X,_,_⟩
   ·simp only[Lc]at z;refine⟨[.sl (P.cellsOf e) []],one ?_ rfl,by simp[W],by unfold je;rw[A];exact⟨[],[],.inl ⟨z.1,rfl⟩,rfl,by simp,.nil⟩⟩;exact wH.sl (es:=[]) (s:=P.cellsOf e) (fun _ _=>undef) (by simp) (by simp) (by simp[maxLen]) (by simp) (by simp) (by simp)
   ·obtain rfl:m=n:=by omega
    simp only[Lc]at z;have hel':∀i (hi:i<len),∃B,w.cells? 0 (a.add (i*P.cellsOf e)) (P.cellsOf e)=some B/\DataW.trod V P w 0 sp held m e B=some (g[i]'(by omega)):=by
     intro i hi;have E:=X i hi;have h2:g[i]?=some (g[i]'(by omega)):=zl (by omega);rw[h2]at E;cases hc:w.cells? 0 (a.add (i*P.cellsOf e)) (P.cellsOf e)with
     |none=>simp[hc]at E
     |some B=>exact⟨B,rfl,by simpa[hc]using E⟩
    have hch:∀i,∃q:List Value×zb,∀hi:i<len,w.cells? 0 (a.add (i*P.cellsOf e)) (P.cellsOf e)=some q.1/\Zip (fun x u=>wH w (fun b=>b<w.heap.size) x u/\u.oneCell'=true) q.2 q.1/\q.1.length=P.cellsOf e/\je P m e (g[i]'(by omega)).1 q.2:=by
     intro i;by_cases hi:i<len
     ·obtain⟨B,g1,g3⟩:=hel' i hi;obtain⟨l,q1,q2,q3⟩:=KF hT m e B (g[i]'(by omega)).1 (g[i]'(by omega)).2 heT (by rw[g3]);exact⟨(B,l),fun _=>⟨g1,q1,q2,q3⟩⟩
     ·exact⟨([],[]),fun h=>absurd h hi⟩
    let q:Nat->List Value×zb:=fun i=>Classical.choose (hch i)
    have hq:∀i (hi:i<len),w.cells? 0 (a.add (i*P.cellsOf e)) (P.cellsOf e)=some (q i).1/\Zip (fun x u=>wH w (fun b=>b<w.heap.size) x u/\u.oneCell'=true) (q i).2 (q i).1/\(q i).1.length=P.cellsOf e/\je P m e (g[i]'(by omega)).1 (q i).2:=fun i=>jo (hch i)
    have D:((List.range len).map fun i=>(q i).2).length=len:=by simp
    have J:∀(i:Nat) (c:zb),((List.range len).map fun i=>(q i).2)[i]?=some c->i<len/\c=(q i).2:=by
     intro i c hi;have o:i<len:=by have:=(zi.1 hi).1;simpa using this
     rw[qo,jZ o]at hi;simp at hi;exact⟨o,hi.symm⟩
    have key:wH w (fun b=>b<w.heap.size) (.sl (P.cellsOf e) ((List.range len).map fun i=>(q i).2)) (.slice (some a) ((List.range len).map fun i=>(q i).2).length cap):=by
     refine .sl (fun i j=>((q i).1[j]?).getD undef) (by simp) (by rw[D];exact hlc) hcm (fun c hc=>?_) (fun i j c x hi K=>?_) (fun i j c x hi K=>?_)
     ·obtain⟨i,hi,rfl⟩:=qw.1 hc;have E:=hq i (ye.1 hi);rw[E.2.1.1,E.2.2.1]
     ·obtain⟨o,rfl⟩:=J i c hi;obtain⟨g1,L,g3,_⟩:=hq i o;have M:j<(q i).1.length:=by rw[<-L.1];exact(zi.1 K).1
      have C:(q i).1[j]?=some ((q i).1[j]):=zl M;obtain⟨_,g5,g6⟩:=World.cells?_some g1;have r:=g6 j (by omega);rw[bj]at r;rw[C]at r;refine⟨a,rfl,?_,?_,?_⟩
      ·have:=block_lt_of_cell r;rwa [Qx]at this
      ·rw[r,C];rfl
      ·rw[C];exact(L.2 j x _ K C).2
     ·obtain⟨o,rfl⟩:=J i c hi;obtain⟨g1,L,g3,_⟩:=hq i o;have M:j<(q i).1.length:=by rw[<-L.1];exact(zi.1 K).1
      have C:(q i).1[j]?=some ((q i).1[j]):=zl M;rw[C];exact(L.2 j x _ K C).1
    rw[D]at key;refine⟨[.sl (P.cellsOf e) ((List.range len).map fun i=>(q i).2)],one key rfl,by simp[W],?_⟩;unfold je;rw[A];refine⟨_,g.map (·.1),.inr ⟨_,z.1⟩,rfl,by rw[D];omega,by rw[D,w9,hel],fun i c y hi F=>?_⟩;obtain⟨o,rfl⟩:=J i c hi;have E:=hq i o;rw[qo,zl (by omega)]at F;simp only[zy,zW]at F;subst F;exact⟨by rw[E.2.1.1,E.2.2.1],E.2.2.2⟩
  ·rename_i fs A;simp only[zC,jq,zY,List.contains_iff_mem]at p;obtain⟨N,hfT⟩:=p;obtain⟨xs,m,hm,z,hcl,Tt,hf⟩:=DataW.trod_struct A h;obtain rfl:m=n:=by omega
   simp only[Lc]at z;obtain⟨l,g1,L,g3⟩:=oj (P:=P) (R:=fun x u=>wH w (fun b=>b<w.heap.size) x u/\u.oneCell'=true) (Q:=fun f l=>∀(i:Nat) y,fs[i]?=some f->(xs.map (·.1))[i]?=some y->je P m f.type y l) fs.toList 0 (P.cellsOf t) cs N hcl (fun f G=>by
    obtain⟨i,hi⟩:=mJ G;have S:=hf i f (by simpa using hi);have o:i<xs.length:=by rw[Tt];have:=(zi.1 hi).1;simpa using this
    rw[zl o]at S;obtain⟨l,q1,_,q3⟩:=KF hT m f.type _ (xs[i]).1 (xs[i]).2 (hfT f G) S;refine⟨l,q1,fun k y hk F=>?_⟩;have hfk:=hf k f hk;rw[S]at hfk;rw[qo,<-hfk]at F;simp only[zy,zW]at F;subst F;exact q3)
   refine⟨l,⟨by omega,fun j x u K hu'=>L j x u K (by simpa using hu')⟩,hcl,?_⟩;unfold je;rw[A];refine⟨xs.map (·.1),z.1,by omega,by rw[w9,Tt],fun i f y hi F=>?_⟩;have G:f∈fs.toList:=by
    have:fs.toList[i]?=some f:=by simpa using hi
    exact zL this
   have:=(g3 f G).2 i y hi F;simpa using this
  ·cases p
theorem EZ{T:List TypeId}(g:gC P T=true){t:TypeId}{v:Value}{d:DataW H}{e:List MemPlace}{r:Reach}{base:Nat}{i:Array Field}(k:t∈T)(l:P.underlying t=some (.struct i))(m:Value.okWide P w r base t v)(h:DataW.Trod V P w 0 sp held t v d e) :
  ∃(n:Nat) (a:zb),je P n t d a/\wH w (fun b=>b<w.heap.size) (.agg a) v:=by
 obtain⟨n,o⟩:=h;obtain⟨a,f,y,p⟩:=KF g n t v.cells.toList d e k o;obtain⟨cs,rfl,q⟩:=okWide_struct l m;exact⟨n,a,p,.agg (by have:=f.1;simpa[Value.cells]using this) (fun j s u x c=>(f.2 j s u x (by simpa[Value.cells]using c)).1)⟩
theorem OR{T:List TypeId}(x:gC P T=true){t:TypeId}{v:Value}{d:DataW H}{y:List MemPlace}{r:Reach}{base:Nat}(z:t∈T)(A:¬∃f,P.underlying t=some (.struct f))(i:Value.okWide P w r base t v)(h:DataW.Trod V P w 0 sp held t v d y) :
  ∃(n:Nat) (p:O),je P n t d [p]/\wH w (fun b=>b<w.heap.size) p v:=by
 obtain⟨n,B⟩:=h;obtain⟨j,e,k,g⟩:=KF x n t v.cells.toList d y z B;have c:=zY.1 x t z;have m:P.cellsOf t=1:=by
  split at c
  ·simpa using c
  ·simpa using c
  ·simpa using c
  ·simp only[zC,jq]at c;exact c.1.1
  ·rename_i f a;exact absurd ⟨f,a⟩ A
  ·cases c
 rw[m]at k
 match j,e,g with
 |[],e,g=>have:=e.1;rw[k]at this;simp at this
 |p::q::l,e,g=>have:=e.1;rw[k]at this;simp at this
 |[p],e,g=>
  obtain⟨u,o,C,D⟩:=WN e;have s:v=u:=by
   cases v with
   |agg cs=>
    exfalso;split at c
    ·rename_i a;simp[Value.okWide,a,Cell.okWide,Cell.ok]at i
    ·rename_i a;simp[Value.okWide,a,Cell.okWide,Cell.ok]at i
    ·rename_i a;simp[Value.okWide,a,Cell.okWide,Cell.ok]at i
    ·rename_i a;simp[Value.okWide,a,Cell.okWide,Cell.ok]at i
    ·rename_i f a;exact A ⟨f,a⟩
    ·cases c
   |_=>simpa[Value.cells]using o
  subst s;exact⟨n,p,g,C⟩
end
end Go.AM
namespace Go.AM
def ZH(P:Program)(t:TypeId):Option (List (TypeId×Nat×Nat)):=match P.underlying t with
 |some (.struct a)=>some (a.toList.map fun f=>(f.type,f.offset,P.cellsOf f.type))
 |_=>none
def Xy{H:Type}(P:Program)(n:Nat)(pvs:zb):List (TypeId×Nat×Nat)->List (DataW H)->Prop
 |[],[]=>True
 |(t,o,c)::l,y::ds=>je P n t y ((pvs.drop o).take c)/\Xy P n pvs l ds
 |_,_=>False
section
variable{H:Type}{P:Program}{n:Nat}{t:TypeId}{d:DataW H}{pvs:zb}
theorem mH(n:Nat)(pvs:zb):∀(a:List Field) (ds:List (DataW H)),ds.length=a.length->(∀(i:Nat) f y,a[i]?=some f->ds[i]?=some y->je P n f.type y ((pvs.drop f.offset).take (P.cellsOf f.type)))->Xy P n pvs (a.map fun f=>(f.type,f.offset,P.cellsOf f.type)) ds
 |[],[],_,_=>trivial
 |f::a,y::ds,b,h=>⟨h 0 f y rfl rfl,mH n pvs a ds (by simpa using b) fun i f' c d e=>h (i+1) f' c (by simpa using d) (by simpa using e)⟩
theorem cV{l:List (TypeId×Nat×Nat)}(hs:ZH P t=some l):∃a,P.underlying t=some (.struct a)/\l=a.toList.map fun f=>(f.type,f.offset,P.cellsOf f.type):=by
 unfold ZH at hs;split at hs
 ·rename_i a b;injection hs with hs
  exact⟨a,b,hs.symm⟩
 ·cases hs
theorem jw{l:List (TypeId×Nat×Nat)}(hs:ZH P t=some l)(h:je P n t d pvs):∃(m:Nat) (ds:List (DataW H)),n=m+1/\d=.agg ds/\pvs.length=P.cellsOf t/\Xy P m pvs l ds:=by
 obtain⟨a,b,rfl⟩:=cV hs;cases n with
 |zero=>exact h.elim
 |succ m=>unfold je at h;rw[b]at h;obtain⟨ds,c,e,g,j⟩:=h;exact⟨m,ds,rfl,c,e,mH m pvs a.toList ds (by simpa using g) fun i f y k o=>j i f y (by simpa using k) o⟩
theorem z7{o c:Nat}{l:List (TypeId×Nat×Nat)}{ds:List (DataW H)}(h:Xy P n pvs ((t,o,c)::l) ds):∃y a,ds=y::a/\je P n t y ((pvs.drop o).take c)/\Xy P n pvs l a:=by
 cases ds with
 |nil=>exact h.elim
 |cons y a=>exact⟨y,a,rfl,h.1,h.2⟩
theorem jX{ds:List (DataW H)}(h:Xy P n pvs [] ds):ds=[]:=by
 cases ds with
 |nil=>rfl
 |cons y a=>exact h.elim
theorem E0(a:P.underlying t=some .bool)(h:je P n t d pvs):∃b,d=.lit (.bool b)/\pvs=[.v (.bool b)]:=by
 cases n with
 |zero=>exact h.elim
 |succ m=>unfold je at h;rw[a]at h;exact h
theorem vR{k:IntKind}(a:P.underlying t=some (.int k))(h:je P n t d pvs):∃i,d=.lit (.int k i)/\pvs=[.v (.int k i)]/\(Lit.int k i).wf=true:=by
 cases n with
 |zero=>exact h.elim
 |succ m=>unfold je at h;rw[a]at h;exact h
theorem yK(a:P.underlying t=some .string)(h:je P n t d pvs):∃l:za,d=.lit (.string l)/\pvs=[str l]/\l.length<=maxLen:=by
 cases n with
 |zero=>exact h.elim
 |succ m=>unfold je at h;rw[a]at h;obtain⟨s,b,c,e⟩:=h;exact⟨s.data.toList,b,by rw[c],e⟩
theorem yR{e:TypeId}(a:P.underlying t=some (.slice e))(h:je P n t d pvs):∃(m:Nat) (es:List zb) (ds:List (DataW H)),n=m+1/\((d=.nil/\ds=[])\/∃sp,d=.slice ds sp)/\pvs=[.sl (P.cellsOf e) es]/\es.length<=maxLen/\Zip (fun c y=>c.length=P.cellsOf e/\je P m e y c) es ds:=by
 cases n with
 |zero=>exact h.elim
 |succ m=>unfold je at h;rw[a]at h;obtain⟨es,ds,b,f,g,i⟩:=h;exact⟨m,es,ds,rfl,b,f,g,i⟩
theorem jb{α:Type}{V:α->zb}{w:α->Nat}{b:DataW H->Nat}{R:zb->DataW H->Prop}(d:∀c y,R c y->∃a,c=V a/\w a<=b y):∀{es:List zb} {ds:List (DataW H)},Zip R es ds->∃l:List α,es=l.map V/\(l.map w).sum<=(ds.map b).sum
 |[],[],_=>⟨[],rfl,by simp⟩
 |[],_::_,h=>by have:=h.1;simp at this
 |_::_,[],h=>by have:=h.1;simp at this
 |c::es,y::ds,h=>by obtain⟨a,rfl,k⟩:=d c y (h.2 0 c y rfl rfl);obtain⟨l,rfl,m⟩:=jb d (es:=es) (ds:=ds) ⟨by have:=h.1;simpa using this,fun i e f g j=>h.2 (i+1) e f (by simpa using g) (by simpa using j)⟩;exact⟨a::l,rfl,by simp;omega⟩
end
end Go.AM
