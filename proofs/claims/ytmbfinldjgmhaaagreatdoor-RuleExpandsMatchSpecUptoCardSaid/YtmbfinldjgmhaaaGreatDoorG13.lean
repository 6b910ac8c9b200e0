/- Lemmas. -/
import Derived.Sort.Walk0
import Derived.Lib.SlicesCompact
import Derived.Sort.EncStr
import Derived.Shelf.Sort.Plain
import Derived.Shelf.Slices.CompactS
import Derived.Shelf.Slices.In.SortNone
import Derived.Lib.RowBridge
import Derived.Ground.Names2Prog
import Derived.Test.YtmbfinldjgmhaaaGreatDoorG12
set_option maxRecDepth 100000
set_option maxHeartbeats 4000000
open Go Proofs Proofs.YtmbfinldjgmhaaaGreatDoor Proofs.Tryz RowKit AM SpanLaw Q Zz
namespace Go.Q
theorem L7{a b:List qN}(f:a.length<=zx)(g:b.length<=zx){Y:Hp}{Z id e:Nat}(h:Y id=some ⟨e,1,true,[[.sl 11 (z6 a)],[.sl 11 (z6 b)]]⟩) :
  zi true [] sG [.own id 0 2] Y Z=some (.sl 11 (z6 (a++b)),qt Y id none,Z):=by
 have hF:sG [.sl 1 [[.sl 11 (z6 a)],[.sl 11 (z6 b)]]]=some (.sl 11 (z6 (a++b))):=by
  unfold sG Px;exact qG (V:=fun a:List qN×List qN=>[O.sl 1 [[.sl 11 (a.1.map qN.V)],[.sl 11 (a.2.map qN.V)]]]) (a:=(a,b)) (fun x y e=>by obtain⟨i,j⟩:=x;obtain⟨k,l⟩:=y;simp only[zl,zM]at e;injection e with _ e;simp only[zl,zM]at e;obtain⟨c,d⟩:=e;injection c with _ c;injection d with _ d;rw[xd c,xd d]) ⟨f,g⟩
 simp[zi,zw,qa,wu,h,q6,hF,O.flat,O.noOwn]
noncomputable abbrev Ctog:Ctx:=zW prog [(196,zi true [] sG),(197,vA [.s 5 jz] FSc),(199,qA [.s 11 jo,.g jz] (FRC fun l c=>q8 (yt l c))),(198,zi false [] FTk)]
theorem Uj:AM.Good Ctog (fun g=>[199,198].contains g):=qx mixed ⟨pI,by simp,pJ,by simp,pC,fun _=>yR _ _,Dd,fun _=>zr _ _,trivial⟩
theorem L8(w:Int)(a b:List qN)(ha:yK a)(hb:yK b)(hga:yX a)(hgb:yX b) :
  ∃x Y Z,je Ctog f154 [int w,.sl 11 (z6 a),.sl 11 (z6 b)] (fun _=>none) 0=some (x,Y,Z)/\BX jo (Wt (QO w) a b) x Y Z:=by
 refine qz rfl ?_;have hsa:=ha;have hsb:=hb;obtain⟨ha1,ha2⟩:=ha;obtain⟨hb1,hb2⟩:=hb;have hcat:=fun Y Z id e h=>L7 ha1 hb1 (Y:=Y) (Z:=Z) (id:=id) (e:=e) h
 unfold zx at ha1 hb1;have B:=PA (QO w) hga hgb;obtain⟨l,hl⟩:=jj (a++b);rw[hl]at B hcat;have hll:l.length<=536870912:=by rw[<-hl];simp;omega
 have hlsm:∀s∈l,s.small:=fun s hs=>by
  rw[<-hl]at hs;rcases zF.1 hs with h|h
  ·exact ha2 s h
  ·exact hb2 s h
 have hel:(z6 l).length=l.length:=by simp[z6]
 have zfS:=hcat (qt (fun _=>none) 0 (some ⟨132,1,true,[[.sl 11 (z6 a)],[.sl 11 (z6 b)]]⟩)) 1 0 132 (by simp);simp[zp,zy,zo,zfS,hel];refine zT (fun k U Y Z=>U 0=int w/\U 1=.sl 11 (z6 a)/\U 2=.sl 11 (z6 b)/\qU Y Z 174 5 (U 7) (q7 (qV (l.take k))) /\
   U 18=.sl 11 (z6 l)/\U 19=int l.length/\U 20=int k) l.length
   ⟨by simp,by simp,by simp,.inl ⟨by simp,by simp[qV,q7]⟩,by simp,by simp,by simp⟩ ?_
 rintro k U Y Z hk ⟨G,H,I,F,h25,h26,h27⟩;by_cases f:k<l.length
 ·have z:=qH k;have q:∀h:k<(z6 l).length,(z6 l)[k]=l[k].V:=fun h=>by simp[z6]
  have hcn:=ZT (l.take k);rw[yV]at hcn;have U6:=rT f;obtain⟨xs,g⟩:=jj (q7 (qV (l.take k)));have r:xs.length<=1073741824:=by rw[<-g];simp[q7];omega
  rw[g]at F;have hE:q7 (qV (l.take (k+1)))=xs++(if l[k].y7=true then[l[k].lo]else[l[k].lo,l[k].hi]).map Cut.V:=by rw[U6,rU,g];rfl
  have hkn:=fun Y'=>yi F Y' Z (B6 F (ze _))
  obtain⟨s,hs⟩:=jj (l[k]);rw[hs]at U6 q hE;have p:=qU.yS (P:=prog) (t:=204) (c:=s.lo.V) (F.more (some ⟨176,11,false,[s.V]⟩)) fC cy ru rv rfl (by omega) (by unfold maxLen;omega) (by omega);have J:=qU.after (Y:=qt Y Z (some ⟨176,11,false,[s.V]⟩)) (Z:=Z+1) (e:=174) (s:=5) (v:=U 7) (xs:=xs) (c:=s.lo.V) (tmp:=some ⟨174,5,true,[s.lo.V]⟩);have u:=qU.yS (P:=prog) (t:=204) (c:=s.hi.V) J fC cy ru rv rfl (by omega) (by simp;unfold maxLen;omega) (by simp;omega);rw[show(xs++[s.lo.V]).length=xs.length+1 by simp,qT,show[s.lo.V]++[s.hi.V]=[s.lo.V,s.hi.V]from rfl]at u;have K:=qU.after (Y:=qt (QM (U 7) (qt (qt Y Z (some ⟨176,11,false,[s.V]⟩)) (Z+1) (some ⟨174,5,true,[s.lo.V]⟩))) (Z+1+1) (some ⟨174,5,true,xs++[s.lo.V]⟩)) (Z:=Z+1+2) (e:=174) (s:=5) (v:=.own (Z+1+1) 0 (xs.length+1)) (xs:=xs++[s.lo.V]) (c:=s.hi.V) (tmp:=some ⟨174,5,true,[s.hi.V]⟩);rw[show(xs++[s.lo.V]).length=xs.length+1 by simp,qT,show[s.lo.V]++[s.hi.V]=[s.lo.V,s.hi.V]from rfl]at K;simp only[qN.V,Cut.V,qX,kj]at p u J K q;have m1:¬Z=Z+1+1:=by omega
  have m2:¬Z=Z+1+2:=by omega
  have m3:¬Z=Z+1+2+1:=by omega
  cases C:s.y7
  ·rw[C]at U6;rw[C]at p u J K q;simp[G,H,I,h25,h26,h27,f,hel,q,p,u,hkn,z,m1,m2,m3,zp,zy,zo];refine⟨by omega,?_⟩;rw[hE,C];simp only[zO,wx,wg,K2,Cut.V];exact K
  ·rw[C]at U6;rw[C]at p u J K q;simp[G,H,I,h25,h26,h27,f,hel,q,p,hkn,z,m1,m2,m3,zp,zy,zo];refine⟨by omega,?_⟩;rw[hE,C];simp only[qI,wg,K2,Cut.V];exact J
 ·obtain rfl:k=l.length:=by omega
  rw[wJ]at F;have Gy:∀c∈qV l,c.v.small:=YH (Q:=fun c=>c.v.small) hlsm;have hcl:=ZT l;obtain⟨v,Y',Z',L,R5,U9⟩:=Ae F Gy (by omega);obtain⟨cs,hcs⟩:=jj (kE (qV l));have hcsl:cs.length<=1073741824:=by have:=bV (qV l) [];rw[<-hcs];unfold kE;simp at this;omega
  have hcsm:∀c∈cs,c.v.small:=fun c hc=>by
   rw[<-hcs]at hc;rcases bW hc with h|h
   ·exact Gy c h
   ·cases h
  rw[hcs]at B R5;have hfin:=B;obtain⟨is,his⟩:∃is:Cut->Bool,(fun c=>QO w (yt a c) (yt b c))=is:=⟨_,rfl⟩;have hisc:∀c,QO w (yt a c) (yt b c)=is c:=fun c=>by rw[<-his]
  rw[his]at hfin;clear F hcs Gy B;have M:=R5.len fC;have j:(q7 cs).length=cs.length:=by simp[q7]
  rw[j]at M;simp[G,H,I,h25,h26,h27,L,M];refine zT (fun k U Y Z=>U 0=int w/\U 1=.sl 11 (z6 a)/\U 2=.sl 11 (z6 b)/\U 40=v/\U 41=int cs.length/\U 42=int k/\qU Y Z 174 5 v (q7 cs)/\∃xs,qU Y Z 176 11 (U 10) xs/\xs.map (QI jo)=z6 (Vj is (cs.take k) (false,[])).2 /\
    U 11=q8 (Vj is (cs.take k) (false,[])).1/\(∀id n m,v=.own id 0 n->U 10≠.own id 0 m)/\((Vj is (cs.take k) (false,[])).1=true->(Vj is (cs.take k) (false,[])).2≠[])/\xs.length<=k/\(xs=[]->U 10=.nil)) cs.length
   ⟨by simp[G],by simp[H],by simp[I],by simp,by simp,by simp,R5,[],.inl ⟨by simp,rfl⟩,by simp[Vj,z6],by simp[Vj],by simp,by simp[Vj],by simp,by simp⟩ ?_
  clear G H I h25 h26 h27 R5 hk f U Y Z L M U9 Y' Z';rintro k U Y Z hk ⟨G,H,I,N,R,S,F,xs,hX,g,D,pT,T,hxk,hxn⟩;by_cases f:k<cs.length
  ·have z:=qH k;obtain⟨id,hid,rfl,hh⟩:=F.at_ (by rw[j];omega);have o:=B5 is f (false,[]);obtain⟨st,RA⟩:=jj (Vj is (cs.take k) (false,[]));obtain⟨c,hc⟩:=jj (cs[k]);rw[hc,RA]at o;rw[RA]at g D T;have W:=B4 is st c T;have y:c.v.small:=hcsm c (by rw[<-hc];exact zk f);have q:∀h:k<(q7 cs).length,(q7 cs)[k]=c.V:=fun h=>by simp[q7,hc]
   have X:=fun Y Z=>cS a c Y Z hsa y
   have Ea:=fun Y Z=>cS b c Y Z hsb y
   have d:=fun Y Z=>Xh w (yt a c) (yt b c) Y Z
   rw[hisc c]at d;simp only[Cut.V]at X Ea q;have m0:¬id=Z:=by omega
   have m1:¬id=Z+1:=by omega
   have m2:¬id=Z+1+1:=by omega
   rw[j]at F;have hki:=fun Y'=>yi hX Y' id (fun n=>pT id _ n rfl)
   have RB:aT is st c=(is c,if(is c&&!st.1)=true then st.2++[w5 c]else if(!is c&&st.1)=true then Qu st.2 c else st.2):=rfl;rw[RB]at o;rw[RB]at W;simp only at W;obtain⟨op,out⟩:=st;simp only at g D T W;cases hb:is c<;>cases op
   ·rw[hb]at d o;simp at o;simp[G,H,I,N,R,S,j,f,hh,q,X,Ea,d,-Xh,D,z,m0,o];exact⟨by omega,F.more _,xs,hX.more _,g,fun i n m e _=>pT i _ m (by rw[e]),by omega,hxn⟩
   ·rw[hb]at d o;simp at o;have hne:=T rfl;obtain⟨m,hm⟩:∃m,out.length=m+1:=⟨out.length-1,by have:=kZ.2 hne;omega⟩;have r:xs.length=m+1:=by have:=zu List.length g;simp[z6]at this;omega
    obtain⟨E,hid2,A,hh2⟩:=hX.at_ (by omega);have Eb:¬E=id:=fun e=>pT id _ _ rfl (by rw[A,e])
    have RC:¬id=E:=fun e=>Eb e.symm
    have p0:¬E=Z:=by omega
    rw[r]at A;have U7:m<xs.length:=by omega
    have hlo:m<out.length:=by omega
    have hrm:QI jo xs[m]=out[m].V:=by
     have e1:(xs.map (QI jo))[m]?=(z6 out)[m]?:=by rw[g]
     simp only[qf,zj U7,z6,zj hlo,zA,zN]at e1;exact e1
    obtain⟨x3,x5,x6,x7,x8,x9,x10,My,U8,Ec⟩:=rS hrm;have wm:=wX (m:Int);have wm1:IntKind.i64.wrap ((m:Int)+1-1)=(m:Int):=by rw[wQ (by omega) (by omega)];omega
    simp[G,H,I,N,R,S,j,f,hh,q,X,Ea,d,-Xh,D,z,m0,o,A,hh2,p0,wm,wm1,U7,My,Ec,y9];refine⟨by omega,.inr ⟨id,by omega,by rw[j],by simp[RC,m0,hh]⟩,xs.set m [int out[m].lo.v.a,int out[m].lo.v.b,int out[m].lo.v.c,x3,q8 out[m].lo.after,int c.v.a,int c.v.b,int c.v.c,.sl 1 (zH c.v.pre),q8 c.after,q8 false],.inr ⟨E,by omega,by simp[r],by simp⟩,?_,fun i n k' e _ e2=>absurd (e2.trans e.symm) Eb,by simp;omega,fun e=>by have:=zu List.length e;rw[X8,r]at this;cases this⟩;rw[AE,g,fM hlo hm c,z6,z6,AE];simp[U8,qN.V,Cut.V]
   ·rw[hb]at d o;simp at o;have p:=qU.yS (P:=prog) (t:=132) (c:=[int c.v.a,int c.v.b,int c.v.c,.sl 1 (zH c.v.pre),q8 c.after,int 0,int 0,int 0,.nil,q8 false,q8 true]) (hX.more (some ⟨174,5,false,[c.V]⟩)) GW ry Bo Bp rfl (by omega) (by unfold maxLen;omega) (by omega);simp only[Cut.V]at p;simp[G,H,I,N,R,S,j,f,hh,q,X,Ea,d,-Xh,D,z,m0,o,p,zS,qn,zp,zy,zo];refine⟨by omega,.inr ⟨id,by omega,by rw[j],by simp[hki,hh,m0,m1,m2]⟩,xs++[[int c.v.a,int c.v.b,int c.v.c,.sl 1 (zH c.v.pre),q8 c.after,int 0,int 0,int 0,.nil,q8 false,q8 true]],by simpa using qU.after,?_,fun i n m e _ e2=>by omega,by simp;omega⟩;rw[za3,g];simp[z6,w5,qN.V,Cut.V,QL,zH]
   ·rw[hb]at d o;simp at o;simp[G,H,I,N,R,S,j,f,hh,q,X,Ea,d,-Xh,D,z,m0,o];exact⟨by omega,F.more _,xs,hX.more _,g,fun i n m e _=>pT i _ m (by rw[e]),T rfl,by omega,hxn⟩
  ·obtain rfl:k=cs.length:=by omega
   rw[wJ]at g;rw[<-hfin]at g;have r:xs.length=(kv (QO w) a b).length:=by have:=zu List.length g;simpa[z6]using this
   simp[G,H,I,N,R,S,f154];unfold Wt;rcases hX with⟨A,rfl⟩|⟨E,hid2,A,hh2⟩
   ·rw[zf (qj.1 r.symm)];exact A
   ·by_cases hz:kv (QO w) a b=[]
    ·rw[zf hz];rw[hz]at r;exact hxn (qj.1 r)
    ·rw[zc hz];refine⟨E,_,A,hh2,rfl,?_⟩;simp only[eE,g]
noncomputable def L9:zb->Option (Option kn):=qu (α:=Int×List qN×List qN) (fun a=>[int a.1,.sl 11 (z6 a.2.1),.sl 11 (z6 a.2.2)]) (fun a=>(yK a.2.1/\yK a.2.2)/\yX a.2.1/\yX a.2.2) (fun a=>Wt (QO a.1) a.2.1 a.2.2)
theorem Uk:∀a b:Int×List qN×List qN,[int a.1,O.sl 11 (z6 a.2.1),.sl 11 (z6 a.2.2)]=[int b.1,.sl 11 (z6 b.2.1),.sl 11 (z6 b.2.2)]->a=b:=by rintro⟨g,h,i⟩ ⟨j,k,l⟩ e;simp only[zl,zM]at e;obtain⟨c,d,f⟩:=e;injection c with c;injection c with _ c;injection d with _ d;injection f with _ f;rw[c,xd d,xd f]
theorem oc:zg prog 154 (vA [.a,.s 11 jo,.s 11 jo] L9):=
 Jw (fn:=f154) Uj (qE func154) _ jo _ fun args r h=>by obtain⟨⟨w,a,b⟩,rfl,⟨⟨c,d⟩,e,f⟩,rfl⟩:=zK h;exact⟨by simp[f154],L8 w a b c d e f⟩
def dJ(Y:Hp)(Z:Nat)(v:O)(m:List qN):Prop:=(v=.nil/\m=[])\/∃id xs,id<Z/\v=.own id 0 xs.length/\Y id=some ⟨176,11,true,xs⟩/\xs.map (QI jo)=z6 m
theorem dJ.frz{Y:Hp}{Z:Nat}{v:O}{m:List qN}(h:dJ Y Z v m):∃y Y1,qa Y v=some (y,Y1)/\(Sh.s 11 jo).fix y=.sl 11 (z6 m)/\(∀j,(∀n,v≠.own j 0 n)->Y1 j=Y j):=by
 rcases h with⟨rfl,rfl⟩|⟨id,xs,d,rfl,a,b⟩
 ·exact⟨_,Y,rfl,rfl,fun _ _=>rfl⟩
 ·exact⟨.sl 11 xs,qt Y id none,by simp[a],by rw[Sh.oG,b],fun j c=>zm _ _ _ _ fun e=>c _ (by subst e;rfl)⟩
theorem dJ.keep{Y Y':Hp}{Z a:Nat}{v:O}{m:List qN}(h:dJ Y Z v m)(f:Z<=a)(b:∀id,id<Z->(∀n,v=.own id 0 n->Y' id=Y id)):dJ Y' a v m:=by
 rcases h with⟨rfl,rfl⟩|⟨id,xs,c,rfl,d,e⟩
 ·exact .inl ⟨rfl,rfl⟩
 ·exact .inr ⟨id,xs,by omega,rfl,by rw[b id c _ rfl];exact d,e⟩
theorem dJ.len{Y:Hp}{Z:Nat}{v:O}{m:List qN}(h:dJ Y Z v m):Yt prog 132 v=some (int m.length):=by
 rcases h with⟨rfl,rfl⟩|⟨id,xs,b,rfl,c,a⟩
 ·simp
 ·have:=zu List.length a;simp[z6]at this;simp[this]
theorem dJ.box{Y:Hp}{Z:Nat}{v:O}{m:List qN}(h:dJ Y Z v m){j:Nat}{b:kn}(a:Y j=some b)(c:b.e≠176):∀n,v≠.own j 0 n:=by
 rcases h with⟨rfl,rfl⟩|⟨id,xs,f,rfl,d,g⟩
 ·intro n e;cases e
 ·intro n e;injection e with e
  subst e;rw[d]at a;injection a with a
  subst a;exact c rfl
theorem Dy(c:Int)(f:Bool->Bool->Bool)(l:QO c=f){Y:Hp}{Z:Nat}{v:O}{a b:List qN}(m:dJ Y Z v a)(o:yK a)(p:yK b)(q:yX a)(r:yX b) :
  ∃x Y' g,vA [.a,.s 11 jo,.s 11 jo] L9 [int c,v,.sl 11 (z6 b)] Y Z=some (x,Y',g)/\dJ Y' g x (kv f a b)/\Z<=g/\∀j,j<Z->(∀n,v≠.own j 0 n)->Y' j=Y j:=by
 obtain⟨y,Y1,t,u,k⟩:=m.frz;have e:zw Y [int c,v,.sl 11 (z6 b)]=some ([int c,y,.sl 11 (z6 b)],Y1):=by have w:qa Y (int c)=some (int c,Y):=rfl;have z:qa Y1 (.sl 11 (z6 b))=some (.sl 11 (z6 b),Y1):=rfl;simp only[zw,w,t,z]
 have hF:L9 (cw [.a,.s 11 jo,.s 11 jo] (q6 [] [int c,y,.sl 11 (z6 b)]))=some (Wt f a b):=by show L9 [Sh.a.fix (int c),(Sh.s 11 jo).fix y,(Sh.s 11 jo).fix (.sl 11 (z6 b))]=_;rw[u,JY,<-l];exact qG (V:=fun a:Int×List qN×List qN=>[int a.1,O.sl 11 (z6 a.2.1),.sl 11 (z6 a.2.2)]) (a:=(c,a,b)) Uk ⟨⟨o,p⟩,q,r⟩
 unfold vA yh;by_cases h:kv f a b=[]
 ·have d:=hF;unfold Wt at d;rw[zf h]at d;simp only[e,d];exact⟨_,_,_,rfl,.inl ⟨rfl,h⟩,ze _,fun j _ i=>k j i⟩
 ·have d:=hF;unfold Wt at d;rw[zc h]at d;simp only[e,d];exact⟨_,_,_,rfl,.inr ⟨Z,z6 (kv f a b),by omega,rfl,by simp,by have:=JY (kv f a b);simpa[Sh.oG]using this⟩,by omega,fun j A i=>by rw[zm _ _ _ _ (by omega)];exact k j i⟩
theorem zfo:QO 1=and:=by funext a b;simp[QO]
theorem zfp:QO 0=or:=by funext a b;simp[QO]
theorem Af:∀(c:List za) (l:List aY) (n:Nat),jP c=some l->(∀w∈c,w.length<=n)->l.length<=c.length/\∀a∈l,a.2.length<=n
 |[],l,n,h,_=>by simp only[jP]at h;injection h with h;subst h;simp
 |[w],l,n,h,d=>by
  simp only[jP]at h;split at h
  ·cases h
  ·injection h with h;subst h;refine⟨by simp,fun a b=>?_⟩;rw[qB]at b;rw[b];exact zE (KE we w) (d w (by simp))
 |w::x::c,l,n,h,d=>by
  simp only[jP]at h;split at h
  ·cases e:jP c with
   |none=>rw[e]at h;cases h
   |some l'=>
    rw[e]at h;simp only[zA,zN]at h;subst h;obtain⟨i,f⟩:=Af c l' n e fun y g=>d y (by simp[g])
    refine⟨by simp;omega,fun a b=>?_⟩;rcases zv.1 b with rfl|b
    ·exact d x (by simp)
    ·exact f a b
  ·cases e:jP (x::c)with
   |none=>rw[e]at h;cases h
   |some l'=>
    rw[e]at h;simp only[zA,zN]at h;subst h;obtain⟨i,f⟩:=Af (x::c) l' n e fun y g=>d y (by simp[zv.1 g])
    refine⟨by simp at i⊢;omega,fun a b=>?_⟩;rcases zv.1 b with rfl|b
    ·exact zE (KE we w) (d w (by simp))
    ·exact f a b
theorem Dz{t:za}{l:List aY}(h:jP (yN t)=some l):l.length<=t.length+1/\∀a∈l,a.2.length<=t.length:=by
 have c:wz (qh t [32])=yN t:=fc t;obtain⟨e,d⟩:=Af _ l t.length h fun w b=>by rw[<-c]at b;exact vf (za4.1 b).1
 have f:(yN t).length<=t.length+1:=by rw[<-c];exact zE (zcB _ _) (xZ (by simp))
 exact⟨by omega,d⟩
theorem sJ{o:za}{p:Part}(a:pE o)(Y:p.ok)(b:Qw p.pre):yX (bS o p).1/\(bS o p).1.length<=1:=by
 obtain⟨c,d⟩:=J1 (Dp a Y b);unfold bS;by_cases h:(vj (JW o p)).2=true
 ·rw[zf h];exact⟨d,c⟩
 ·rw[zc h];exact⟨(fun s hs=>by cases hs),by simp⟩
theorem Ul(a b:za):((⟨a.toArray⟩:ByteArray)==⟨b.toArray⟩)=decide (a=b):=by show(a.toArray==b.toArray)=_;by_cases h:a=b<;>simp[h]
theorem PF(a b c d:za):xV prog .eql 216 (.agg [str a,str b]) (.agg [str c,str d])=some (q8 (decide (a=c)&&decide (b=d))):=by simp only[xV,zeH,wZ,zA,zhs,Ul]
noncomputable def W5 (t:za):List qN×Int:=match Vr t with
 |none=>([],10)
 |some m=>(m.1,if m.2=true then 0 else 1)
noncomputable def YS (t:za):O:=.wq [.sl 11 (z6 (W5 t).1),int (W5 t).2]
def AltI(l:List aY)(k:Nat)(Y:Hp)(Z:Nat)(v w:O):Prop:=∃o a,dJ Y Z v o/\yX o/\o.length<=k+1/\w=int (if a=true then 0 else 1)/\ZD [w5 qR] true l=ZD o a (l.drop k)
noncomputable abbrev zaK:Ctx:=zW prog [(190,zi false [] (MG pG)),(191,zi false [] FBt2),(192,qA [] (YG ep)),(193,zi false [] (FS yo)),(194,zi false [] (Vn F4)),(195,qA [.a,.g kp] T9),(154,vA [.a,.s 11 jo,.s 11 jo] L9)]
theorem PG:AM.Good zaK (fun g=>[191].contains g):=qx mixed ⟨u9,by simp,oa,fun _=>zr _ _,dt,by simp,pA,by simp,YQ,by simp,nW,by simp,oc,by simp,trivial⟩
theorem Ma(t:za)(ht:t.length+1<=zx):∃r0,zt zaK f153 [str t]=some r0/\qg r0 (YS t):=by
 refine yM (sh:=.s 11 jo) rfl ?_;have hwo:∀(Y:Hp) (Z:Nat),zi false [] (MG pG) [str t] Y Z=some (pG t,Y,Z):=fun Y Z=>Js t _ _ rfl (fun a b e=>wR (by injection e)) (by show t.length<=zx;omega) (.inr (by simp))
 refine QA (fun st=>st.U 0=str t) (by simp) ?_;rintro⟨U,Y,Z⟩ h0;simp only at h0;refine QA (fun st=>st.U 4=.sl 2 (Q3 (ig t).1)/\st.U 5=q8 (ig t).2) (by simp[h0,hwo,pG]) ?_;clear h0 U Y Z;rintro⟨U,Y,Z⟩ ⟨y,M⟩;simp only at y M;cases E:jP (yN t)with
 |none=>
  have hr:ig t=([],false):=by unfold ig;rw[E]
  have H:W5 t=([],10):=by unfold W5 Vr;rw[E]
  rw[hr]at y M;simp[y,M,qo,YS,H,z6,f153]
 |some l=>
 have hr:ig t=(l,!l.isEmpty):=by unfold ig;rw[E]
 rw[hr]at y M;simp only at y M;by_cases N:l=[]
 ·have H:W5 t=([],10):=by unfold W5 Vr;rw[E];simp only;rw[zf N]
  subst N;simp[y,M,qo,YS,H,z6,f153]
 have I:Vr t=match Xo l with
  |some a=>match Qc a.1,Qc a.2 with
   |some p,some q=>some (dw p q)
   |_,_=>none
  |none=>ZD [w5 qR] true l:=by unfold Vr;rw[E];simp only;rw[zc N];rfl
 have S:l.isEmpty=false:=by cases l<;>simp at N⊢
 rw[S]at M;obtain⟨hll,T⟩:=Dz E;have hsg:=nU _ l E;have j:=nX l;unfold zx at ht;refine QA (fun st=>st.U 4=.sl 2 (Q3 l)) (by simp[M,y]) ?_;clear y M U Y Z;rintro⟨U,Y,Z⟩ y;simp only at y;refine QA (fun st=>st.U 4=.sl 2 (Q3 l)/\Xo l=none) ?_ ?_
 ·by_cases h3:l.length=3
  ·match l,h3 with
   |[a,b,c],_=>
   obtain⟨X,R⟩:=a;obtain⟨b1,b2⟩:=b;obtain⟨c1,c2⟩:=c;have hd:Xo [(X,R),(b1,b2),(c1,c2)]=if(b1,b2)=(([],[45]):aY)/\X=[]/\c1=[]then some (R,c2)else none:=rfl
   have ha2:R.length<=t.length:=T (X,R) (by simp);have hc2:c2.length<=t.length:=T (c1,c2) (by simp);have hbt:=fun Y Z=>LZ R c2 Y Z ⟨by unfold zx;omega,by unfold zx;omega⟩
   by_cases k1:b1=[]
   ·subst k1;by_cases k2:b2=[45]
    ·subst k2;by_cases k3:X=[]
     ·subst k3;by_cases k4:c1=[]
      ·subst k4;rw[zf ⟨rfl,rfl,rfl⟩]at hd;rw[hd]at I;have H:W5 t=n9 R c2:=by unfold W5 n9;rw[I];simp only;cases h1:Qc R<;>cases h2:Qc c2<;>simp
       have hfx:=JY (n9 R c2).1;simp only[Sh.oG,O.sl.injEq,true_and]at hfx;simp only[Xr]at hbt;simp[y,Q3,hbt,PF,zS,qn,qo,YS,H,hfx,f153]
      ·rw[zc (fun h=>k4 h.2.2)]at hd;have e4:c1.isEmpty=false:=by cases c1 with
        |nil=>exact absurd rfl k4
        |cons=>rfl
       simp[y,Q3,PF,zS,qn,e4,hd]
     ·rw[zc (fun h=>k3 h.2.1)]at hd;have e3:X.isEmpty=false:=by cases X with
       |nil=>exact absurd rfl k3
       |cons=>rfl
      simp[y,Q3,PF,zS,qn,e3,hd]
    ·rw[zc (fun h=>k2 (by have:=h.1;injection this))]at hd;simp[y,Q3,PF,zS,qn,k2,hd]
   ·rw[zc (fun h=>k1 (by have:=h.1;injection this))]at hd;simp[y,Q3,PF,zS,qn,k1,hd]
  ·have hd:Xo l=none:=by
    unfold Xo;split
    ·rename_i a b c;exact absurd rfl h3
    ·rfl
   have U8:((l.length:Int)==3)=false:=by rw[yy];omega
   simp[y,j,U8,hd]
 clear y U Y Z;rintro⟨U,Y,Z⟩ ⟨y,hd⟩;simp only at y;rw[hd]at I;simp only at I;have S:∀(Y:Hp) (Z:Nat),qA [] (YG ep) [] Y Z=some (.agg [int qR.v.a,int qR.v.b,int qR.v.c,.sl 1 (zH qR.v.pre),q8 qR.after],Y,Z):=fun Y Z=>QY _ Y Z
 simp[y,j,S,zS,qn,zp,zy,zo];refine zT (fun k U Y Z=>U 60=.sl 2 (Q3 l)/\U 61=int l.length/\U 62=int k/\AltI l k Y Z (U 6) (U 7)) l.length
  ⟨by simp,by simp,by simp,[w5 qR],true,.inr ⟨Z,[[int qR.v.a,int qR.v.b,int qR.v.c,.sl 1 (zH qR.v.pre),q8 qR.after,int 0,int 0,int 0,.nil,q8 false,q8 true]],by simp,by simp,by simp,by simp[z6,w5,qN.V,Cut.V,QL,zH]⟩,(Z5 kS).2,by simp,by simp,by simp⟩ ?_
 clear y U Y Z;rintro k U Y Z hk ⟨m,r,u,o,ok,hM,P,hol,h7,g⟩;by_cases d:k<l.length
 ·have J:=qH k;obtain⟨a,ha⟩:=jj (l[k]);have W:a∈l:=by rw[<-ha];exact zk d
  have z:∀h:k<(Q3 l).length,(Q3 l)[k]=[str a.1,str a.2]:=fun h=>by simp[Q3,ha]
  have hal:=T a W;have K:=fun Y Z=>kA yo a.2 Y Z (by unfold zx;omega)
  have D:=fun Y Z=>vI F4 a.2 Y Z (by unfold zx;omega)
  simp only[F4,wN.V]at D;rw[zh d,ha]at g;simp only[ZD]at g;have hie:a.1≠[]->a.1.isEmpty=false:=fun h=>by cases he:a.1 with
   |nil=>exact absurd he h
   |cons=>rfl
  by_cases w:a.1=[]/\yo a.2=true
  ·rw[zf w]at g;obtain⟨f,F⟩:=w;simp[m,r,u,d,j,z,f,K,F,J];exact⟨by omega,o,ok,hM.keep (by omega) fun id hid n e=>zm _ _ _ _ (by omega),P,by omega,h7,g⟩
  ·rw[zc w]at g;have hM1:∀b1 b2,dJ (qt (qt Y Z b1) (Z+1) b2) (Z+1+1) (U 6) o:=fun b1 b2=>hM.keep (by omega) fun id hid n e=>by rw[zm _ _ _ _ (by omega),zm _ _ _ _ (by omega)]
   have n1:¬Z=Z+1:=by omega
   cases L:Qc a.2 with
   |none=>
    rw[L]at g;simp only at g;have H:W5 t=([],10):=by unfold W5;rw[I,g]
    have A:=nZ L;by_cases f:a.1=[]
    ·have F:yo a.2=false:=by cases G:yo a.2;rfl;exact absurd ⟨f,G⟩ w
     rcases A with A|A
     ·simp[m,r,u,d,j,z,f,K,F,D,A,qo,YS,H,z6,f153]
     ·cases G:(Vq a.2).2.2<;>simp[m,r,u,d,j,z,f,K,F,D,A,G,qo,YS,H,z6,f153]
    ·have f:=hie f;rcases A with A|A
     ·simp[m,r,u,d,j,z,f,D,A,qo,YS,H,z6,f153]
     ·cases G:(Vq a.2).2.2<;>simp[m,r,u,d,j,z,f,D,A,G,qo,YS,H,z6,f153]
   |some p=>
    rw[L]at g;simp only at g;obtain⟨p1,p2,p3,p4,p5,p6,p7⟩:=nY L;obtain⟨_,_,q3,q4⟩:=Z9 L;have Q:=yq p3;rw[<-p2]at p6 p7;have B:=fun Y Z=>LW a.1 (Vq a.2).1 (Vq a.2).2.1 Y Z (hsg a W) p5 ⟨p6,p7⟩
    simp only[W4,<-p4,wN.V]at B;obtain⟨g1,g2⟩:=sJ (hsg a W) q3 q4;have U7:=Yq and o (bS a.1 p).1;obtain⟨x,Y',Z',C,hX,U9,_⟩:=Dy 1 and zfo (hM1 (some ⟨216,2,false,[[str a.1,str a.2]]⟩) (some ⟨148,4,false,[(Vq a.2).1.V]⟩)) (P.small (by unfold zx;omega)) (g1.small (by unfold zx;omega)) P g1;simp only[wN.V]at C;have i:∀n:Int,n=(if(ok&&(bS a.1 p).2)=true then 0 else 1)->AltI l (k+1) Y' Z' x (int n):=fun n hn=>⟨_,_,hX,kx and P g1,by omega,by rw[hn],g⟩
    by_cases f:a.1=[]
    ·have F:yo a.2=false:=by cases G:yo a.2;rfl;exact absurd ⟨f,G⟩ w
     rw[f]at B C i z;cases G:(bS [] p).2
     ·rw[G]at B i;simp[m,r,u,d,j,z,K,F,D,p1,Q,n1,B,C,J];exact⟨by omega,i 1 (by simp)⟩
     ·rw[G]at B i;simp[m,r,u,d,j,z,K,F,D,p1,Q,n1,B,C,J];exact⟨by omega,by rw[h7];exact i _ (by simp)⟩
    ·have f:=hie f;cases G:(bS a.1 p).2
     ·rw[G]at B i;simp[m,r,u,d,j,z,f,D,p1,Q,n1,B,C,J];exact⟨by omega,i 1 (by simp)⟩
     ·rw[G]at B i;simp[m,r,u,d,j,z,f,D,p1,Q,n1,B,C,J];exact⟨by omega,by rw[h7];exact i _ (by simp)⟩
 ·obtain rfl:k=l.length:=by omega
  rw[zq]at g;simp only[ZD]at g;have H:W5 t=(o,if ok=true then 0 else 1):=by unfold W5;rw[I,g]
  rcases hM with⟨h6,rfl⟩|⟨id,xs,hid,h6,G,hxs⟩
  ·simp[m,r,u,h6,h7,qo,YS,H,z6,f153]
  ·simp[m,r,u,h6,h7,G,hxs,qo,YS,H,f153]
theorem Gg:zg prog 153 (zi false [] (Vn YS)):=
 xl (fn:=f153) PG (qE func153) false [] _ fun args r h w S vs a=>by obtain⟨l,rfl,Y,rfl⟩:=zK h;obtain⟨b,c,d⟩:=Ma l Y;exact⟨_,b,a,by simp[f153],c,d⟩
theorem bX:∀(l:List aY) (out:List qN) (d:Bool) (m:List qN×Bool),(∀a∈l,pE a.1)->yX out->ZD out d l=some m->yX m.1/\m.1.length<=out.length+l.length
 |[],out,d,m,_,h,e=>by
  simp only[ZD]at e;injection e with e
  subst e;exact⟨h,by simp⟩
 |a::l,out,d,m,hs,h,e=>by
  simp only[ZD]at e;have c:∀b∈l,pE b.1:=fun b i=>hs b (by simp[i])
  split at e
  ·obtain⟨f,j⟩:=bX l out d m c h e;exact⟨f,by simp;omega⟩
  ·cases g:Qc a.2 with
   |none=>rw[g]at e;cases e
   |some p=>rw[g]at e;simp only at e;obtain⟨_,_,k,n⟩:=Z9 g;obtain⟨o,r⟩:=sJ (hs a (by simp)) k n;have q:=Yq and out (bS a.1 p).1;obtain⟨f,j⟩:=bX l _ _ m c (kx and h o) e;exact⟨f,by simp;omega⟩
theorem Mb{t:za}{m:List qN×Bool}(h:Vr t=some m):yX m.1/\m.1.length<=t.length+2:=by
 unfold Vr at h;cases b:jP (yN t)with
 |none=>rw[b]at h;cases h
 |some l=>
  rw[b]at h;simp only at h;split at h
  ·cases h
  ·cases hd:Xo l with
   |none=>rw[hd]at h;simp only at h;obtain⟨d,e⟩:=bX l _ _ m (nU _ l b) (Z5 kS).2 h;have:=(Dz b).1;exact⟨d,by simp at e;omega⟩
   |some a=>
    rw[hd]at h;simp only at h;cases Y:Qc a.1 with
    |none=>rw[Y]at h;simp at h
    |some p=>
     cases c:Qc a.2 with
     |none=>rw[Y,c]at h;simp at h
     |some q=>
      rw[Y,c]at h;simp only[zN]at h;obtain⟨_,_,i,f⟩:=Z9 Y;obtain⟨_,_,j,g⟩:=Z9 c;rw[<-h];unfold dw;split
      ·have:=Wu (mB f) (XQ g);exact⟨this.2,by simp only;omega⟩
      ·exact⟨(fun s hs=>by cases hs),by simp⟩
def RrI(a:List za)(k:Nat)(Y:Hp)(Z:Nat)(v w:O):Prop:=∃o b,dJ Y Z v o/\yX o/\o.length<=k*500/\w=int (if b=true then 0 else 1)/\Ww [] true a=Ww o b (a.drop k)
noncomputable abbrev Crrr:Ctx:=zW prog [(152,yh [] FSp),(153,zi false [] (Vn YS)),(154,vA [.a,.s 11 jo,.s 11 jo] L9)]
theorem Um:Gd Crrr:=qc mixed ⟨Wn,Gg,oc,trivial⟩
theorem ij(t:za)(ht:t.length+1<=zx):∃P,zt Crrr f115 [str t]=some P/\qg P (rY t):=by
 refine yM (sh:=.s 11 jo) rfl ?_;have J:rY t=.wq [.sl 11 (z6 (Wx t).1),int (Wx t).2]:=by rw[u7];rfl
 rw[J];by_cases j:(400:Int)<t.length
 ·have T:Wx t=([],2):=by unfold Wx;rw[zf j]
  simp[j,T,z6,qo,f115]
 have B:=fun Y Z=>ZP t [124,124] Y Z (by omega) (by decide) (by decide)
 obtain⟨a,d⟩:=jj (qh t [124,124]);have K:∀p∈a,p.length<=400:=fun p Y=>by have:=vf (by rw[d];exact Y);omega
 have W:a.length<=401:=by have:=xZ (s:=t) (sep:=[124,124]) (by simp);rw[d]at this;omega
 have b:Wx t=match Ww [] true a with
  |none=>([],10)
  |some o=>if o.2=false then([],1)else if(100:Int)<o.1.length then([],2)else(o.1,0):=by unfold Wx;rw[zc j,d];rfl
 rw[d]at B;simp[j,B];refine zT (fun k U Y Z=>U 14=.own 0 0 a.length/\U 15=int a.length/\U 16=int k/\1<=Z/\Y 0=some (Ku a)/\RrI a k Y Z (U 4) (U 5)) a.length
  ⟨by simp,by simp,by simp,by simp,by simp,[],true,.inl ⟨by simp,rfl⟩,(fun s hs=>by cases hs),by simp,by simp,by simp⟩ ?_
 rintro k U Y Z hk ⟨g,h,i,X,Q,o,R,G,y,hol,z,e⟩;by_cases f:k<a.length
 ·have C:=qH k;obtain⟨s,hs⟩:=jj (a[k]);have hsl:s.length<=400:=K s (by rw[<-hs];exact zk f);have c:=fun Y Z=>vI YS s Y Z (by unfold zx;omega)
  have u:Y 0=some ⟨9,1,true,a.map fun p=>[str p]⟩:=Q;rw[zh f,hs]at e;simp only[Ww]at e;cases q:Vr s with
  |none=>
   rw[q]at e;simp only at e;rw[e]at b;simp only at b;have L:W5 s=([],10):=by unfold W5;rw[q]
   simp only[YS,L]at c;simp[g,h,i,f,u,hs,c,b,z6,qo,f115]
  |some m=>
   rw[q]at e;simp only at e;have L:W5 s=(m.1,if m.2=true then 0 else 1):=by unfold W5;rw[q]
   obtain⟨M,g2⟩:=Mb q;have U7:=Yq or o m.1;obtain⟨x,Y',Z',v,hX,S,N⟩:=Dy 0 or zfp G (y.small (by unfold zx;omega)) (M.small (by unfold zx;omega)) y M;have D:Y' 0=some (Ku a):=by rw[N 0 (by omega) (G.box u (by simp))];exact Q
   have l:∀n:Int,n=(if(R&&m.2)=true then 0 else 1)->RrI a (k+1) Y' Z' x (int n):=fun n hn=>⟨_,_,hX,kx or y M,by omega,by rw[hn],e⟩
   simp only[YS,L]at c;cases H:m.2
   ·rw[H]at c l;simp at c;simp[g,h,i,f,u,hs,c,v,C];exact⟨by omega,by omega,D,l 1 (by simp)⟩
   ·rw[H]at c l;simp at c;simp[g,h,i,f,u,hs,c,v,C];exact⟨by omega,by omega,D,by rw[z];exact l _ (by simp)⟩
 ·obtain rfl:k=a.length:=by omega
  rw[zq]at e;simp only[Ww]at e;rw[e]at b;simp only at b;cases R
  ·simp at b z;simp[g,h,i,z,b,z6,qo,f115]
  ·simp at b z;have w:=G.len;by_cases r:(100:Int)<o.length
   ·have A:100<o.length:=by omega
    rw[zf r]at b;simp[g,h,i,z,w,r,b,z6,qo,f115]
   ·have A:¬100<o.length:=by omega
    rw[zc r]at b;rcases G with⟨I,rfl⟩|⟨id,xs,hid,I,H,E⟩
    ·simp[g,h,i,z,I,b,z6,qo,f115]
    ·rw[I]at w;have R4:xs.length=o.length:=by have:=zu List.length E;simpa[z6]using this
     have F:¬(100:Int)<xs.length:=by omega
     simp[g,h,i,z,I,F,H,E,b,qo,f115]
theorem fg:zg prog 115 (zi false [] (Vn rY)):=
 xl (fn:=f115) Um (qE func115) false [] _ fun args r h w S vs a=>by obtain⟨l,rfl,Y,rfl⟩:=zK h;obtain⟨b,c,d⟩:=ij l Y;exact⟨_,b,a,by simp[f115],c,d⟩
theorem bY:zg prog 112 (zi false [] (rZ jU)):=
 yj (fn:=f112) jY (qE func112) false [] _ fun args r h=>by obtain⟨a,rfl,rfl⟩:=XR h;refine⟨by simp[f112],_,zn rfl ?_,qq _⟩;by_cases b:3<=a<;>simp[b,jU,xb,wc,f112]
theorem Ag:zg prog 111 (zi false [] (rZ WW)):=
 yj (fn:=f111) jY (qE func111) false [] _ fun args r h=>by obtain⟨a,rfl,rfl⟩:=XR h;refine⟨by simp[f111],_,zn rfl ?_,qq _⟩;by_cases b:7<=a<;>simp[b,WW,xb,wc,f111]
noncomputable abbrev Crwv:Ctx:=zW prog [(112,zi false [] (rZ jU))]
theorem Un:Gd Crwv:=qc mixed ⟨bY,trivial⟩
theorem PH(a:Int):Jf a=(a==2||jU a||a==12):=by
 unfold Jf jU xb;by_cases h:a=2
 ·subst h;decide
 ·have b:=yq h;rw[b];congr 1;rw[qv];simp;omega
theorem Ah:zg prog 110 (zi false [] (rZ Jf)):=
 yj (fn:=f110) Un (qE func110) false [] _ fun args r h=>by obtain⟨a,rfl,rfl⟩:=XR h;refine⟨by simp[f110],_,zn rfl ?_,qq _⟩;rw[PH];cases b:a==2<;>cases c:jU a<;>simp[b,c,wc,f110]
noncomputable def FCL (n:Nat):zb->Option O:=qu (α:=zG×Int) (fun a=>[.agg a.1.V,int a.2]) (fun a=>a.1.parts<=zx/\a.1.parts<=n/\0<=a.2/\a.2+a.1.parts<=536870912) (fun a=>.wq [int (a.1.rp a.2).1,q8 (a.1.rp a.2).2])
theorem DA(n:Nat)(c:zG)(l:Int)(Y:Hp)(Z:Nat)(h:c.parts<=zx/\c.parts<=n/\0<=l/\l+c.parts<=536870912):zi false [] (FCL n) [.agg c.V,int l] Y Z=some (.wq [int (c.rp l).1,q8 (c.rp l).2],Y,Z):=
 Js (c,l) _ _ (by simp only[zw,x0];rfl) (fun x y e=>by obtain⟨a,b⟩:=x;obtain⟨d,f⟩:=y;simp only[zl,zM,O.agg.injEq]at e;rw[ka e.1,qS e.2]) h (.inl rfl)
noncomputable abbrev Crpa (n:Nat):Ctx:=zW prog [(68,zi false [] (FCL n))]
def PaI(c:zG)(l:Int)(k:Nat)(v w:O):Prop:=∃s:Int×Bool,v=int s.1/\w=q8 s.2/\0<=s.1/\s.1+wI (c.args.drop k)<=268435457/\c.rp l=AL (c.args.drop k) l s
theorem PI(s:Int×Bool):(s.2||decide (200<s.1))=Yg s:=rfl
theorem Ai(n:Nat)(c:zG)(l:Int)(h:c.parts<=zx/\c.parts<=n+1/\0<=l/\l+c.parts<=536870912):zt (Crpa n) f68 [.agg c.V,int l]=some (.wq [int (c.rp l).1,q8 (c.rp l).2]):=by
 have y:=QX c;have r:=O1 c l;have z:=bz c.args;obtain⟨A,I,B,C⟩:=h;unfold zx at A;refine zn rfl ?_;simp;refine zT (fun k U Y Z=>U 1=int l/\U 15=.sl 7 (c.args.map zG.V)/\U 16=int c.args.length/\U 17=int k/\PaI c l k (U 6) (U 7)) c.args.length
  ⟨by simp,by simp,by simp,by simp,(1,decide (20<l)),by simp,by simp,by simp,by rw[kc];simp only;omega,by rw[r,kc]⟩ ?_
 rintro k U Y Z J ⟨m,d,e,f,s,o,p,D,E,g⟩;by_cases a:k<c.args.length
 ·have K:=YE (zk a);have F:=qH k;have t:=wX (l+1);have G:wI (c.args.drop k)=c.args[k].parts+wI (c.args.drop (k+1)):=by rw[zh a,wI]
  have b:=PI s;cases q:Yg s
  ·rw[q]at b;have i:=b;rw[wy]at i;obtain⟨x,H⟩:=i;have u:¬200<s.1:=by simpa using H
   obtain⟨L,M,_,_⟩:=CW c.args[k] (l+1);have j:=fun Y Z=>DA n c.args[k] (l+1) Y Z ⟨by unfold zx;omega,by omega,by omega,by omega⟩
   rw[O2 a]at g;have v:sr s (c.args[k].rp (l+1))=(s.1+(c.args[k].rp (l+1)).1,s.2||(c.args[k].rp (l+1)).2):=by unfold sr;rw[q];rfl
   rw[v]at g;have w:=wX (s.1+(c.args[k].rp (l+1)).1);simp[m,d,e,f,o,p,x,u,a,j,F,t,w];exact⟨by omega,(s.1+(c.args[k].rp (l+1)).1,s.2||(c.args[k].rp (l+1)).2),rfl,by simp[x],by simp only;omega,by simp only;omega,g⟩
  ·rw[q]at b;rw[dj q]at g;cases hd:s.2
   ·rw[hd]at b;simp at b;simp[m,d,e,f,o,p,hd,b,a,g,wc,f68]
   ·simp[m,d,e,f,o,p,hd,a,g,wc,f68]
 ·obtain rfl:k=c.args.length:=by omega
  rw[zq]at g;simp only[AL]at g;simp[m,d,e,f,o,p,g,wc,f68]
theorem a6:∀n,zg prog 68 (zi false [] (FCL n)):=by
 intro n
 induction n with
 |zero=>
  exact Yn ⟨_,func68,by kernel_rfl,by kernel_rfl⟩ fun args r h=>by obtain⟨⟨c,l⟩,_,⟨_,a,_⟩,_⟩:=zK h;have:=ek c;simp only at a;omega
 |succ n b=>have d:Gd (Crpa n):=qc mixed ⟨b,trivial⟩;exact Z2 d func68 false [] fun⟨c,l⟩ e=>⟨zE (ze 2) (by decide),_,Ai n c l e,qq _⟩
noncomputable abbrev Crla:Ctx:=zW prog [(68,zi false [] (FCL zx))]
theorem gp(c:zG)(a:c.parts<=zx):zt Crla f35 [.agg c.V]=some (q8 (Yg (c.rp 1))):=by
 have b:=a;unfold zx at b;have d:=fun Y Z=>DA zx c 1 Y Z ⟨a,a,by omega,by omega⟩
 refine zn rfl ?_;unfold Yg;cases hd:(c.rp 1).2
 ·simp[d,hd,wc,f35]
 ·simp[d,hd,wc,f35]
theorem pK:zg prog 35 (zi false [] (FCp (fun c=>q8 (Yg (c.rp 1))) zx)):=
 Z2 (qc mixed ⟨a6 zx,trivial⟩:AM.Good Crla _) func35 false [] fun c a=>⟨zE (ze 1) (by decide),_,gp c a.1,qq _⟩
theorem Aj:zg prog 35 (GC fun c=>q8 (Yg (c.rp 1))):=rN (N0 _ zx) pK
def HJ(c:zG):Bool:=(!(c.kind==4)&&(!c.attr.isEmpty||c.op != 0))||(c.kind != 5&&!c.name.isEmpty)
def f2R(c:zG):Bool:=(!((c.kind==4)&&Jf c.op)&&decide (0<c.qZ.length))||(!((c.kind==4)&&WW c.op)&&!c.pat.isEmpty)
noncomputable abbrev Crfo:Ctx:=zW prog [(110,zi false [] (rZ Jf)),(111,zi false [] (rZ WW)),(112,zi false [] (rZ jU))]
theorem Uo:Gd Crfo:=qc mixed ⟨Ah,Ag,bY,trivial⟩
theorem Ak(c:zG)(h:c.cb<=zx):zt Crfo f69 [.agg c.V]=some (q8 (nA c)):=by
 refine zn rfl ?_;have g:nA c=(!HJ c&&!f2R c&&(if c.kind=3 then(c.args.length:Int)==1 else if c.kind=4\/c.kind=5 then((c.args.length:Int)==0&&(!jU c.op||(c.qZ.length:Int)==1))else true)):=rfl;refine QA (fun st=>st.U 1=.ref 0 0 0/\st.Y 0=some ⟨26,7,false,[c.V]⟩) (by simp) ?_;rintro⟨U,Y,Z⟩ ⟨e,f⟩;simp only at e f;refine QA (fun st=>st.U 1=.ref 0 0 0/\st.Y 0=some ⟨26,7,false,[c.V]⟩/\st.U 3=q8 (c.kind==4)) (by simp[e,f]) ?_;clear e f U Y Z;rintro⟨U,Y,Z⟩ ⟨e,f,l⟩;simp only at e f l;refine QA (fun st=>st.U 1=.ref 0 0 0/\st.Y 0=some ⟨26,7,false,[c.V]⟩/\st.U 3=q8 (c.kind==4)/\HJ c=false) ?_ ?_
 ·by_cases j:c.kind=4
  ·have s:(c.kind==5)=false:=by rw[j];rfl
   have d:(c.kind==4)=true:=by rw[j];rfl
   cases m:c.name.isEmpty
   ·have i:HJ c=true:=by simp[HJ,j,m]
    rw[i]at g;simp[e,f,l,j,m,g,wc,f69]
   ·have i:HJ c=false:=by simp[HJ,j,m]
    simp[e,f,l,j,m,i]
  ·have d:=yq j;cases p:(!c.attr.isEmpty||c.op != 0)
   ·have n:=p;rw[wy]at n;obtain⟨w,x⟩:=n;simp at w x;by_cases s:c.kind=5
    ·have i:HJ c=false:=by simp[HJ,s,p]
     simp[e,f,l,s,w,x,i]
    ·have q:=yq s;have t:(c.kind != 5)=true:=by simp[bne,q]
     cases m:c.name.isEmpty
     ·have i:HJ c=true:=by simp[HJ,s,m]
      rw[i]at g;simp[e,f,l,j,d,t,w,x,m,g,wc,f69]
     ·have i:HJ c=false:=by simp[HJ,p,m]
      simp[e,f,l,j,d,t,w,x,m,i]
   ·have i:HJ c=true:=by simp[HJ,j,p]
    rw[i]at g;cases u:c.attr.isEmpty
    ·simp[e,f,l,j,d,u,g,wc,f69]
    ·rw[u]at p;have n:(c.op==0)=false:=by simpa using p
     have z:(c.op != 0)=true:=by simpa using p
     simp[e,f,l,j,d,u,n,z,g,wc,f69]
 clear e f l U Y Z;rintro⟨U,Y,Z⟩ ⟨e,f,l,A⟩;simp only at e f l;rw[A]at g;refine QA (fun st=>st.U 1=.ref 0 0 0/\st.Y 0=some ⟨26,7,false,[c.V]⟩/\f2R c=false) ?_ ?_
 ·have o:∀a b:Bool,((c.kind==4)&&Jf c.op)=a->((c.kind==4)&&WW c.op)=b->f2R c=((!a&&decide (0<c.qZ.length))||(!b&&!c.pat.isEmpty)):=fun a b F G=>by unfold f2R;rw[F,G]
  by_cases j:c.kind=4
  ·have d:(c.kind==4)=true:=by rw[j];rfl
   cases D:Jf c.op<;>cases E:WW c.op<;>cases Y1:c.pat.isEmpty<;>by_cases v:0<c.qZ.length <;>
    (have i:=o _ _ rfl rfl;rw[d,D,E,Y1]at i;simp[v]at i;simp[e,f,l,j,D,E,Y1,v,i,g,wc,f69])
  ·have d:=yq j;cases Y1:c.pat.isEmpty<;>by_cases v:0<c.qZ.length <;>
    (have i:=o _ _ rfl rfl;rw[d,Y1]at i;simp[v]at i;simp[e,f,l,j,d,Y1,v,i,g,wc,f69])
 clear e f l U Y Z;rintro⟨U,Y,Z⟩ ⟨e,f,B⟩;simp only at e f;rw[B]at g;simp only[Bool.not_false,jK]at g;by_cases y:c.kind=3
 ·rw[zf y]at g;simp[e,f,y,g,wc,f69]
 have C:=yq y;rw[zc y]at g;by_cases r:c.kind=4\/c.kind=5
 ·rw[zf r]at g;cases u:((c.args.length:Int)==0)<;>cases H:jU c.op<;>rcases r with k|k <;>
   simp[e,f,k,u,H,g,wc,f69]
 ·rw[zc r]at g;have d:(c.kind==4)=false:=by simp;omega
  have q:(c.kind==5)=false:=by simp;omega
  simp[e,f,C,d,q,g,wc,f69]
theorem pL:zg prog 69 (GC fun c=>q8 (nA c)):=
 yj (fn:=f69) Uo (qE func69) false [] _ fun args r h=>by obtain⟨c,rfl,a,rfl⟩:=YD h;exact⟨by simp[f69],_,Ak c a.1,qq _⟩
noncomputable abbrev zaL:Ctx:=zW prog [(114,GV fun v=>int v.check),(112,zi false [] (rZ jU)),(16,zi false [] (R0 zx))]
theorem PJ:AM.Good zaL (fun g=>[16].contains g):=qx mixed ⟨tP,by simp,bY,by simp,nz zx,fun _=>zr _ _,trivial⟩
theorem dy(c:zG)(h:c.cb<=zx):zt zaL f71 [.agg c.V]=some (int (Z6 c.op c.qZ)):=by
 have P:=xG c;obtain⟨l,p⟩:=jj c.qZ;obtain⟨op,r⟩:=jj c.op;have W:=yE l;rw[p]at P;rw[p,r];unfold zx at h;refine zn rfl ?_;by_cases o:(100:Int)<l.length
 ·have Q:Z6 op l=2:=by unfold Z6;rw[zf o]
  simp[p,o,Q,f71]
 have Q:Z6 op l=ab op none l:=by unfold Z6;rw[zc o]
 rw[Q];simp[p,o];refine zT (fun k U Y Z=>U 1=.ref 0 0 0/\U 11=.sl 5 (l.map zZ.V)/\U 12=int l.length/\U 13=int k/\1<=Z/\Y 0=some ⟨26,7,false,[c.V]⟩/\ab op none l=ab op (QN l k) (l.drop k)) l.length
  ⟨by simp,by simp,by simp,by simp,by simp,by simp,by simp[QN]⟩ ?_
 rintro k U Y Z hk ⟨s,b,d,e,hnx,t,f⟩;have u:¬0=Z:=by omega
 by_cases a:k<l.length
 ·have hm:=js (zk a);have H:=qH k;have g:=fun Y Z=>Yd (fun v=>int v.check) l[k] Y Z (by unfold zx;omega)
  rw[zh a]at f;simp only[ab]at f;have E:QN l (k+1)=some l[k]:=by simp[QN,a]
  have i:Cf op l[k]=(l[k].kind==0||jU op&&l[k].kind != 2):=rfl;by_cases q:l[k].check=0
  case neg=>rw[zc q]at f;have R:=ZX q;simp[p,r,s,t,u,b,d,e,a,g,R,f,f71]
  rw[zf q]at f;cases w:Cf op l[k]
  case true=>
   rw[w,zf rfl]at f;rw[w]at i;by_cases I:l[k].kind=0
   ·simp[p,r,s,t,u,b,d,e,a,g,q,I,f,f71]
   ·have F:=yq I;rw[F,kK]at i;have n:=i.symm;rw[zC]at n;simp[p,r,s,t,u,b,d,e,a,g,q,F,n.1,n.2,f,f71]
  rw[w,zc (by simp)]at f;rw[w]at i;have z:=i.symm;rw[wy]at z;obtain⟨B,X⟩:=z;have S:jU op=false\/(l[k].kind != 2)=false:=by
   cases hi:jU op
   ·exact .inl rfl
   ·rw[hi,jK]at X;exact .inr X
  by_cases I:k=0
  ·subst I;have Y0:bE (QN l 0) l[0]=false:=rfl;rw[Y0,zc (by simp)]at f;have m:ab op none l=ab op (QN l 1) l.tail:=by rw[f,show QN l 1=some l[0]from E];simp
   cases hi:jU op
   ·simp[p,r,s,t,u,b,d,e,a,g,q,B,hi,H];exact⟨by omega,m⟩
   ·have G:(l[0].kind != 2)=false:=S.resolve_left (by rw[hi];simp);simp[p,r,s,t,u,b,d,e,a,g,q,B,hi,G,H];exact⟨by omega,m⟩
  ·obtain⟨j,rfl⟩:∃j,k=j+1:=⟨k-1,by omega⟩;have C:j<l.length:=by omega
   have hmj:=js (zk C);have J:IntKind.i64.wrap ((j:Int)+1-1)=(j:Int):=by rw[wQ (by omega) (by omega)];omega
   have x:=wX (j:Int);have K:((j:Int)+1).toNat=j+1:=by omega
   have L:0<(j:Int)+1:=by omega
   have M:0<=(j:Int)+1:=by omega
   have N:(j:Int)+1<l.length:=by omega
   have y:=fun Y Z=>YC zx l[j+1] l[j] Y Z ⟨by unfold zx;omega,by unfold zx;omega,by unfold zx;omega⟩
   have T:bE (QN l (j+1)) l[j+1]=decide (qQ l[j+1] l[j]<=0):=by simp only[QN,bE];simp[C,CX]
   rw[T]at f;by_cases D:qQ l[j+1] l[j]<=0
   ·have A:decide (qQ l[j+1] l[j]<=0)=true:=by simpa using D
    rw[zf A]at f;cases hi:jU op
    ·simp[p,r,s,t,u,b,d,e,a,C,g,q,B,hi,H,J,x,K,L,M,N,y,D,f,f71]
    ·have G:(l[j+1].kind != 2)=false:=S.resolve_left (by rw[hi];simp);simp[p,r,s,t,u,b,d,e,a,C,g,q,B,hi,G,H,J,x,K,L,M,N,y,D,f,f71]
   ·have A:¬decide (qQ l[j+1] l[j]<=0)=true:=by simpa using D
    rw[zc A]at f;have wk:=wX ((j:Int)+1+1);have m:ab op none l=ab op (QN l (j+1+1)) (l.drop (j+1+1)):=by rw[f,E]
    cases hi:jU op
    ·simp[p,r,s,t,u,b,d,e,a,C,g,q,B,hi,wk,J,x,K,L,M,N,y,D];exact⟨by omega,m⟩
    ·have G:(l[j+1].kind != 2)=false:=S.resolve_left (by rw[hi];simp);simp[p,r,s,t,u,b,d,e,a,C,g,q,B,hi,G,wk,J,x,K,L,M,N,y,D];exact⟨by omega,m⟩
 ·obtain rfl:k=l.length:=by omega
  rw[zq]at f;simp only[ab]at f;simp[s,b,d,e,f,f71]
theorem bZ:zg prog 71 (GC fun c=>int (Z6 c.op c.qZ)):=
 yj (fn:=f71) PJ (qE func71) false [] _ fun args r h=>by obtain⟨c,rfl,a,rfl⟩:=YD h;exact⟨zE (ze 1) (by decide),_,dy c a.1,qq _⟩
noncomputable abbrev zaM:Ctx:=zW prog [(115,zi false [] (Vn rY))]
theorem PK:Gd zaM:=qc mixed ⟨fg,trivial⟩
theorem b4(c:zG)(h:c.cb<=zx):zt zaM f72 [.agg c.V]=some (int (Y3 c.op c.pat)):=by
 have q:=xG c;obtain⟨s,hs⟩:=jj c.pat;obtain⟨op,r⟩:=jj c.op;rw[hs]at q;rw[hs,r];unfold zx at h;refine zn rfl ?_;by_cases a:(500:Int)<s.length
 ·have b:Y3 op s=2:=by unfold Y3;rw[zf a]
  simp[hs,a,b,f72]
 have l:=fun Y Z=>vI rY s Y Z (by unfold zx;omega)
 simp only[rY]at l;have b:Y3 op s=if wa 32 126 s=true then(if op=11 then(xe s).2 else 0)else 1:=by unfold Y3;rw[zc a]
 simp[hs,a];refine zT (fun k U Y Z=>U 1=.ref 0 0 0/\U 12=int s.length/\U 13=int k/\Y 0=some ⟨26,7,false,[c.V]⟩/\wa 32 126 s=wa 32 126 (s.drop k)) s.length ⟨by simp,by simp,by simp,by simp,by simp⟩ ?_;rintro k U Y Z u ⟨n,d,e,o,i⟩;by_cases f:k<s.length
 ·have t:=qH k;rw[Zk f]at i;have j:=VM 32 126 s[k];simp only[ZG]at j;cases p:pr 32 126 s[k]
  ·have i:wa 32 126 s=false:=by rw[i,p];rfl
   rw[i,zc (by simp)]at b;simp[n,o,hs,d,e,f,b,j,p,f72]
  ·simp[n,o,hs,d,e,f,j,p,t];exact⟨f,by rw[i,p];rfl⟩
 ·obtain rfl:k=s.length:=by omega
  have i:wa 32 126 s=true:=by rw[i,zq];rfl
  rw[i,zf rfl]at b;by_cases g:op=11
  ·rw[zf g]at b;subst g;simp[n,o,hs,r,d,e,l,b,f72]
  ·rw[zc g]at b;have m:=yq g;simp[n,o,hs,r,d,e,m,b,f72]
theorem al:zg prog 72 (GC fun c=>int (Y3 c.op c.pat)):=
 yj (fn:=f72) PK (qE func72) false [] _ fun args r h=>by obtain⟨c,rfl,a,rfl⟩:=YD h;exact⟨zE (ze 1) (by decide),_,b4 c a.1,qq _⟩
theorem PL{c:zG}(b:Zq c=false)(a:Fp c=false):Y3 c.op c.pat=0:=by
 have g:∀op,op≠11->Y3 op []=0:=fun op h=>by simp[Y3,h]
 have k:w1F c=false/\w5F c=false:=by unfold Zq at b;simp only[wy]at b;exact⟨b.1.1.1.1.1.1,b.1.1.2⟩
 obtain⟨i,j⟩:=k;unfold Fp at a;cases d:c.kind==4
 ·simp only[w1F,d,Bool.not_false,jK,wy]at i;obtain⟨⟨⟨_,l⟩,_⟩,m⟩:=i;have n:c.op=0:=by simpa using l
  have f:c.pat=[]:=by simpa using m
  rw[n,f];exact g 0 (by decide)
 ·rw[d,jK]at a;simp only[w5F,d,a,jK,Bool.not_false]at j;have f:c.pat=[]:=by simpa using j
  rw[f];refine g _ fun e=>?_
  rw[e]at a;revert a;decide
noncomputable abbrev zaN (n:Nat):Ctx:=zW prog [(36,zi false [] (FC (fun c=>int c.fault) n)),(69,GC fun c=>q8 (nA c)),(70,zi false [] (FS w8)),(71,GC fun c=>int (Z6 c.op c.qZ)),(72,GC fun c=>int (Y3 c.op c.pat))]
theorem fh(n:Nat)(c:zG)(h:c.cb<=zx/\c.cb<=n+1):zt (zaN n) f36 [.agg c.V]=some (int c.fault):=by
 have Ea:=xG c;have hl1:=ju c.args;obtain⟨K,hb⟩:=h;have j:=eJ c;have b:=fun Y Z=>xc (fun c=>q8 (nA c)) c Y Z K
 have v:=fun Y Z=>xc (fun c=>int (Z6 c.op c.qZ)) c Y Z K
 have D:=fun Y Z=>xc (fun c=>int (Y3 c.op c.pat)) c Y Z K
 have E:c.attr.length<=zx:=by omega
 have F:c.name.length<=zx:=by omega
 unfold zx at K;refine zn rfl ?_;refine QA (fun st=>st.U 1=.ref 0 0 0/\st.Y 0=some ⟨26,7,false,[c.V]⟩/\st.Z=1) (by simp) ?_;rintro⟨U,Y,Z⟩ ⟨d,e,l⟩;simp only at d e l;subst l;have w:c7 c=!xb c.kind 1 5:=rfl;refine QA (fun st=>st.U 1=.ref 0 0 0/\st.Y 0=some ⟨26,7,false,[c.V]⟩/\st.Z=1/\c7 c=false/\MK c=false/\Zq c=false/\aU c=false) ?_ ?_
 ·by_cases L:c.kind<1
  ·have x:c7 c=true:=by rw[w];simp[xb];omega
   simp[d,e,L,j,vr,x,f36]
  by_cases Q:5<c.kind
  ·have x:c7 c=true:=by rw[w];simp[xb];omega
   simp[d,e,L,Q,j,vr,x,f36]
  have i:c7 c=false:=by rw[w];simp[xb];omega
  have y:=LC c (by simp[xb];omega);rw[y]at b;by_cases t:c.kind=4
  ·have z:MK c=!xb c.op 1 12:=by unfold MK;rw[t];rfl
   have a:aU c=!w8 c.attr:=by unfold aU;rw[t];simp
   by_cases G:c.op<1
   ·have x:MK c=true:=by rw[z];simp[xb];omega
    simp[d,e,t,G,j,vr,x,f36]
   by_cases M:12<c.op
   ·have x:MK c=true:=by rw[z];simp[xb];omega
    simp[d,e,t,G,M,j,vr,x,f36]
   have f:MK c=false:=by rw[z];simp[xb];omega
   cases g:Zq c
   case true=>simp[d,e,t,G,M,b,g,j,vr,i,f,f36]
   cases o:w8 c.attr
   ·rw[o]at a;simp[d,e,t,G,M,b,g,E,o,j,vr,i,f,a,f36]
   ·rw[o]at a;simp[d,e,t,G,M,b,g,E,o,i,f,a]
  have p:=yq t;have f:MK c=false:=by unfold MK;rw[p];rfl
  cases g:Zq c
  case true=>simp[d,e,L,Q,p,b,g,j,vr,i,f,f36]
  by_cases q:c.kind=5
  ·have a:aU c=!w8 c.name:=by unfold aU;rw[q];simp
   cases o:w8 c.name
   ·rw[o]at a;simp[d,e,q,b,g,F,o,j,vr,i,f,a,f36]
   ·rw[o]at a;simp[d,e,q,b,g,F,o,i,f,a]
  ·have u:=yq q;have a:aU c=false:=by unfold aU;rw[p,u];rfl
   simp[d,e,L,Q,p,u,b,g,i,f,a]
 clear d e U Y b;rintro⟨U,Y,Z⟩ ⟨d,e,l,R,S,N,T⟩;simp only at d e l;subst l;by_cases H:Z6 c.op c.qZ=0
 case neg=>have W:=ZX H;simp[d,e,v,H,W,j,vr,R,S,N,T,f36]
 by_cases I:Y3 c.op c.pat=0
 case neg=>
  have X:=ZX I;have c6:Fp c=true:=by cases hx:Fp c;exact absurd (PL N hx) I;rfl
  simp[d,e,v,D,H,I,X,j,vr,R,S,N,T,c6,f36]
 have hh:vr c=0:=by simp[vr,R,S,N,T,H,I]
 have J:c.fault=xh c.args:=by rw[j,zf hh]
 simp[d,e,v,D,H,I];refine zT (fun k U Y Z=>U 64=.sl 7 (c.args.map zG.V)/\U 65=int c.args.length/\U 66=int k/\xh c.args=xh (c.args.drop k)) c.args.length ⟨by simp,by simp,by simp,by simp⟩ ?_;clear d e U Y;rintro k U Y Z hk ⟨A,B,C,r⟩;by_cases s:k<c.args.length
 ·have hm:=kg (zk s);have hw:=qH k;have m:=fun Y Z=>Wa (fun c=>int c.fault) n c.args[k] Y Z ⟨by unfold zx;omega,by omega⟩
  rw[V3 s]at r;by_cases P:c.args[k].fault=0
  ·rw[zf P]at r;simp[A,B,C,s,m,P,hw];exact⟨by omega,r⟩
  ·rw[zc P]at r;have hz2:=ZX P;simp[A,B,C,s,m,hz2,J,r,f36]
 ·obtain rfl:k=c.args.length:=by omega
  rw[zq]at r;have r:xh c.args=0:=by rw[r];rfl
  simp[A,B,C,J,r,f36]
theorem dz:∀n,zg prog 36 (zi false [] (FC (fun c=>int c.fault) n)):=by
 intro n
 induction n with
 |zero=>exact iD ⟨_,func36,by kernel_rfl,by kernel_rfl⟩
 |succ n a=>
  have b:Gd (zaN n):=qc mixed ⟨a,pL,aO,bZ,al,trivial⟩;exact yj (fn:=f36) b (qE func36) false [] _ fun args r h=>by obtain⟨c,rfl,d,rfl⟩:=YD h;exact⟨zE (ze 1) (by decide),_,fh n c d,qq _⟩
noncomputable abbrev zfq:Ctx:=zW prog [(36,GC fun c=>int c.fault),(35,GC fun c=>q8 (Yg (c.rp 1)))]
theorem JD:zg prog 15 (GC fun c=>int c.check):=
 yj (fn:=f15) (qc mixed ⟨dz zx,Aj,trivial⟩:AM.Good zfq _) (qE func15) false [] _ fun args r h=>by
  obtain⟨c,rfl,a,rfl⟩:=YD h;have b:=fun Y Z=>xc (fun c=>int c.fault) c Y Z a.1
  have d:=fun Y Z=>xc (fun c=>q8 (Yg (c.rp 1))) c Y Z a.1
  have f:=ss c;refine⟨zE (ze 1) (by decide),_,zn rfl ?_,qq _⟩;unfold zG.check;rw[<-f];cases e:Yg (c.rp 1)
  ·simp[b,d,e,f15]
  ·simp[b,d,e,f15]
end Go.Q
namespace Go.AM
end Go.AM
namespace Go.Q
def ao(v:za):Nat->List za->Int
 |_,[]=>-1
 |k,s::l=>if v=s then k else ao v (k+1) l
theorem DB(v:za):∀(l:List za) (k:Nat),decide (0<=ao v k l)=decide (v∈l)
 |[],k=>by simp[ao]
 |s::l,k=>by
  by_cases h:v=s
  ·have e:ao v k (s::l)=k:=by simp only[ao,zf h]
   rw[e];simp[h]
  ·have e:ao v k (s::l)=ao v (k+1) l:=by simp only[ao,zc h]
   rw[e,DB v l (k+1)];simp[h]
noncomputable def Uq (out:List za->za->O):zb->Option O:=qu (α:=List za×za) (fun a=>[.sl 1 (zH a.1),str a.2]) (fun a=>a.1.length<=zx) (fun a=>out a.1 a.2)
theorem PM:∀a b:List za×za,[O.sl 1 (zH a.1),str a.2]=[O.sl 1 (zH b.1),str b.2]->a=b:=by rintro⟨f,g⟩ ⟨h,i⟩ e;simp only[zl,zM]at e;obtain⟨c,d⟩:=e;injection c with _ c;rw[jI c,wR d]
theorem od(out:List za->za->O)(l:List za)(v:za)(Y:Hp)(Z:Nat)(h:l.length<=zx):zi false [1] (Uq out) [.sl 1 (zH l),str v] Y Z=some (out l v,Y,Z):=
 yk rfl (qG (V:=fun a:List za×za=>[O.sl 1 (zH a.1),str a.2]) (a:=(l,v)) PM h) (.inr rfl)
theorem Ur(out:List za->za->O){l:List za}{v:za}{Y:Hp}{Z e:Nat}{x:O}(c:qU Y Z e 1 x (zH l))(h:l.length<=zx)(b:(out l v).flat=true):zi false [1] (Uq out) [x,str v] Y Z=some (out l v,Y,Z):=by
 have hs:Uq out [.sl 1 (zH l),str v]=some (out l v):=qG (V:=fun a:List za×za=>[O.sl 1 (zH a.1),str a.2]) (a:=(l,v)) PM h;rcases c with⟨rfl,d⟩|⟨id,hid,rfl,f⟩
 ·have g:l=[]:=by simpa[zH]using d
  subst g;exact yk (Y1:=Y) rfl hs (.inl b)
 ·exact yk (Y1:=qt Y id none) (show zw Y [.own id 0 (zH l).length,str v]=some ([.sl 1 (zH l),str v],qt Y id none) by
   simp[f]
   try rw[qe (by simp)]) hs (.inl b)
theorem Mc(l:List za)(v:za)(h:l.length<=zx):zt C0 f108 [.sl 1 (zH l),str v]=some (int (ao v 0 l)):=by
 refine zn rfl ?_;unfold zx at h;have b:(zH l).length=l.length:=by simp[zH]
 simp[b];refine zT (fun k U Y Z=>U 0=.sl 1 (zH l)/\U 1=str v/\U 7=int l.length/\U 8=int k/\ao v 0 l=ao v k (l.drop k)) l.length ⟨by simp,by simp,by simp,by simp,by simp⟩ ?_;rintro k U Y Z p ⟨i,j,m,n,a⟩;by_cases c:k<l.length
 ·obtain⟨s,hs⟩:=jj (l[k]);have o:=qH k;have e:∀h:k<(zH l).length,(zH l)[k]=[str s]:=fun h=>by simp[zH,hs]
  have f:k<(zH l).length:=by omega
  rw[zh c,hs]at a;simp only[ao]at a;by_cases g:v=s
  ·rw[zf g]at a;have d:(v==s)=true:=by simpa using g
   simp[i,j,m,n,c,b,f,e,d,a,f108]
  ·rw[zc g]at a;have d:=yq g;simp[i,j,m,n,c,b,f,e,d,o];exact⟨by omega,a⟩
 ·obtain rfl:k=l.length:=by omega
  rw[zq]at a;simp only[ao]at a;simp[i,j,m,n,a,f108]
theorem Gh:zg prog 108 (zi false [1] (Uq fun l v=>int (ao v 0 l))):=
 Z2 jY func108 false [1] fun⟨l,v⟩ a=>⟨by simp[f108],_,Mc l v a,qq _⟩
noncomputable abbrev Cctt:Ctx:=zW prog [(108,zi false [1] (Uq fun l v=>int (ao v 0 l)))]
theorem WQ:zg prog 65 (zi false [1] (Uq fun l v=>q8 (decide (v∈l)))):=
 Z2 (qc mixed ⟨Gh,trivial⟩:AM.Good Cctt _) func65 false [1] fun⟨l,v⟩ a=>by
  have b:=fun Y Z=>od (fun l v=>int (ao v 0 l)) l v Y Z a
  have c:=DB v l 0;exact⟨by simp[f65],_,zn rfl (by simp[b,c,f65]),qq _⟩
noncomputable def Wy (s:qd) (q:za):Int:=if w8 s.name=true then(if gM s.name q=true then 8 else xw s)else 5
noncomputable def FSgB (out:qd->za->O):zb->Option O:=qu (α:=qd×za) (fun a=>[.agg a.1.V,str a.2]) (fun a=>a.1.cb<=zx) fun a=>out a.1 a.2
theorem Md(out:qd->za->O)(s:qd)(q:za)(Y:Hp)(Z:Nat)(h:s.cb<=zx)(c:(out s q).flat=true):zi false [] (FSgB out) [.agg s.V,str q] Y Z=some (out s q,Y,Z):=
 Js (s,q) _ _ (by simp[wE]) (fun a b e=>by obtain⟨d,f⟩:=a;obtain⟨g,i⟩:=b;simp only[zl,zM,O.agg.injEq]at e;rw[KK e.1,wR e.2]) h (.inl c)
noncomputable abbrev Crsg:Ctx:=zW prog [(70,zi false [] (FS w8)),(107,zi false [] (Tl (fun l=>int (vV l)) fun l=>Qh l<=zx)),(65,zi false [1] (Uq fun l v=>q8 (decide (v∈l)))),(15,GC fun c=>int c.check)]
theorem DC{α:Type}{p:α->Bool}{l:List α}{k:Nat}(h:k<l.length):(l.drop k).any p=(p l[k]||(l.drop (k+1)).any p):=by rw[zh h,jl]
theorem b5(s:qd)(q:za)(h:s.cb<=zx):zt Crsg f64 [.agg s.V,str q]=some (int (Wy s q)):=by
 have D:s.cb=1+s.name.length+Qh s.ins+Qh s.outs+s.cond.cb:=rfl;have E:=Qy s.ins;have F:=Qy s.outs;unfold zx at h;have a:s.name.length<=zx:=by unfold zx;omega
 have u:=fun Y Z=>dd (fun l=>int (vV l)) (fun l=>Qh l<=zx) s.ins Y Z (by unfold zx;omega) rfl
 have B:=fun Y Z=>dd (fun l=>int (vV l)) (fun l=>Qh l<=zx) s.outs Y Z (by unfold zx;omega) rfl
 have G:=fun Y Z=>xc (fun c=>int c.check) s.cond Y Z (by unfold zx;omega)
 have r:(Op.bytesLess s.name q||s.name==q)=gM s.name q:=rfl;refine zn rfl ?_;unfold Wy;cases n:w8 s.name
 ·simp[a,n,f64]
 cases t:gM s.name q
 case true=>simp[a,n,r,t,f64]
 by_cases b:vV s.ins=0
 case neg=>
  have e:xw s=vV s.ins:=by unfold xw;rw[zc b]
  have w:=ZX b;simp[a,n,r,t,u,w,e,f64]
 by_cases o:vV s.outs=0
 case neg=>
  have e:xw s=vV s.outs:=by unfold xw;rw[zf b,zc o]
  have y:=ZX o;simp[a,n,r,t,u,b,B,y,e,f64]
 simp[a,n,r,t,u,b,B,o];refine zT (fun k U Y Z=>U 2=.ref 0 0 0/\U 32=.sl 1 (zH s.ins)/\U 33=int s.ins.length/\U 34=int k/\1<=Z/\Y 0=some (bH s)/\(s.ins.any fun k=>s.outs.contains k)=(s.ins.drop k).any fun k=>s.outs.contains k) s.ins.length
  ⟨by simp,by simp,by simp,by simp,by simp,by simp[bH],by simp⟩ ?_
 rintro k U Y Z K ⟨z,f,g,i,H,p,m⟩;simp only[bH]at p;by_cases j:k<s.ins.length
 ·have I:=qH k;obtain⟨x,A⟩:=jj (s.ins[k]);rw[DC j,A]at m;have C:=fun Y Z=>od (fun l v=>q8 (decide (v∈l))) s.outs x Y Z (by unfold zx;omega)
  by_cases d:x∈s.outs
  ·have e:xw s=7:=by unfold xw;rw[zf b,zf o,m];simp[d]
   simp[z,f,g,i,j,A,p,C,d,e,f64]
  ·have J:s.outs.contains x=false:=by simpa using d
   rw[J,kK]at m;simp[z,f,g,i,j,A,p,C,d,I]
   and_intros<;>first|omega|exact p|rfl|simpa using m
 ·obtain rfl:k=s.ins.length:=by omega
  rw[zq]at m;have e:xw s=s.cond.check:=by unfold xw;rw[zf b,zf o,m];simp
  simp[z,f,g,i,p,G,e,f64]
theorem aq:zg prog 64 (zi false [] (FSgB fun s q=>int (Wy s q))):=
 Z2 (qc mixed ⟨aO,eX,WQ,JD,trivial⟩:AM.Good Crsg _) func64 false [] fun⟨s,q⟩ a=>⟨zE (ze 2) (by decide),_,b5 s q a,qq _⟩
theorem KV:∀a b:List zG,yD (a++b)=yD a++yD b
 |[],b=>rfl
 |x::a,b=>by show x.names++yD (a++b)=(x.names++yD a)++yD b;rw[KV a b,qT]
theorem Jl{l:List zG}{k:Nat}(h:k<l.length):yD (l.take (k+1))=yD (l.take k)++l[k].names:=by rw[ql h,KV];show _++(l[k].names++[])=_;rw[jJ]
theorem sK{n:Nat}(a:∀c:zG,c.cb<=n->c.names.length<=c.cb):∀l:List zG,ay l<=n->(yD l).length<=ay l
 |[],_=>ze _
 |x::l,h=>by
  have b:ay (x::l)=x.cb+ay l:=by simp[ay]
  have d:=a x (by omega);have e:=sK a l (by omega);show(x.names++yD l).length<=_;rw[qD];omega
theorem xo:∀(n:Nat) (c:zG),c.cb<=n->c.names.length<=c.cb
 | 0,c,h=>by have:=VX c;omega
 |n+1,c,h=>by have a:=xG c;have:=sK (xo n) c.args (by omega);rw[yU,qD];split<;>simp<;>omega
noncomputable abbrev Cnm (n:Nat):Ctx:=zW prog [(67,zi false [] (FC (fun c=>.sl 1 (zH c.names)) n))]
theorem Al(n:Nat)(c:zG)(h:c.cb<=zx/\c.cb<=n+1):∃C,zt (Cnm n) f67 [.agg c.V]=some C/\VF C (.sl 1 (zH c.names)):=by
 have D:=xG c;have E:=ju c.args;have w:=xo _ c (ze _);obtain⟨F,K⟩:=h;unfold zx at F;have g:∀k,(yD (c.args.take k)).length<=c.cb:=fun k=>by
  have e:yD c.args=yD (c.args.take k)++yD (c.args.drop k):=by rw[<-KV,vO]
  have:=zu List.length e;rw[yU,qD]at w;rw[qD]at this;omega
 refine Kq rfl ?_;by_cases v:c.kind=5
 ·have s:=fun Y Z=>qU.yS (P:=prog) (t:=34) (c:=[str c.name]) (qU.nil Y Z 9 1) oT Ny RV RW rfl (by omega) (by simp[maxLen]) (by simp)
  have i:(c.kind==5)=true:=by simpa using v
  simp only[QM]at s;simp[zI,i,zp,zy,zo,s];refine zT (fun k U Y Z=>U 15=.sl 7 (c.args.map zG.V)/\U 16=int c.args.length/\U 17=int k/\qU Y Z 9 1 (U 3) (zH ([c.name]++yD (c.args.take k)))) c.args.length
   ⟨by simp,by simp,by simp,by simp;exact .inr ⟨_,by omega,rfl,by simp[zH,yD]⟩⟩ ?_
  rintro k U Y Z G ⟨b,d,f,j⟩;by_cases a:k<c.args.length
  ·have y:=qH k;obtain⟨x,l⟩:=jj (c.args[k]);have m:x∈c.args:=by rw[<-l];exact zk a
   have z:=kg m;have A:=xo _ x (ze _);have B:=fun Y Z=>Wa (fun c=>.sl 1 (zH c.names)) n x Y Z ⟨by unfold zx;omega,by omega⟩
   have H:=g k;have o:=j.more (some ⟨26,7,false,[x.V]⟩);obtain⟨I,Y',J,p,q,_⟩:=o.K9 (P:=prog) (t:=34) (ys:=zH x.names) oT Ny RV RW rfl (by omega) (by simp[maxLen,wC];omega) (by simp[wC];omega);have u:=Jl a;rw[l]at u;simp[b,d,f,a,l,B,p,y,XP];refine⟨by omega,?_⟩;rw[u];simpa[zH]using q
  ·obtain rfl:k=c.args.length:=by omega
   rw[wJ]at j;have r:=j.freeze Z;simp[b,d,f,f67];rw[yU];simpa[v]using r
 ·have i:=yq v;simp[zI,i];refine zT (fun k U Y Z=>U 15=.sl 7 (c.args.map zG.V)/\U 16=int c.args.length/\U 17=int k/\qU Y Z 9 1 (U 3) (zH (yD (c.args.take k)))) c.args.length
   ⟨by simp,by simp,by simp,by simp;exact .inl ⟨rfl,by simp[zH,yD]⟩⟩ ?_
  rintro k U Y Z G ⟨b,d,f,j⟩;by_cases a:k<c.args.length
  ·have y:=qH k;obtain⟨x,l⟩:=jj (c.args[k]);have m:x∈c.args:=by rw[<-l];exact zk a
   have z:=kg m;have A:=xo _ x (ze _);have B:=fun Y Z=>Wa (fun c=>.sl 1 (zH c.names)) n x Y Z ⟨by unfold zx;omega,by omega⟩
   have H:=g k;have o:=j.more (some ⟨26,7,false,[x.V]⟩);obtain⟨I,Y',J,p,q,_⟩:=o.K9 (P:=prog) (t:=34) (ys:=zH x.names) oT Ny RV RW rfl (by omega) (by simp[maxLen,wC];omega) (by simp[wC];omega);have u:=Jl a;rw[l]at u;simp[b,d,f,a,l,B,p,y,XP];refine⟨by omega,?_⟩;rw[u];simpa[zH]using q
  ·obtain rfl:k=c.args.length:=by omega
   rw[wJ]at j;have r:=j.freeze Z;simp[b,d,f,f67];rw[yU];simpa[v]using r
theorem a7:∀n,zg prog 67 (zi false [] (FC (fun c=>.sl 1 (zH c.names)) n)):=by
 intro n
 induction n with
 |zero=>exact iD ⟨_,func67,by kernel_rfl,by kernel_rfl⟩
 |succ n a=>
  have b:Gd (Cnm n):=qc mixed ⟨a,trivial⟩;exact yj (fn:=f67) b (qE func67) false [] _ fun args r h=>by obtain⟨c,rfl,d,rfl⟩:=YD h;obtain⟨e,f,g⟩:=Al n c d;exact⟨zE (ze 1) (by decide),e,f,g⟩
def oe(l:List qd)(ns:List za):Bool:=ns.all fun n=>(yC n l).isSome
def Kb(l:List qd)(cs:List zG):Int:=if(cs.all fun c=>oe l c.names)=true then 0 else 9
theorem fj{α:Type}{p:α->Bool}{l:List α}{k:Nat}(h:k<l.length):(l.drop k).all p=(p l[k]&&(l.drop (k+1)).all p):=by rw[zh h,q9]
noncomputable def FSC (out:List qd->List zG->O):zb->Option O:=qu (α:=List qd×List zG) (fun a=>[.sl 10 (a.1.map qd.V),.sl 7 (a.2.map zG.V)]) (fun a=>a.1.length<=zx/\ay a.2<=zx) fun a=>out a.1 a.2
theorem PN(out:List qd->List zG->O)(l:List qd)(cs:List zG)(h:l.length<=zx/\ay cs<=zx):FSC out [.sl 10 (l.map qd.V),.sl 7 (cs.map zG.V)]=some (out l cs):=
 qG (V:=fun a:List qd×List zG=>[O.sl 10 (a.1.map qd.V),.sl 7 (a.2.map zG.V)]) (a:=(l,cs)) (fun a b e=>by obtain⟨f,g⟩:=a;obtain⟨i,j⟩:=b;simp only[zl,zM]at e;obtain⟨d,c⟩:=e;injection c with _ c;rw[Za d,vw (fun _ _=>ka) c]) h
noncomputable abbrev zaO:Ctx:=zW prog [(67,zi false [] (FC (fun c=>.sl 1 (zH c.names)) zx)),(33,zi false [] (LJ (fun l s=>J7 (yC s l)) fun l _=>l.length<=zx))]
theorem fk(l:List qd)(cs:List zG)(z:l.length<=zx)(G:ay cs<=zx):zt zaO f32 [.sl 10 (l.map qd.V),.sl 7 (cs.map zG.V)]=some (int (Kb l cs)):=by
 have v:zx=268435456:=rfl;have A:=ju cs;refine zn rfl ?_;obtain⟨B,w⟩:=jj (cs.all fun c=>oe l c.names);unfold Kb;rw[w];simp;refine zT (fun k U Y Z=>U 0=.sl 10 (l.map qd.V)/\U 11=.sl 7 (cs.map zG.V)/\U 12=int cs.length/\U 13=int k/\B=(cs.drop k).all fun c=>oe l c.names) cs.length
  ⟨by simp,by simp,by simp,by simp,by simp[w]⟩ ?_
 rintro k U Y Z H ⟨g,a,b,e,f⟩;by_cases h:k<cs.length
 ·have C:=qH k;obtain⟨x,q⟩:=jj (cs[k]);have r:x∈cs:=by rw[<-q];exact zk h
  have D:=kg r;have E:=xo _ x (ze _);have F:=fun Y Z=>Wa (fun c=>.sl 1 (zH c.names)) zx x Y Z ⟨by omega,by omega⟩
  rw[fj h,q]at f;simp[g,a,b,e,h,q,F];refine zT (fun j U Y Z=>U 0=.sl 10 (l.map qd.V)/\U 11=.sl 7 (cs.map zG.V)/\U 12=int cs.length/\U 13=int k/\U 18=.sl 1 (zH x.names)/\U 19=int x.names.length/\U 20=int j/\B=(oe l (x.names.drop j)&&(cs.drop (k+1)).all fun c=>oe l c.names)) x.names.length
   ⟨by simp[g],by simp[a],by simp[b],by simp[e],by simp,by simp,by simp,by simpa using f⟩ ?_
  rintro j U Y Z I ⟨g,a,b,e,i,m,n,f⟩;by_cases o:j<x.names.length
  ·have t:=qH j;obtain⟨y,u⟩:=jj (x.names[j]);have p:∀Y Z,zi false [] (LJ (fun l s=>J7 (yC s l)) fun l _=>l.length<=zx) [.sl 10 (l.map qd.V),str y] Y Z=some (.wq [.agg (F1 (yC y l)).V,q8 (yC y l).isSome],Y,Z):=fun Y Z=>eY (fun l s=>J7 (yC s l)) (fun l _=>l.length<=zx) l y Y Z z
   unfold oe at f;rw[fj o,u]at f;cases d:(yC y l).isSome
   ·rw[d,dE,dE]at f;rw[d]at p;simp[g,a,b,e,i,m,n,o,u,p,f,f32]
   ·rw[d,jK]at f;rw[d]at p;simp[g,a,b,e,i,m,n,o,u,p,t];exact⟨by omega,f⟩
  ·obtain rfl:j=x.names.length:=by omega
   rw[zq]at f;have f:B=(cs.drop (k+1)).all fun c=>oe l c.names:=by simpa[oe]using f
   simp[g,a,b,e,i,m,n,C];exact⟨by omega,f⟩
 ·obtain rfl:k=cs.length:=by omega
  rw[zq]at f;simp[g,a,b,e,f,f32]
theorem Jm:zg prog 32 (zi false [] (FSC fun l cs=>int (Kb l cs))):=
 Z2 (qc mixed ⟨a7 zx,Q1,trivial⟩:AM.Good zaO _) func32 false [] fun⟨l,cs⟩ a=>⟨zE (ze 2) (by decide),_,fk l cs a.1 a.2,qq _⟩
theorem Us(l:List qd)(n:za):(F1 (yC n l)).cond.names=j5 l n:=by unfold j5 F1;cases yC n l<;>rfl
def qm(out:List za):List qd->Nat
 |[]=>0
 |s::l=>(if out.contains s.name=true then 0 else s.cond.names.length)+qm out l
theorem HK(out:List za)(n:za):∀l:List qd,qm (out++[n]) l<=qm out l
 |[]=>ze _
 |s::l=>by
  have:=HK out n l;simp only[qm];by_cases h:out.contains s.name=true
  ·rw[zf h,zf (by simp at h⊢;exact .inl h)];omega
  ·rw[zc h];split<;>omega
theorem iO{out:List za}{n:za}(h:n ∉ out):∀l:List qd,(j5 l n).length+qm (out++[n]) l<=qm out l
 |[]=>ze _
 |s::l=>by
  by_cases hs:s.name=n
  ·have a:j5 (s::l) n=s.cond.names:=by simp[j5,yC,hs]
   have:=HK out n l;rw[a];simp only[qm];rw[zf (by simp[hs]),zc (by rw[hs];simpa using h)];omega
  ·have a:j5 (s::l) n=j5 l n:=by simp[j5,yC,hs]
   have:=iO h l;rw[a];simp only[qm];have b:(out++[n]).contains s.name=out.contains s.name:=by simp[hs]
   rw[b];omega
theorem PO(out:List za):∀l:List qd,qm out l<=Qb l
 |[]=>xq _
 |s::l=>by
  have a:=PO out l;have b:=xo _ s.cond (ze _);have c:Qb (s::l)=s.cb+Qb l:=by simp[Qb]
  have d:s.cb=1+s.name.length+Qh s.ins+Qh s.outs+s.cond.cb:=rfl;simp only[qm];split<;>omega
theorem Gi:∀(x y:List za),dK x->dK y->(∀c,c∈x↔c∈y)->x=y
 |[],[],_,_,_=>rfl
 |[],b::y,_,_,h=>absurd ((h b).2 (by simp)) (by simp)
 |a::x,[],_,_,h=>absurd ((h a).1 (by simp)) (by simp)
 |a::x,b::y,k,l,h=>by
  obtain⟨i,m⟩:=yc.1 k;obtain⟨j,n⟩:=yc.1 l;have f:a=b:=by
   rcases zv.1 ((h a).1 (by simp))with e|e
   ·exact e
   ·rcases zv.1 ((h b).2 (by simp))with g|g
    ·exact g.symm
    ·have:=Q0 (i b g) (j a e);rw[V5]at this;cases this
  subst f;rw[Gi x y m n fun c=>⟨fun d=>?_,fun d=>?_⟩]
  ·rcases zv.1 ((h c).1 (by simp[d]))with e|e
   ·subst e;have:=i c d;rw[V5]at this;cases this
   ·exact e
  ·rcases zv.1 ((h c).2 (by simp[d]))with e|e
   ·subst e;have:=j c d;rw[V5]at this;cases this
   ·exact e
theorem iP{l:List za}(h:l.Nodup):dK (l.mergeSort fun x y=>decide (x<=y)):=by
 have Y:=Vu l fun x y=>decide (x<=y)
 have hs:=List.pairwise_mergeSort (le:=fun x y:za=>decide (x<=y)) (fun a b c d e=>by simp only[qi]at d e⊢;exact List.le_trans d e) (fun a b=>by simp only[qF,qi];exact List.le_total a b) l;have f:(l.mergeSort fun x y=>decide (x<=y)).Nodup:=Y.nodup_iff.2 h;refine(hs.and f).imp fun{a b} g=>?_
 rw[bytesLess_eq];obtain⟨d,e⟩:=g;simp only[qi]at d⊢;exact vC fun f=>e (List.le_antisymm d (List.not_lt.1 f))
theorem ZE{l:List za}(h:l.Nodup):Lib.compact l=l:=by
 refine Lib.compact_all l fun j a=>?_
 unfold Lib.keeps;simp only[qi];by_cases b:j=0
 ·exact .inl b
 ·refine .inr fun e=>?_
  rw[K1 _ _ (by simpa using a),K1 _ _ (by simp;omega)]at e;simp only[List.getElem_toArray]at e;exact(Qd.1 h (j-1) j (by omega) a (by omega)) e.symm
open Classical in
noncomputable def Yi (l:List qd) (ns:List za):List za:=if h:∃L,dK L/\∀n,n∈L↔K8 (j5 l) ns n then h.choose else[]
theorem dA{l:List qd}{ns out:List za}(h:AR (j5 l) ns out []):Lib.compact (out.mergeSort fun x y=>decide (x<=y))=Yi l ns:=by
 have b:=iP h.nodup;have Y:=Vu out fun x y=>decide (x<=y)
 have d:∀n,n∈(out.mergeSort fun x y=>decide (x<=y))↔K8 (j5 l) ns n:=fun n=>Y.mem_iff.trans (h.done n)
 rw[ZE (Y.nodup_iff.2 h.nodup)];have a:∃L,dK L/\∀n,n∈L↔K8 (j5 l) ns n:=⟨_,b,d⟩;unfold Yi;rw[zgA a];exact Gi _ _ b a.choose_spec.1 fun c=>(d c).trans (a.choose_spec.2 c).symm
theorem PQ{l:List qd}{ns:List za}(h:∃out,AR (j5 l) ns out [])(n:za):n∈Yi l ns↔K8 (j5 l) ns n:=by
 obtain⟨out,h⟩:=h;have a:=iP h.nodup;have Y:=Vu out fun x y=>decide (x<=y)
 rw[<-dA h,ZE (Y.nodup_iff.2 h.nodup)];exact Y.mem_iff.trans (h.done n)
theorem iQ(l:List qd)(start:List za):∀(n:Nat) (out b:List za),AR (j5 l) start out b->b.length+qm out l<=n->∃c,AR (j5 l) start c []
 |_,out,[],h,_=>⟨out,h⟩
 | 0,_,_::_,_,h=>by simp at h
 |n+1,out,a::q,h,e=>by
  simp only[z7]at e;by_cases d:a∈out
  ·exact iQ l start n out q (h.skip d) (by omega)
  ·have:=iO d l;exact iQ l start n _ _ (h.take d) (by rw[qD];omega)
theorem Am(l:List qd)(ns:List za)(n:za):n∈Yi l ns↔K8 (j5 l) ns n:=PQ (iQ l ns _ [] ns (.begin _ _) (ze _)) n
def pU(Y:Hp)(Z:Nat)(e s:Nat)(v:O)(xs:List zb):Prop:=(v=.nil/\xs=[])\/(xs≠[]/\∃id,id<Z/\v=.own id 0 xs.length/\Y id=some ⟨e,s,true,xs⟩)
theorem pU.more{Y:Hp}{Z e s:Nat}{v:O}{xs:List zb}(h:pU Y Z e s v xs)(b:Option kn):pU (qt Y Z b) (Z+1) e s v xs:=by
 rcases h with⟨rfl,rfl⟩|⟨a,id,d,rfl,c⟩
 ·exact .inl ⟨rfl,rfl⟩
 ·exact .inr ⟨a,id,by omega,rfl,by rw[zm _ _ _ _ (by omega)];exact c⟩
theorem pU.K9{P:Program}{Y:Hp}{Z e s by_:Nat}{v:O}{xs:List zb}{ys:List zb}{z:zb}{t:TypeId}(h:pU Y Z e s v xs)(b:ym P t=some e)(hs:qC P e=some s)(c:jB P e=some by_)(d:yT P e=some z)
  (a:z.length=s) (f:0<s) (g:xs.length+ys.length<=maxLen) (i:(xs.length+ys.length)*by_<=140737488355328) :
  ∃k Y' l,yI P Y Z t t v (.sl s ys)=some (k,Y',l)/\pU Y' l e s k (xs++ys):=by
 rcases h with⟨rfl,rfl⟩|⟨m,id,hid,rfl,n⟩
 ·simp at g i;by_cases j:ys=[]
  ·subst j;exact⟨.nil,Y,Z,by simp[yI,b,hs,c,d,a,f,AM.view,maxLen],.inl ⟨rfl,rfl⟩⟩
  ·exact⟨.own Z 0 ys.length,_,Z+1,by simp[yI,b,hs,c,d,a,f,g,i,AM.view,j];rfl,.inr ⟨by simpa using j,Z,by omega,by simp,by simp⟩⟩
 ·exact⟨.own Z 0 (xs.length+ys.length),_,Z+1,by simp[yI,b,hs,c,d,a,f,g,i,AM.view,n];rfl,.inr ⟨by simp[m],Z,by omega,by simp,by simp⟩⟩
def sL(ns:List za):Option kn:=if ns=[]then none else some ⟨9,1,true,zH ns⟩
theorem pU.ret{Y:Hp}{Z:Nat}{v:O}{ns:List za}(h:pU Y Z 9 1 v (zH ns))(b:Nat):WK (sL ns) v Y b:=by
 rcases h with⟨rfl,a⟩|⟨a,id,hid,rfl,c⟩
 ·have:ns=[]:=by simpa[zH]using a
  subst this;rfl
 ·have d:ns≠[]:=fun e=>a (by rw[e];rfl)
  unfold sL;rw[zc d];exact⟨id,rfl,c,rfl⟩
theorem pM(c:zG)(H:c.cb<=zx):∃x Y Z,je (Cnm zx) f67 [.agg c.V] (fun _=>none) 0=some (x,Y,Z)/\WK (sL c.names) x Y Z:=by
 have B:=xG c;have C:=ju c.args;have s:=xo _ c (ze _);have A:zx=268435456:=rfl;have g:∀k,(yD (c.args.take k)).length<=c.cb:=fun k=>by
  have e:yD c.args=yD (c.args.take k)++yD (c.args.drop k):=by rw[<-KV,vO]
  have:=zu List.length e;rw[yU,qD]at s;rw[qD]at this;omega
 refine Kr rfl ?_;by_cases r:c.kind=5
 ·have p:=fun Y Z=>qU.yS (P:=prog) (t:=34) (c:=[str c.name]) (qU.nil Y Z 9 1) oT Ny RV RW rfl (by omega) (by simp[maxLen]) (by simp)
  have h:(c.kind==5)=true:=by simpa using r
  simp only[QM]at p;simp[zI,h,zp,zy,zo,p];refine zT (fun k U Y Z=>U 15=.sl 7 (c.args.map zG.V)/\U 16=int c.args.length/\U 17=int k/\pU Y Z 9 1 (U 3) (zH ([c.name]++yD (c.args.take k)))) c.args.length
   ⟨by simp,by simp,by simp,by simp;exact .inr ⟨by simp[zH],_,by omega,rfl,by simp[zH,yD]⟩⟩ ?_
  rintro k U Y Z D ⟨b,d,f,i⟩;by_cases a:k<c.args.length
  ·have u:=qH k;obtain⟨x,j⟩:=jj (c.args[k]);have l:x∈c.args:=by rw[<-j];exact zk a
   have v:=kg l;have w:=xo _ x (ze _);have y:=fun Y Z=>Wa (fun c=>.sl 1 (zH c.names)) zx x Y Z ⟨by omega,by omega⟩
   have E:=g k;have m:=i.more (some ⟨26,7,false,[x.V]⟩);obtain⟨F,Y',G,n,o⟩:=m.K9 (P:=prog) (t:=34) (ys:=zH x.names) oT Ny RV RW rfl (by omega) (by simp[maxLen,wC];omega) (by simp[wC];omega);have q:=Jl a;rw[j]at q;simp[b,d,f,a,j,y,n,u,XP];refine⟨by omega,?_⟩;rw[q];simpa[zH]using o
  ·obtain rfl:k=c.args.length:=by omega
   rw[wJ]at i;have z:=i.ret Z;simp[b,d,f,f67];rw[yU];simpa[r]using z
 ·have h:=yq r;simp[zI,h];refine zT (fun k U Y Z=>U 15=.sl 7 (c.args.map zG.V)/\U 16=int c.args.length/\U 17=int k/\pU Y Z 9 1 (U 3) (zH (yD (c.args.take k)))) c.args.length
   ⟨by simp,by simp,by simp,by simp;exact .inl ⟨rfl,by simp[zH,yD]⟩⟩ ?_
  rintro k U Y Z D ⟨b,d,f,i⟩;by_cases a:k<c.args.length
  ·have u:=qH k;obtain⟨x,j⟩:=jj (c.args[k]);have l:x∈c.args:=by rw[<-j];exact zk a
   have v:=kg l;have w:=xo _ x (ze _);have y:=fun Y Z=>Wa (fun c=>.sl 1 (zH c.names)) zx x Y Z ⟨by omega,by omega⟩
   have E:=g k;have m:=i.more (some ⟨26,7,false,[x.V]⟩);obtain⟨F,Y',G,n,o⟩:=m.K9 (P:=prog) (t:=34) (ys:=zH x.names) oT Ny RV RW rfl (by omega) (by simp[maxLen,wC];omega) (by simp[wC];omega);have q:=Jl a;rw[j]at q;simp[b,d,f,a,j,y,n,u,XP];refine⟨by omega,?_⟩;rw[q];simpa[zH]using o
  ·obtain rfl:k=c.args.length:=by omega
   rw[wJ]at i;have z:=i.ret Z;simp[b,d,f,f67];rw[yU];simpa[r]using z
noncomputable def FNf:zb->Option (Option kn):=qu (α:=zG) (fun c=>[.agg c.V]) (fun c=>c.cb<=zx) fun c=>sL c.names
theorem DD(c:zG)(Y:Hp)(Z:Nat)(h:c.cb<=zx):yh [] FNf [.agg c.V] Y Z=if c.names=[]then some (.nil,Y,Z)else some (.own Z 0 c.names.length,qt Y Z (some ⟨9,1,true,zH c.names⟩),Z+1):=by
 have e:FNf [.agg c.V]=some (sL c.names):=qG (V:=fun c:zG=>[O.agg c.V]) (a:=c) (fun a b e=>by simp only[zl,zM,O.agg.injEq]at e;exact ka e) h
 unfold yh;simp only[show zw Y [.agg c.V]=some ([.agg c.V],Y) by simp[zI],show q6 [] [O.agg c.V]=[O.agg c.V]from rfl,e];unfold sL;by_cases d:c.names=[]
 ·rw[zf d,zf d]
 ·rw[zc d,zc d];simp[zH]
theorem pN:zg prog 67 (yh [] FNf):=
 xa (fn:=f67) (code:=_) (qc mixed ⟨a7 zx,trivial⟩:AM.Good (Cnm zx) _) ⟨func67,by kernel_rfl,rfl,by kernel_rfl⟩ [] _ fun args r h=>by obtain⟨c,rfl,a,rfl⟩:=zK h;exact⟨by simp[f67],pM c a⟩
end Go.Q
namespace Go.AM
open Go.RowKit Go.Sort Go.Proofs
variable{dr:Prop}
abbrev WR(zs:List za):List zb:=zs.map fun n=>[str n]
theorem PR{a b:List za}(h:WR a=WR b):a=b:=
 vw (fun x y e=>by have:=List.head_eq_of_cons_eq e;exact wR this) h
@[simp]theorem Xt(zs:List za):(WR zs).length=zs.length:=by simp[WR]
theorem PS{zs:List za}{i:Nat}{c:zb}(h:(WR zs)[i]?=some c):∃hi:i<zs.length,c=[str zs[i]]:=by
 unfold WR at h;rw[qf]at h;cases a:zs[i]? with
 |none=>rw[a]at h;cases h
 |some x=>rw[a]at h;obtain⟨hi,rfl⟩:=zd.1 a;exact⟨hi,by simpa using h.symm⟩
def Gj(P:Program)(f:Nat)(F:List za->List za)(a:Bool):Prop:=
 ∀(blk cap:Nat) (zs:List za) (w:World),Holds encStr w blk 0 zs.toArray->blk<w.heap.size->zs.length<4611686018427387904->zs.length<=cap ->
  Calls P f #[.slice (some ⟨blk,0,none⟩) zs.length cap] w fun e w'=>e=.returned (if a then .slice (some ⟨blk,0,none⟩) (F zs).length cap else .tuple #[]) /\
   ∃(q:Nat) (b:Array Obj) (d:List za),d.length=zs.length/\(∃r,d=F zs++r)/\w'=grow (putRow encStr (Sort.ahead w q) blk 0 d.toArray) b
open Classical in
noncomputable def og (es:List zb):Option (List za):=if h:∃zs:List za,es=WR zs then some h.choose else none
theorem Me(zs:List za):og (WR zs)=some zs:=by have a:∃ys:List za,WR zs=WR ys:=⟨zs,rfl⟩;unfold og;rw[zgA a];have e:=PR a.choose_spec;rw[<-e]
theorem Gk{es:List zb}{zs:List za}(h:og es=some zs):es=WR zs:=by
 unfold og at h;split at h
 ·rename_i a;injection h with h
  rw[<-h];exact a.choose_spec
 ·cases h
noncomputable def Xu (F:List za->List za) (a:Bool):AM.Spec:=fun args Y Z=>
 match args with
 |[.nil]=>some (if a then .nil else .wq [],Y,Z)
 |[.own id off n]=>match Y id with
  |some b=>match og b.es with
   |some zs=>if off=0/\b.arr=true/\b.s=1/\n=zs.length/\zs.length<4611686018427387904 then
     some (if a then .own id 0 (F zs).length else .wq [],qt Y id (some ⟨b.e,b.s,b.arr,WR (F zs)⟩),Z)else none
   |none=>none
  |none=>none
 |_=>none
theorem b6(F:List za->List za)(a:Bool){id e:Nat}{zs:List za}{Y:Hp}{Z:Nat}(h:Y id=some ⟨e,1,true,WR zs⟩)(b:zs.length<4611686018427387904) :
  Xu F a [.own id 0 zs.length] Y Z=some (if a then .own id 0 (F zs).length else .wq [],qt Y id (some ⟨e,1,true,WR (F zs)⟩),Z):=by
 unfold Xu;simp only[h,Me];simp only[b,and_self,qI]
theorem oh(w:World)(blk:Nat)(d:Array za){a:Array Value}{e:TypeId}(h:w.heap[blk]?=some (.cells a e (0,0))) :
  putRow encStr w blk 0 d=w.setRow blk (putCells encStr 0 d a):=by
 unfold putRow mapBlock World.setRow;congr 1;apply Array.ext_getElem?;intro i;simp only[vN];by_cases hi:blk=i
 ·subst hi;simp only[qI,h,zA,onCells]
 ·simp[hi]
theorem Ao(w:World)(blk q:Nat)(d:Array za)(a:Array Obj):Fr dr (putRow encStr w blk 0 d) (fun _=>False) (grow (putRow encStr (Sort.ahead w q) blk 0 d) a):=by
 refine⟨rfl,rfl,rfl,?_,fun _=>?_,fun b c _=>?_⟩
 ·show _<=(_++a).size;rw[QG];exact Nat.le_add_right _ _
 ·exact Nat.le_add_right _ _
 ·exact kV c
theorem gq{P:Program}{f:Nat}{F:List za->List za}{k:Bool}(J:∃fn,P.funcs[f]?=some fn/\(fn.name== "runtime.NumGoroutine")=false/\fn.body.isNone=false)(K:Gj P f F k)(B:∀w,Calls P f #[.slice none 0 0] w fun e w'=>e=.returned (if k then .slice none 0 0 else .tuple #[])/\w'=w):jr dr P f (Xu F k):=by
 refine⟨J,?_⟩;intro args Y Z r Y' Z' h w S G vs hi hz;unfold Xu at h;split at h
 case h_3=>cases h
 case h_1=>
  obtain⟨u,us,rfl,I,y⟩:=hz.jF;obtain rfl:=y.WE;obtain rfl:=I.Zp;injection h with h;injection h with L h;injection h with M N;subst L;subst M;subst N;refine(B w).mono fun e w' Q=>?_
  obtain⟨rfl,rfl⟩:=Q;refine⟨_,S,G,rfl,.refl hi,?_⟩;cases k with
  |false=>exact jM
  |true=>exact .c .nil
 rename_i id off n;obtain⟨u,us,rfl,I,y⟩:=hz.jF;obtain rfl:=y.WE;have l:=I.xg;obtain⟨cap,g1,g2,g3,g4,rfl⟩:=I.vE;split at h
 case h_2=>cases h
 rename_i b hb;split at h
 case h_2=>cases h
 rename_i zs m;have m:=Gk m;split at h
 case isFalse=>cases h
 rename_i hx;obtain⟨rfl,harr,R,hn,C⟩:=hx;injection h with h
 injection h with L h;injection h with M N;subst L;subst M;subst N;subst hn;have o:=hi.live id b hb;have a:(G id).s=1:=by rw[<-o.bs];exact R
 obtain⟨p,T,c2,c3⟩:=o.row l;rw[a]at c3 g4;have t:=o.fit l;rw[m,a]at t;simp only[Xt,zfB,yl]at t g4;have z:∀j (D:j<zs.length),p[j]?=some (encStr zs[j]):=fun j D=>by obtain⟨u,q1,q2⟩:=c3 j 0 [str zs[j]] (str zs[j]) (by rw[m];simp[WR,D]) rfl;rw[zfB,QE]at q1;obtain⟨rfl,_⟩:=q2.2.1.wY;exact q1
 have hH:Holds encStr w (G id).g 0 zs.toArray:=by
  intro j D;have W:j<zs.length:=by simpa using D
  constructor
  ·rw[yl,za2 w _ _ p _ _ T,z j W,K1 _ j D];simp
  ·simp[World.frozen?,T]
 have X:=K (G id).g cap zs w hH o.lt C g2;rw[a];simp only[UP];refine X.mono fun e w' Q=>?_
 obtain⟨rfl,q,os,d,hd1,⟨rr,E⟩,rfl⟩:=Q;have hFl:(F zs).length<=zs.length:=by rw[<-hd1,E,qD];omega
 have A:=kd.set (dr:=dr) hi hb l (putCells encStr 0 d.toArray p) (WR (F zs)) (by simp[putCells,c2])
  (fun c hc=>by obtain⟨x,_,rfl⟩:=qp.1 hc;rw[a];rfl)
  (by rw[a,Xt];omega)
  (fun i j c pv hci H=>by
   obtain⟨R3,rfl⟩:=PS hci;have hj0:j=0:=by have:=(zd.1 H).1;simpa using this
   subst hj0;obtain rfl:str (F zs)[i]=pv:=by simpa using H
   refine⟨encStr (F zs)[i],?_,fun _=>.v rfl,.c (.v rfl),rfl⟩;rw[a,zfB,QE];have hic:i<p.size:=by rw[c2];omega
   unfold putCells;rw[Array.getElem?_mapIdx,vB hic];simp only[zA];have hid:i<d.length:=by omega
   rw[zf ⟨xq _,by simpa using hid⟩];have:d.toArray[i-0]! = (F zs)[i]:=by rw[Nat.sub_zero,K1 _ i (by simpa using hid)];simp[E,List.getElem_append_left R3]
   rw[this])
 rw[<-oh w _ _ T]at A;refine⟨_,S,G,rfl,A.trans (kd.grown A.inv (Ao w (G id).g q d.toArray os)),?_⟩;cases k with
 |false=>exact jM
 |true=>simp only[qI];have:=qb.own (w:=grow (putRow encStr (Sort.ahead w q) (G id).g 0 d.toArray) os) (S:=S) (G:=G) (Z:=Z) (id:=id) (off:=0) (n:=(F zs).length) (cap:=cap) g1 (by omega) g3 (by rw[a];omega) l;simpa using this
end Go.AM
namespace Go.Proofs
open Go.Shelf
def Tryz.Ef:Go.Shelf.Ren:=⟨fun|125=>42|128=>84|129=>85|190=>18|258=>41|302=>75|303=>76|304=>77|305=>78|306=>79|307=>80|308=>81|309=>82|310=>83|329=>117|330=>118|333=>116|334=>119|335=>120|336=>74|344=>155|n=>n,fun|0=>0|3=>3|4=>4|5=>5|9=>9|31=>34|46=>83|51=>116|53=>118|131=>64|182=>108|183=>109|218=>137|222=>141|228=>181|229=>67|n=>n,fun|n=>n⟩
theorem Tryz.H0:Go.Proofs.Lays.n190 prog Tryz.Ef:={
 mixed:=by kernel_rfl
 f125:=func42.trans (zu some (by kernel_rfl))
 f128:=func84.trans (zu some (by kernel_rfl))
 f129:=func85.trans (zu some (by kernel_rfl))
 f190:=func18.trans (zu some (by kernel_rfl))
 f258:=func41.trans (zu some (by kernel_rfl))
 f302:=func75.trans (zu some (by kernel_rfl))
 f303:=func76.trans (zu some (by kernel_rfl))
 f304:=func77.trans (zu some (by kernel_rfl))
 f305:=func78.trans (zu some (by kernel_rfl))
 f306:=func79.trans (zu some (by kernel_rfl))
 f307:=func80.trans (zu some (by kernel_rfl))
 f308:=func81.trans (zu some (by kernel_rfl))
 f309:=func82.trans (zu some (by kernel_rfl))
 f310:=func83.trans (zu some (by kernel_rfl))
 f329:=func117.trans (zu some (by kernel_rfl))
 f330:=func118.trans (zu some (by kernel_rfl))
 f333:=func116.trans (zu some (by kernel_rfl))
 f334:=func119.trans (zu some (by kernel_rfl))
 f335:=func120.trans (zu some (by kernel_rfl))
 f336:=func74.trans (zu some (by kernel_rfl))
 f344:=func155.trans (zu some (by kernel_rfl))
 t0:=underlying0
 a0:=isAgg0
 z0:=sizeOf0
 v0:=zeroValue0
 t3:=underlying3
 a3:=isAgg3
 z3:=sizeOf3
 v3:=zeroValue3
 t4:=underlying4
 a4:=isAgg4
 z4:=sizeOf4
 v4:=zeroValue4
 t5:=underlying5
 a5:=isAgg5
 z5:=sizeOf5
 v5:=zeroValue5
 t9:=underlying9
 a9:=isAgg9
 z9:=sizeOf9
 v9:=zeroValue9
 t31:=underlying34
 a31:=isAgg34
 z31:=sizeOf34
 v31:=zeroValue34
 t46:=underlying83
 a46:=isAgg83
 z46:=sizeOf83
 v46:=zeroValue83
 t51:=underlying116
 a51:=isAgg116
 z51:=sizeOf116
 v51:=zeroValue116
 t53:=underlying118
 a53:=isAgg118
 z53:=sizeOf118
 v53:=zeroValue118
 t131:=underlying64
 a131:=isAgg64
 z131:=sizeOf64
 v131:=zeroValue64
 t182:=underlying108
 a182:=isAgg108
 z182:=sizeOf108
 v182:=zeroValue108
 t183:=underlying109
 a183:=isAgg109
 z183:=sizeOf109
 v183:=zeroValue109
 t218:=underlying137
 a218:=isAgg137
 z218:=sizeOf137
 v218:=zeroValue137
 t222:=underlying141
 a222:=isAgg141
 z222:=sizeOf141
 v222:=zeroValue141
 t228:=underlying181
 a228:=isAgg181
 z228:=sizeOf181
 v228:=zeroValue181
 t229:=underlying67
 a229:=isAgg67
 z229:=sizeOf67
 v229:=zeroValue67}
def Tryz.Eg:Go.Shelf.Ren:=⟨fun|194=>148|n=>n,fun|0=>0|3=>3|4=>4|9=>9|31=>34|n=>n,fun|n=>n⟩
theorem Tryz.H2:Go.Proofs.Lays.n194 prog Tryz.Eg:={
 mixed:=by kernel_rfl
 f194:=func148.trans (zu some (by kernel_rfl))
 t0:=underlying0
 a0:=isAgg0
 z0:=sizeOf0
 v0:=zeroValue0
 t3:=underlying3
 a3:=isAgg3
 z3:=sizeOf3
 v3:=zeroValue3
 t4:=underlying4
 a4:=isAgg4
 z4:=sizeOf4
 v4:=zeroValue4
 t9:=underlying9
 a9:=isAgg9
 z9:=sizeOf9
 v9:=zeroValue9
 t31:=underlying34
 a31:=isAgg34
 z31:=sizeOf34
 v31:=zeroValue34}
end Go.Proofs
namespace Go.Q
open Go.RowKit Go.AM Go.Sort
abbrev Wz(zs:List za):List za:=zs.mergeSort fun x y=>decide (x<=y)
theorem PT:Gj prog 18 Wz false:=by
 intro blk cap zs w a b c g;refine(Any.slices_Sort_string Tryz.H0 blk 0 cap zs w a b c).mono fun e w' d=>?_
 obtain⟨rfl,n,f,rfl⟩:=d;exact⟨rfl,n,f,_,by rw[List.length_mergeSort],⟨[],by simp⟩,rfl⟩
theorem DE:Gj prog 148 Lib.compact true:=by
 intro blk cap zs w a d f b;refine(Any.slices_Compact_string Tryz.H2 blk 0 cap zs w a (by omega) b).mono fun e w' c=>?_
 obtain⟨rfl,q,rfl⟩:=c;refine⟨rfl,q,#[],Lib.compact zs++List.replicate (zs.length-(Lib.compact zs).length) [],?_,⟨_,rfl⟩,by simp⟩;have:=Lib.compact_length_le zs;simp;omega
theorem gu:zg prog 18 (Xu Wz false):=
 gq ⟨_,func18,by decide,by kernel_rfl⟩ PT fun w=>Any.slices_Sort_string_none Tryz.H0 none 0 w
theorem oi:zg prog 148 (Xu Lib.compact true):=
 gq ⟨_,func148,by decide,by kernel_rfl⟩ DE fun w=>Any.slices_Compact_string_empty Tryz.H2 none 0 w
def WS(l:List za):List za:=Lib.compact (Wz l)
noncomputable abbrev zaP:Ctx:=zW prog [(147,yh [] (kf 9 1)),(18,Xu Wz false),(148,Xu Lib.compact true)]
theorem DF(l:List za)(g:l.length<=zx)(y:O)(c:Xz 1 (zH l) y):∃i,zt zaP f109 [y]=some i/\qg i (.sl 1 (zH (WS l))):=by
 refine wW rfl ?_;have m:l.length<4611686018427387904:=by unfold zx at g;omega
 have d:(Wz l).length=l.length:=List.length_mergeSort _;have a:=QV (e:=9) c (by simpa[zH]using g) (fun _=>none) 0;have f:y=.nil/\l=[]\/(kC 9 1 (zH l) y 0).1=.own 0 0 l.length/\(kC 9 1 (zH l) y 0).2.1 (fun _=>none)=qt (fun _=>none) 0 (some ⟨9,1,true,WR l⟩)/\(kC 9 1 (zH l) y 0).2.2=1:=by
  generalize b:zH l=es at c;cases c with
  |nil=>exact .inl ⟨rfl,by simpa[zH]using b⟩
  |em=>exact .inr ⟨by simp[kC,<-b,zH],by simp[kC,<-b,zH,WR],rfl⟩
  |sl=>exact .inr ⟨by simp[kC,<-b,zH],by simp[kC,<-b,zH,WR],rfl⟩
 rcases f with⟨rfl,rfl⟩|⟨n,o,p⟩
 ·simp only[kC]at a;have q:WS []=[]:=by simp[WS,Wz,Lib.compact,Lib.compactUpTo]
  simp[a,Xu,f109];rw[q];exact⟨.nil,by simp,qg.YV (.inl ⟨rfl,rfl⟩)⟩
 ·rw[n,o,p]at a;have r:=b6 Wz false (id:=0) (e:=9) (zs:=l) (Y:=qt (fun _=>none) 0 (some ⟨9,1,true,WR l⟩)) (Z:=1) (by simp) m;have j:=fun Y (h:Y 0=some ⟨9,1,true,WR (Wz l)⟩)=>b6 Lib.compact true (id:=0) (e:=9) (zs:=Wz l) (Y:=Y) (Z:=1) h (by omega)
  rw[d]at j;have k:=j _ (by simp:qt (qt (fun _=>none) 0 (some (⟨9,1,true,WR l⟩:kn))) 0 (some ⟨9,1,true,WR (Wz l)⟩) 0=_);simp at k;simp[a,r,k,f109];refine⟨.sl 1 (zH (WS l)),?_,qg.refl _⟩;simp[WS,zH,WR];exact qe (by simp)
theorem Ap:zg prog 109 (zi true [1] (Tl (fun l=>.sl 1 (zH (WS l))) fun l=>l.length<=zx)):=
 xl (fn:=f109) (qc mixed ⟨cU,gu,oi,trivial⟩:AM.Good zaP _) (qE func109) true [1] _ fun args r h w S vs b=>by obtain⟨l,rfl,c,rfl⟩:=zK h;obtain⟨u,rfl,d⟩:=ZI b;obtain⟨y,e,a⟩:=Bn d;obtain⟨f,g,i⟩:=DF l c y e;exact⟨_,f,.cons a .nil,zE (ze 1) (by decide),g,i⟩
end Go.Q
namespace Go.Q
noncomputable abbrev MF:Ctx:=zW prog [(67,yh [] FNf),(65,zi false [1] (Uq fun l v=>q8 (decide (v∈l)))),(33,zi false [] (LJ (fun l s=>J7 (yC s l)) fun l _=>l.length<=zx)),(109,zi true [1] (Tl (fun l=>.sl 1 (zH (WS l))) fun l=>l.length<=zx))]
theorem Ut:Gd MF:=qc mixed ⟨pN,WQ,Q1,Ap,trivial⟩
def Que(Y:Hp)(Z:Nat)(v w:O)(q:List za):Prop:=(w=.nil/\q=[])\/((∃ad,w=.v (.slice (some ad) 0 0))/\q=[])\/∃id off es,id<Z/\w=.own id off q.length/\Y id=some ⟨9,1,true,es⟩/\off+q.length=es.length/\es.drop off=zH q/\∀m,v≠.own id 0 m
theorem Que.len{Y:Hp}{Z:Nat}{v w:O}{q:List za}(h:Que Y Z v w q):Yt prog 34 w=some (int q.length):=by
 rcases h with⟨rfl,rfl⟩|⟨⟨ad,rfl⟩,rfl⟩|⟨id,off,es,_,rfl,_⟩
 ·simp
 ·simp
 ·simp
theorem Uu(l:List qd)(a:za)(h:Qb l<=zx):(F1 (yC a l)).cond.cb<=zx:=by
 by_cases b:∃y∈l,y.name=a
 ·obtain⟨j,c,d,_⟩:=eW b;rw[d];have:=xI (zk c);have f:l[j].cb=1+l[j].name.length+Qh l[j].ins+Qh l[j].outs+l[j].cond.cb:=rfl;show l[j].cond.cb<=zx;omega
 ·rw[Xf fun y g e=>b ⟨y,g,e⟩];show oI.cond.cb<=zx;have:oI.cond.cb=1:=by simp[oI,xG,zG.qZ,zG.args,zG.attr,zG.pat,zG.name,ay,JI]
  rw[this];decide
theorem DG{Y:Hp}{Z:Nat}{v:O}{l:List za}(c:qU Y Z 9 1 v (zH l))(d:l.length<=zx):∃Y',zi true [1] (Tl (fun l=>.sl 1 (zH (WS l))) fun l=>l.length<=zx) [v] Y Z=some (.sl 1 (zH (WS l)),Y',Z):=by
 have hs:Tl (fun l=>.sl 1 (zH (WS l))) (fun l=>l.length<=zx) [.sl 1 (zH l)]=some (.sl 1 (zH (WS l))):=qG (V:=fun l:List za=>[O.sl 1 (zH l)]) (a:=l) (fun a b e=>by
  simp only[zl,zM]at e;injection e with _ e
  exact jI e) d
 rcases c with⟨rfl,f⟩|⟨id,hid,rfl,g⟩
 ·have hd:l=[]:=by simpa[zH]using f
  subst hd;exact⟨Y,yk (Y1:=Y) rfl hs (.inr rfl)⟩
 ·refine⟨qt Y id none,?_⟩;have h:zw Y [.own id 0 (zH l).length]=some ([.sl 1 (zH l)],qt Y id none):=by
   simp[g]
   try rw[qe (by simp)]
  unfold zi;rw[h];have i:q6 [1] [O.sl 1 (zH l)]=[O.sl 1 (zH l)]:=rfl;simp only[i,hs];simp[O.flat,O.noOwn]
theorem Mf{Y:Hp}{Z e s id:Nat}{v:O}{xs:List zb}(h:qU Y Z e s v xs)(a:∀m,v≠.own id 0 m):qU (qt Y id none) Z e s v xs:=by
 rcases h with⟨rfl,rfl⟩|⟨i,hi,rfl,b⟩
 ·exact .inl ⟨rfl,rfl⟩
 ·exact .inr ⟨i,hi,rfl,by rw[zm _ _ _ _ (by rintro rfl;exact a _ rfl)];exact b⟩
theorem HL{Y:Hp}{Z e s id m:Nat}{v:O}{xs:List zb}(h:qU Y Z e s v xs)(a:Z<=id):v≠.own id 0 m:=by
 rcases h with⟨rfl,rfl⟩|⟨i,hi,rfl,b⟩
 ·simp
 ·intro e;injection e with e;omega
theorem Uv{q c:List za}{es b:List zb}{off a:Nat}(d:off+q.length=es.length)(hd:es.drop off=zH q)(h:b=es++zH c/\a=off\/b=es.drop off++zH c/\a=0):a+(q++c).length=b.length/\b.drop a=zH (q++c):=by
 rcases h with⟨rfl,rfl⟩|⟨rfl,rfl⟩
 ·exact⟨by simp[wC];omega,by rw[List.drop_append_of_le_length (by omega),hd];simp[zH]⟩
 ·rw[hd];exact⟨by simp[wC],by simp[zH]⟩
def RchI(l:List qd)(ns:List za)(n:Nat)(st:St):Prop:=st.U 0=.sl 10 (l.map qd.V)/\∃out q,qU st.Y st.Z 9 1 (st.U 5) (zH out)/\Que st.Y st.Z (st.U 5) (st.U 6) q/\AR (j5 l) ns out q/\q.length+qm out l=n/\out.length+n<=zx
noncomputable def FRch:zb->Option O:=qu (α:=List qd×zG) (fun a=>[.sl 10 (a.1.map qd.V),.agg a.2.V]) (fun a=>Qb a.1+a.2.cb<=zx) fun a=>.sl 1 (zH (Yi a.1 a.2.names))
theorem Mg(l:List qd)(c:zG)(Y:Hp)(Z:Nat)(h:Qb l+c.cb<=zx):zi false [] FRch [.sl 10 (l.map qd.V),.agg c.V] Y Z=some (.sl 1 (zH (Yi l c.names)),Y,Z):=
 Js (l,c) _ _ (by simp[zI]) (fun a b e=>by obtain⟨d,f⟩:=a;obtain⟨g,i⟩:=b;simp only[zl,zM,O.agg.injEq]at e;rw[Za e.1,ka e.2]) h (.inr (by simp[zI,O.noOwn]))
theorem PU{es:List zb}{off:Nat}{a:za}{q:List za}(h:es.drop off=zH (a::q)):es[off]?=some [str a]/\es.drop (off+1)=zH q:=by
 have b:(es.drop off)[0]?=some [str a]:=by rw[h];rfl
 rw[qM,QE]at b;refine⟨b,?_⟩;rw[<-dF,h];rfl
theorem Gl(l:List qd)(c:zG)(hlc:Qb l+c.cb<=zx){code:Code}(hb:f66.body=some code):Wp True MF f66.ntmps code ⟨jL [.sl 10 (l.map qd.V),.agg c.V],fun _=>none,0⟩ (Yx MF.P f66 (Ja (.sl 1 (zH (Yi l c.names))))):=by
 have hlim:zx=268435456:=rfl;have g:=Ut;have hll:=xJ l;have hcn:=xo _ c (ze _);have M:=PO [] l;have k0:=fun Y Z=>DD c Y Z (by omega)
 injection hb with hb;subst hb;refine Wp.seq (Wp.of g (by kernel_rfl) ?_);simp[zI];refine Wp.seq (Wp.of g (by kernel_rfl) ?_);simp;refine Wp.cut g (fun U Y Z=>RchI l c.names (c.names.length+qm [] l) ⟨U,Y,Z⟩) (by kernel_rfl) ?_ ?_
 ·simp only[zI]at k0;by_cases X:c.names=[]
  ·simp[k0,X];exact⟨by simp,[],[],by simp;exact .inl ⟨rfl,rfl⟩,.inl ⟨by simp,rfl⟩,.begin _ _,by simp,by simp;omega⟩
  ·simp[k0,X];exact⟨by simp,[],c.names,by simp;exact .inl ⟨rfl,rfl⟩,.inr (.inr ⟨1,0,zH c.names,by simp,by simp,by simp,by simp[zH],by simp,by simp⟩),.begin _ _,by simp,by simp;omega⟩
 rintro U Y Z hI;refine Wp.seq (Wp.block (Wp.loop (RchI l c.names) _ hI ?_));clear hI U Y Z;rintro n ⟨U,Y,Z⟩ ⟨h0,out,q,A,hQ,hB,hn,hbd⟩;simp only at h0 A hQ;cases q with
 |nil=>have hlen:=hQ.len;refine Wp.seq (Wp.of g (by kernel_rfl) ?_);simp[hlen];obtain⟨Y',e1⟩:=DG A (by omega);have hv:WS out=Yi l c.names:=dA hB;refine Wp.of g (by kernel_rfl) ?_;simp[e1,hv,Ja,f66];exact qq _
 |cons a q=>
  obtain⟨id,off,es,hid,h6,B,C,Gx,k⟩:=(hQ.resolve_left (by rintro⟨_,e⟩;cases e)).resolve_left (by rintro⟨_,e⟩;cases e);obtain⟨hga,D⟩:=PU Gx;simp only[z7]at hn C h6;refine Wp.cut g (fun b Y' i=>b 0=U 0/\b 5=U 5/\b 6=U 6/\Y'=Y/\i=Z) (by kernel_rfl) (by simp[h6]) ?_;rintro d Y Z ⟨w,e5,x,rfl,rfl⟩;rw[h0]at w;rw[<-e5]at A k;rw[h6]at x;clear h0 h6 e5 hQ U;refine Wp.block ?_;refine Wp.cut g (fun b Y' i=>b 0=d 0/\b 5=d 5/\b 6=d 6/\b 7=str a/\Y'=Y/\i=Z) (by kernel_rfl) (by simp[x,B,hga,C]) ?_;rintro U Y Z ⟨z,N,H,Q,rfl,rfl⟩;rw[w]at z;rw[<-N]at A k;rw[x]at H;clear w x N d;refine Wp.seq (Wp.region ?_);show vp True MF _ _ (List.range' 0 1++(1::(List.range' 2 1++[]))) _ _;refine vp.Wj g 0 1 (by decide) (by decide) ?_;simp[H];refine vp.slice (n:=1) (e:=9) rfl (by decide) rfl un34 Ny B rfl (by omega) ?_;rintro r hr;refine vp.Wj g 2 1 (by decide) (by decide) ?_;simp;refine vp.nil ?_;simp only[lJ,Ji];rw[Nat.add_sub_cancel]at hr;refine Wp.any (fun b Y' i=>b 0=U 0/\b 5=U 5/\b 6=r/\b 7=U 7/\Y'=Y/\i=Z) (by simp) ?_;rintro d Y Z ⟨w,e5,x,J,rfl,rfl⟩;rw[z]at w;rw[<-e5]at A k;rw[Q]at J;clear z H Q e5 U;have o:off+1+q.length=es.length:=by omega
  generalize off+1=K at hr D o;clear C Gx hga off;have M:r=.own id K q.length\/q=[]/\∃ad,r=.v (.slice (some ad) 0 0):=hr.imp (fun h=>h) fun⟨h1,h2⟩=>⟨xp (by omega),h2⟩
  clear hr;have E:=Ur (fun l v=>q8 (decide (v∈l))) (v:=a) A (by omega) rfl;by_cases ha:a∈out
  ·rw[show decide (a∈out)=true from by simpa using ha]at E;refine Wp.seq (Wp.of g (by kernel_rfl) ?_);simp[J,E];refine⟨_,by omega,by simp[w],out,q,by simpa using A,?_,hB.skip ha,rfl,by omega⟩;rcases M with rfl|⟨rfl,ad,rfl⟩
   ·exact .inr (.inr ⟨id,K,es,by simpa using hid,by simp[x],by simpa using B,by omega,D,by simpa using k⟩)
   ·exact .inr (.inl ⟨⟨ad,by simp[x]⟩,rfl⟩)
  ·rw[show decide (a∈out)=false from by simpa using ha]at E;refine Wp.cut g (fun b Y' i=>b 0=d 0/\b 5=d 5/\b 6=d 6/\b 7=d 7/\Y'=Y/\i=Z) (by kernel_rfl) (by simp[J,E]) ?_;rintro U Y Z ⟨z,N,H,Q,rfl,rfl⟩;rw[w]at z;rw[<-N]at A k;rw[x]at H;rw[J]at Q;clear w x J N E d;have pT:=A.yS (P:=prog) (t:=34) (c:=[str a]) oT Ny RV RW rfl (by omega) (by simp[wC,maxLen];omega) (by simp[wC];omega);have hk:=yi A (qt Y Z (some ⟨9,1,true,[[str a]]⟩)) id k;have u:¬id=Z:=by omega
   have p:¬id=Z+1:=by omega
   have haf:=qU.after (Y:=Y) (Z:=Z) (e:=9) (s:=1) (v:=U 5) (xs:=zH out) (c:=[str a]) (tmp:=some ⟨9,1,true,[[str a]]⟩);have haa:zH out++[[str a]]=zH (out++[a]):=by simp[zH]
   refine Wp.cut g (fun b Y' i=>b 0=U 0/\b 6=U 6/\b 7=U 7/\Z<=i/\qU Y' i 9 1 (b 5) (zH (out++[a]))/\Y' id=some ⟨9,1,true,es⟩/\∀m,b 5≠.own id 0 m) (by kernel_rfl) (by simp[Q,zp,zy,zo,pT,p,hk,u,B];rw[<-haa];exact⟨by simpa[wC]using haf,fun e=>p e.symm⟩) ?_
   clear pT hk u p haf;rintro d Y1 f ⟨w,x,J,hn1,hO1,hes1,L⟩;have hid1:id<f:=by omega
   rw[z]at w;rw[H]at x;rw[Q]at J;clear B hn1 A k hid z H Q U Y Z;have hsg:=fun Y Z=>eY (fun l s=>J7 (yC s l)) (fun l _=>l.length<=zx) l a Y Z (by omega)
   obtain⟨s,hs⟩:=jj (F1 (yC a l));have hsc:s.cond.cb<=zx:=by rw[<-hs];exact Uu l a (by omega)
   have hnx:s.cond.names=j5 l a:=by rw[<-hs];exact Us l a
   have sS:J7 (yC a l)=.wq [.agg s.V,q8 (yC a l).isSome]:=by rw[<-hs];rfl
   simp only[sS]at hsg;have u:¬id=f:=by omega
   refine Wp.cut g (fun b Y' i=>b 0=d 0/\b 5=d 5/\b 6=d 6/\b 8=.ref f 0 0/\Y'=qt Y1 f (some ⟨56,10,false,[s.V]⟩)/\i=f+1) (by kernel_rfl) (by simp[w,J,hsg,wE]) ?_
   rintro U Y Z ⟨z,N,H,f8,rfl,rfl⟩;rw[w]at z;rw[x]at H;rw[<-N]at hO1 L;have R:id<f+1:=by omega
   have hO2:=hO1.more (some ⟨56,10,false,[s.V]⟩);have hes2:qt Y1 f (some (⟨56,10,false,[s.V]⟩:kn)) id=some ⟨9,1,true,es⟩:=by rw[zm _ _ _ _ u];exact hes1
   have I:=hB.take ha;have hpu:=iO ha l;rw[<-hnx]at I hpu;have S:out.length+1+((q++s.cond.names).length+qm (out++[a]) l)<=zx:=by simp;omega
   have hm:(q++s.cond.names).length+qm (out++[a]) l<n:=by simp;omega
   have hcl:∀Y Z,∃y Y' i,yh [] FNf [.agg s.cond.V] Y Z=some (y,Y',i)/\AM.view Y' 1 y=some (zH s.cond.names)/\Z<=i/\(∀j,j<Z->Y' j=Y j)/\(∀e s v xs,qU Y Z e s v xs->qU Y' i e s v xs):=fun Y Z=>by
    have h1:=DD s.cond Y Z hsc;by_cases F:s.cond.names=[]
    ·rw[zf F]at h1;exact⟨_,_,_,h1,by simp[AM.view,F,zH],ze _,fun _ _=>rfl,fun _ _ _ _ h=>h⟩
    ·rw[zc F]at h1;exact⟨_,_,_,h1,by simp[AM.view,wC],by omega,fun j hj=>zm _ _ _ _ (by omega),fun _ _ _ _ h=>h.more _⟩
   obtain⟨y,Y2,iS,hc1,hc2,hc3,hc4,hc5⟩:=hcl (qt Y1 f (some ⟨56,10,false,[s.V]⟩)) (f+1);have G:=hc5 _ _ _ _ hO2;have hes3:Y2 id=some ⟨9,1,true,es⟩:=by rw[hc4 id R];exact hes2
   have hid3:id<iS:=by omega
   simp only[zI,wE]at hc1;refine Wp.region ?_;show vp True MF _ _ (List.range' 0 4++(4::(List.range' 5 1++[]))) _ _;refine vp.Wj g 0 4 (by decide) (by decide) ?_;simp[H,f8,wE,zI,hc1];have US:=xo _ s.cond (ze _);have T:q.length+(zH s.cond.names).length<=maxLen:=by simp[wC,maxLen];omega
   have W:(q.length+(zH s.cond.names).length)*16<=140737488355328:=by simp[wC];omega
   rcases M with rfl|⟨rfl,ad,rfl⟩
   ·refine vp.append (e:=9) (n:=1) (by_:=16) (ys:=zH s.cond.names) (v:=y) rfl (by decide) (by simp) (by simp) hc2 oT Ny RV RW (by omega) rfl hes3 rfl rfl o T W ?_;intro es' off' hew;obtain⟨hl',hd'⟩:=Uv o D hew;refine vp.Wj (l2:=[]) g 5 1 (by decide) (by decide) ?_;simp;refine vp.nil ?_;refine⟨_,hm,by simp[z],out++[a],q++s.cond.names,?_,.inr (.inr ⟨iS,off',es',by simp,by simp[wC],by simp,hl',hd',?_⟩),I,rfl,by simp;simp at S;omega⟩
    ·simpa using(Mf G L).more _
    ·intro m;simpa using HL G (ze _)
   ·simp only[xT,yl]at T W;refine vp.zaa (ad:=ad) (e:=9) (n:=1) (by_:=16) (ys:=zH s.cond.names) (v:=y) rfl (by decide) (by simp) (by simp) hc2 oT Ny RV RW (by omega) rfl T W ?_;rintro r Y' i (⟨hy0,rfl,rfl,rfl⟩|⟨rfl,rfl,rfl⟩)
    ·have F:s.cond.names=[]:=by simpa[zH]using hy0
     refine vp.Wj (l2:=[]) g 5 1 (by decide) (by decide) ?_;simp;refine vp.nil ?_;refine⟨_,hm,by simp[z],out++[a],[]++s.cond.names,by simpa using G,.inr (.inl ⟨⟨ad,by simp⟩,by simp[F]⟩),I,rfl,by simp;simp at S;omega⟩
    ·refine vp.Wj (l2:=[]) g 5 1 (by decide) (by decide) ?_;simp;refine vp.nil ?_;refine⟨_,hm,by simp[z],out++[a],[]++s.cond.names,?_,.inr (.inr ⟨iS,0,zH s.cond.names,by simp,by simp[wC],by simp,by simp[wC],by simp,?_⟩),I,rfl,by simp;simp at S;omega⟩
     ·simpa using G.more _
     ·intro m;simpa using HL G (ze _)
theorem pO:zg prog 66 (zi false [] FRch):=
 KQ (C:=MF) (pf:=fun g=>([]:List Nat).contains g) (fn:=f66) (code:=_) ⟨func66,by kernel_rfl,rfl,by kernel_rfl⟩ false [] _ fun args r h=>by obtain⟨⟨l,c⟩,rfl,a,rfl⟩:=zK h;exact⟨by simp[f66],Gl l c a rfl⟩
theorem Aq(l:List qd)(start:List za):∀(n:Nat) (out b:List za),AR (j5 l) start out b->b.length+qm out l<=n->∃c,AR (j5 l) start c []/\c.length<=out.length+n
 |_,out,[],h,_=>⟨out,h,by omega⟩
 | 0,_,_::_,_,h=>by simp at h
 |n+1,out,a::q,h,g=>by
  simp only[z7]at g;by_cases d:a∈out
  ·obtain⟨o,e,f⟩:=Aq l start n out q (h.skip d) (by omega);exact⟨o,e,by omega⟩
  ·have:=iO d l;obtain⟨o,e,f⟩:=Aq l start n _ _ (h.take d) (by rw[qD];omega);exact⟨o,e,by simp at f;omega⟩
theorem Uw(l:List qd)(c:zG)(h:Qb l+c.cb<=zx):(Yi l c.names).length<=zx:=by
 have d:=PO [] l;have e:=xo _ c (ze _);obtain⟨o,a,b⟩:=Aq l c.names _ [] c.names (.begin _ _) (ze _);have Y:=Vu o fun x y=>decide (x<=y)
 rw[<-dA a,ZE (Y.nodup_iff.2 a.nodup),Y.length_eq];simp at b;omega
noncomputable def WT:za->List qd->Int
 |_,[]=>0
 |q,s::l=>if Wy s q=0 then WT s.name l else Wy s q
noncomputable def Q4 (l:List qd):Int:=if(100:Int)<l.length then 2 else if WT [] l=0 then(if(l.all fun s=>oe l s.cond.names)=true then(if(l.any fun s=>decide (s.name∈Yi l s.cond.names))=true then 12 else 0)else 9)else WT [] l
theorem DH{l:List qd}{k:Nat}(h:k<l.length)(q:za):WT q (l.drop k)=if Wy l[k] q=0 then WT l[k].name (l.drop (k+1))else Wy l[k] q:=by rw[zh h];rfl
theorem DI:∀(l:List qd) (p:Option za) (q:za),(p=none/\q=[]\/p=some q)->WT q l=WY p l
 |[],p,q,_=>rfl
 |s::l,p,q,h=>by
  have j:=DI l (some s.name) s.name (.inr rfl);have k:WT q (s::l)=if Wy s q=0 then WT s.name l else Wy s q:=rfl
  rw[k];by_cases d:w8 s.name=true
  case neg=>
   have f:Wy s q=5:=by unfold Wy;rw[zc d]
   simp only[WY,zc d];rw[f,zc (by decide)]
  case pos=>
   have m:gM s.name q=kP p s.name:=by
    rcases h with⟨rfl,rfl⟩|rfl
    ·simp only[kP];have i:s.name≠[]:=by rintro e;rw[e]at d;exact absurd d (by decide)
     cases n:s.name with
     |nil=>exact absurd n i
     |cons a b=>simp[gM,Op.bytesLess]
    ·rfl
   have f:Wy s q=if kP p s.name=true then 8 else xw s:=by unfold Wy;rw[zf d,m]
   simp only[WY,zf d];by_cases c:kP p s.name=true
   case pos=>rw[zf c]at f;rw[f,zc (by decide),zf c]
   case neg=>
    rw[zc c]at f;rw[f,zc c];by_cases g:xw s=0
    ·rw[zf g,zf g];exact j
    ·rw[zc g,zc g]
theorem Mh(l:List qd):Q4 l=jV l:=by
 unfold Q4 jV;rw[DI l none [] (.inl ⟨rfl,rfl⟩)];by_cases h:(100:Int)<l.length
 ·rw[zf h,zf h]
 rw[zc h,zc h];by_cases c:WY none l=0
 case neg=>rw[zc c,zc c]
 rw[zf c,zf c];have j:=(mS l none c).1.1;have p:∀n,(yC n l).isSome=yx l n:=fun n=>by
  rcases Yh j n with⟨a,r,b,_⟩|⟨a,b⟩
  ·rw[a,b];rfl
  ·rw[a,b];rfl
 have d:(l.all fun s=>oe l s.cond.names)=l.all fun s=>Qz l s.cond:=by congr 1;funext s;unfold oe Qz;congr 1;funext n;exact p n
 rw[d];by_cases f:(l.all fun s=>Qz l s.cond)=true
 case neg=>rw[zc f,zc f]
 rw[zf f,zf f];have g:∀s∈l,∀n∈s.cond.names,yx l n=true:=fun s hs n q=>zL.1 (zL.1 f s hs) n q
 have k:=LI j g;have m:=Cn (l:=l) (by omega) g;have o:(l.any fun s=>decide (s.name∈Yi l s.cond.names))=true↔∃s∈l,K8 (j5 l) s.cond.names s.name:=by simp only[jS,qi];exact⟨fun⟨s,a,b⟩=>⟨s,a,(Am _ _ _).1 b⟩,fun⟨s,a,b⟩=>⟨s,a,(Am _ _ _).2 b⟩⟩
 by_cases i:mT l=true
 ·rw[zf i,zf (o.2 (k.2 (m.1 i)))]
 ·rw[zc i,zc fun e=>i (m.2 (k.1 (o.1 e)))]
theorem Ux(out:List qd->List zG->O)(l:List qd)(c:zG)(Y:Hp)(Z:Nat)(a:l.length<=zx)(b:c.cb<=zx)(d:(out l [c]).flat=true):zi false [] (FSC out) [.sl 10 (l.map qd.V),.own Z 0 1] (qt Y Z (some ⟨26,7,true,[c.V]⟩)) (Z+1)=some (out l [c],qt Y Z (some ⟨26,7,true,[c.V]⟩),Z+1):=
 yk (Y1:=qt (qt Y Z (some ⟨26,7,true,[c.V]⟩)) Z none) (show zw (qt Y Z (some ⟨26,7,true,[c.V]⟩)) [.sl 10 (l.map qd.V),.own Z 0 1]=some ([.sl 10 (l.map qd.V),.sl 7 ([c].map zG.V)],_) by simp) (PN out l [c] ⟨a,by simpa[ay]using b⟩) (.inl d)
noncomputable abbrev Crcs:Ctx:=zW prog [(64,zi false [] (FSgB fun s q=>int (Wy s q))),(32,zi false [] (FSC fun l cs=>int (Kb l cs))),(66,zi false [] FRch),(65,zi false [1] (Uq fun l v=>q8 (decide (v∈l))))]
theorem Uy:AM.Good Crcs (fun g=>[66,65].contains g):=qx mixed ⟨aq,by simp,Jm,by simp,pO,fun _=>zr _ _,WQ,fun _=>zr _ _,trivial⟩
theorem Mi:QU Crcs (fun g=>[66,65].contains g) 31 f31:=qE func31
theorem au(l:List qd)(h:2*Qb l<=zx):zt Crcs f31 [.sl 10 (l.map qd.V)]=some (int (Q4 l)):=by
 have G:=xJ l;have H:zx=268435456:=rfl;refine zn rfl ?_;by_cases i:(100:Int)<l.length
 ·have e:Q4 l=2:=by unfold Q4;rw[zf i]
  simp[i,e,f31]
 refine vL (fun U Y Z=>U 0=.sl 10 (l.map qd.V)) (by simp) ?_;rintro U Y Z a;refine vL (fun U Y Z=>U 0=.sl 10 (l.map qd.V)) (by simp[a,i]) ?_;clear a U Y Z;rintro U Y Z a;refine vL (fun U Y Z=>U 0=.sl 10 (l.map qd.V)/\U 3=str []) (by simp[a]) ?_;clear a U Y Z;rintro U Y Z ⟨a,z⟩;refine vL (fun U Y Z=>U 0=.sl 10 (l.map qd.V)/\WT [] l=0) ?_ ?_
 ·simp[a];refine zT (fun k U Y Z=>U 0=.sl 10 (l.map qd.V)/\U 15=.sl 10 (l.map qd.V)/\U 16=int l.length/\U 17=int k/\∃q,U 3=str q/\WT [] l=WT q (l.drop k)) l.length ⟨by simp[a],by simp,by simp,by simp,[],by simp[z],by simp⟩ ?_;clear a z U Y Z;rintro k U Y Z I ⟨a,j,m,n,q,z,c⟩;by_cases b:k<l.length
  ·have A:=qH k;obtain⟨s,hs⟩:=jj (l[k]);have B:=xI (zk b);rw[hs]at B;have o:=fun Y Z=>Md (fun s q=>int (Wy s q)) s q Y Z (by omega) rfl
   simp only[wE,zI]at o;rw[DH b,hs]at c;by_cases C:Wy s q=0
   ·rw[zf C]at c;simp[a,z,j,m,n,b,hs,o,C,A,wE,zI];exact⟨by omega,c⟩
   ·rw[zc C]at c;have D:=ZX C;have e:Q4 l=Wy s q:=by unfold Q4;rw[zc i,c,zc C]
    simp[a,z,j,m,n,b,hs,o,D,e,wE,zI,f31]
  ·obtain rfl:k=l.length:=by omega
   rw[zq]at c;have c:WT [] l=0:=by rw[c];rfl
   simp[a,j,m,n,c]
 clear a z U Y Z;rintro U Y Z ⟨a,E⟩;refine vL (fun U Y Z=>U 0=.sl 10 (l.map qd.V)/\(l.all fun s=>oe l s.cond.names)=true) ?_ ?_
 ·simp[a];refine zT (fun k U Y Z=>U 0=.sl 10 (l.map qd.V)/\U 30=.sl 10 (l.map qd.V)/\U 31=int l.length/\U 32=int k/\(l.all fun s=>oe l s.cond.names)=(l.drop k).all fun s=>oe l s.cond.names) l.length ⟨by simp[a],by simp,by simp,by simp,by simp⟩ ?_;clear a U Y Z;rintro k U Y Z I ⟨a,p,r,t,c⟩;by_cases b:k<l.length
  ·have A:=qH k;obtain⟨s,hs⟩:=jj (l[k]);have B:=xI (zk b);rw[hs]at B;have F:s.cb=1+s.name.length+Qh s.ins+Qh s.outs+s.cond.cb:=rfl;have J:Kb l [s.cond]=if oe l s.cond.names=true then 0 else 9:=by simp[Kb]
   rw[zh b,hs,q9]at c;have d:=fun Y Z=>Ux (fun l cs=>int (Kb l cs)) l s.cond Y Z (by omega) (by omega) rfl
   cases f:oe l s.cond.names
   ·rw[f,dE]at c;have e:Q4 l=9:=by unfold Q4;rw[zc i,zf E,c,zc (by simp)]
    rw[J,f]at d;simp only[zI]at d;simp[a,p,r,t,b,hs,zp,zy,zo,d,e,wE,zI,f31]
   ·rw[f,jK]at c;rw[J,f]at d;simp only[zI]at d;simp[a,p,r,t,b,hs,zp,zy,zo,d,A,wE,zI];exact⟨by omega,c⟩
  ·obtain rfl:k=l.length:=by omega
   rw[zq]at c;simp only[Zn]at c;simp[a,p,r,t];exact zL.1 c
 clear a U Y Z;rintro U Y Z ⟨a,K⟩;simp[a];refine zT (fun k U Y Z=>U 0=.sl 10 (l.map qd.V)/\U 45=.sl 10 (l.map qd.V)/\U 46=int l.length/\U 47=int k/\(l.any fun s=>decide (s.name∈Yi l s.cond.names))=(l.drop k).any fun s=>decide (s.name∈Yi l s.cond.names)) l.length ⟨by simp[a],by simp,by simp,by simp,by simp⟩ ?_;clear a U Y Z;rintro k U Y Z I ⟨a,u,w,x,c⟩;by_cases b:k<l.length
 ·have A:=qH k;obtain⟨s,hs⟩:=jj (l[k]);have B:=xI (zk b);rw[hs]at B;have F:s.cb=1+s.name.length+Qh s.ins+Qh s.outs+s.cond.cb:=rfl;have y:=fun Y Z=>Mg l s.cond Y Z (by omega)
  have g:=fun Y Z=>od (fun l v=>q8 (decide (v∈l))) (Yi l s.cond.names) s.name Y Z (Uw l s.cond (by omega))
  simp only[zI]at y;rw[DC b,hs]at c;cases f:decide (s.name∈Yi l s.cond.names)
  ·rw[f,kK]at c;rw[f]at g;simp[a,u,w,x,b,hs,y,g,A,wE,zI];exact⟨by omega,c⟩
  ·rw[f,UM]at c;rw[f]at g;have e:Q4 l=12:=by unfold Q4;rw[zc i,zf E,zf K,zf c]
   simp[a,u,w,x,b,hs,y,g,e,wE,zI,f31]
 ·obtain rfl:k=l.length:=by omega
  rw[zq]at c;have e:Q4 l=0:=by unfold Q4;rw[zc i,zf E,zf K,c,zc (by simp)]
  simp[a,u,w,x,e,f31]
theorem Xv:zg prog 31 (zi false [] (qu (α:=List qd) (fun l=>[.sl 10 (l.map qd.V)]) (fun l=>2*Qb l<=zx) fun l=>int (jV l))):=
 yj (fn:=f31) Uy Mi false [] _ fun args r h=>by obtain⟨l,rfl,a,rfl⟩:=zK h;exact⟨zE (ze 1) (by decide),_,au l a,by rw[Mh];exact qq _⟩
end Go.Q
namespace Go.AM
variable{dr:Prop}
open Classical in
noncomputable def atF (zs:zb) (r:O):zb->Option O:=fun xs=>if xs=zs then some r else none
theorem PW(zs:zb)(r:O):atF zs r zs=some r:=by simp[atF]
theorem HM{zs xs:zb}{r x:O}(h:atF zs r xs=some x):xs=zs/\x=r:=by
 unfold atF at h;split at h
 ·rename_i e;injection h with h;exact⟨e,h.symm⟩
 ·cases h
theorem Gm{P:Program}{f:FuncId}{a:Bool}{ns:List Nat}{F:zb->Option O}(b:∃fn,P.funcs[f]?=some fn/\(fn.name== "runtime.NumGoroutine")=false/\fn.body.isNone=false)(h:∀zs r,F zs=some r->jr dr P f (zi a ns (atF zs r))):jr dr P f (zi a ns F):=by
 refine⟨b,fun args Y Z r Y' d e=>?_⟩;unfold zi at e;split at e
 ·rename_i zs Y1 c;split at e
  ·rename_i g hF;refine(h _ g hF).2 args Y Z r Y' d ?_;unfold zi;simp only[c,PW];exact e
  ·cases e
 ·cases e
theorem Gn{w:World}{S:Nat->Prop}{x y:O}{vs:List Value}(h:qg x y)(a:Zip (wK w S) [x] vs):Zip (wK w S) [y] vs:=by obtain⟨u,rfl,b⟩:=ZI a;exact .cons (h w S u b) .nil
end Go.AM
namespace Go.Q
theorem pP(a:List za)(h:a.length<=zx):∃q,zt C0 f34 [.sl 1 (zH a)]=some q/\qg q (.agg (vm a).V):=by
 unfold zx at h;refine wW rfl ?_;simp[zS,qn];refine zT (fun k U Y Z=>U 2=.ref 0 0 0/\U 3=.ref 1 0 0/\U 7=.sl 1 (zH a)/\U 8=int a.length/\U 9=int k/\2<=Z/\Y 0=some ⟨26,7,false,[[int 0,.v (.string ⟨#[]⟩),int 0,.nil,.v (.string ⟨#[]⟩),.v (.string ⟨#[]⟩),.nil]]⟩/\∃o,Y 1=some ⟨26,7,false,[[int 4,str V9,int 2,o,.v (.string ⟨#[]⟩),.v (.string ⟨#[]⟩),.nil]]⟩/\qU Y Z 52 5 o ((a.take k).map J6)/\∀m,o≠.own 0 0 m/\o≠.own 1 0 m) a.length
  ⟨by simp,by simp,by simp,by simp,by simp,by simp,by simp,.nil,by simp[V9],.inl ⟨rfl,by simp⟩,by simp⟩ ?_
 rintro k U Y Z T ⟨r,z,A,B,C,E,g,o,i,b,j⟩;by_cases d:k<a.length
 ·have F:=qH k;obtain⟨s,hs⟩:=jj (a[k]);have D:(a.take (k+1)).map J6=(a.take k).map J6++[J6 s]:=by rw[ql d,hs];simp
  obtain⟨xs,e⟩:=jj ((a.take k).map J6);have G:xs.length<=268435456:=by rw[<-e];simp;omega
  rw[e]at b D;have f:=qU.yS (P:=prog) (t:=23) (c:=J6 s) b IA SF by52 SG rfl (by omega) (by unfold maxLen;omega) (by omega);have l:=yi b (qt Y Z (some ⟨52,5,true,[J6 s]⟩)) 1 (fun m=>(j m).2);have n:=yi b (qt Y Z (some ⟨52,5,true,[J6 s]⟩)) 0 (fun m=>(j m).1);rw[zm _ _ _ _ (by omega),i]at l;rw[zm _ _ _ _ (by omega),g]at n;have n1:¬1=Z+1:=by omega
  have H:¬1=Z:=by omega
  have I:¬0=Z+1:=by omega
  simp only[J6]at f l n;have J:¬Z=0:=by omega
  have K:¬0=Z:=by omega
  simp[r,z,A,B,C,d,hs,F,g,i,zS,qn,f,n,l,n1,H,I,J,K,zp,zy,zo];refine⟨by omega,?_⟩;rw[<-List.map_take,D];exact qU.after.same (ze _) fun id m hid=>zm _ _ _ _ (by injection hid with hid _ _;omega)
 ·obtain rfl:k=a.length:=by omega
  rw[wJ]at b;have p:o.wH=true:=by rcases b with⟨rfl,_⟩|⟨_,_,rfl,_⟩<;>rfl
  simp[r,z,A,B,C,g,i,p,f34];have hs:=b.same (Y':=qt Y 0 (some ⟨26,7,false,[[int 4,str V9,int 2,o,.v (.string ⟨#[]⟩),.v (.string ⟨#[]⟩),.nil]]⟩)) (ze Z) fun id m hid=>zm _ _ _ _ (by rintro rfl;exact(j m).1 hid)
  obtain⟨y,L,M,N,_⟩:=hs.gone;refine⟨.agg [int 4,str V9,int 2,y,.v (.string ⟨#[]⟩),.v (.string ⟨#[]⟩),.nil],?_,fY fun w S u Q=>fX a w S u (qg.YV N w S u Q)⟩;simp only[AM.freeze,qa,qY];have R:∀(Y:Hp) (x:Value),wu Y (.v x)=some (.v x,Y):=fun _ _=>rfl
  simp only[R,M];rfl
theorem oj:zg prog 34 (zi false [] FKt):=
 xl (fn:=f34) (qx (q:=[]) mixed trivial:AM.Good C0 _) (qE func34) false [] _ fun args r h w S vs a=>by obtain⟨b,rfl,c,rfl⟩:=zK h;obtain⟨d,e,f⟩:=pP b c;exact⟨_,d,a,by simp[f34],e,f⟩
theorem pQ{a:zb}{c:zG}(hs:qg (.agg a) (.agg c.V))(b:c.parts<=zx):zg prog 35 (zi false [] (atF [.agg a] (q8 (ah c)))):=
 xl (fn:=f35) (qc mixed ⟨a6 zx,trivial⟩:AM.Good Crla _) (qE func35) false [] _ fun args r h w S vs d=>by obtain⟨rfl,rfl⟩:=HM h;exact⟨[.agg c.V],_,Gn hs d,zE (ze 1) (by decide),gp c b,fun _ _ _ h=>h⟩
theorem gv{f g:za->zG×Bool}:∀{l:List zG},(∀x∈l,x.xU f=x.xU g)->WG f l=WG g l
 |[],_=>rfl
 |x::l,h=>by rw[WG,WG,h x (by simp),gv fun y a=>h y (by simp[a])]
theorem om{f g:za->zG×Bool}(c:zG):(∀n∈c.names,f n=g n)->c.xU f=c.xU g:=by
 induction c using zG.ind with
 |h k a o v p n l e=>
  intro h;rw[yU]at h;rw[zG.xU,zG.xU];by_cases b:k=5
  ·rw[zf b,zf b,h n (by simp[zG.kind,zG.name,b])]
  ·rw[zc b,zc b,gv fun x d=>e x d fun m i=>h m (zF.2 (.inr (jQ.2 ⟨x,d,i⟩)))]
theorem b7(l:List qd)(n:Nat){i:Nat}(hi:i<l.length):vW l (n+1) i=(jA l[i] (l[i].cond.xU fun m=>vW l n (wS l m)).1,(l[i].cond.xU fun m=>vW l n (wS l m)).2):=by
 conv=>lhs;unfold vW
 rw[zj hi]
theorem b8{l:List qd}(h:Qa l):∀(n a i:Nat),Co l i<n->Co l i<a->i<l.length->vW l n i=vW l a i
 | 0,_,_,c,_,_=>by omega
 |_+1,0,_,_,d,_=>by omega
 |n+1,a+1,i,c,d,hi=>by
  have e:l[i].cond.xU (fun m=>vW l n (wS l m))=l[i].cond.xU (fun m=>vW l a (wS l m)):=om _ fun m b=>by
   have f:wS l m∈wb l i:=by unfold wb;rw[zj hi];exact wo b
   have g:=Jz h i _ f;exact b8 h n a _ (by omega) (by omega) (ZU (h.known l[i] (zk hi) m b))
  rw[b7 l n hi,b7 l a hi,e]
noncomputable def b9 (l:List qd) (c:zG):zG×Bool:=Hv l 101 c
theorem zcq{l:List qd}(h:Qa l){i:Nat}(hi:i<l.length):vW l 101 i=(jA l[i] (b9 l l[i].cond).1,(b9 l l[i].cond).2):=by
 have b:=KL h i;have e:l[i].cond.xU (fun m=>vW l 100 (wS l m))=b9 l l[i].cond:=om _ fun m a=>by
  have c:wS l m∈wb l i:=by unfold wb;rw[zj hi];exact wo a
  have d:=Jz h i _ c;exact b8 h 100 101 _ (by omega) (by omega) (ZU (h.known l[i] (zk hi) m a))
 rw[b8 h 101 (100+1) i (by omega) (by omega) hi,b7 l 100 hi,e]
theorem Ar{sg:za->zG×Bool}{c:zG}(h:(c.xU sg).2=true):(c.xU sg).1.parts<=200:=by
 have a:ah (c.xU sg).1=false:=by
  rw[uB]at h⊢;split
  ·rename_i b;rw[zf b]at h;simp only[zC,yF]at h;exact h.2
  ·rename_i b;rw[zc b]at h;split
   ·rename_i l' d;rw[d]at h;simpa using h
   ·rename_i d;rw[d]at h;cases h
 have:=(TK _).1 a;omega
end Go.Q
