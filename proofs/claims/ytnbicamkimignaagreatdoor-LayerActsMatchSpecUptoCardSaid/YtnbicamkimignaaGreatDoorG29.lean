/- Lemmas. -/
import Derived.Test.YtnbicamkimignaaGreatDoorG28
set_option maxRecDepth 100000
set_option maxHeartbeats 4000000
open Go Proofs Proofs.YtnbicamkimignaaGreatDoor Proofs.Tryz RowKit AM SpanLaw Q Zz
open Go.IntKind renaming i64→i6
namespace Go.Q
theorem NA{a b:List wR}(f:a.length≤zG)(g:b.length≤zG){Y:Hp}{Z id e:Nat}(h:Y id=some ⟨e,1,true,[[.sl 11 (qz a)],[.sl 11 (qz b)]]⟩) :
  zi true [] tV [.own id 0 2] Y Z=some (.sl 11 (qz (a++b)),qZ Y id none,Z):=by
 have i:tV [.sl 1 [[.sl 11 (qz a)],[.sl 11 (qz b)]]]=some (.sl 11 (qz (a++b))):=by
  unfold tV Sk;exact zJ (V:=fun a:List wR×List wR=>[O.sl 1 [[.sl 11 (a.1.map wR.V)],[.sl 11 (a.2.map wR.V)]]]) (a:=(a,b)) (fun x y e=>by obtain⟨j,k⟩:=x;obtain⟨l,m⟩:=y;simp only[zh,zK]at e;injection e with _ e;simp only[zh,zK]at e;obtain⟨c,d⟩:=e;injection c with _ c;injection d with _ d;rw[Z6 c,Z6 d]) ⟨f,g⟩
 simp[zi,zA,qf,we,h,yf,i,O.flat,O.noOwn]
noncomputable abbrev Ctog:Ctx:=qb prog [(254,zi true [] tV),(255,v8 [.s 5 ka] FSc),(257,qh [.s 11 jM,.g ka] (FRC fun l c=>wq (yP l c))),(256,zi false [] FTk)]
theorem zbj:AM.Good Ctog (fun g=>[257,256].contains g):=zI mixed ⟨rJ,by simp,rK,by simp,rD,fun _=>jx _ _,ED,fun _=>zt _ _,trivial⟩
theorem NB(w:Int)(a b:List wR)(ha:kg a)(hb:kg b)(hga:jU a)(hgb:jU b) :
  ∃x Y Z,yr Ctog f221 [int w,.sl 11 (qz a),.sl 11 (qz b)] (fun _=>none) 0=some (x,Y,Z)∧C8 jM (WE (QZ w) a b) x Y Z:=by
 refine zT rfl ?_;have hsa:=ha;have hsb:=hb;obtain⟨ha1,ha2⟩:=ha;obtain⟨hb1,hb2⟩:=hb;have hcat:=fun Y Z id e h=>NA ha1 hb1 (Y:=Y) (Z:=Z) (id:=id) (e:=e) h
 unfold zG at ha1 hb1;have C:=Sm (QZ w) hga hgb;obtain⟨l,hl⟩:∃l,a++b=l:=⟨_,rfl⟩;rw[hl]at C hcat;have hll:l.length≤4194304:=by rw[←hl];simp;omega
 have hlsm:∀s∈l,s.small:=fun s hs=>by
  rw[←hl]at hs;rcases qP.1 hs with h|h
  ·exact ha2 s h
  ·exact hb2 s h
 have hel:(qz l).length=l.length:=by simp[qz]
 have zid:=hcat (qZ (fun _=>none) 0 (some ⟨209,1,true,[[.sl 11 (qz a)],[.sl 11 (qz b)]]⟩)) 1 0 209 (by simp);simp[zv,zN,zy,zid,hel];refine zQ (fun k r Y Z=>r 0=int w∧r 1=.sl 11 (qz a)∧r 2=.sl 11 (qz b)∧q6 Y Z 237 5 (r 7) (wE (wz (l.take k))) ∧
   r 18=.sl 11 (qz l)∧r 19=int l.length∧r 20=int k) l.length
   ⟨by simp,by simp,by simp,.inl ⟨by simp,by simp[wz,wE]⟩,by simp,by simp,by simp⟩ ?_
 rintro k r Y Z hk ⟨H,I,J,G,h25,h26,Uc⟩;by_cases f:k<l.length
 ·have A:i6.wrap ((k:Int)+1)=(k:Int)+1:=zn (by omega) (by omega);have q:∀h:k<(qz l).length,(qz l)[k]=l[k].V:=fun h=>by simp[qz]
  have hcn:=Z7 (l.take k);rw[yM]at hcn;have hct:=sT f;obtain⟨xs,g⟩:∃xs,wE (wz (l.take k))=xs:=⟨_,rfl⟩;have u:xs.length≤8388608:=by rw[←g];simp[wE];omega
  rw[g]at G;have hE:wE (wz (l.take (k+1)))=xs++(if l[k].vL=true then[l[k].lo]else[l[k].lo,l[k].hi]).map Cut.V:=by rw[hct,sU,g];rfl
  have hkn:=fun Y'=>yt G Y' Z (Dd G (ze _))
  obtain⟨s,hs⟩:∃s,l[k]=s:=⟨_,rfl⟩;rw[hs]at hct q hE;have p:=q6.yx (P:=prog) (t:=258) (c:=s.lo.V) (G.more (some ⟨239,11,false,[s.V]⟩)) gJ dd sw sx rfl (by omega) (by unfold maxLen;omega) (by omega);have K:=q6.after (Y:=qZ Y Z (some ⟨239,11,false,[s.V]⟩)) (Z:=Z+1) (e:=237) (s:=5) (v:=r 7) (xs:=xs) (c:=s.lo.V) (tmp:=some ⟨237,5,true,[s.lo.V]⟩);have y:=q6.yx (P:=prog) (t:=258) (c:=s.hi.V) K gJ dd sw sx rfl (by omega) (by simp;unfold maxLen;omega) (by simp;omega);rw[show(xs++[s.lo.V]).length=xs.length+1 by simp,qj,show[s.lo.V]++[s.hi.V]=[s.lo.V,s.hi.V]from rfl]at y;have L:=q6.after (Y:=qZ (ZD (r 7) (qZ (qZ Y Z (some ⟨239,11,false,[s.V]⟩)) (Z+1) (some ⟨237,5,true,[s.lo.V]⟩))) (Z+1+1) (some ⟨237,5,true,xs++[s.lo.V]⟩)) (Z:=Z+1+2) (e:=237) (s:=5) (v:=.own (Z+1+1) 0 (xs.length+1)) (xs:=xs++[s.lo.V]) (c:=s.hi.V) (tmp:=some ⟨237,5,true,[s.hi.V]⟩);rw[show(xs++[s.lo.V]).length=xs.length+1 by simp,qj,show[s.lo.V]++[s.hi.V]=[s.lo.V,s.hi.V]from rfl]at L;simp only[wR.V,Cut.V,q9,wN]at p y K L q;have m1:¬Z=Z+1+1:=by omega
  have m2:¬Z=Z+1+2:=by omega
  have m3:¬Z=Z+1+2+1:=by omega
  cases D:s.vL
  ·rw[D]at hct;rw[D]at p y K L q;simp[H,I,J,h25,h26,Uc,f,hel,q,p,y,hkn,A,m1,m2,m3,zv,zN,zy];refine⟨by omega,?_⟩;rw[hE,D];simp only[zU,wK,qF,kp,Cut.V];exact L
  ·rw[D]at hct;rw[D]at p y K L q;simp[H,I,J,h25,h26,Uc,f,hel,q,p,hkn,A,m1,m2,m3,zv,zN,zy];refine⟨by omega,?_⟩;rw[hE,D];simp only[wi,qF,kp,Cut.V];exact K
 ·obtain rfl:k=l.length:=by omega
  rw[yk]at G;have Tt:∀c∈wz l,c.v.small:=YX (Q:=fun c=>c.v.small) hlsm;have hcl:=Z7 l;obtain⟨v,Y',Z',M,H8,TK⟩:=Br G Tt (by omega);obtain⟨cs,hcs⟩:∃cs,vt (wz l)=cs:=⟨_,rfl⟩;have hcsl:cs.length≤8388608:=by have:=cG (wz l) [];rw[←hcs];unfold vt;simp at this;omega
  have hcsm:∀c∈cs,c.v.small:=fun c hc=>by
   rw[←hcs]at hc;rcases cH hc with h|h
   ·exact Tt c h
   ·cases h
  rw[hcs]at C H8;have hfin:=C;obtain⟨is,his⟩:∃is:Cut→Bool,(fun c=>QZ w (yP a c) (yP b c))=is:=⟨_,rfl⟩;have hisc:∀c,QZ w (yP a c) (yP b c)=is c:=fun c=>by rw[←his]
  rw[his]at hfin;clear G hcs Tt C;have N:=H8.len gJ;have j:(wE cs).length=cs.length:=by simp[wE]
  rw[j]at N;simp[H,I,J,h25,h26,Uc,M,N];refine zQ (fun k r Y Z=>r 0=int w∧r 1=.sl 11 (qz a)∧r 2=.sl 11 (qz b)∧r 40=v∧r 41=int cs.length∧r 42=int k∧q6 Y Z 237 5 v (wE cs)∧∃xs,q6 Y Z 239 11 (r 10) xs∧xs.map (Z4 jM)=qz (VY is (cs.take k) (false,[])).2 ∧
    r 11=wq (VY is (cs.take k) (false,[])).1∧(∀id n m,v=.own id 0 n→r 10≠.own id 0 m)∧((VY is (cs.take k) (false,[])).1=true→(VY is (cs.take k) (false,[])).2≠[])∧xs.length≤k∧(xs=[]→r 10=.nil)) cs.length
   ⟨by simp[H],by simp[I],by simp[J],by simp,by simp,by simp,H8,[],.inl ⟨by simp,rfl⟩,by simp[VY,qz],by simp[VY],by simp,by simp[VY],by simp,by simp⟩ ?_
  clear H I J h25 h26 Uc H8 hk f r Y Z M N TK Y' Z';rintro k r Y Z hk ⟨H,I,J,R,S,T,G,xs,hX,g,E,BZ,U,hxk,Ud⟩;by_cases f:k<cs.length
  ·have A:i6.wrap ((k:Int)+1)=(k:Int)+1:=zn (by omega) (by omega);obtain⟨id,hid,rfl,hh⟩:=G.at_ (by rw[j];omega);have o:=Dc is f (false,[]);obtain⟨st,TF⟩:∃st,VY is (cs.take k) (false,[])=st:=⟨_,rfl⟩;obtain⟨c,hc⟩:∃c,cs[k]=c:=⟨_,rfl⟩;rw[hc,TF]at o;rw[TF]at g E U;have W:=Db is st c U;have z:c.v.small:=hcsm c (by rw[←hc];exact zm f);have q:∀h:k<(wE cs).length,(wE cs)[k]=c.V:=fun h=>by simp[wE,hc]
   have X:=fun Y Z=>dC a c Y Z hsa z
   have rW:=fun Y Z=>dC b c Y Z hsb z
   have d:=fun Y Z=>XZ w (yP a c) (yP b c) Y Z
   rw[hisc c]at d;simp only[Cut.V]at X rW q;have m0:¬id=Z:=by omega
   have m1:¬id=Z+1:=by omega
   have m2:¬id=Z+1+1:=by omega
   rw[j]at G;have hki:=fun Y'=>yt hX Y' id (fun n=>BZ id _ n rfl)
   have TG:bu is st c=(is c,if(is c&&!st.1)=true then st.2++[yw c]else if(!is c&&st.1)=true then QG st.2 c else st.2):=rfl;rw[TG]at o;rw[TG]at W;simp only at W;obtain⟨op,out⟩:=st;simp only at g E U W;cases hb:is c<;>cases op
   ·rw[hb]at d o;simp at o;simp[H,I,J,R,S,T,j,f,hh,q,X,rW,d,-XZ,E,A,m0,o];exact⟨by omega,G.more _,xs,hX.more _,g,fun i n m e _=>BZ i _ m (by rw[e]),by omega,Ud⟩
   ·rw[hb]at d o;simp at o;have hne:=U rfl;obtain⟨m,hm⟩:∃m,out.length=m+1:=⟨out.length-1,by have:=kz.2 hne;omega⟩;have u:xs.length=m+1:=by have:=zD List.length g;simp[qz]at this;omega
    obtain⟨F,hid2,B,hh2⟩:=hX.at_ (by omega);have zda:¬F=id:=fun e=>BZ id _ _ rfl (by rw[B,e])
    have TH:¬id=F:=fun e=>zda e.symm
    have p0:¬F=Z:=by omega
    rw[u]at B;have hlm:m<xs.length:=by omega
    have TI:m<out.length:=by omega
    have hrm:Z4 jM xs[m]=out[m].V:=by
     have e1:(xs.map (Z4 jM))[m]?=(qz out)[m]?:=by rw[g]
     simp only[wy,zu hlm,qz,zu TI,zH,qw]at e1;exact e1
    obtain⟨x3,x5,x6,x7,x8,x9,x10,To,hn3,FD⟩:=sS hrm;have wm:i6.wrap (m:Int)=(m:Int):=zn (by omega) (by omega);have wm1:i6.wrap ((m:Int)+1-1)=(m:Int):=by rw[zn (by omega) (by omega)];omega
    simp[H,I,J,R,S,T,j,f,hh,q,X,rW,d,-XZ,E,A,m0,o,B,hh2,p0,wm,wm1,hlm,To,FD,jt];refine⟨by omega,.inr ⟨id,by omega,by rw[j],by simp[TH,m0,hh]⟩,xs.set m [int out[m].lo.v.a,int out[m].lo.v.b,int out[m].lo.v.c,x3,wq out[m].lo.after,int c.v.a,int c.v.b,int c.v.c,.sl 1 (qd c.v.pre),wq c.after,wq false],.inr ⟨F,by omega,by simp[u],by simp⟩,?_,fun i n k' e _ e2=>absurd (e2.trans e.symm) zda,by simp;omega,fun e=>by have:=zD List.length e;rw[List.length_set,u]at this;cases this⟩;rw[List.map_set,g,gR TI hm c,qz,qz,List.map_set];simp[hn3,wR.V,Cut.V]
   ·rw[hb]at d o;simp at o;have p:=q6.yx (P:=prog) (t:=209) (c:=[int c.v.a,int c.v.b,int c.v.c,.sl 1 (qd c.v.pre),wq c.after,int 0,int 0,int 0,.nil,wq false,wq true]) (hX.more (some ⟨237,5,false,[c.V]⟩)) Io sy Cw Cx rfl (by omega) (by unfold maxLen;omega) (by omega);simp only[Cut.V]at p;simp[H,I,J,R,S,T,j,f,hh,q,X,rW,d,-XZ,E,A,m0,o,p,zR,qc,zv,zN,zy];refine⟨by omega,.inr ⟨id,by omega,by rw[j],by simp[hki,hh,m0,m1,m2]⟩,xs++[[int c.v.a,int c.v.b,int c.v.c,.sl 1 (qd c.v.pre),wq c.after,int 0,int 0,int 0,.nil,wq false,wq true]],by simpa using q6.after,?_,fun i n m e _ e2=>by omega,by simp;omega⟩;rw[yz,g];simp[qz,yw,wR.V,Cut.V,QV,qd]
   ·rw[hb]at d o;simp at o;simp[H,I,J,R,S,T,j,f,hh,q,X,rW,d,-XZ,E,A,m0,o];exact⟨by omega,G.more _,xs,hX.more _,g,fun i n m e _=>BZ i _ m (by rw[e]),U rfl,by omega,Ud⟩
  ·obtain rfl:k=cs.length:=by omega
   rw[yk]at g;rw[←hfin]at g;have u:xs.length=(vj (QZ w) a b).length:=by have:=zD List.length g;simpa[qz]using this
   simp[H,I,J,R,S,T,f221];unfold WE;rcases hX with⟨B,rfl⟩|⟨F,hid2,B,hh2⟩
   ·rw[zf (qo.1 u.symm)];exact B
   ·by_cases hz:vj (QZ w) a b=[]
    ·rw[zf hz];rw[hz]at u;exact Ud (qo.1 u)
    ·rw[zj hz];refine⟨F,_,B,hh2,rfl,?_⟩;simp only[fG,g]
noncomputable def NC:zc→Option (Option jz):=qv (α:=Int×List wR×List wR) (fun a=>[int a.1,.sl 11 (qz a.2.1),.sl 11 (qz a.2.2)]) (fun a=>(kg a.2.1∧kg a.2.2)∧jU a.2.1∧jU a.2.2) (fun a=>WE (QZ a.1) a.2.1 a.2.2)
theorem zbk:∀a b:Int×List wR×List wR,[int a.1,O.sl 11 (qz a.2.1),.sl 11 (qz a.2.2)]=[int b.1,.sl 11 (qz b.2.1),.sl 11 (qz b.2.2)]→a=b:=by rintro⟨g,h,i⟩ ⟨j,k,l⟩ e;simp only[zh,zK]at e;obtain⟨c,d,f⟩:=e;injection c with c;injection c with _ c;injection d with _ d;injection f with _ f;rw[c,Z6 d,Z6 f]
theorem oY:zg prog 221 (v8 [.a,.s 11 jM,.s 11 jM] NC):=
 JZ (fn:=f221) zbj ⟨_,func221,by kernel_rfl,rfl,by kernel_rfl⟩ _ jM _ fun args r h=>by obtain⟨⟨w,a,b⟩,rfl,⟨⟨c,d⟩,e,f⟩,rfl⟩:=zr h;exact⟨by simp[f221],NB w a b c d e f⟩
def eW(Y:Hp)(Z:Nat)(v:O)(m:List wR):Prop:=(v=.nil∧m=[])∨∃id xs,id<Z∧v=.own id 0 xs.length∧Y id=some ⟨239,11,true,xs⟩∧xs.map (Z4 jM)=qz m
theorem eW.frz{Y:Hp}{Z:Nat}{v:O}{m:List wR}(h:eW Y Z v m):∃y Y1,qf Y v=some (y,Y1)∧(Sh.s 11 jM).fix y=.sl 11 (qz m)∧(∀j,(∀n,v≠.own j 0 n)→Y1 j=Y j):=by
 rcases h with⟨rfl,rfl⟩|⟨id,xs,d,rfl,a,b⟩
 ·exact⟨_,Y,rfl,rfl,fun _ _=>rfl⟩
 ·exact⟨.sl 11 xs,qZ Y id none,by simp[a],by rw[Sh.eT,b],fun j c=>zw _ _ _ _ fun e=>c _ (by subst e;rfl)⟩
theorem eW.ZC{Y Y':Hp}{Z a:Nat}{v:O}{m:List wR}(h:eW Y Z v m)(f:Z≤a)(b:∀id,id<Z→(∀n,v=.own id 0 n→Y' id=Y id)):eW Y' a v m:=by
 rcases h with⟨rfl,rfl⟩|⟨id,xs,c,rfl,d,e⟩
 ·exact .inl ⟨rfl,rfl⟩
 ·exact .inr ⟨id,xs,by omega,rfl,by rw[b id c _ rfl];exact d,e⟩
theorem eW.len{Y:Hp}{Z:Nat}{v:O}{m:List wR}(h:eW Y Z v m):Qr prog 209 v=some (int m.length):=by
 rcases h with⟨rfl,rfl⟩|⟨id,xs,b,rfl,c,a⟩
 ·simp
 ·have:=zD List.length a;simp[qz]at this;simp[this]
theorem eW.box{Y:Hp}{Z:Nat}{v:O}{m:List wR}(h:eW Y Z v m){j:Nat}{b:jz}(a:Y j=some b)(c:b.e≠239):∀n,v≠.own j 0 n:=by
 rcases h with⟨rfl,rfl⟩|⟨id,xs,f,rfl,d,g⟩
 ·intro n e;cases e
 ·intro n e;injection e with e
  subst e;rw[d]at a;injection a with a
  subst a;exact c rfl
theorem EY(c:Int)(f:Bool→Bool→Bool)(m:QZ c=f){Y:Hp}{Z:Nat}{v:O}{a b:List wR}(o:eW Y Z v a)(p:kg a)(q:kg b)(r:jU a)(t:jU b) :
  ∃x Y' g,v8 [.a,.s 11 jM,.s 11 jM] NC [int c,v,.sl 11 (qz b)] Y Z=some (x,Y',g)∧eW Y' g x (vj f a b)∧Z≤g∧∀j,j<Z→(∀n,v≠.own j 0 n)→Y' j=Y j:=by
 obtain⟨y,Y1,u,w,k⟩:=o.frz;have e:zA Y [int c,v,.sl 11 (qz b)]=some ([int c,y,.sl 11 (qz b)],Y1):=by have z:qf Y (int c)=some (int c,Y):=rfl;have A:qf Y1 (.sl 11 (qz b))=some (.sl 11 (qz b),Y1):=rfl;simp only[zA,z,u,A]
 have l:NC (YR [.a,.s 11 jM,.s 11 jM] (yf [] [int c,y,.sl 11 (qz b)]))=some (WE f a b):=by show NC [Sh.a.fix (int c),(Sh.s 11 jM).fix y,(Sh.s 11 jM).fix (.sl 11 (qz b))]=_;rw[w,KC,←m];exact zJ (V:=fun a:Int×List wR×List wR=>[int a.1,O.sl 11 (qz a.2.1),.sl 11 (qz a.2.2)]) (a:=(c,a,b)) zbk ⟨⟨p,q⟩,r,t⟩
 unfold v8 yO;by_cases h:vj f a b=[]
 ·have d:=l;unfold WE at d;rw[zf h]at d;simp only[e,d];exact⟨_,_,_,rfl,.inl ⟨rfl,h⟩,ze _,fun j _ i=>k j i⟩
 ·have d:=l;unfold WE at d;rw[zj h]at d;simp only[e,d];exact⟨_,_,_,rfl,.inr ⟨Z,qz (vj f a b),by omega,rfl,by simp,by have:=KC (vj f a b);simpa[Sh.eT]using this⟩,by omega,fun j B i=>by rw[zw _ _ _ _ (by omega)];exact k j i⟩
theorem zhM:QZ 1=and:=by funext a b;simp[QZ]
theorem zhN:QZ 0=or:=by funext a b;simp[QZ]
theorem Bs:∀(c:List za) (l:List bQ) (n:Nat),kl c=some l→(∀w∈c,w.length≤n)→l.length≤c.length∧∀a∈l,a.2.length≤n
 |[],l,n,h,_=>by simp only[kl]at h;injection h with h;subst h;simp
 |[w],l,n,h,d=>by
  simp only[kl]at h;split at h
  ·cases h
  ·injection h with h;subst h;refine⟨by simp,fun a b=>?_⟩;rw[jy]at b;rw[b];exact zC (Vm wI w) (d w (by simp))
 |w::x::c,l,n,h,d=>by
  simp only[kl]at h;split at h
  ·cases e:kl c with
   |none=>rw[e]at h;cases h
   |some l'=>
    rw[e]at h;simp only[zH,qw]at h;subst h;obtain⟨i,f⟩:=Bs c l' n e fun y g=>d y (by simp[g])
    refine⟨by simp;omega,fun a b=>?_⟩;rcases zL.1 b with rfl|b
    ·exact d x (by simp)
    ·exact f a b
  ·cases e:kl (x::c)with
   |none=>rw[e]at h;cases h
   |some l'=>
    rw[e]at h;simp only[zH,qw]at h;subst h;obtain⟨i,f⟩:=Bs (x::c) l' n e fun y g=>d y (by simp[zL.1 g])
    refine⟨by simp at i⊢;omega,fun a b=>?_⟩;rcases zL.1 b with rfl|b
    ·exact zC (Vm wI w) (d w (by simp))
    ·exact f a b
theorem EZ{t:za}{l:List bQ}(h:kl (y9 t)=some l):l.length≤t.length+1∧∀a∈l,a.2.length≤t.length:=by
 have c:wQ (qC t [32])=y9 t:=gq t;obtain⟨e,d⟩:=Bs _ l t.length h fun w b=>by rw[←c]at b;exact xt (zc7.1 b).1
 have f:(y9 t).length≤t.length+1:=by rw[←c];exact zC (zeM _ _) (Zm (by simp))
 exact⟨by omega,d⟩
theorem tZ{o:za}{p:Part}(a:rF o)(Y:p.ok)(b:QI p.pre):jU (cD o p).1∧(cD o p).1.length≤1:=by
 obtain⟨c,d⟩:=ax (EO a Y b);unfold cD;by_cases h:(vW (Kx o p)).2=true
 ·rw[zf h];exact⟨d,c⟩
 ·rw[zj h];exact⟨(fun s hs=>by cases hs),by simp⟩
theorem zbl(a b:za):((⟨a.toArray⟩:ByteArray)==⟨b.toArray⟩)=decide (a=b):=by show(a.toArray==b.toArray)=_;by_cases h:a=b<;>simp[h]
theorem Ss(a b c d:za):jP prog .eql 270 (.agg [str a,str b]) (.agg [str c,str d])=some (wq (decide (a=c)&&decide (b=d))):=by simp only[jP,zhg,yi,zH,ae,zbl]
noncomputable def Ye (t:za):List wR×Int:=match V8 t with
 |none=>([],10)
 |some m=>(m.1,if m.2=true then 0 else 1)
noncomputable def Ja (t:za):O:=.yb [.sl 11 (qz (Ye t).1),int (Ye t).2]
def AltI(l:List bQ)(k:Nat)(Y:Hp)(Z:Nat)(v w:O):Prop:=∃o a,eW Y Z v o∧jU o∧o.length≤k+1∧w=int (if a=true then 0 else 1)∧ZT [yw wA] true l=ZT o a (l.drop k)
noncomputable abbrev zcP:Ctx:=qb prog [(248,zi false [] (Oe rH)),(249,zi false [] FBt2),(250,qh [] (YU fw)),(251,zi false [] (FS yq)),(252,zi false [] (aO HJ)),(253,qh [.a,.g vB] FOVI),(221,v8 [.a,.s 11 jM,.s 11 jM] NC)]
theorem Su:AM.Good zcP (fun g=>[249].contains g):=zI mixed ⟨Bn,by simp,oU,fun _=>zt _ _,ew,by simp,rA,by simp,Y9,by simp,oP,by simp,oY,by simp,trivial⟩
theorem ND(t:za)(ht:t.length+1≤zG):∃r0,zz zcP f220 [str t]=some r0∧qM r0 (Ja t):=by
 refine y8 (sh:=.s 11 jM) rfl ?_;have hwo:∀(Y:Hp) (Z:Nat),zi false [] (Oe rH) [str t] Y Z=some (rH t,Y,Z):=fun Y Z=>qe rfl (zJ (V:=fun l:List UInt8=>[str l]) (a:=t) (fun a b e=>wx (by injection e)) (by show t.length≤zG;omega)) (.inr (by simp))
 refine xw (fun R=>R.σ 0=str t) (by simp) ?_;rintro⟨D,Y,Z⟩ h0;simp only at h0;refine xw (fun R=>R.σ 4=.sl 2 (Wq (ll t).1)∧R.σ 5=wq (ll t).2) (by simp[h0,hwo,rH]) ?_;clear h0 D Y Z;rintro⟨D,Y,Z⟩ ⟨y,M⟩;simp only at y M;cases E:kl (y9 t)with
 |none=>
  have hr:ll t=([],false):=by unfold ll;rw[E]
  have H:Ye t=([],10):=by unfold Ye V8;rw[E]
  rw[hr]at y M;simp[y,M,qL,Ja,H,qz,f220]
 |some l=>
 have hr:ll t=(l,!l.isEmpty):=by unfold ll;rw[E]
 rw[hr]at y M;simp only at y M;by_cases N:l=[]
 ·have H:Ye t=([],10):=by unfold Ye V8;rw[E];simp only;rw[zf N]
  subst N;simp[y,M,qL,Ja,H,qz,f220]
 have I:V8 t=match X6 l with
  |some a=>match Qo a.1,Qo a.2 with
   |some p,some q=>some (eB p q)
   |_,_=>none
  |none=>ZT [yw wA] true l:=by unfold V8;rw[E];simp only;rw[zj N];rfl
 have T:l.isEmpty=false:=by cases l<;>simp at N⊢
 rw[T]at M;obtain⟨hll,U⟩:=EZ E;have hsg:=oN _ l E;have j:=oQ l;unfold zG at ht;refine xw (fun R=>R.σ 4=.sl 2 (Wq l)) (by simp[M,y]) ?_;clear y M D Y Z;rintro⟨D,Y,Z⟩ y;simp only at y;refine xw (fun R=>R.σ 4=.sl 2 (Wq l)∧X6 l=none) ?_ ?_
 ·by_cases h3:l.length=3
  ·match l,h3 with
   |[a,b,c],_=>
   obtain⟨X,S⟩:=a;obtain⟨b1,b2⟩:=b;obtain⟨c1,c2⟩:=c;have hd:X6 [(X,S),(b1,b2),(c1,c2)]=if(b1,b2)=(([],[45]):bQ)∧X=[]∧c1=[]then some (S,c2)else none:=rfl
   have ha2:S.length≤t.length:=U (X,S) (by simp);have hc2:c2.length≤t.length:=U (c1,c2) (by simp);have N4:=fun Y Z=>Nt S c2 Y Z ⟨by unfold zG;omega,by unfold zG;omega⟩
   by_cases k1:b1=[]
   ·subst k1;by_cases k2:b2=[45]
    ·subst k2;by_cases k3:X=[]
     ·subst k3;by_cases k4:c1=[]
      ·subst k4;rw[zf ⟨rfl,rfl,rfl⟩]at hd;rw[hd]at I;have H:Ye t=oT S c2:=by unfold Ye oT;rw[I];simp only;cases h1:Qo S<;>cases h2:Qo c2<;>simp
       have hfx:=KC (oT S c2).1;simp only[Sh.eT,O.sl.injEq,ab]at hfx;simp only[X8]at N4;simp[y,Wq,N4,Ss,zR,qc,qL,Ja,H,hfx,f220]
      ·rw[zj (fun h=>k4 h.2.2)]at hd;have e4:c1.isEmpty=false:=by cases c1 with
        |nil=>exact absurd rfl k4
        |cons=>rfl
       simp[y,Wq,Ss,zR,qc,e4,hd]
     ·rw[zj (fun h=>k3 h.2.1)]at hd;have e3:X.isEmpty=false:=by cases X with
       |nil=>exact absurd rfl k3
       |cons=>rfl
      simp[y,Wq,Ss,zR,qc,e3,hd]
    ·rw[zj (fun h=>k2 (by have:=h.1;injection this))]at hd;simp[y,Wq,Ss,zR,qc,k2,hd]
   ·rw[zj (fun h=>k1 (by have:=h.1;injection this))]at hd;simp[y,Wq,Ss,zR,qc,k1,hd]
  ·have hd:X6 l=none:=by
    unfold X6;split
    ·rename_i a b c;exact absurd rfl h3
    ·rfl
   have hn3:((l.length:Int)==3)=false:=by rw[q7];omega
   simp[y,j,hn3,hd]
 clear y D Y Z;rintro⟨D,Y,Z⟩ ⟨y,hd⟩;simp only at y;rw[hd]at I;simp only at I;have T:∀(Y:Hp) (Z:Nat),qh [] (YU fw) [] Y Z=some (.agg [int wA.v.a,int wA.v.b,int wA.v.c,.sl 1 (qd wA.v.pre),wq wA.after],Y,Z):=fun Y Z=>We _ Y Z
 simp[y,j,T,zR,qc,zv,zN,zy];refine zQ (fun k D Y Z=>D 60=.sl 2 (Wq l)∧D 61=int l.length∧D 62=int k∧AltI l k Y Z (D 6) (D 7)) l.length
  ⟨by simp,by simp,by simp,[yw wA],true,.inr ⟨Z,[[int wA.v.a,int wA.v.b,int wA.v.c,.sl 1 (qd wA.v.pre),wq wA.after,int 0,int 0,int 0,.nil,wq false,wq true]],by simp,by simp,by simp,by simp[qz,yw,wR.V,Cut.V,QV,qd]⟩,(Wg xm).2,by simp,by simp,by simp⟩ ?_
 clear y D Y Z;rintro k D Y Z hk ⟨m,r,u,o,ok,hM,P,hol,h7,g⟩;by_cases d:k<l.length
 ·have J:i6.wrap ((k:Int)+1)=(k:Int)+1:=zn (by omega) (by omega);obtain⟨a,ha⟩:∃a,l[k]=a:=⟨_,rfl⟩;have W:a∈l:=by rw[←ha];exact zm d
  have z:∀h:k<(Wq l).length,(Wq l)[k]=[str a.1,str a.2]:=fun h=>by simp[Wq,ha]
  have hal:=U a W;have K:=fun Y Z=>vn yq a.2 Y Z (by unfold zG;omega)
  have C:=fun Y Z=>Zy HJ a.2 Y Z (by unfold zG;omega)
  simp only[HJ,yJ.V]at C;rw[zd d,ha]at g;simp only[ZT]at g;have hie:a.1≠[]→a.1.isEmpty=false:=fun h=>by cases he:a.1 with
   |nil=>exact absurd he h
   |cons=>rfl
  by_cases w:a.1=[]∧yq a.2=true
  ·rw[zf w]at g;obtain⟨f,F⟩:=w;simp[m,r,u,d,j,z,f,K,F,J];exact⟨by omega,o,ok,hM.ZC (by omega) fun id hid n e=>zw _ _ _ _ (by omega),P,by omega,h7,g⟩
  ·rw[zj w]at g;have hM1:∀b1 b2,eW (qZ (qZ Y Z b1) (Z+1) b2) (Z+1+1) (D 6) o:=fun b1 b2=>hM.ZC (by omega) fun id hid n e=>by rw[zw _ _ _ _ (by omega),zw _ _ _ _ (by omega)]
   have n1:¬Z=Z+1:=by omega
   cases L:Qo a.2 with
   |none=>
    rw[L]at g;simp only at g;have H:Ye t=([],10):=by unfold Ye;rw[I,g]
    have hno:=oS L;by_cases f:a.1=[]
    ·have F:yq a.2=false:=by cases G:yq a.2;rfl;exact absurd ⟨f,G⟩ w
     rcases hno with hno|hno
     ·simp[m,r,u,d,j,z,f,K,F,C,hno,qL,Ja,H,qz,f220]
     ·cases G:(KW a.2).2.2<;>simp[m,r,u,d,j,z,f,K,F,C,hno,G,qL,Ja,H,qz,f220]
    ·have f:=hie f;rcases hno with hno|hno
     ·simp[m,r,u,d,j,z,f,C,hno,qL,Ja,H,qz,f220]
     ·cases G:(KW a.2).2.2<;>simp[m,r,u,d,j,z,f,C,hno,G,qL,Ja,H,qz,f220]
   |some p=>
    rw[L]at g;simp only at g;obtain⟨p1,p2,p3,p4,p5,p6,p7⟩:=oR L;obtain⟨_,_,q3,q4⟩:=Ql L;have Q:((KW a.2).2.1==0)=false:=by simpa using p3
    rw[←p2]at p6 p7;have A:=fun Y Z=>Nq a.1 (KW a.2).1 (KW a.2).2.1 Y Z (hsg a W) p5 ⟨p6,p7⟩
    simp only[Yd,←p4,yJ.V]at A;obtain⟨g1,g2⟩:=tZ (hsg a W) q3 q4;have hlm:=KB and o (cD a.1 p).1;obtain⟨x,Y',Z',B,hX,TK,_⟩:=EY 1 and zhM (hM1 (some ⟨270,2,false,[[str a.1,str a.2]]⟩) (some ⟨235,4,false,[(KW a.2).1.V]⟩)) (P.small (by unfold zG;omega)) (g1.small (by unfold zG;omega)) P g1;simp only[yJ.V]at B;have i:∀n:Int,n=(if(ok&&(cD a.1 p).2)=true then 0 else 1)→AltI l (k+1) Y' Z' x (int n):=fun n hn=>⟨_,_,hX,xu and P g1,by omega,by rw[hn],g⟩
    by_cases f:a.1=[]
    ·have F:yq a.2=false:=by cases G:yq a.2;rfl;exact absurd ⟨f,G⟩ w
     rw[f]at A B i z;cases G:(cD [] p).2
     ·rw[G]at A i;simp[m,r,u,d,j,z,K,F,C,p1,Q,n1,A,B,J];exact⟨by omega,i 1 (by simp)⟩
     ·rw[G]at A i;simp[m,r,u,d,j,z,K,F,C,p1,Q,n1,A,B,J];exact⟨by omega,by rw[h7];exact i _ (by simp)⟩
    ·have f:=hie f;cases G:(cD a.1 p).2
     ·rw[G]at A i;simp[m,r,u,d,j,z,f,C,p1,Q,n1,A,B,J];exact⟨by omega,i 1 (by simp)⟩
     ·rw[G]at A i;simp[m,r,u,d,j,z,f,C,p1,Q,n1,A,B,J];exact⟨by omega,by rw[h7];exact i _ (by simp)⟩
 ·obtain rfl:k=l.length:=by omega
  rw[zl]at g;simp only[ZT]at g;have H:Ye t=(o,if ok=true then 0 else 1):=by unfold Ye;rw[I,g]
  rcases hM with⟨h6,rfl⟩|⟨id,xs,hid,h6,G,hxs⟩
  ·simp[m,r,u,h6,h7,qL,Ja,H,qz,f220]
  ·simp[m,r,u,h6,h7,G,hxs,qL,Ja,H,f220]
theorem HS:zg prog 220 (zi false [] (aO Ja)):=
 jD (fn:=f220) Su ⟨_,func220,by kernel_rfl,rfl,by kernel_rfl⟩ false [] _ fun args r h w S vs a=>by obtain⟨l,rfl,Y,rfl⟩:=zr h;obtain⟨b,c,d⟩:=ND l Y;exact⟨_,b,a,by simp[f220],c,d⟩
theorem cI:∀(l:List bQ) (out:List wR) (d:Bool) (m:List wR×Bool),(∀a∈l,rF a.1)→jU out→ZT out d l=some m→jU m.1∧m.1.length≤out.length+l.length
 |[],out,d,m,_,h,e=>by
  simp only[ZT]at e;injection e with e
  subst e;exact⟨h,by simp⟩
 |a::l,out,d,m,hs,h,e=>by
  simp only[ZT]at e;have c:∀b∈l,rF b.1:=fun b i=>hs b (by simp[i])
  split at e
  ·obtain⟨f,j⟩:=cI l out d m c h e;exact⟨f,by simp;omega⟩
  ·cases g:Qo a.2 with
   |none=>rw[g]at e;cases e
   |some p=>rw[g]at e;simp only at e;obtain⟨_,_,k,n⟩:=Ql g;obtain⟨o,r⟩:=tZ (hs a (by simp)) k n;have q:=KB and out (cD a.1 p).1;obtain⟨f,j⟩:=cI l _ _ m c (xu and h o) e;exact⟨f,by simp;omega⟩
theorem NF{t:za}{m:List wR×Bool}(h:V8 t=some m):jU m.1∧m.1.length≤t.length+2:=by
 unfold V8 at h;cases b:kl (y9 t)with
 |none=>rw[b]at h;cases h
 |some l=>
  rw[b]at h;simp only at h;split at h
  ·cases h
  ·cases hd:X6 l with
   |none=>rw[hd]at h;simp only at h;obtain⟨d,e⟩:=cI l _ _ m (oN _ l b) (Wg xm).2 h;have:=(EZ b).1;exact⟨d,by simp at e;omega⟩
   |some a=>
    rw[hd]at h;simp only at h;cases Y:Qo a.1 with
    |none=>rw[Y]at h;simp at h
    |some p=>
     cases c:Qo a.2 with
     |none=>rw[Y,c]at h;simp at h
     |some q=>
      rw[Y,c]at h;simp only[qw]at h;obtain⟨_,_,i,f⟩:=Ql Y;obtain⟨_,_,j,g⟩:=Ql c;rw[←h];unfold eB;split
      ·have:=WG (nA f) (aw g);exact⟨this.2,by simp only;omega⟩
      ·exact⟨(fun s hs=>by cases hs),by simp⟩
def RrI(a:List za)(k:Nat)(Y:Hp)(Z:Nat)(v w:O):Prop:=∃o b,eW Y Z v o∧jU o∧o.length≤k*500∧w=int (if b=true then 0 else 1)∧WN [] true a=WN o b (a.drop k)
noncomputable abbrev Crrr:Ctx:=qb prog [(219,yO [] FSp),(220,zi false [] (aO Ja)),(221,v8 [.a,.s 11 jM,.s 11 jM] NC)]
theorem zbm:AM.Good Crrr (fun g=>([]:List Nat).contains g):=zI mixed ⟨WC,by simp,HS,by simp,oY,by simp,trivial⟩
theorem ln(t:za)(ht:t.length+1≤zG):∃P,zz Crrr f201 [str t]=some P∧qM P (Dj t):=by
 refine y8 (sh:=.s 11 jM) rfl ?_;have J:Dj t=.yb [.sl 11 (qz (WO t).1),int (WO t).2]:=by rw[Bm];rfl
 rw[J];by_cases i:(400:Int)<t.length
 ·have T:WO t=([],2):=by unfold WO;rw[zf i]
  simp[i,T,qz,qL,f201]
 have B:=fun Y Z=>Z5 t [124,124] Y Z (by omega) (by decide) (by decide)
 obtain⟨parts,c⟩:∃parts,qC t [124,124]=parts:=⟨_,rfl⟩;have K:∀p∈parts,p.length≤400:=fun p Y=>by have:=xt (by rw[c];exact Y);omega
 have U:parts.length≤401:=by have:=Zm (s:=t) (sep:=[124,124]) (by simp);rw[c]at this;omega
 have a:WO t=match WN [] true parts with
  |none=>([],10)
  |some o=>if o.2=false then([],1)else if(100:Int)<o.1.length then([],2)else(o.1,0):=by unfold WO;rw[zj i,c];rfl
 rw[c]at B;simp[i,B];refine zQ (fun k A Y Z=>A 14=.own 0 0 parts.length∧A 15=int parts.length∧A 16=int k∧1≤Z∧Y 0=some (Ve parts)∧RrI parts k Y Z (A 4) (A 5)) parts.length
  ⟨by simp,by simp,by simp,by simp,by simp,[],true,.inl ⟨by simp,rfl⟩,(fun s hs=>by cases hs),by simp,by simp,by simp⟩ ?_
 rintro k A Y Z hk ⟨f,g,h,W,Q,o,R,G,w,X,y,d⟩;by_cases e:k<parts.length
 ·have C:i6.wrap ((k:Int)+1)=(k:Int)+1:=zn (by omega) (by omega);obtain⟨s,hs⟩:∃s,parts[k]=s:=⟨_,rfl⟩;have N5:s.length≤400:=K s (by rw[←hs];exact zm e);have b:=fun Y Z=>Zy Ja s Y Z (by unfold zG;omega)
  have r:Y 0=some ⟨9,1,true,parts.map fun p=>[str p]⟩:=Q;rw[zd e,hs]at d;simp only[WN]at d;cases l:V8 s with
  |none=>
   rw[l]at d;simp only at d;rw[d]at a;simp only at a;have L:Ye s=([],10):=by unfold Ye;rw[l]
   simp only[Ja,L]at b;simp[f,g,h,e,r,hs,b,a,qz,qL,f201]
  |some m=>
   rw[l]at d;simp only at d;have L:Ye s=(m.1,if m.2=true then 0 else 1):=by unfold Ye;rw[l]
   obtain⟨M,g2⟩:=NF l;have hlm:=KB or o m.1;obtain⟨x,Y',Z',u,hX,S,N⟩:=EY 0 or zhN G (w.small (by unfold zG;omega)) (M.small (by unfold zG;omega)) w M;have D:Y' 0=some (Ve parts):=by rw[N 0 (by omega) (G.box r (by simp))];exact Q
   have j:∀n:Int,n=(if(R&&m.2)=true then 0 else 1)→RrI parts (k+1) Y' Z' x (int n):=fun n hn=>⟨_,_,hX,xu or w M,by omega,by rw[hn],d⟩
   simp only[Ja,L]at b;cases H:m.2
   ·rw[H]at b j;simp at b;simp[f,g,h,e,r,hs,b,u,C];exact⟨by omega,by omega,D,j 1 (by simp)⟩
   ·rw[H]at b j;simp at b;simp[f,g,h,e,r,hs,b,u,C];exact⟨by omega,by omega,D,by rw[y];exact j _ (by simp)⟩
 ·obtain rfl:k=parts.length:=by omega
  rw[zl]at d;simp only[WN]at d;rw[d]at a;simp only at a;cases R
  ·simp at a y;simp[f,g,h,y,a,qz,qL,f201]
  ·simp at a y;have v:=G.len;by_cases q:(100:Int)<o.length
   ·have z:100<o.length:=by omega
    rw[zf q]at a;simp[f,g,h,y,v,q,a,qz,qL,f201]
   ·have z:¬100<o.length:=by omega
    rw[zj q]at a;rcases G with⟨I,rfl⟩|⟨id,xs,hid,I,H,E⟩
    ·simp[f,g,h,y,I,a,qz,qL,f201]
    ·rw[I]at v;have Tv:xs.length=o.length:=by have:=zD List.length E;simpa[qz]using this
     have F:¬(100:Int)<xs.length:=by omega
     simp[f,g,h,y,I,F,H,E,a,qL,f201]
theorem gu:zg prog 201 (zi false [] (aO Dj)):=
 jD (fn:=f201) zbm ⟨_,func201,by kernel_rfl,rfl,by kernel_rfl⟩ false [] _ fun args r h w S vs a=>by obtain⟨l,rfl,Y,rfl⟩:=zr h;obtain⟨b,c,d⟩:=ln l Y;exact⟨_,b,a,by simp[f201],c,d⟩
theorem cJ:zg prog 198 (zi false [] (fK xf)):=
 qq (fn:=f198) w8 ⟨_,func198,by kernel_rfl,rfl,by kernel_rfl⟩ false [] _ fun args r h=>by obtain⟨a,rfl,rfl⟩:=JB h;refine⟨by simp[f198],_,zo rfl ?_,qm _⟩;by_cases b:3≤a<;>simp[b,xf,jg,wH,f198]
theorem Bt:zg prog 197 (zi false [] (fK Yb)):=
 qq (fn:=f197) w8 ⟨_,func197,by kernel_rfl,rfl,by kernel_rfl⟩ false [] _ fun args r h=>by obtain⟨a,rfl,rfl⟩:=JB h;refine⟨by simp[f197],_,zo rfl ?_,qm _⟩;by_cases b:7≤a<;>simp[b,Yb,jg,wH,f197]
noncomputable abbrev Crwv:Ctx:=qb prog [(198,zi false [] (fK xf))]
theorem zbn:AM.Good Crwv (fun g=>([]:List Nat).contains g):=zI mixed ⟨cJ,by simp,trivial⟩
theorem Sv(a:Int):JA a=(a==2||xf a||a==12):=by
 unfold JA xf jg;by_cases h:a=2
 ·subst h;decide
 ·have b:(a==2)=false:=by simpa using h
  rw[b];congr 1;rw[qA];simp;omega
theorem Bu:zg prog 196 (zi false [] (fK JA)):=
 qq (fn:=f196) zbn ⟨_,func196,by kernel_rfl,rfl,by kernel_rfl⟩ false [] _ fun args r h=>by obtain⟨a,rfl,rfl⟩:=JB h;refine⟨by simp[f196],_,zo rfl ?_,qm _⟩;rw[Sv];cases b:a==2<;>cases c:xf a<;>simp[b,c,wH,f196]
noncomputable def FCL (n:Nat):zc→Option O:=qv (α:=wV×Int) (fun a=>[.agg a.1.V,int a.2]) (fun a=>a.1.cb≤zG∧a.1.cb≤n∧0≤a.2∧a.2+a.1.cb≤4194304) (fun a=>.yb [int (a.1.rp a.2).1,wq (a.1.rp a.2).2])
theorem E0(n:Nat)(c:wV)(l:Int)(Y:Hp)(Z:Nat)(h:c.cb≤zG∧c.cb≤n∧0≤l∧l+c.cb≤4194304):zi false [] (FCL n) [.agg c.V,int l] Y Z=some (.yb [int (c.rp l).1,wq (c.rp l).2],Y,Z):=
 qe (Y1:=Y) (show zA Y [.agg c.V,int l]=some ([.agg c.V,int l],Y) by simp only[zA,Ju];rfl) (zJ (V:=fun a:wV×Int=>[.agg a.1.V,int a.2]) (a:=(c,l)) (fun x y e=>by obtain⟨b,d⟩:=x;obtain⟨f,g⟩:=y;simp only[zh,zK,O.agg.injEq]at e;rw[Ki e.1,qn e.2]) h) (.inl rfl)
noncomputable abbrev Crpa (n:Nat):Ctx:=qb prog [(186,zi false [] (FCL n))]
def PaI(c:wV)(l:Int)(k:Nat)(v w:O):Prop:=∃s:Int×Bool,v=int s.1∧w=wq s.2∧0≤s.1∧s.1+jm (c.args.drop k)≤2097153∧c.rp l=BV (c.args.drop k) l s
theorem Sw(s:Int×Bool):(s.2||decide (200<s.1))=J9 s:=rfl
theorem Bv(n:Nat)(c:wV)(l:Int)(h:c.cb≤zG∧c.cb≤n+1∧0≤l∧l+c.cb≤4194304):zz (Crpa n) f186 [.agg c.V,int l]=some (.yb [int (c.rp l).1,wq (c.rp l).2]):=by
 have A:=VX c;have t:=RM c l;have B:=Zk c.args;have C:=bY c.args fun x L=>fh x
 obtain⟨D,M,E,F⟩:=h;unfold zG at D;refine zo rfl ?_;simp;refine zQ (fun k j Y Z=>j 1=int l∧j 15=.sl 7 (c.args.map wV.V)∧j 16=int c.args.length∧j 17=int k∧PaI c l k (j 6) (j 7)) c.args.length
  ⟨by simp,by simp,by simp,by simp,(1,decide (20<l)),by simp,by simp,by simp,by rw[yj];simp only;omega,by rw[t,yj]⟩ ?_
 rintro k j Y Z N ⟨o,d,e,f,s,p,q,G,H,g⟩;by_cases a:k<c.args.length
 ·have P:=Yr (zm a);have I:i6.wrap ((k:Int)+1)=(k:Int)+1:=zn (by omega) (by omega);have u:i6.wrap (l+1)=l+1:=zn (by omega) (by omega);have J:jm (c.args.drop k)=c.args[k].parts+jm (c.args.drop (k+1)):=by rw[zd a,jm]
  have b:=Sw s;cases r:J9 s
  ·rw[r]at b;have i:=b;rw[w5]at i;obtain⟨z,K⟩:=i;have v:¬200<s.1:=by simpa using K
   obtain⟨Q,R,_,_⟩:=Er c.args[k] (l+1);have m:=fun Y Z=>E0 n c.args[k] (l+1) Y Z ⟨by unfold zG;omega,by omega,by omega,by omega⟩
   rw[RN a]at g;have w:tH s (c.args[k].rp (l+1))=(s.1+(c.args[k].rp (l+1)).1,s.2||(c.args[k].rp (l+1)).2):=by unfold tH;rw[r];rfl
   rw[w]at g;have y:i6.wrap (s.1+(c.args[k].rp (l+1)).1)=s.1+(c.args[k].rp (l+1)).1:=zn (by omega) (by omega);simp[o,d,e,f,p,q,z,v,a,m,I,u,y];exact⟨by omega,(s.1+(c.args[k].rp (l+1)).1,s.2||(c.args[k].rp (l+1)).2),rfl,by simp[z],by simp only;omega,by simp only;omega,g⟩
  ·rw[r]at b;rw[ek r]at g;cases hd:s.2
   ·rw[hd]at b;simp at b;simp[o,d,e,f,p,q,hd,b,a,g,wH,f186]
   ·simp[o,d,e,f,p,q,hd,a,g,wH,f186]
 ·obtain rfl:k=c.args.length:=by omega
  rw[zl]at g;simp only[BV]at g;simp[o,d,e,f,p,q,g,wH,f186]
theorem rL:∀n,zg prog 186 (zi false [] (FCL n)):=by
 intro n
 induction n with
 |zero=>
  exact Ks ⟨_,func186,by kernel_rfl,by kernel_rfl⟩ fun args r h=>by obtain⟨⟨c,l⟩,_,⟨_,a,_⟩,_⟩:=zr h;have:=mO c;simp only at a;omega
 |succ n b=>
  have d:AM.Good (Crpa n) (fun g=>([]:List Nat).contains g):=zI mixed ⟨b,by simp,trivial⟩;exact qq (fn:=f186) d ⟨_,func186,by kernel_rfl,rfl,by kernel_rfl⟩ false [] _ fun args r h=>by obtain⟨⟨c,l⟩,rfl,e,rfl⟩:=zr h;exact⟨zC (ze 2) (by decide),_,Bv n c l e,qm _⟩
noncomputable abbrev Crla:Ctx:=qb prog [(186,zi false [] (FCL zG))]
theorem Bw:zg prog 172 (GC fun c=>wq (J9 (c.rp 1))):=
 qq (fn:=f172) (zI (q:=[]) mixed ⟨rL zG,by simp,trivial⟩:AM.Good Crla _) ⟨_,func172,by kernel_rfl,rfl,by kernel_rfl⟩ false [] _ fun args r h=>by
  obtain⟨c,rfl,a,rfl⟩:=WX h;have b:=a.1;unfold zG at b;have d:=fun Y Z=>E0 zG c 1 Y Z ⟨a.1,a.1,by omega,by omega⟩
  refine⟨zC (ze 1) (by decide),_,zo rfl ?_,qm _⟩;unfold J9;cases hd:(c.rp 1).2
  ·simp[d,hd,wH,f172]
  ·simp[d,hd,wH,f172]
def I8(c:wV):Bool:=(!(c.kind==4)&&(!c.attr.isEmpty||c.op != 0))||(c.kind != 5&&!c.name.isEmpty)
def f2R(c:wV):Bool:=(!((c.kind==4)&&JA c.op)&&decide (0<c.yY.length))||(!((c.kind==4)&&Yb c.op)&&!c.pat.isEmpty)
noncomputable abbrev Crfo:Ctx:=qb prog [(196,zi false [] (fK JA)),(197,zi false [] (fK Yb)),(198,zi false [] (fK xf))]
theorem zbo:AM.Good Crfo (fun g=>([]:List Nat).contains g):=zI mixed ⟨Bu,by simp,Bt,by simp,cJ,by simp,trivial⟩
theorem Bx(c:wV)(h:c.cb≤zG):zz Crfo f187 [.agg c.V]=some (wq (oq c)):=by
 refine zo rfl ?_;have g:oq c=(!I8 c&&!f2R c&&(if c.kind=3 then(c.args.length:Int)==1 else if c.kind=4∨c.kind=5 then((c.args.length:Int)==0&&(!xf c.op||(c.yY.length:Int)==1))else true)):=rfl;refine xw (fun m=>m.σ 1=.ref 0 0 0∧m.Y 0=some ⟨30,7,false,[c.V]⟩) (by simp) ?_;rintro⟨t,Y,Z⟩ ⟨e,f⟩;simp only at e f;refine xw (fun m=>m.σ 1=.ref 0 0 0∧m.Y 0=some ⟨30,7,false,[c.V]⟩∧m.σ 3=wq (c.kind==4)) (by simp[e,f]) ?_;clear e f t Y Z;rintro⟨t,Y,Z⟩ ⟨e,f,l⟩;simp only at e f l;refine xw (fun m=>m.σ 1=.ref 0 0 0∧m.Y 0=some ⟨30,7,false,[c.V]⟩∧m.σ 3=wq (c.kind==4)∧I8 c=false) ?_ ?_
 ·by_cases j:c.kind=4
  ·have u:(c.kind==5)=false:=by rw[j];rfl
   have d:(c.kind==4)=true:=by rw[j];rfl
   cases n:c.name.isEmpty
   ·have i:I8 c=true:=by simp[I8,j,n]
    rw[i]at g;simp[e,f,l,j,n,g,wH,f187]
   ·have i:I8 c=false:=by simp[I8,j,n]
    simp[e,f,l,j,n,i]
  ·have d:(c.kind==4)=false:=by simpa using j
   cases q:(!c.attr.isEmpty||c.op != 0)
   ·have o:=q;rw[w5]at o;obtain⟨y,z⟩:=o;simp at y z;by_cases u:c.kind=5
    ·have i:I8 c=false:=by simp[I8,u,q]
     simp[e,f,l,u,y,z,i]
    ·have r:(c.kind==5)=false:=by simpa using u
     have v:(c.kind != 5)=true:=by simp[bne,r]
     cases n:c.name.isEmpty
     ·have i:I8 c=true:=by simp[I8,u,n]
      rw[i]at g;simp[e,f,l,j,d,v,y,z,n,g,wH,f187]
     ·have i:I8 c=false:=by simp[I8,q,n]
      simp[e,f,l,j,d,v,y,z,n,i]
   ·have i:I8 c=true:=by simp[I8,j,q]
    rw[i]at g;cases w:c.attr.isEmpty
    ·simp[e,f,l,j,d,w,g,wH,f187]
    ·rw[w]at q;have o:(c.op==0)=false:=by simpa using q
     have B:(c.op != 0)=true:=by simpa using q
     simp[e,f,l,j,d,w,o,B,g,wH,f187]
 clear e f l t Y Z;rintro⟨t,Y,Z⟩ ⟨e,f,l,C⟩;simp only at e f l;rw[C]at g;refine xw (fun m=>m.σ 1=.ref 0 0 0∧m.Y 0=some ⟨30,7,false,[c.V]⟩∧f2R c=false) ?_ ?_
 ·have p:∀a b:Bool,((c.kind==4)&&JA c.op)=a→((c.kind==4)&&Yb c.op)=b→f2R c=((!a&&decide (0<c.yY.length))||(!b&&!c.pat.isEmpty)):=fun a b H I=>by unfold f2R;rw[H,I]
  by_cases j:c.kind=4
  ·have d:(c.kind==4)=true:=by rw[j];rfl
   cases F:JA c.op<;>cases G:Yb c.op<;>cases Y1:c.pat.isEmpty<;>by_cases x:0<c.yY.length <;>
    (have i:=p _ _ rfl rfl;rw[d,F,G,Y1]at i;simp[x]at i;simp[e,f,l,j,F,G,Y1,x,i,g,wH,f187])
  ·have d:(c.kind==4)=false:=by simpa using j
   cases Y1:c.pat.isEmpty<;>by_cases x:0<c.yY.length <;>
    (have i:=p _ _ rfl rfl;rw[d,Y1]at i;simp[x]at i;simp[e,f,l,j,d,Y1,x,i,g,wH,f187])
 clear e f l t Y Z;rintro⟨t,Y,Z⟩ ⟨e,f,D⟩;simp only at e f;rw[D]at g;simp only[Bool.not_false,yZ]at g;by_cases A:c.kind=3
 ·rw[zf A]at g;simp[e,f,A,g,wH,f187]
 have E:(c.kind==3)=false:=by simpa using A
 rw[zj A]at g;by_cases s:c.kind=4∨c.kind=5
 ·rw[zf s]at g;cases w:((c.args.length:Int)==0)<;>cases J:xf c.op<;>rcases s with k|k <;>
   simp[e,f,k,w,J,g,wH,f187]
 ·rw[zj s]at g;have d:(c.kind==4)=false:=by simp;omega
  have r:(c.kind==5)=false:=by simp;omega
  simp[e,f,E,d,r,g,wH,f187]
theorem rM:zg prog 187 (GC fun c=>wq (oq c)):=
 qq (fn:=f187) zbo ⟨_,func187,by kernel_rfl,rfl,by kernel_rfl⟩ false [] _ fun args r h=>by obtain⟨c,rfl,a,rfl⟩:=WX h;exact⟨by simp[f187],_,Bx c a.1,qm _⟩
noncomputable abbrev zcQ:Ctx:=qb prog [(199,GV fun v=>int v.check),(198,zi false [] (fK xf)),(200,zi false [] (UT zG))]
theorem Sx:AM.Good zcQ (fun g=>[200].contains g):=zI mixed ⟨Aa,by simp,cJ,by simp,oo zG,fun _=>zt _ _,trivial⟩
theorem eE(c:wV)(h:c.cb≤zG):zz zcQ f188 [.agg c.V]=some (int (ZE c.op c.yY)):=by
 have R:=VX c;obtain⟨l,p⟩:∃l,c.yY=l:=⟨_,rfl⟩;obtain⟨op,s⟩:∃op,c.op=op:=⟨_,rfl⟩;have X:=jk l;rw[p]at R;rw[p,s];unfold zG at h;refine zo rfl ?_;by_cases o:(100:Int)<l.length
 ·have S:ZE op l=2:=by unfold ZE;rw[zf o]
  simp[p,o,S,f188]
 have S:ZE op l=aQ op none l:=by unfold ZE;rw[zj o]
 rw[S];simp[p,o];refine zQ (fun k F Y Z=>F 1=.ref 0 0 0∧F 11=.sl 5 (l.map qE.V)∧F 12=int l.length∧F 13=int k∧1≤Z∧Y 0=some ⟨30,7,false,[c.V]⟩∧aQ op none l=aQ op (QX l k) (l.drop k)) l.length
  ⟨by simp,by simp,by simp,by simp,by simp,by simp,by simp[QX]⟩ ?_
 rintro k F Y Z hk ⟨t,b,d,e,hnx,u,f⟩;have w:¬0=Z:=by omega
 by_cases a:k<l.length
 ·have hm:=kP (zm a);have J:i6.wrap ((k:Int)+1)=(k:Int)+1:=zn (by omega) (by omega);have g:=fun Y Z=>Jt (fun v=>int v.check) l[k] Y Z (by unfold zG;omega)
  rw[zd a]at f;simp only[aQ]at f;have G:QX l (k+1)=some l[k]:=by simp[QX,a]
  have i:Dm op l[k]=(l[k].kind==0||xf op&&l[k].kind != 2):=rfl;by_cases r:l[k].check=0
  case neg=>
   rw[zj r]at f;have T:(l[k].check != 0)=true:=by simpa using r
   simp[p,s,t,u,w,b,d,e,a,g,T,f,f188]
  rw[zf r]at f;cases x:Dm op l[k]
  case true=>
   rw[x,zf rfl]at f;rw[x]at i;by_cases K:l[k].kind=0
   ·simp[p,s,t,u,w,b,d,e,a,g,r,K,f,f188]
   ·have H:(l[k].kind==0)=false:=by simpa using K
    rw[H,jo]at i;have n:=i.symm;rw[zF]at n;simp[p,s,t,u,w,b,d,e,a,g,r,H,n.1,n.2,f,f188]
  rw[x,zj (by simp)]at f;rw[x]at i;have A:=i.symm;rw[w5]at A;obtain⟨C,t2⟩:=A;have U:xf op=false∨(l[k].kind != 2)=false:=by
   cases q:xf op
   ·exact .inl rfl
   ·rw[q,yZ]at t2;exact .inr t2
  by_cases K:k=0
  ·subst K;have Y0:ch (QX l 0) l[0]=false:=rfl;rw[Y0,zj (by simp)]at f;have m:aQ op none l=aQ op (QX l 1) l.tail:=by rw[f,show QX l 1=some l[0]from G];simp
   cases q:xf op
   ·simp[p,s,t,u,w,b,d,e,a,g,r,C,q,J];exact⟨by omega,m⟩
   ·have I:(l[0].kind != 2)=false:=U.resolve_left (by rw[q];simp);simp[p,s,t,u,w,b,d,e,a,g,r,C,q,I,J];exact⟨by omega,m⟩
  ·obtain⟨j,rfl⟩:∃j,k=j+1:=⟨k-1,by omega⟩;have D:j<l.length:=by omega
   have hmj:=kP (zm D);have L:i6.wrap ((j:Int)+1-1)=(j:Int):=by rw[zn (by omega) (by omega)];omega
   have y:i6.wrap (j:Int)=(j:Int):=zn (by omega) (by omega);have M:((j:Int)+1).toNat=j+1:=by omega
   have N:0<(j:Int)+1:=by omega
   have P:0≤(j:Int)+1:=by omega
   have Q:(j:Int)+1<l.length:=by omega
   have z:=fun Y Z=>Kr zG l[j+1] l[j] Y Z ⟨by unfold zG;omega,by unfold zG;omega,by unfold zG;omega⟩
   have W:ch (QX l (j+1)) l[j+1]=decide (yl l[j+1] l[j]≤0):=by simp only[QX,ch];simp[D,Es]
   rw[W]at f;by_cases E:yl l[j+1] l[j]≤0
   ·have B:decide (yl l[j+1] l[j]≤0)=true:=by simpa using E
    rw[zf B]at f;cases q:xf op
    ·simp[p,s,t,u,w,b,d,e,a,D,g,r,C,q,J,L,y,M,N,P,Q,z,E,f,f188]
    ·have I:(l[j+1].kind != 2)=false:=U.resolve_left (by rw[q];simp);simp[p,s,t,u,w,b,d,e,a,D,g,r,C,q,I,J,L,y,M,N,P,Q,z,E,f,f188]
   ·have B:¬decide (yl l[j+1] l[j]≤0)=true:=by simpa using E
    rw[zj B]at f;have wk:i6.wrap ((j:Int)+1+1)=(j:Int)+1+1:=zn (by omega) (by omega);have m:aQ op none l=aQ op (QX l (j+1+1)) (l.drop (j+1+1)):=by rw[f,G]
    cases q:xf op
    ·simp[p,s,t,u,w,b,d,e,a,D,g,r,C,q,wk,L,y,M,N,P,Q,z,E];exact⟨by omega,m⟩
    ·have I:(l[j+1].kind != 2)=false:=U.resolve_left (by rw[q];simp);simp[p,s,t,u,w,b,d,e,a,D,g,r,C,q,I,wk,L,y,M,N,P,Q,z,E];exact⟨by omega,m⟩
 ·obtain rfl:k=l.length:=by omega
  rw[zl]at f;simp only[aQ]at f;simp[t,b,d,e,f,f188]
theorem cK:zg prog 188 (GC fun c=>int (ZE c.op c.yY)):=
 qq (fn:=f188) Sx ⟨_,func188,by kernel_rfl,rfl,by kernel_rfl⟩ false [] _ fun args r h=>by obtain⟨c,rfl,a,rfl⟩:=WX h;exact⟨zC (ze 1) (by decide),_,eE c a.1,qm _⟩
noncomputable abbrev zcR:Ctx:=qb prog [(201,zi false [] (aO Dj))]
theorem Sy:AM.Good zcR (fun g=>([]:List Nat).contains g):=zI mixed ⟨gu,by simp,trivial⟩
theorem cL(c:wV)(h:c.cb≤zG):zz zcR f189 [.agg c.V]=some (int (Yv c.op c.pat)):=by
 have r:=VX c;obtain⟨s,hs⟩:∃s,c.pat=s:=⟨_,rfl⟩;obtain⟨op,t⟩:∃op,c.op=op:=⟨_,rfl⟩;rw[hs]at r;rw[hs,t];unfold zG at h;refine zo rfl ?_;by_cases a:(500:Int)<s.length
 ·have b:Yv op s=2:=by unfold Yv;rw[zf a]
  simp[hs,a,b,f189]
 have l:=fun Y Z=>Zy Dj s Y Z (by unfold zG;omega)
 simp only[Dj]at l;have b:Yv op s=if wG 32 126 s=true then(if op=11 then(QJ s).2 else 0)else 1:=by unfold Yv;rw[zj a]
 simp[hs,a];refine zQ (fun k n Y Z=>n 1=.ref 0 0 0∧n 12=int s.length∧n 13=int k∧Y 0=some ⟨30,7,false,[c.V]⟩∧wG 32 126 s=wG 32 126 (s.drop k)) s.length ⟨by simp,by simp,by simp,by simp,by simp⟩ ?_;rintro k n Y Z v ⟨o,d,e,p,i⟩;by_cases f:k<s.length
 ·have u:i6.wrap ((k:Int)+1)=(k:Int)+1:=zn (by omega) (by omega);rw[Zw f]at i;have j:=Xn 32 126 s[k];simp only[ZX]at j;cases q:pr 32 126 s[k]
  ·have i:wG 32 126 s=false:=by rw[i,q];rfl
   rw[i,zj (by simp)]at b;simp[o,p,hs,d,e,f,b,j,q,f189]
  ·simp[o,p,hs,d,e,f,j,q,u];exact⟨f,by rw[i,q];rfl⟩
 ·obtain rfl:k=s.length:=by omega
  have i:wG 32 126 s=true:=by rw[i,zl];rfl
  rw[i,zf rfl]at b;by_cases g:op=11
  ·rw[zf g]at b;subst g;simp[o,p,hs,t,d,e,l,b,f189]
  ·rw[zj g]at b;have m:(op==11)=false:=by simpa using g
   simp[o,p,hs,t,d,e,m,b,f189]
theorem aV:zg prog 189 (GC fun c=>int (Yv c.op c.pat)):=
 qq (fn:=f189) Sy ⟨_,func189,by kernel_rfl,rfl,by kernel_rfl⟩ false [] _ fun args r h=>by obtain⟨c,rfl,a,rfl⟩:=WX h;exact⟨zC (ze 1) (by decide),_,cL c a.1,qm _⟩
theorem Sz{c:wV}(b:ZQ c=false)(a:GN c=false):Yv c.op c.pat=0:=by
 have g:∀op,op≠11→Yv op []=0:=fun op h=>by simp[Yv,h]
 have k:w1F c=false∧w5F c=false:=by unfold ZQ at b;simp only[w5]at b;exact⟨b.1.1.1.1.1.1,b.1.1.2⟩
 obtain⟨i,j⟩:=k;unfold GN at a;cases d:c.kind==4
 ·simp only[w1F,d,Bool.not_false,yZ,w5]at i;obtain⟨⟨⟨_,l⟩,_⟩,m⟩:=i;have n:c.op=0:=by simpa using l
  have f:c.pat=[]:=by simpa using m
  rw[n,f];exact g 0 (by decide)
 ·rw[d,yZ]at a;simp only[w5F,d,a,yZ,Bool.not_false]at j;have f:c.pat=[]:=by simpa using j
  rw[f];refine g _ fun e=>?_
  rw[e]at a;revert a;decide
noncomputable abbrev zcS (n:Nat):Ctx:=qb prog [(173,zi false [] (FC (fun c=>int c.fault) n)),(187,GC fun c=>wq (oq c)),(140,zi false [] (FS yn)),(188,GC fun c=>int (ZE c.op c.yY)),(189,GC fun c=>int (Yv c.op c.pat))]
theorem gv(n:Nat)(c:wV)(h:c.cb≤zG∧c.cb≤n+1):zz (zcS n) f173 [.agg c.V]=some (int c.fault):=by
 have rW:=VX c;have hl1:=Zk c.args;obtain⟨M,hb⟩:=h;have j:=sY c;have b:=fun Y Z=>Wu (fun c=>wq (oq c)) c Y Z M
 have w:=fun Y Z=>Wu (fun c=>int (ZE c.op c.yY)) c Y Z M
 have F:=fun Y Z=>Wu (fun c=>int (Yv c.op c.pat)) c Y Z M
 have G:c.attr.length≤zG:=by omega
 have H:c.name.length≤zG:=by omega
 unfold zG at M;refine zo rfl ?_;refine xw (fun x=>x.σ 1=.ref 0 0 0∧x.Y 0=some ⟨30,7,false,[c.V]⟩∧x.Z=1) (by simp) ?_;rintro⟨t,Y,Z⟩ ⟨d,e,l⟩;simp only at d e l;subst l;have y:gU c=!jg c.kind 1 5:=rfl;refine xw (fun x=>x.σ 1=.ref 0 0 0∧x.Y 0=some ⟨30,7,false,[c.V]⟩∧x.Z=1∧gU c=false∧P0 c=false∧ZQ c=false∧bw c=false) ?_ ?_
 ·by_cases N:c.kind<1
  ·have z:gU c=true:=by rw[y];simp[jg];omega
   simp[d,e,N,j,xg,z,f173]
  by_cases S:5<c.kind
  ·have z:gU c=true:=by rw[y];simp[jg];omega
   simp[d,e,N,S,j,xg,z,f173]
  have i:gU c=false:=by rw[y];simp[jg];omega
  have A:=M6 c (by simp[jg];omega);rw[A]at b;by_cases u:c.kind=4
  ·have B:P0 c=!jg c.op 1 12:=by unfold P0;rw[u];rfl
   have a:bw c=!yn c.attr:=by unfold bw;rw[u];simp
   by_cases I:c.op<1
   ·have z:P0 c=true:=by rw[B];simp[jg];omega
    simp[d,e,u,I,j,xg,z,f173]
   by_cases P:12<c.op
   ·have z:P0 c=true:=by rw[B];simp[jg];omega
    simp[d,e,u,I,P,j,xg,z,f173]
   have f:P0 c=false:=by rw[B];simp[jg];omega
   cases g:ZQ c
   case true=>simp[d,e,u,I,P,b,g,j,xg,i,f,f173]
   cases o:yn c.attr
   ·rw[o]at a;simp[d,e,u,I,P,b,g,G,o,j,xg,i,f,a,f173]
   ·rw[o]at a;simp[d,e,u,I,P,b,g,G,o,i,f,a]
  have p:(c.kind==4)=false:=by simpa using u
  have f:P0 c=false:=by unfold P0;rw[p];rfl
  cases g:ZQ c
  case true=>simp[d,e,N,S,p,b,g,j,xg,i,f,f173]
  by_cases q:c.kind=5
  ·have a:bw c=!yn c.name:=by unfold bw;rw[q];simp
   cases o:yn c.name
   ·rw[o]at a;simp[d,e,q,b,g,H,o,j,xg,i,f,a,f173]
   ·rw[o]at a;simp[d,e,q,b,g,H,o,i,f,a]
  ·have v:(c.kind==5)=false:=by simpa using q
   have a:bw c=false:=by unfold bw;rw[p,v];rfl
   simp[d,e,N,S,p,v,b,g,i,f,a]
 clear d e t Y b;rintro⟨t,Y,Z⟩ ⟨d,e,l,T,U,Q,W⟩;simp only at d e l;subst l;by_cases J:ZE c.op c.yY=0
 case neg=>
  have X:(ZE c.op c.yY != 0)=true:=by simpa using J
  simp[d,e,w,J,X,j,xg,T,U,Q,W,f173]
 by_cases K:Yv c.op c.pat=0
 case neg=>
  have c7':(Yv c.op c.pat != 0)=true:=by simpa using K
  have c6:GN c=true:=by cases hx:GN c;exact absurd (Sz Q hx) K;rfl
  simp[d,e,w,F,J,K,c7',j,xg,T,U,Q,W,c6,f173]
 have hh:xg c=0:=by simp[xg,T,U,Q,W,J,K]
 have L:c.fault=Zt c.args:=by rw[j,zf hh]
 simp[d,e,w,F,J,K];refine zQ (fun k t Y Z=>t 64=.sl 7 (c.args.map wV.V)∧t 65=int c.args.length∧t 66=int k∧Zt c.args=Zt (c.args.drop k)) c.args.length ⟨by simp,by simp,by simp,by simp⟩ ?_;clear d e t Y;rintro k t Y Z hk ⟨C,D,E,r⟩;by_cases s:k<c.args.length
 ·have hm:=Yr (zm s);have hw:i6.wrap ((k:Int)+1)=(k:Int)+1:=zn (by omega) (by omega);have m:=fun Y Z=>Vc (fun c=>int c.fault) n c.args[k] Y Z ⟨by unfold zG;omega,by omega⟩
  rw[XA s]at r;by_cases R:c.args[k].fault=0
  ·rw[zf R]at r;simp[C,D,E,s,m,R,hw];exact⟨by omega,r⟩
  ·rw[zj R]at r;have hz2:(c.args[k].fault != 0)=true:=by simpa using R
   simp[C,D,E,s,m,hz2,L,r,f173]
 ·obtain rfl:k=c.args.length:=by omega
  rw[zl]at r;have r:Zt c.args=0:=by rw[r];rfl
  simp[C,D,E,L,r,f173]
theorem eF:∀n,zg prog 173 (zi false [] (FC (fun c=>int c.fault) n)):=by
 intro n
 induction n with
 |zero=>exact lE ⟨_,func173,by kernel_rfl,by kernel_rfl⟩
 |succ n a=>
  have b:AM.Good (zcS n) (fun g=>([]:List Nat).contains g):=zI mixed ⟨a,by simp,rM,by simp,JV,by simp,cK,by simp,aV,by simp,trivial⟩;exact qq (fn:=f173) b ⟨_,func173,by kernel_rfl,rfl,by kernel_rfl⟩ false [] _ fun args r h=>by obtain⟨c,rfl,d,rfl⟩:=WX h;exact⟨zC (ze 1) (by decide),_,gv n c d,qm _⟩
noncomputable abbrev zhO:Ctx:=qb prog [(173,GC fun c=>int c.fault),(172,GC fun c=>wq (J9 (c.rp 1)))]
theorem rN:zg prog 141 (GC fun c=>int c.check):=
 qq (fn:=f141) (zI (q:=[]) mixed ⟨eF zG,by simp,Bw,by simp,trivial⟩:AM.Good zhO _) ⟨_,func141,by kernel_rfl,rfl,by kernel_rfl⟩ false [] _ fun args r h=>by
  obtain⟨c,rfl,a,rfl⟩:=WX h;have b:=fun Y Z=>Wu (fun c=>int c.fault) c Y Z a.1
  have d:=fun Y Z=>Wu (fun c=>wq (J9 (c.rp 1))) c Y Z a.1
  have f:=M5 c;refine⟨zC (ze 1) (by decide),_,zo rfl ?_,qm _⟩;unfold wV.check;rw[←f];cases e:J9 (c.rp 1)
  ·simp[b,d,e,f141]
  ·simp[b,d,e,f141]
theorem eG(l:List Rg)(n:Int)(R:1≤n∧n≤20):zz C0 f144 [.sl 3 (l.map xv),int n]=some (int (vo l n)):=by
 refine zo rfl ?_;rw[vo];by_cases v:l.length=0
 ·have:l=[]:=qo.1 v;subst this;simp[f144]
 have p:¬l=[]:=fun h=>v (by rw[h];rfl)
 have E:((l.length:Int)==0)=false:=by simpa using p
 by_cases F:(200:Int)<l.length
 ·simp[E,v,p,F,f144]
 simp[E,v,p,F];refine zQ (fun k q Y Z=>q 0=.sl 3 (l.map xv)∧q 1=int n∧q 16=.sl 3 (l.map xv)∧q 17=int l.length∧q 18=int k∧∃a:Int,q 5=int a∧P9 n 0 none l=P9 n a (JE l k) (l.drop k)) l.length
  ⟨by simp,by simp,by simp,by simp,by simp,0,by simp,by simp[JE]⟩ ?_
 rintro k q Y Z S ⟨i,m,d,e,f,a,o,b⟩;by_cases c:k<l.length
 ·have T:i6.wrap ((k:Int)+1)=(k:Int)+1:=zn (by omega) (by omega);rw[DI c]at b;have g:(decide (l[k].2.2<0)||decide (n≤l[k].2.2))=!jg l[k].2.2 0 (n-1):=by simp only[jg];by_cases L:l[k].2.2<0<;>by_cases M:n≤l[k].2.2<;>simp[L,M]<;>omega
  cases z:jg l[k].2.2 0 (n-1)
  case false=>rw[z]at b g;simp at b;simp only[Bool.not_false]at g;simp[i,m,o,d,e,f,c,g,b,f144]
  rw[z]at g;simp only[Bool.not_true]at g;simp only[z,wi]at b;have r:((l[k].1 != a)||decide (l[k].2.1≤l[k].1))=rgO a l[k]:=rfl;cases A:rgO a l[k]
  case true=>rw[A]at r b;simp only[wi]at b;simp[i,m,o,d,e,f,c,g,r,b,f144]
  rw[A]at r;simp only[A,zU,wK]at b;by_cases s:(100000:Int)<l[k].2.1
  ·rw[zf s]at b;simp[i,m,o,d,e,f,c,g,r,s,b,f144]
  rw[zj s]at b;have t:JE l (k+1)=some l[k].2.2:=by simp[JE,c]
  by_cases N:k=0
  ·subst N;simp only[JE,wi,rgT,zU,wK]at b;have P:i6.wrap 1=1:=zn (by omega) (by omega);simp[i,m,o,d,e,f,c,g,r,s,P];exact⟨c,by rw[b,t];simp⟩
  ·obtain⟨j,rfl⟩:∃j,k=j+1:=⟨k-1,by omega⟩;have B:j<l.length:=by omega
   have G:i6.wrap ((j:Int)+1-1)=(j:Int):=by rw[zn (by omega) (by omega)];omega
   have u:i6.wrap (j:Int)=(j:Int):=zn (by omega) (by omega);have H:((j:Int)+1).toNat=j+1:=by omega
   have I:0<(j:Int)+1:=by omega
   have J:0≤(j:Int)+1:=by omega
   have K:(j:Int)+1<l.length:=by omega
   have Q:i6.wrap ((j:Int)+1+1)=(j:Int)+1+1:=zn (by omega) (by omega);have C:JE l (j+1)=some l[j].2.2:=by simp[JE,B]
   have w:(l[j+1].2.2==l[j].2.2)=rgT (some l[j].2.2) l[j+1]:=BEq.comm;rw[C]at b;cases x:rgT (some l[j].2.2) l[j+1]
   ·rw[x]at w;simp only[x,zU,wK]at b;simp[i,m,o,d,e,f,c,B,g,r,s,w,G,u,H,I,J,K,Q];exact⟨by omega,by rw[b,t]⟩
   ·rw[x]at w;simp only[x,wi]at b;simp[i,m,o,d,e,f,c,B,g,r,s,w,G,u,H,I,J,K,b,f144]
 ·obtain rfl:k=l.length:=by omega
  rw[zl,P9]at b;by_cases y:a=100000
  ·rw[zf y]at b;simp[i,m,o,d,e,f,y,b,f144]
  ·rw[zj y]at b;have D:(a != 100000)=true:=by simpa using y
   simp[i,m,o,d,e,f,D,b,f144]
theorem cM:zg prog 144 (zi false [] (FRN (fun l n=>int (vo l n)) fun _ n=>1≤n∧n≤20)):=
 qq (fn:=f144) w8 ⟨_,func144,by kernel_rfl,rfl,by kernel_rfl⟩ false [] _ fun args r h=>by obtain⟨⟨l,n⟩,rfl,a,rfl⟩:=zr h;exact⟨zC (ze 2) (by decide),_,eG l n a,qm _⟩
end Go.Q
