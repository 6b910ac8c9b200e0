/- Lemmas. -/
import Derived.RangeFuncBox
import Derived.RangeFuncLeaves
import Derived.Shelf.Abstract
import Derived.WalkKit
import Derived.OwnWalkIn
import Derived.TacticsInMore
import Derived.LoopNIn
import Derived.LoopIn
import Derived.Test.YtdlbkbojibiiaaaGreatDoorG6
set_option maxRecDepth 100000
set_option maxHeartbeats 4000000
open Go Proofs Proofs.YtdlbkbojibiiaaaGreatDoor Proofs.Tryz RowKit AM SpanLaw Q Zz
open Go.IntKind renaming i64→i6
namespace Go.Q
theorem pP:zg prog 252 (o1 5 253 UK domC):=
 EL (by decide) ⟨_,func252,by kernel_rfl,by kernel_rfl⟩ Tryz.zcc zg6
noncomputable def FBB (f:Bool->Bool->Bool):zb->Option O:=z6 (α:=Bool×Bool) (fun a=>[qz a.1,qz a.2]) (fun _=>True) (fun a=>qz (f a.1 a.2))
theorem Fo(f:Bool->Bool->Bool)(a b:Bool)(Y:Hp)(Z:Nat):zf false [] (FBB f) [qz a,qz b] Y Z=some (qz (f a b),Y,Z):=
 hPc (a,b) _ _ rfl (fun x y e=>by obtain⟨c,d⟩:=x;obtain⟨g,h⟩:=y;simp only[zh,zD]at e;rw[WR e.1,WR e.2]) trivial (.inl rfl)
theorem Fp:zg prog 204 (zf false [] (FBB and)):=
 pS1 yz func204 false [] fun⟨a,b⟩ _=>⟨by simp[f204],_,zm rfl (by cases a<;>simp[qS,f204]),zW _⟩
theorem LF:zg prog 205 (zf false [] (FBB or)):=
 pS1 yz func205 false [] fun⟨a,b⟩ _=>⟨by simp[f205],_,zm rfl (by cases a<;>simp[qS,f205]),zW _⟩
theorem tq{Y:Hp}{Z:Nat}{v:O}{l:List Cut}(h:wg Y Z 232 5 v (wB l))(hs:∀c∈l,c.v.small)(m:l.length<4611686018427387904) :
  ∃b,o1 5 253 UK domC [v,.fn (.func 253) [] []] Y Z=some (.wY [],b,Z)/\wg b Z 232 5 v (wB (Wi l))/\∀j,(∀n,v≠.own j 0 n)->b j=Y j:=by
 have a:(wB (Wi l)).length=(wB l).length:=by have:=(ZH l).length_eq;simpa[wB]using this
 rcases h with⟨rfl,o⟩|⟨id,g,rfl,d⟩
 ·refine⟨Y,rfl,.inl ⟨rfl,?_⟩,fun _ _=>rfl⟩;rw[o]at a;exact qv.1 a
 ·by_cases f:(wB l).length=0
  ·refine⟨Y,by simp only[o1,zd f],?_,fun _ _=>rfl⟩;have i:wB l=[]:=qv.1 f;rw[i]at a d;have p:=qv.1 a;rw[i,p];exact .inr ⟨id,g,rfl,d⟩
  ·refine⟨qR Y id (some ⟨232,5,true,wB (Wi l)⟩),?_,.inr ⟨id,g,by rw[a],by simp⟩,fun j q=>zt _ _ _ _ fun e=>q (wB l).length (by subst e;rfl)⟩;unfold o1;simp only[ze f,d];rw[zd ⟨rfl,rfl,rfl,by simp,by simpa[wB]using m,by simpa using UL l,fun x k=>by simp only[ym,wo]at k;obtain⟨c,r,rfl⟩:=wA.1 k;exact⟨c,rfl,hs c r⟩⟩]
   simp[LD]
theorem Ae{c:zb}{s:qZ}(h:Wa jQ c=s.V):∃d k l m n o e,c=[int s.lo.v.a,int s.lo.v.b,int s.lo.v.c,d,qz s.lo.after,k,l,m,n,o,e]/\n1 1 d=.sl 1 (zJ s.lo.v.pre)/\d.yo=true:=by
 have f:=xS jQ c;rw[h]at f;simp[qZ.V,Cut.V]at f
 match c,f with
 |[B,C,D,i,E,p,q,r,t,u,g],_=>simp[qZ.V,Cut.V]at h;obtain⟨w,x,y,j,z,F,G,H,I,J,A⟩:=h;subst w;subst x;subst y;subst z;refine⟨i,p,q,r,t,u,g,rfl,j,?_⟩;cases i<;>first|rfl|(simp[n1]at j)
theorem mc{out:List qZ}{m:Nat}(b:m<out.length)(g:out.length=m+1)(c:Cut):Wh out c=out.set m ⟨out[m].lo,c,false⟩:=by
 unfold Wh;have a:out≠[]:=by rintro rfl;simp at b
 rw[List.getLast?_eq_some_getLast a];have d:out.getLast a=out[m]:=by rw[List.getLast_eq_getElem];congr 1;omega
 simp only[d];apply List.ext_getElem
 ·simp;omega
 ·intro i hi f;rw[List.getElem_set];split
  ·rename_i e;subst e;rw[List.getElem_append_right (by simp;omega)];simp
  ·rw[List.getElem_append_left (by simp at hi⊢;omega)];simp
theorem Fq(a:Cut->Bool)(st:Bool×List qZ)(c:Cut)(h:st.1=true->st.2≠[]):(cJ a st c).1=true->(cJ a st c).2≠[]:=by obtain⟨o,out⟩:=st;unfold cJ;cases a c<;>cases o<;>simp at h⊢<;>assumption
theorem aD(l:List qZ)(c:Cut)(Y:Hp)(Z:Nat)(b:zlM l)(d:c.v.small):qG [.s 11 jQ,.g jP] (FRC fun l c=>qz (yH l c)) [.sl 11 (qb l),.agg c.V] Y Z=some (qz (yH l c),Y,Z):=
 xF (show zv Y [.sl 11 (qb l),.agg c.V]=some ([.sl 11 (qb l),.agg c.V],Y) by simp[Cut.V]) (by
  have e:(Sh.s 11 jQ).fix (.sl 11 (qb l))=.sl 11 (qb l):=by simp only[Sh.sO,qb,List.map_map];congr 1
  have f:(Sh.g jP).fix (.agg c.V)=.agg c.V:=by simp[Cut.V]
  show FRC _ [(Sh.s 11 jQ).fix (.sl 11 (qb l)),(Sh.g jP).fix (.agg c.V)]=_;rw[e,f];exact zE (V:=fun a:List qZ×Cut=>[O.sl 11 (qb a.1),.agg a.2.V]) (a:=(l,c)) zg5 ⟨b,d⟩) (.inl rfl)
noncomputable abbrev Ccmb:Ctx:=zQ prog [(252,o1 5 253 UK domC),(254,qG [.s 11 jQ,.g jP] (FRC fun l c=>qz (yH l c))),
 (204,zf false [] (FBB and)),(205,zf false [] (FBB or))]
theorem zc5:AM.Good Ccmb (fun g=>[254].contains g):=zw mixed ⟨pP,by simp,Co,fun _=>y7 _ _,Fp,by simp,LF,by simp,trivial⟩
theorem Af{l:List qZ}{k:Nat}(h:k<l.length):wv (l.take (k+1))=wv (l.take k)++(if l[k].yR=true then[l[k].lo]else[l[k].lo,l[k].hi]):=by rw[zR h,Ym];simp[wv]
theorem Fs(a:Cut->Bool){l:List Cut}{k:Nat}(h:k<l.length)(st:Bool×List qZ):XR a (l.take (k+1)) st=cJ a (XR a (l.take k) st) l[k]:=by unfold XR;rw[zR h,KG];rfl
theorem Ag(a b:List Cut):wB (a++b)=wB a++wB b:=by simp[wB]
noncomputable def YH (f:Bool->Bool->Bool) (a b:List qZ):Option kV:=if vr f a b=[]then none else some ⟨234,11,true,qb (vr f a b)⟩
theorem PO(i o n:Nat)(Y:Hp):WA (.own i o n) Y=qR Y i none:=rfl
theorem Ft{Y:Hp}{Z e s:Nat}{v:O}{xs:List zb}(h:wg Y Z e s v xs){j:Nat}(a:Z<=j):∀n,v≠.own j 0 n:=by
 rcases h with⟨rfl,_⟩|⟨id,b,rfl,_⟩
 ·intro n e;cases e
 ·intro n e;injection e with e;omega
theorem fk(f:Bool->Bool->Bool)(hv:O)(zca:∀x y Y Z,kd Ccmb Y Z (some hv) [qz x,qz y]=some (qz (f x y),Y,Z))(a b:List qZ)(ha:zlM a)(hb:zlM b) :
  ∃x Y Z,kj Ccmb f203 [.sl 11 (qb a),.sl 11 (qb b),hv] (fun _=>none) 0=some (x,Y,Z)/\Fm jQ (YH f a b) x Y Z:=by
 refine qw rfl ?_;have hsa:=ha;have hsb:=hb;obtain⟨ha1,ha2⟩:=ha;obtain⟨hb1,hb2⟩:=hb;unfold zx at ha1 hb1;obtain⟨ls,hls⟩:∃ls:List (List qZ),[a,b]=ls:=⟨_,rfl⟩;obtain⟨rows,S⟩:∃rows:List zb,[[O.sl 11 (qb a)],[.sl 11 (qb b)]]=rows:=⟨_,rfl⟩;have K:∀i,i<2->∃l:List qZ,(wv (ls.take (i+1)).flatten=wv (ls.take i).flatten++wv l)/\rows[i]?=some [O.sl 11 (qb l)]/\l.length<=2097152/\(∀s∈l,s.small)/\(wv (ls.take i).flatten).length<=4194304:=by
  intro i hi;rw[<-hls,<-S];rcases(by omega:i=0\/i=1)with rfl|rfl
  ·exact⟨a,by simp[wv],rfl,ha1,ha2,by simp[wv]⟩
  ·exact⟨b,by simp[Ym],rfl,hb1,hb2,by have:=QA a;simp;omega⟩
 simp[zz,zS,zy,S];refine zI (fun i U Y Z=>U 0=.sl 11 (qb a)/\U 1=.sl 11 (qb b)/\U 2=hv/\U 19=.own 0 0 2/\U 20=int 2/\U 21=int i/\1<=Z/\Y 0=some ⟨195,1,true,rows⟩/\(∀n,U 7≠.own 0 0 n)/\wg Y Z 232 5 (U 7) (wB (wv (ls.take i).flatten))) 2
  ⟨by simp,by simp,by simp,by simp,by simp,by simp,by simp,by simp,by simp,.inl ⟨by simp,by simp[wv,wB]⟩⟩ ?_
 rintro i U Y Z hi ⟨E,F,G,u,w,z,T,b0,L,A⟩;by_cases hlt:i<2
 ·obtain⟨l,hl,hr,hll,hls2,hcl⟩:=K i hlt;obtain⟨hr1,hr2⟩:=zn.1 hr;have hw:=zlL i;have p:(qb l).length=l.length:=by simp[qb]
  have hltI:(i:Int)<2:=by omega
  simp[E,F,G,u,w,z,hltI,hlt,b0,hr1,hr2,p];refine zI (fun k U Y Z=>U 0=.sl 11 (qb a)/\U 1=.sl 11 (qb b)/\U 2=hv/\U 19=.own 0 0 2/\U 20=int 2/\U 21=int i/\1<=Z/\Y 0=some ⟨195,1,true,rows⟩/\(∀n,U 7≠.own 0 0 n)/\wg Y Z 232 5 (U 7) (wB (wv (ls.take i).flatten++wv (l.take k))) /\
   U 25=.sl 11 (qb l)/\U 26=int l.length/\U 27=int k) l.length
   ⟨by simp[E],by simp[F],by simp[G],by simp[u],by simp[w],by simp[z],T,b0,by simpa using L,by simpa[wv]using A,by simp,by simp,by simp⟩ ?_
  clear E F G u w z T b0 L A hi U Y Z;rintro k U Y Z hk ⟨E,F,G,u,w,z,T,b0,L,A,h25,h26,h27⟩;by_cases j:k<l.length
  ·have H:=zlL k;have r:∀h:k<(qb l).length,(qb l)[k]=l[k].V:=fun h=>by simp[qb]
   have hcn:=QA (l.take k);rw[jn]at hcn;have hct:=Af j;obtain⟨xs,g⟩:=exI (wB (wv (ls.take i).flatten++wv (l.take k)));have B:xs.length<=8388608+2:=by rw[<-g];simp[wB];omega
   rw[g]at A;have hE:wB (wv (ls.take i).flatten++wv (l.take (k+1)))=xs++(if l[k].yR=true then[l[k].lo]else[l[k].lo,l[k].hi]).map Cut.V:=by rw[hct,<-qT,Ag,g];rfl
   have hkn:=fun Y'=>yl A Y' Z (Ft A (zl _))
   have hk0:=fun Y'=>yl A Y' 0 L
   obtain⟨s,hs⟩:=exI (l[k]);rw[hs]at hct r hE;have q:=wg.yL (P:=prog) (t:=267) (c:=s.lo.V) (A.more (some ⟨234,11,false,[s.V]⟩)) lS eI uK uL rfl (by omega) (by unfold maxLen;omega) (by omega);have W:=wg.after (Y:=qR Y Z (some ⟨234,11,false,[s.V]⟩)) (Z:=Z+1) (e:=232) (s:=5) (v:=U 7) (xs:=xs) (c:=s.lo.V) (tmp:=some ⟨232,5,true,[s.lo.V]⟩);have C:=wg.yL (P:=prog) (t:=267) (c:=s.hi.V) W lS eI uK uL rfl (by omega) (by simp;unfold maxLen;omega) (by simp;omega);rw[show(xs++[s.lo.V]).length=xs.length+1 by simp,qT,show[s.lo.V]++[s.hi.V]=[s.lo.V,s.hi.V]from rfl]at C;have X:=wg.after (Y:=qR (WA (U 7) (qR (qR Y Z (some ⟨234,11,false,[s.V]⟩)) (Z+1) (some ⟨232,5,true,[s.lo.V]⟩))) (Z+1+1) (some ⟨232,5,true,xs++[s.lo.V]⟩)) (Z:=Z+1+2) (e:=232) (s:=5) (v:=.own (Z+1+1) 0 (xs.length+1)) (xs:=xs++[s.lo.V]) (c:=s.hi.V) (tmp:=some ⟨232,5,true,[s.hi.V]⟩);rw[show(xs++[s.lo.V]).length=xs.length+1 by simp,qT,show[s.lo.V]++[s.hi.V]=[s.lo.V,s.hi.V]from rfl]at X;simp only[qZ.V,Cut.V,wI,wC]at q C W X r;have m1:¬Z=Z+1+1:=by omega
   have m2:¬Z=Z+1+2:=by omega
   have m3:¬Z=Z+1+2+1:=by omega
   have n1:¬0=Z:=by omega
   have n2:¬0=Z+1:=by omega
   have n3:¬0=Z+2:=by omega
   have n4:¬0=Z+3:=by omega
   have n5:¬0=Z+4:=by omega
   cases M:s.yR
   ·rw[M]at hct;rw[M]at q C W X r;simp[E,F,G,u,w,z,h25,h26,h27,j,p,r,q,C,hkn,H,m1,m2,m3,zz,zS,zy];refine⟨by omega,?_,?_⟩
    ·simp[PO,hk0,b0,n1]
    ·rw[hE,M];simp only[zF,qJ,wD,XD,Cut.V];exact X
   ·rw[M]at hct;rw[M]at q C W X r;simp[E,F,G,u,w,z,h25,h26,h27,j,p,r,q,hkn,H,m1,m2,m3,zz,zS,zy];refine⟨by omega,?_,?_⟩
    ·simp[hk0,b0,n1]
    ·rw[hE,M];simp only[qA,wD,XD,Cut.V];exact W
  ·obtain rfl:k=l.length:=by omega
   rw[wo,<-hl]at A;simp[E,F,G,u,w,z,h25,h26,h27,hw];exact⟨by omega,T,b0,L,A⟩
 ·obtain rfl:i=2:=by omega
  have hls3:(ls.take 2).flatten=a++b:=by rw[<-hls];simp
  rw[hls3]at A;have SQ:∀c∈wv (a++b),c.v.small:=JX (Q:=fun c=>c.v.small) fun s hs=>by
   rcases qg.1 hs with h|h
   ·exact ha2 s h
   ·exact hb2 s h
  have hcl:=QA (a++b);rw[qt]at hcl;obtain⟨Y',I,hO',hfr'⟩:=tq A SQ (by omega);obtain⟨v,hv7⟩:=exI (U 7);obtain⟨cs,hcs⟩:=exI (Wi (wv (a++b)));have hcsl:cs.length<=8388608:=by rw[<-hcs,(ZH _).length_eq];omega
  have hcsm:∀c∈cs,c.v.small:=fun c hc=>SQ c ((ZH _).mem_iff.1 (by rw[hcs];exact hc))
  have hfin:vr f a b=(XR (fun c=>f (yH a c) (yH b c)) cs (false,[])).2:=by rw[<-hcs,Ym];rfl
  obtain⟨is,his⟩:∃is:Cut->Bool,(fun c=>f (yH a c) (yH b c))=is:=⟨_,rfl⟩;have hisc:∀c,f (yH a c) (yH b c)=is c:=fun c=>by rw[<-his]
  rw[his]at hfin;rw[hv7]at I hO';rw[hcs]at hO';clear A hcs SQ K hls3;have hlen:=hO'.len lS;have p:(wB cs).length=cs.length:=by simp[wB]
  rw[p]at hlen;simp[E,F,G,u,w,z,hv7,I,hlen];refine zI (fun k U Y Z=>U 0=.sl 11 (qb a)/\U 1=.sl 11 (qb b)/\U 2=hv/\U 48=v/\U 49=int cs.length/\U 50=int k/\wg Y Z 232 5 v (wB cs)/\∃xs,wg Y Z 234 11 (U 12) xs/\xs.map (Wa jQ)=qb (XR is (cs.take k) (false,[])).2 /\
    U 13=qz (XR is (cs.take k) (false,[])).1/\(∀id n m,v=.own id 0 n->U 12≠.own id 0 m)/\((XR is (cs.take k) (false,[])).1=true->(XR is (cs.take k) (false,[])).2≠[])/\xs.length<=k/\(xs=[]->U 12=.nil)) cs.length
   ⟨by simp[E],by simp[F],by simp[G],by simp,by simp,by simp,hO',[],.inl ⟨by simp,rfl⟩,by simp[XR,qb],by simp[XR],by simp,by simp[XR],by simp,by simp⟩ ?_
  clear E F G u w z T b0 L hO' hi U Y Z hlt I hlen hfr' hv7 Y';rintro k U Y Z hk ⟨E,F,G,h48,h49,h50,A,xs,hX,g,N,er,S7,hxk,hxn⟩;by_cases j:k<cs.length
  ·have H:=zlL k;obtain⟨id,hid,rfl,hh⟩:=A.at_ (by rw[p];omega);have o:=Fs is j (false,[]);obtain⟨st,hst0⟩:=exI (XR is (cs.take k) (false,[]));obtain⟨c,hc⟩:=exI (cs[k]);rw[hc,hst0]at o;rw[hst0]at g N S7;have hopn:=Fq is st c S7;have D:c.v.small:=hcsm c (by rw[<-hc];exact zj j);have r:∀h:k<(wB cs).length,(wB cs)[k]=c.V:=fun h=>by simp[wB,hc]
   have hca:=fun Y Z=>aD a c Y Z hsa D
   have hcb:=fun Y Z=>aD b c Y Z hsb D
   have d:=fun Y Z=>zca (yH a c) (yH b c) Y Z
   rw[hisc c]at d;simp only[Cut.V]at hca hcb r;have m0:¬id=Z:=by omega
   have m1:¬id=Z+1:=by omega
   have m2:¬id=Z+1+1:=by omega
   rw[p]at A;have hki:=fun Y'=>yl hX Y' id (fun n=>er id _ n rfl)
   have hswS:cJ is st c=(is c,if(is c&&!st.1)=true then st.2++[yp c]else if(!is c&&st.1)=true then Wh st.2 c else st.2):=rfl;rw[hswS]at o;rw[hswS]at hopn;simp only at hopn;obtain⟨op,out⟩:=st;simp only at g N S7 hopn;cases hb:is c<;>cases op
   ·rw[hb]at d o;simp at o;simp[E,F,G,h48,h49,h50,p,j,hh,r,hca,hcb,d,N,H,m0,o];exact⟨by omega,A.more _,xs,hX.more _,g,fun i n m e _=>er i _ m (by rw[e]),by omega,hxn⟩
   ·rw[hb]at d o;simp at o;have hne:=S7 rfl;obtain⟨m,hm⟩:∃m,out.length=m+1:=⟨out.length-1,by have:=xa.2 hne;omega⟩;have B:xs.length=m+1:=by have:=zC List.length g;simp[qb]at this;omega
    obtain⟨R,hid2,J,hh2⟩:=hX.at_ (by omega);have Il:¬R=id:=fun e=>er id _ _ rfl (by rw[J,e])
    have zcd:¬id=R:=fun e=>Il e.symm
    have p0:¬R=Z:=by omega
    rw[B]at J;have hlm:m<xs.length:=by omega
    have OI:m<out.length:=by omega
    have hrm:Wa jQ xs[m]=out[m].V:=by
     have e1:(xs.map (Wa jQ))[m]?=(qb out)[m]?:=by rw[g]
     simp only[qQ,zq hlm,qb,zq OI,zK,qj]at e1;exact e1
    obtain⟨x3,x5,x6,x7,x8,x9,x10,K,hn3,Im⟩:=Ae hrm;have wm:=zpg (m:Int);have wm1:i6.wrap ((m:Int)+1-1)=(m:Int):=by rw[zi (by omega) (by omega)];omega
    simp[E,F,G,h48,h49,h50,p,j,hh,r,hca,hcb,d,N,H,m0,o,J,hh2,p0,wm,wm1,hlm,K,Im,jz];refine⟨by omega,.inr ⟨id,by omega,by rw[p],by simp[zcd,m0,hh]⟩,xs.set m [int out[m].lo.v.a,int out[m].lo.v.b,int out[m].lo.v.c,x3,qz out[m].lo.after,int c.v.a,int c.v.b,int c.v.c,.sl 1 (zJ c.v.pre),qz c.after,qz false],.inr ⟨R,by omega,by simp[B],by simp⟩,?_,fun i n k' e _ e2=>absurd (e2.trans e.symm) Il,by simp;omega,fun e=>by have:=zC List.length e;rw[bY,B]at this;cases this⟩;rw[zeR,g,mc OI hm c,qb,qb,zeR];simp[hn3,qZ.V,Cut.V]
   ·rw[hb]at d o;simp at o;have q:=wg.yL (P:=prog) (t:=195) (c:=[int c.v.a,int c.v.b,int c.v.c,.sl 1 (zJ c.v.pre),qz c.after,int 0,int 0,int 0,.nil,qz false,qz true]) (hX.more (some ⟨232,5,false,[c.V]⟩)) Ny uM Ez EA rfl (by omega) (by unfold maxLen;omega) (by omega);simp only[Cut.V]at q;simp[E,F,G,h48,h49,h50,p,j,hh,r,hca,hcb,d,N,H,m0,o,q,qe,qM,zz,zS,zy];refine⟨by omega,.inr ⟨id,by omega,by rw[p],by simp[hki,hh,m0,m1,m2]⟩,xs++[[int c.v.a,int c.v.b,int c.v.c,.sl 1 (zJ c.v.pre),qz c.after,int 0,int 0,int 0,.nil,qz false,qz true]],by simpa using wg.after,?_,fun i n m e _ e2=>by omega,by simp;omega⟩;rw[Kc,g];simp[qb,yp,qZ.V,Cut.V,Wy,zJ]
   ·rw[hb]at d o;simp at o;simp[E,F,G,h48,h49,h50,p,j,hh,r,hca,hcb,d,N,H,m0,o];exact⟨by omega,A.more _,xs,hX.more _,g,fun i n m e _=>er i _ m (by rw[e]),S7 rfl,by omega,hxn⟩
  ·obtain rfl:k=cs.length:=by omega
   rw[wo]at g;rw[<-hfin]at g;have B:xs.length=(vr f a b).length:=by have:=zC List.length g;simpa[qb]using this
   simp[E,F,G,h48,h49,h50,f203];unfold YH;rcases hX with⟨J,rfl⟩|⟨R,hid2,J,hh2⟩
   ·rw[zd (qv.1 B.symm)];exact J
   ·by_cases hz:vr f a b=[]
    ·rw[zd hz];rw[hz]at B;exact hxn (qv.1 B)
    ·rw[ze hz];refine⟨R,_,J,hh2,rfl,?_⟩;simp only[iF,g]
theorem Vj(l:List qZ):(Sh.s 11 jQ).fix (.sl 11 (qb l))=.sl 11 (qb l):=by simp only[Sh.sO,qb,List.map_map];congr 1
noncomputable def Fu:zb->Option (Option kV):=fun args=>
 match z6 (α:=List qZ×List qZ) (fun a=>[.sl 11 (qb a.1),.sl 11 (qb a.2),.fn (.func 204) [] []]) (fun a=>zlM a.1/\zlM a.2) (fun a=>YH and a.1 a.2) args with
 |some r=>some r
 |none=>z6 (α:=List qZ×List qZ) (fun a=>[.sl 11 (qb a.1),.sl 11 (qb a.2),.fn (.func 205) [] []]) (fun a=>zlM a.1/\zlM a.2) (fun a=>YH or a.1 a.2) args
theorem NR(g:O):∀a b:List qZ×List qZ,[O.sl 11 (qb a.1),.sl 11 (qb a.2),g]=[.sl 11 (qb b.1),.sl 11 (qb b.2),g]->a=b:=by rintro⟨f,h⟩ ⟨i,j⟩ e;simp only[zh,zD]at e;obtain⟨c,d⟩:=e;injection c with _ c;injection d with _ d;rw[xY c,xY d]
theorem tt:zg prog 203 (xu [.s 11 jQ,.s 11 jQ] Fu):=
 KP (fn:=f203) zc5 (zpi func203) _ jQ _ fun args r h=>by
  unfold Fu at h;split at h
  ·rename_i f e;injection h with h;subst h
   obtain⟨⟨a,b⟩,rfl,⟨c,d⟩,rfl⟩:=zp e;exact⟨by simp[f203],fk and _ (fun x y Y Z=>by simp[Fo]) a b c d⟩
  ·obtain⟨⟨a,b⟩,rfl,⟨c,d⟩,rfl⟩:=zp h;exact⟨by simp[f203],fk or _ (fun x y Y Z=>by simp[Fo]) a b c d⟩
theorem Fv(args:zb)(r:Option kV)(h:We 9 1 args=some r):args.length<=f168.ntmps/\∃x Y Z,kj C0 f168 args (fun _=>none) 0=some (x,Y,Z)/\aj r x Y Z:=by
 unfold We at h;split at h
 ·injection h with h;subst h;exact⟨by simp[f168],qw rfl (by simp[ZZ,VJ,f168,aj])⟩
 ·injection h with h;subst h;exact⟨by simp[f168],qw rfl (by simp[ZZ,VJ,f168,aj,zz,jU,AM.view,maxLen,zS,zy])⟩
 ·rename_i es;split at h
  ·rename_i d;obtain⟨rfl,a,b⟩:=d;injection h with h;subst h
   cases es with
   |nil=>exact absurd rfl a
   |cons c es=>
    unfold zx at b;simp at b;have e:es.length+1<=maxLen:=by unfold maxLen;omega
    have f:(es.length+1)*16<=140737488355328:=by omega
    refine⟨by simp[f168],qw rfl ?_⟩;simp[ZZ,VJ,f168,aj,zz,jU,AM.view,zS,zy,e,f]
  ·cases h
 ·cases h
theorem fl:zg prog 168 (jj [] (We 9 1)):=
 Q7 (fn:=f168) (code:=_) yz ⟨func168,by kernel_rfl,rfl,by kernel_rfl⟩ [] _ Fv
def idV(v:wQ):O:=.agg v.V
def idS(s:qZ):O:=.agg s.V
noncomputable def FVe (f:wQ->O):zb->Option O:=z6 (α:=wQ) (fun v=>[.agg v.V]) (fun v=>v.pre.length<=zx) f
theorem Fw(f:wQ->O)(v:wQ)(Y:Hp)(Z:Nat)(h:v.pre.length<=zx):qG [.g kJ] (FVe f) [.agg v.V] Y Z=some (f v,Y,Z):=
 xF (show zv Y [.agg v.V]=some ([.agg v.V],Y) by simp[wQ.V]) (by
  have c:(Sh.g kJ).fix (.agg v.V)=.agg v.V:=by simp[wQ.V]
  show FVe f [(Sh.g kJ).fix (.agg v.V)]=_;rw[c];exact zE (V:=fun v:wQ=>[O.agg v.V]) (a:=v) (fun a b e=>by simp only[zh,zD]at e;injection e with e;exact YF e) h) (.inr (by simp[wQ.V]))
noncomputable abbrev Ccpv:Ctx:=zQ prog [(168,jj [] (We 9 1))]
theorem zc6:Gd Ccpv:=zph mixed ⟨fl,trivial⟩
theorem iG(v:wQ)(y:O)(f:lF 1 (zJ v.pre) y)(h:v.pre.length<=zx):∃i,zr Ccpv f255 [.agg [int v.a,int v.b,int v.c,y]]=some i/\qW i (.agg v.V):=by
 obtain⟨a,b,c,p⟩:=v;refine Wb (sh:=.g kJ) rfl ?_;simp only at h f;generalize e:zJ p=T at f;have d:T.length<=zx:=by rw[<-e];simpa[zJ]using h
 cases f with
 |nil=>simp[jj,yP,We,av,wQ.V,e,f255]
 |em=>simp[jj,yP,We,av,wQ.V,e,f255]
 |sl=>rename_i j es;simp only[zV]at d;simp[jj,yP,We,av,wQ.V,e,d,f255]
theorem fm:zg prog 255 (qG [.g kJ] (FVe idV)):=
 xE (fn:=f255) zc6 (zpi func255) false [] _ fun args r h w S vs c=>by obtain⟨v,e,d,rfl⟩:=zp h;have a:=Va (hs:=[.g kJ]) c;rw[e]at a;obtain⟨u,f,i⟩:=Jr a;subst f;obtain⟨y,k,b⟩:=lR i (j:=3) (s:=1) (es:=zJ v.pre) (by simp[wQ.V]);obtain⟨l,m,n⟩:=iG v y k d;exact⟨_,l,.cons b .nil,by simp[f255],by simpa[wQ.V]using m,n⟩
noncomputable def FSt (f:qZ->O):zb->Option O:=z6 (α:=qZ) (fun s=>[.agg s.V]) qZ.small f
theorem UN(f:qZ->O)(s:qZ)(u:O)(Y:Hp)(Z:Nat)(h:s.small)(c:(Sh.g jQ).fix u=.agg s.V)(d:qH Y u=some (u,Y))(i:u.noOwn=true):qG [.g jQ] (FSt f) [u] Y Z=some (f s,Y,Z):=
 xF (show zv Y [u]=some ([u],Y) by simp only[zv,d]) (by show FSt f [(Sh.g jQ).fix u]=_;rw[c];exact zE (V:=fun v:qZ=>[O.agg v.V]) (a:=s) (fun a b e=>by simp only[zh,zD]at e;injection e with e;exact pN e) h) (.inr (by rw[q8,i];rfl))
noncomputable abbrev Ccps:Ctx:=zQ prog [(255,qG [.g kJ] (FVe idV))]
theorem zc7:AM.Good Ccps (fun g=>[255].contains g):=zw mixed ⟨fm,fun _=>y7 _ _,trivial⟩
theorem iH(s:qZ)(hs:s.small):zr Ccps f206 [.agg s.V]=some (.agg s.V):=by
 refine zm rfl ?_;have d:∀Y Z,qG [.g kJ] (FVe idV) [.agg [int s.lo.v.a,int s.lo.v.b,int s.lo.v.c,.sl 1 (zJ s.lo.v.pre)]] Y Z=some (.agg [int s.lo.v.a,int s.lo.v.b,int s.lo.v.c,.sl 1 (zJ s.lo.v.pre)],Y,Z):=fun Y Z=>Fw idV s.lo.v Y Z hs.1.1
 have e:∀Y Z,qG [.g kJ] (FVe idV) [.agg [int s.hi.v.a,int s.hi.v.b,int s.hi.v.c,.sl 1 (zJ s.hi.v.pre)]] Y Z=some (.agg [int s.hi.v.a,int s.hi.v.b,int s.hi.v.c,.sl 1 (zJ s.hi.v.pre)],Y,Z):=fun Y Z=>Fw idV s.hi.v Y Z hs.2.1
 simp[qZ.V,Cut.V,d,e,qS,f206,jz]
theorem fo:zg prog 206 (qG [.g jQ] (FSt idS)):=
 yc (fn:=f206) zc7 (zpi func206) _ _ fun args r h=>by obtain⟨s,rfl,a,rfl⟩:=zp h;exact⟨by simp[f206],_,iH s a,qW.refl _⟩
theorem QB{l:za}{n:Int}(h:kG l=some n):0<=n/\n<=999999:=by
 unfold kG at h;split at h
 ·rename_i a;injection h with h
  obtain⟨b,c⟩:=pt a.1;obtain⟨m,d,e⟩:=Xa l 0 c;have f:Lib.decNat l=some m:=by unfold Lib.decNat;rw[ze (by simpa using b)];exact d
  have g:m<10 ^ 6:=jF (by simpa using e) (Nat.pow_le_pow_right (by omega) a.2);have i:n=(m:Int):=by rw[<-h];unfold B5;rw[f];rfl
  omega
 ·cases h
theorem PQ{v:wQ}(h:yT v=0):(0<=v.a/\v.a<=999999)/\(0<=v.b/\v.b<=999999)/\(0<=v.c/\v.c<=999999)/\v.pre.length<=10/\∀p∈v.pre,wX p=false:=by
 unfold yT at h;split at h
 ·rename_i d;simp only[jD,zH,zP]at d;split at h
  ·cases h
  ·rename_i g;split at h
   ·cases h
   ·rename_i e;refine⟨d.1,d.2.1,d.2.2,by omega,fun p Y=>?_⟩;cases f:wX p with
    |false=>rfl
    |true=>exact absurd (vy.2 ⟨p,Y,f⟩) e
 ·cases h
theorem zc8{t:za}{v:wQ}(h:eU t=some v):yT v=0:=by
 unfold eU at h;split at h
 ·split at h
  ·split at h
   ·rename_i a;injection h with h
    rw[<-h];exact a
   ·cases h
  ·cases h
 ·cases h
theorem LG{p:za}(h:wX p=false):p.length<=20:=by simp only[wX,wZ,jr]at h;omega
theorem nO:∀(l:List za) (p q:Part) (i:Nat),yB p i l=some q->(0<=p.n0/\p.n0<=999999)/\(0<=p.n1/\p.n1<=999999)/\(0<=p.n2/\p.n2<=999999)/\0<=p.has/\p.has<=i/\(1<=i->1<=p.has)/\p.pre=[] ->
  (0<=q.n0/\q.n0<=999999)/\(0<=q.n1/\q.n1<=999999)/\(0<=q.n2/\q.n2<=999999)/\0<=q.has/\q.has<=i+l.length/\(1<=i+l.length->1<=q.has)/\q.pre=[]
 |[],p,q,i,h,Y=>by
  simp only[yB]at h;injection h with h
  subst h;simpa using Y
 |t::l,p,q,i,h,Y=>by
  simp only[yB]at h;split at h
  ·rename_i r hs;obtain⟨a,b,c,d,e,f,g⟩:=Y;have m:(0<=r.n0/\r.n0<=999999)/\(0<=r.n1/\r.n1<=999999)/\(0<=r.n2/\r.n2<=999999)/\0<=r.has/\r.has<=(i+1:Nat)/\(1<=i+1->1<=r.has)/\r.pre=[]:=by
    unfold w9 at hs;split at hs
    ·rename_i j;injection hs with hs
     obtain⟨n,k⟩:=Option.isSome_iff_exists.1 j.1;have o:=QB k;rw[k]at hs;simp only[YS]at hs;subst hs;have s:=j.2;unfold Part.put;split<;>simp only<;>refine⟨?_,?_,?_,?_,?_,?_,g⟩<;>first|assumption|omega
    ·split at hs
     ·rename_i u;injection hs with hs
      subst hs;exact⟨a,b,c,d,by omega,fun _=>f (by omega),g⟩
     ·cases hs
   have:=nO l r q (i+1) h m;rw[zV];refine⟨this.1,this.2.1,this.2.2.1,this.2.2.2.1,?_,?_,this.2.2.2.2.2.2⟩
   ·have:=this.2.2.2.2.1;omega
   ·intro _;exact this.2.2.2.2.2.1 (by omega)
  ·cases h
def Wj(l:List za):Prop:=l.length<=10/\∀p∈l,wX p=false
theorem KQ{l:List za}(h:Wj l):xg l:=⟨by have:=h.1;unfold zx;omega,fun p Y=>by have:=LG (h.2 p Y);unfold zx;omega⟩
theorem Ah(s sep:za):qu s sep≠[]:=by
 unfold qu Lib.split;intro h;cases a:Lib.count s sep with
 |zero=>rw[a]at h;cases h
 |succ n=>rw[a]at h;simp only[Lib.splitK]at h;split at h<;>cases h
theorem Vk{t:za}(h:(z7 t).2=true):(z7 t).1.ok/\Wj (z7 t).1.pre:=by
 unfold z7 at h⊢;split at h
 ·rename_i a;rw[zd a];split at h
  ·rename_i v i;obtain⟨b,c,d,e,f⟩:=PQ (zc8 i);exact⟨⟨b,c,d,⟨by simp,by simp⟩,KQ ⟨e,f⟩⟩,e,f⟩
  ·cases h
 ·rename_i a;rw[ze a];split at h
  ·cases h
  ·rename_i j;rw[ze j];split at h
   ·rename_i p Y;have:=nO _ wy p 0 Y (by simp[wy]);obtain⟨b,c,d,e,f,k,l⟩:=this;have m:=xa.2 (Ah t [46]);have g:Wj p.pre:=by rw[l];exact⟨by simp,by simp⟩
    exact⟨⟨b,c,d,⟨k (by omega),by show p.has<=3;omega⟩,KQ g⟩,g⟩
   ·cases h
def Zw.xP(c:Zw):Prop:=c.sign.length<=3/\(c.sign=jS\/((c.p.ok/\Wj c.p.pre)/\(c.sign=[45]->c.tu.ok/\Wj c.tu.pre)))
theorem Zw.xP.ok{c:Zw}(h:c.xP):c.ok:=⟨by have:=h.1;unfold zx;omega,h.2.imp id fun⟨a,b⟩=>⟨a.1,fun e=>(b e).1⟩⟩
theorem Vl:∀(gs:List za) (s:za),(wS gs s).1=[]\/(wS gs s).1∈gs
 |[],s=>.inl rfl
 |g::l,s=>by
  simp only[wS];split
  ·exact .inr (by simp)
  ·exact(Vl l s).imp id fun h=>by simp[h]
theorem Fx{s:za}(h:s=[]\/s∈wH):s.length<=3/\s≠[45]:=by
 rcases h with rfl|h
 ·simp
 ·simp only[wH,zA,zb4,or_false]at h;rcases h with rfl|rfl|rfl|rfl|rfl|rfl|rfl<;>simp
theorem PR{w:za}{l l':List za}{c:Zw}(h:kZ w l=some (c,l')):c.xP/\l'.length<=l.length:=by
 refine⟨?_,UE h⟩;have a:=Fx (Vl wH w);unfold kZ at h;split at h
 ·injection h with h;injection h with h _;subst h;exact⟨by simp[iA,jS],.inl rfl⟩
 ·split at h
  ·split at h
   ·split at h
    ·rename_i b;injection h with h;injection h with h _;subst h
     exact⟨a.1,.inr ⟨Vk b,fun e=>absurd e a.2⟩⟩
    ·cases h
   ·cases h
  ·split at h
   ·rename_i b;injection h with h;injection h with h _;subst h
    exact⟨a.1,.inr ⟨Vk b,fun e=>absurd e a.2⟩⟩
   ·cases h
theorem Ai:∀(n:Nat) (a:List za) (l:List Zw),yQ n a=some l->(∀c∈l,c.xP)/\l.length<=a.length
 | 0,a,l,h=>by
  simp only[yQ]at h;injection h with h;subst h
  exact⟨by simp,by simp⟩
 |n+1,[],l,h=>by
  simp only[yQ]at h;injection h with h;subst h
  exact⟨by simp,by simp⟩
 |n+1,w::a,l,h=>by
  simp only[yQ]at h;split at h
  ·rename_i c l' hs;obtain⟨e,g⟩:=PR hs;cases b:yQ n l' with
   |none=>rw[b]at h;cases h
   |some r=>
    rw[b]at h;simp only[zK,qj]at h;subst h;obtain⟨f,i⟩:=Ai n l' r b;refine⟨fun x d=>?_,by simp;omega⟩;rcases zA.1 d with rfl|d
    ·exact e
    ·exact f x d
  ·cases h
theorem PS{t:za}(h:(Wx t).2=true):(∀c∈(Wx t).1,c.xP)/\(Wx t).1.length<=t.length+1:=by
 have n:(wO (qu t [32])).length<=t.length+1:=zG (zhO _ _) (ZG (by simp));have f:∀d:List za,d=wO (qu t [32])->((match yQ d.length d with
   |some l=>(l,!l.isEmpty)
   |none=>([],false)):List Zw×Bool).2=true->(∀c∈((match yQ d.length d with
   |some l=>(l,!l.isEmpty)
   |none=>([],false)):List Zw×Bool).1,c.xP)/\((match yQ d.length d with
   |some l=>(l,!l.isEmpty)
   |none=>([],false)):List Zw×Bool).1.length<=t.length+1:=by
  intro d e i;cases j:yQ d.length d with
  |none=>rw[j]at i;cases i
  |some l=>obtain⟨o,k⟩:=Ai _ _ _ j;exact⟨o,by rw[e]at k;exact zG k n⟩
 unfold Wx at h⊢;split at h
 ·rename_i a b c e;split at h
  ·rename_i g;simp only[zH]at h;rw[zd g];refine⟨fun x m=>?_,by simp⟩;simp only[jG]at m;subst m;exact⟨by simp,.inr ⟨Vk h.1,fun _=>Vk h.2⟩⟩
  ·rename_i g;rw[ze g];have:=f [a,b,c] (by rw[e]) h;exact this
 ·exact f _ rfl h
def Cut.xP(c:Cut):Prop:=Wj c.v.pre
theorem Cut.xP.small{c:Cut}(h:c.xP):c.v.small:=KQ h
theorem Aj:Wy.xP:=⟨by simp[Wy],by simp[Wy]⟩
theorem vV:wu.xP:=⟨by simp[wu],by simp[wu,wX,ia,Vc,vR,yS,V9,pr]⟩
theorem aE(p:Part)(i:Nat):(jM p i).xP:=by
 have h:(jM p i).v.pre=[[48]]:=by unfold jM;split<;>rfl
 have:=vV;unfold Cut.xP at this⊢;rw[h];exact this
theorem pQ{p:Part}(h:Wj p.pre):(Qc p).xP:=h
theorem bD{p:Part}(h:Wj p.pre):(xm p).xP:=by
 unfold xm;split
 ·exact aE _ _
 ·exact h
theorem YI{a b:Cut}(c:a.xP)(d:b.xP):(iu a b).length<=1/\∀s∈iu a b,s.lo.xP/\s.hi.xP:=by
 unfold iu;split
 ·exact⟨by simp,by simp⟩
 ·refine⟨by simp,fun s hs=>?_⟩;simp only[jG]at hs;subst hs;exact⟨c,d⟩
theorem QM{a:Cut}(b:a.xP):([yp a]:List qZ).length<=1/\∀s∈[yp a],s.lo.xP/\s.hi.xP:=by refine⟨by simp,fun s hs=>?_⟩;simp only[jG]at hs;subst hs;exact⟨b,Aj⟩
theorem Vm{c:Zw}(b:c.xP):(xh c).1.length<=1/\∀s∈(xh c).1,s.lo.xP/\s.hi.xP:=by
 obtain⟨_,b⟩:=b;unfold xh;by_cases d:c.sign=jS
 ·rw[zd d];exact QM vV
 rw[ze d];obtain⟨⟨_,Y⟩,g⟩:=b.resolve_left d;have a:=pQ Y;have f:=bD Y;split
 ·exact QM a
 split
 ·exact YI vV a
 split
 ·exact QM f
 split
 ·exact YI vV f
 split
 ·rename_i e;exact YI a (bD (g e).2)
 split
 ·exact YI a (aE _ _)
 split
 ·exact YI a (aE _ _)
 ·exact YI a f
def js(l:List qZ):Prop:=∀s∈l,s.lo.xP/\s.hi.xP
theorem js.small{l:List qZ}(h:js l)(a:l.length<=zx):zlM l:=⟨a,fun s hs=>⟨(h s hs).1.small,(h s hs).2.small⟩⟩
theorem vt(f:Bool->Bool->Bool){a b:List qZ}(c:js a)(d:js b):js (vr f a b):=Ad Aj f c d
def sT:List za->Option (List (List Zw))
 |[]=>some []
 |s::l=>if(Wx s).2=true then(sT l).map ((Wx s).1::·)else none
noncomputable def JY:List Zw->List qZ->Option (List qZ)
 |[],m=>some m
 |c::l,m=>if(xh c).2=true then JY l (vr and m (xh c).1)else none
noncomputable def XT:List (List Zw)->List qZ->Option (List qZ)
 |[],o=>some o
 |l::a,o=>match JY l [yp wu]with
  |some m=>XT a (vr or o m)
  |none=>none
noncomputable def xv (t:za):List qZ×Int:=if(400:Int)<t.length then([],2)else match sT (qu t [124,124])with
 |none=>([],10)
 |some a=>match XT a []with
  |none=>([],1)
  |some o=>if(100:Int)<o.length then([],2)else(o,0)
theorem pR:∀(l:List Zw) (m r:List qZ),(∀c∈l,c.xP)->js m->JY l m=some r->js r/\r.length<=m.length+l.length
 |[],m,r,_,a,h=>by
  simp only[JY]at h;injection h with h;subst h
  exact⟨a,by simp⟩
 |c::l,m,r,b,a,h=>by
  simp only[JY]at h;split at h
  ·obtain⟨g,d⟩:=Vm (b c (by simp));obtain⟨e,i⟩:=pR l _ r (fun x f=>b x (by simp[f])) (vt and a d) h;have:=JI and m (xh c).1;exact⟨e,by simp only[zV];omega⟩
  ·cases h
theorem pS:∀(l:List za) (d:List (List Zw)) (n:Nat),(∀s∈l,s.length<=n)->sT l=some d->(∀a∈d,(∀c∈a,c.xP)/\a.length<=n+1)/\d.length=l.length
 |[],d,n,_,h=>by
  simp only[sT]at h;injection h with h;subst h
  exact⟨by simp,rfl⟩
 |s::l,d,n,e,h=>by
  simp only[sT]at h;split at h
  ·rename_i hs;cases b:sT l with
   |none=>rw[b]at h;cases h
   |some r=>
    rw[b]at h;simp only[zK,qj]at h;subst h;obtain⟨f,g⟩:=pS l r n (fun x i=>e x (by simp[i])) b;obtain⟨j,k⟩:=PS hs;have:=e s (by simp);refine⟨fun a b=>?_,by simp[g]⟩;rcases zA.1 b with rfl|b
    ·exact⟨j,by omega⟩
    ·exact f a b
  ·cases h
attribute [local go_sem] Oper.semAt_some
theorem LH{P:Program}{g:FuncId}{F:zb->Option O}{us:List Value}{v:Value}(h:xB True P g (zf false [] F))(hF:zf false [] F (us.map O.v) (fun _=>none) 0=some (.v v,fun _=>none,0))(d:∀u∈us,lit u=true){W:World}(i:OB P W fun b=>b<W.heap.size) :
  Calls P g us.toArray W fun e w'=>e=.returned v/\Fr True W (fun _=>False) w':=by
 have j:Zip (qx W (fun b=>b<W.heap.size) (fun _=>⟨0,0,0⟩) 0) (us.map O.v) us:=by
  induction us with
  |nil=>exact .nil
  |cons u us f=>exact .cons (.c (.v (d u (by simp)))) (by
    clear hF;have:∀us:List Value,(∀u∈us,lit u=true)->Zip (qx W (fun b=>b<W.heap.size) (fun _=>⟨0,0,0⟩) 0) (us.map O.v) us:=by
     intro us
     induction us with
     |nil=>intro _;exact .nil
     |cons u us f=>intro h;exact .cons (.c (.v (h u (by simp)))) (f fun x a=>h x (by simp[a]))
    exact this us fun x a=>d x (by simp[a]))
 refine(h.2 _ _ _ _ _ _ hF W (fun b=>b<W.heap.size) (fun _=>⟨0,0,0⟩) us (gU _ (fun b l=>l) i) j).mono fun e w' m=>?_
 obtain⟨x,o,p,rfl,st,a⟩:=m;obtain⟨rfl,_⟩:=a.yq;exact⟨rfl,⟨st.fr.os,st.fr.tape,st.fr.output,st.fr.size,st.fr.drawn,fun k n _=>st.fr.block k n fun⟨_,_,h,_⟩=>by cases h⟩⟩
theorem nQ{W b:World}{L:Nat->Prop}(h:Fr True W L b){a:Addr}{v:Value}(c:W.cell? a=some v)(d:¬L a.block):b.cell? a=some v:=by rw[<-c];exact bd (h.block _ (Nn c) d)
def b5(l:List za):List Value:=l.map fun p=>.string ⟨p.toArray⟩
def UO(w:World)(b:Nat):Nat:=match w.cell? ⟨b,0,none⟩with
 |some (.string s)=>s.size
 |_=>0
def xl(w:World)(b:Nat)(v:Value):Prop:=∃cs ty,w.heap[b]?=some (.cells cs ty (0,0))/\cs[0]?=some v
theorem xl.cell{w:World}{b:Nat}{v:Value}(h:xl w b v):w.cell? ⟨b,0,none⟩=some v:=by obtain⟨cs,ty,a,c⟩:=h;simp[World.cell?,a,c]
theorem xl.free{w:World}{b:Nat}{v:Value}(h:xl w b v):w.frozen? ⟨b,0,none⟩=false:=by obtain⟨cs,ty,a,c⟩:=h;simp[World.frozen?,a]
theorem xl.same{w w':World}{b:Nat}{v:Value}(h:xl w b v)(e:w'.heap[b]?=w.heap[b]?):xl w' b v:=by obtain⟨cs,ty,a,c⟩:=h;exact⟨cs,ty,e.trans a,c⟩
theorem xl.lt{w:World}{b:Nat}{v:Value}(h:xl w b v):b<w.heap.size:=by obtain⟨cs,ty,a,c⟩:=h;exact(qE.1 a).1
theorem xl.set{w:World}{b:Nat}{v:Value}(u:Value)(h:xl w b v):xl (w.setCell ⟨b,0,none⟩ u) b u:=by obtain⟨cs,ty,a,c⟩:=h;have d:=(qE.1 c).1;refine⟨cs.setIfInBounds 0 u,ty,?_,by simp[d]⟩;simp[World.setCell,Qv,a]
theorem xl.zce{w:World}{b:Nat}(u:Value)(B:Nat->Prop)(a:B b):Fr True w B (w.setCell ⟨b,0,none⟩ u):=
 ⟨rfl,rfl,rfl,by simp[World.setCell],fun _=>zl _,fun k _ c=>by
  have:¬b=k:=fun e=>c (e ▸ a)
  simp[World.setCell,Qv,this]⟩
theorem xl.str{w:World}{b:Nat}{s:ByteArray}(h:xl w b (.string s)):UO w b=s.size:=by unfold UO;rw[h.cell]
theorem Cp(n l B1 B2 B3:Nat)(sep t:za)(hs1:1<=sep.length)(hs2:sep.length<=zx)(ht:t.length<=zx)(h12:B1≠B2)(h23:B3≠B2)(J Jx:List Value->World->Prop)
  (hJ:∀pre W W',J pre W->Fr True W (fun b=>b=B1\/b=B2\/b=B3) W'->J pre W') (hGl:∀pre W,J pre W->OB prog W fun b=>b<W.heap.size)
  (hY:∀pre x W,J pre W->(b5 (qu t sep))[pre.length]?=some x->YieldAt Fence.wide n prog l #[x] W fun e W'=>(e=.returned (.bool true)/\J (pre++[x]) W'/\(∀b,(b=B1\/b=B2\/b=B3)->W'.heap[b]?=W.heap[b]?)/\W.heap.size<=W'.heap.size)\/(e=.returned (.bool false)/\Jx (pre++[x]) W'))
  (W:World) (h0:J [] W) (h1:W.cell? ⟨B1,0,none⟩=some (.string ⟨sep.toArray⟩)) (h2:xl W B2 (.string ⟨t.toArray⟩)) (h3:W.cell? ⟨B3,0,none⟩=some (.int .i64 0)) :
  CallsIn Fence.wide (n+1) prog 289 #[.func (.yield l) #[] #[],.pointer (some ⟨B1,0,none⟩),.pointer (some ⟨B2,0,none⟩),.pointer (some ⟨B3,0,none⟩)] W fun e W'=>(∃v,e=.returned v)/\(J (b5 (qu t sep)) W'\/∃pre,Jx pre W'):=by
 refine callsIn_of_wp func289 rfl trivial ?_ rfl;simp only[Tryz.ntmps289,jY,zV,ku,Nat.reduceAdd,Nat.reduceSub,Array.replicate_succ,Array.replicate_zero,List.push_toArray,List.append_toArray,wC,wI];have h2c:=h2.cell;have hse:((sep.length:Int)==0)=false:=ya.2 (by omega)
 gi_wp2
 try simp only[hse]
 have hx:∀cur:za,cur.length<=zx->∀wr:World,OB prog wr (fun b=>b<wr.heap.size)->Calls prog 193 #[.string ⟨cur.toArray⟩,.string ⟨sep.toArray⟩] wr fun e w'=>e=.returned (.int .i64 (Lib.index cur sep))/\Fr True wr (fun _=>False) w':=fun cur hc wr hg=>by exact LH (us:=[.string ⟨cur.toArray⟩,.string ⟨sep.toArray⟩]) eK (Vb cur sep _ _ hc hs2) (by simp[lit]) hg
 gi_loopw [] (fun wr=>∃(done:List za) (cur:za),qu t sep=done++qu cur sep/\cur.length<=t.length/\J (b5 done) wr/\wr.cell? ⟨B1,0,none⟩=some (.string ⟨sep.toArray⟩)/\xl wr B2 (.string ⟨cur.toArray⟩)/\wr.cell? ⟨B3,0,none⟩=some (.int .i64 0))
  (fun wr=>UO wr B2)
 case atStart=>exact⟨[],t,rfl,zl _,h0,h1,h2,h3⟩
 case round=>
  obtain⟨done,cur,hsp,hcl,hJs,c1,k2,c3⟩:=hrel;have c2:=k2.cell;have hg:=hGl _ _ hJs
  gi_wp2
  refine⟨trivial,sM.2 ((hx cur (zG hcl ht) wr hg).mono ?_)⟩;rintro e w1 ⟨rfl,fr⟩;dsimp only;have d1:=nQ fr c1 (fun h=>h);have m2:=k2.same (fr.block _ k2.lt fun h=>h);have d2:=m2.cell;have d3:=nQ fr c3 (fun h=>h);have hJ1:=hJ _ _ _ hJs ⟨fr.os,fr.tape,fr.output,fr.size,fr.drawn,fun k hk _=>fr.block k hk fun h=>h⟩;have hel:(b5 done).length=done.length:=by simp[b5]
  by_cases hneg:Lib.index cur sep<0
  ·have hsk:qu cur sep=[cur]:=by
    have hm:Lib.index cur sep=-1:=by
     rcases Lib.index_spec cur sep with⟨h,_⟩|⟨i,h,_⟩
     ·exact h
     ·omega
    unfold qu Lib.split;rw[Lib.count_miss hm];rfl
   have hu:(b5 (qu t sep))[(b5 done).length]?=some (.string ⟨cur.toArray⟩):=by rw[hsp,hsk,hel];simp[b5]
   obtain⟨fn,tmps,assign,body,hy,hR⟩:=hY _ _ w1 hJ1 hu
   gi_wp2
   refine hR.mono ?_;rintro e W3 (⟨rfl,hJ3,hk3,hz3⟩|⟨rfl,hJx3⟩)
   ·gi_wp2
    go_end0
    refine⟨⟨_,rfl⟩,.inl ?_⟩;rw[hsp,hsk];simpa[b5]using hJ3
   ·gi_wp2
    go_end0
    exact⟨⟨_,rfl⟩,.inr ⟨_,hJx3⟩⟩
  ·obtain⟨i,hi⟩:∃i:Nat,Lib.index cur sep=i:=⟨(Lib.index cur sep).toNat,by omega⟩;have hne:sep≠[]:=by rintro rfl;simp at hs1
   have hsk:qu cur sep=cur.take i::qu (cur.drop (i+sep.length)) sep:=by unfold qu Lib.split;rw[Lib.count_hit hne hi,DT 1,dk hi]
   have htk:(cur.drop (i+sep.length)).take (cur.length-(i+sep.length))=cur.drop (i+sep.length):=qq (by simp);have hroom:=Lib.index_room cur sep (by omega);rw[hi]at hroom;unfold zx at ht hs2;have hwi:wrap64 (i:Int)=(i:Int):=by unfold wrap64;omega
   have hu:(b5 (qu t sep))[(b5 done).length]?=some (.string ⟨(cur.take i).toArray⟩):=by rw[hsp,hsk,hel];simp[b5]
   obtain⟨fn,tmps,assign,body,hy,hR⟩:=hY _ _ w1 hJ1 hu;rw[hi]
   gi_wp2
   refine hR.mono ?_;rintro e W3 (⟨rfl,hJ3,hk3,hz3⟩|⟨rfl,hJx3⟩)
   ·have e1:W3.cell? ⟨B1,0,none⟩=some (.string ⟨sep.toArray⟩):=by rw[<-d1];exact bd (hk3 B1 (.inl rfl))
    have o2:=m2.same (hk3 B2 (.inr (.inl rfl)));have e2:=o2.cell;have e4:=o2.free;have e3:W3.cell? ⟨B3,0,none⟩=some (.int .i64 0):=by rw[<-d3];exact bd (hk3 B3 (.inr (.inr rfl)))
    gi_wp2
    go_roundw
    case rel=>
     refine⟨done++[cur.take i],cur.drop (i+sep.length),by rw[hsp,hsk];simp,by simp;omega,?_,?_,?_,?_⟩
     ·have:=hJ _ _ _ hJ3 (xl.zce (w:=W3) (b:=B2) (.string ⟨(cur.drop (i+sep.length)).toArray⟩) (fun b=>b=B1\/b=B2\/b=B3) (.inr (.inl rfl)));simpa[b5]using this
     ·exact nQ (xl.zce (w:=W3) (b:=B2) _ (fun b=>b=B2) rfl) e1 h12
     ·exact o2.set (.string ⟨(cur.drop (i+sep.length)).toArray⟩)
     ·exact nQ (xl.zce (w:=W3) (b:=B2) _ (fun b=>b=B2) rfl) e3 h23
    case measure=>have:=o2.set (.string ⟨(cur.drop (i+sep.length)).toArray⟩);rw[this.str,k2.str];simp;omega
   ·gi_wp2
    refine bodyPost_ret (results_none rfl _ _ _) rfl ?_;exact⟨⟨_,rfl⟩,.inr ⟨_,hJx3⟩⟩
def fp:Q1:=fun cap Y=>match cap with
 |[.ref b 0 0,.ref a 0 0,.ref c 0 0]=>match Y b,Y a,Y c with
  |some ⟨_,1,false,[[.v (.string sep)]]⟩,some ⟨_,1,false,[[.v (.string t)]]⟩,some ⟨_,1,false,[[.v (.int .i64 0)]]⟩=>
   if b≠a/\c≠a/\1<=sep.data.toList.length/\sep.data.toList.length<=zx/\t.data.toList.length<=zx then some ((qu t.data.toList sep.data.toList).map str,qR (qR (qR Y b none) a none) c none)else none
  |_,_,_=>none
 |_=>none
theorem iI{P:Program}{w:World}{S:Nat->Prop}{G:Nat->GI}{Y:Hp}{Z id e:Nat}{u:Value}(hi:Inv P w S G Y Z)(c:Y id=some ⟨e,1,false,[[.v u]]⟩):xl w (G id).g u:=by have b:=hi.live id _ c;have hs:(G id).s=1:=b.bs.symm;obtain⟨a,d,j,f⟩:=b.row (by omega);obtain⟨x,h,i⟩:=f 0 0 [.v u] (.v u) rfl rfl;obtain⟨rfl,_⟩:=i.2.1.yq;exact⟨a,e,d,by simpa[hs]using h⟩
theorem LI:Ep True prog 289 fp:=by
 refine⟨⟨_,func289,by kernel_rfl,by kernel_rfl⟩,fun cap Y Z xs Y1 h=>?_⟩;unfold fp at h;split at h
 case h_2=>cases h
 rename_i d c i3;split at h
 case h_2=>cases h
 rename_i e1 sep e2 t e3 r q s;split at h
 case isFalse=>cases h
 rename_i E;obtain⟨u,v,x,y,F⟩:=E;injection h with h
 injection h with H a;subst H;subst a;have f:∀id b,qR (qR (qR Y d none) c none) i3 none id=some b->Y id=some b/\id≠d/\id≠c/\id≠i3:=fun id b a=>by
  by_cases m:id=i3
  ·subst m;rw[yd]at a;cases a
  rw[wM _ _ _ _ m]at a;by_cases o:id=c
  ·subst o;rw[yd]at a;cases a
  rw[wM _ _ _ _ o]at a;by_cases p:id=d
  ·subst p;rw[yd]at a;cases a
  rw[wM _ _ _ _ p]at a;exact⟨a,p,o,m⟩
 refine⟨b5 (qu t.data.toList sep.data.toList),by simp[b5],by simp[b5,lit],fun id b a=>(f id b a).1,fun w S G vs hi j=>?_⟩;obtain⟨v1,r1,rfl,I,j⟩:=j.kc;obtain⟨v2,r2,rfl,K,j⟩:=j.kc;obtain⟨v3,r3,rfl,L,j⟩:=j.kc;obtain rfl:=j.YU;have M:=iI hi r;have N:=iI hi q;have P:=iI hi s;obtain⟨_,rfl⟩:=I.JC;obtain⟨_,rfl⟩:=K.JC;obtain⟨_,rfl⟩:=L.JC;have z:(G d).g≠(G c).g:=fun e=>u (hi.inj _ _ _ _ r q e)
 have A:(G i3).g≠(G c).g:=fun e=>v (hi.inj _ _ _ _ s q e)
 refine⟨fun b=>b=(G d).g\/b=(G c).g\/b=(G i3).g,?_,?_⟩
 ·have k:∀i blk,Y i=some blk->(i=d\/i=c\/i=i3)->vo Y G (G i).g/\cp S G (qR (qR (qR Y d none) c none) i3 none) (G i).g:=fun i blk a B=>
   ⟨⟨i,blk,a,rfl⟩,hi.apart i blk a,fun id Q hid e=>by
     obtain⟨R,p,o,m⟩:=f id Q hid;have:=hi.inj _ _ _ _ R a e;subst this;rcases B with h|h|h
     ·exact p h
     ·exact o h
     ·exact m h⟩
  rintro b (rfl|rfl|rfl)
  ·exact k d _ r (.inl rfl)
  ·exact k c _ q (.inr (.inl rfl))
  ·exact k i3 _ s (.inr (.inr rfl))
 ·intro n l J T X hJx C hY W h0 D _;have:=Cp n l (G d).g (G c).g (G i3).g sep.data.toList t.data.toList x y F z A J T X C hY W h0 (M.same (D _ (.inl rfl))).cell (N.same (D _ (.inr (.inl rfl)))) (P.same (D _ (.inr (.inr rfl)))).cell;simpa using this
end Go.Q
namespace Go.AM
def dv(P:Program)(l:Qq)(g:FuncId)(it:Q1):Ctx:=⟨P,lookup l,fun _=>[],fun _=>[],fun _=>false,fun _=>[],fun k=>if k=g then some it else none⟩
@[simp]theorem zks(P:Program)(l:Qq)(g:FuncId)(it:Q1):(dv P l g it).P=P:=rfl
@[simp]theorem zkt(P:Program)(l:Qq)(k:FuncId)(it:Q1)(Y:Hp)(Z g:Nat)(x y xs:zb):kd (dv P l k it) Y Z (some (.fn (.func g) x y)) xs=(lookup l g).bind fun s=>s (x++xs++y) Y Z:=by unfold kd dv;simp only;cases lookup l g<;>rfl
@[simp]theorem UP(P:Program)(l:Qq)(k:FuncId)(it:Q1)(i:Nat)(a:Array Oper)(d:Bool)(st:St)(K:Exit->St->Prop):ZY (dv P l k it) (.region i a d) st K=uG (dv P l k it) a a.toList st (K7 K):=JP _ i a d st K rfl rfl
theorem UQ{P:Program}{l:Qq}{q:List Nat}{k:FuncId}{it:Q1}(b:P.follows .mixedOrders=true)(h:de True P q l)(hi:Pe P k it):AM.Good (dv P l k it) (fun g=>q.contains g):=
 let g:=zw b h
 ⟨g.spec,g.quiet,g.mixed,(fun _ _ h=>by cases h),(fun j a h=>by
  have:(if j=k then some it else none)=some a:=h;split at this
  ·rename_i e;injection this with this
   subst this;subst e;exact hi
  ·cases this)⟩
@[simp]theorem znv(C:Ctx)(b:Code)(K:Exit->St->Prop)(st:St):asgK C b K .normal st=ZY C b st K:=rfl
@[simp]theorem znw(I:Nat->Hp->Nat->Prop)(k:Nat)(U:Nat->O)(K:Exit->St->Prop)(st:St):rngK I k U K .normal st=I (k+1) st.Y st.Z:=rfl
@[simp]theorem znx(I:Nat->Hp->Nat->Prop)(k:Nat)(U:Nat->O)(K:Exit->St->Prop)(st:St):rngK I k U K .ret st=K .ret ⟨U,st.Y,st.Z⟩:=rfl
theorem vu{Y:Hp}{Z e s:Nat}{v:O}{xs:List zb}(h:wg Y Z e s v xs){j:Nat}{b:kV}(a:Y j=some b)(c:b.arr=false):∀n,v≠.own j 0 n:=by
 rcases h with⟨rfl,_⟩|⟨id,f,rfl,d⟩
 ·intro n e;cases e
 ·intro n e;injection e with e
  subst e;rw[d]at a;injection a with a
  subst a;cases c
end Go.AM
namespace Go.Q
noncomputable def pT (t:za):O:=.wY [.sl 11 (qb (xv t).1),int (xv t).2]
theorem pU:zg prog 241 (we C0 f241):=zpj yz func241
noncomputable abbrev Csq:Ctx:=zQ prog [(241,we C0 f241)]
theorem zg7:Gd Csq:=zph mixed ⟨pU,trivial⟩
theorem LJ:zg prog 199 (we Csq f199):=zpj zg7 func199
def hpSq(t sep:za)(Y:Hp)(Z:Nat):Hp:=qR (qR (qR Y Z (some ⟨9,1,false,[[str t]]⟩)) (Z+1) (some ⟨9,1,false,[[str sep]]⟩)) (Z+1+1) (some ⟨3,1,false,[[int 0]]⟩)
theorem Cq(t sep:za)(Y:Hp)(Z:Nat):we C0 f241 [str t,str sep,int 0] Y Z=some (.fn (.func 289) [] [.ref (Z+1) 0 0,.ref Z 0 0,.ref (Z+1+1) 0 0],hpSq t sep Y Z,Z+1+1+1):=by unfold we;rw[zd (by simp[f241])];refine yu rfl ?_;simp[hpSq,f241]
theorem UR(t sep:za)(Y:Hp)(Z:Nat):we Csq f199 [str t,str sep] Y Z=some (.fn (.func 289) [] [.ref (Z+1) 0 0,.ref Z 0 0,.ref (Z+1+1) 0 0],hpSq t sep Y Z,Z+1+1+1):=by
 have a:=fun Y Z=>Cq t sep Y Z
 unfold we;rw[zd (by simp[f199])];refine yu rfl ?_;simp[a,f199]
def K2(Y:Hp)(Z:Nat)(v:O)(m:List qZ):Prop:=v=.sl 11 (qb m)\/(v=.nil/\m=[])\/∃id,id<Z/\v=.own id 0 (qb m).length/\Y id=some ⟨234,11,true,qb m⟩
theorem K2.frz{Y:Hp}{Z:Nat}{v:O}{m:List qZ}(h:K2 Y Z v m):∃y Y1,qH Y v=some (y,Y1)/\(Sh.s 11 jQ).fix y=.sl 11 (qb m)/\(∀j,(∀n,v≠.own j 0 n)->Y1 j=Y j)/\∀j b,Y1 j=some b->Y j=some b:=by
 rcases h with rfl|⟨rfl,rfl⟩|⟨id,f,rfl,c⟩
 ·exact⟨_,Y,rfl,Vj m,fun _ _=>rfl,fun _ _ h=>h⟩
 ·exact⟨_,Y,rfl,rfl,fun _ _=>rfl,fun _ _ h=>h⟩
 ·refine⟨.sl 11 (qb m),qR Y id none,by simp[c],Vj m,fun j d=>zt _ _ _ _ fun e=>d _ (by subst e;rfl),fun j b a=>?_⟩;by_cases e:j=id
  ·subst e;rw[yd]at a;cases a
  ·rwa [wM _ _ _ _ e]at a
theorem K2.keep{Y a:Hp}{Z b:Nat}{v:O}{m:List qZ}(h:K2 Y Z v m)(f:Z<=b)(c:∀id,id<Z->(∀n,v=.own id 0 n->a id=Y id)):K2 a b v m:=by
 rcases h with rfl|⟨rfl,rfl⟩|⟨id,d,rfl,e⟩
 ·exact .inl rfl
 ·exact .inr (.inl ⟨rfl,rfl⟩)
 ·exact .inr (.inr ⟨id,by omega,rfl,by rw[c id d _ rfl];exact e⟩)
theorem K2.len{Y:Hp}{Z:Nat}{v:O}{m:List qZ}(h:K2 Y Z v m):VK prog 195 v=some (int m.length):=by rcases h with rfl|⟨rfl,rfl⟩|⟨id,a,rfl,b⟩<;>simp[qb]
theorem K2.box{Y:Hp}{Z:Nat}{v:O}{m:List qZ}(h:K2 Y Z v m){j:Nat}{b:kV}(a:Y j=some b)(c:b.e≠234):∀n,v≠.own j 0 n:=by
 rcases h with rfl|⟨rfl,rfl⟩|⟨id,f,rfl,d⟩
 ·intro n e;cases e
 ·intro n e;cases e
 ·intro n e;injection e with e
  subst e;rw[d]at a;injection a with a
  subst a;exact c rfl
theorem K2.lt{Y:Hp}{Z:Nat}{v:O}{m:List qZ}(h:K2 Y Z v m){j n:Nat}(e:v=.own j 0 n):j<Z:=by
 rcases h with rfl|⟨rfl,rfl⟩|⟨id,a,rfl,b⟩
 ·cases e
 ·cases e
 ·injection e with e;omega
theorem zc9(c:Zw)(Y:Hp)(Z:Nat)(h:c.ok):qG [.g Cj] (FCm KO) [.agg c.V] Y Z=some (KO c,Y,Z):=
 xF (show zv Y [.agg c.V]=some ([.agg c.V],Y) by simp[Zw.V]) (by
  have d:(Sh.g Cj).fix (.agg c.V)=.agg c.V:=by simp[Zw.V]
  show FCm KO [(Sh.g Cj).fix (.agg c.V)]=_;rw[d];exact zE (V:=fun v:Zw=>[O.agg v.V]) (a:=c) (fun a b e=>by simp only[zh,zD]at e;injection e with e;exact PH e) h) (.inr (by simp[Zw.V]))
theorem Fy(f:Bool->Bool->Bool)(g:Nat)(D:(f=and/\g=204)\/(f=or/\g=205)){Y:Hp}{Z:Nat}{v w:O}{a b:List qZ}(E:K2 Y Z v a)(F:K2 Y Z w b)(h:∀id n k,v=.own id 0 n->w≠.own id 0 k)(A:zlM a)(B:zlM b) :
  ∃x i l,xu [.s 11 jQ,.s 11 jQ] Fu [v,w,.fn (.func g) [] []] Y Z=some (x,i,l)/\K2 i l x (vr f a b)/\Z<=l/\(∀j,j<Z->(∀n,v≠.own j 0 n)->(∀n,w≠.own j 0 n)->i j=Y j)/\(∀n j,x=.own j 0 n->Z<=j)/\∀s es,x≠.sl s es:=by
 obtain⟨y,Y1,G,H,m,_⟩:=E.frz;have o:K2 Y1 Z w b:=F.keep (zl _) fun id _ n e=>m id fun I J=>h id I n J e
 obtain⟨z,Y2,K,L,C,_⟩:=o.frz;have d:zv Y [v,w,.fn (.func g) [] []]=some ([y,z,.fn (.func g) [] []],Y2):=by simp only[zv,G,K];rfl
 have hF:Fu (eH [.s 11 jQ,.s 11 jQ] (yP [] [y,z,.fn (.func g) [] []]))=some (YH f a b):=by
  show Fu [(Sh.s 11 jQ).fix y,(Sh.s 11 jQ).fix z,.fn (.func g) [] []]=_;rw[H,L];rcases D with⟨rfl,rfl⟩|⟨rfl,rfl⟩
  ·have:=zE (V:=fun a:List qZ×List qZ=>[O.sl 11 (qb a.1),.sl 11 (qb a.2),.fn (.func 204) [] []]) (pre:=fun a=>zlM a.1/\zlM a.2) (out:=fun a=>YH and a.1 a.2) (a:=(a,b)) (NR _) ⟨A,B⟩;unfold Fu;rw[this]
  ·have:=zE (V:=fun a:List qZ×List qZ=>[O.sl 11 (qb a.1),.sl 11 (qb a.2),.fn (.func 205) [] []]) (pre:=fun a=>zlM a.1/\zlM a.2) (out:=fun a=>YH or a.1 a.2) (a:=(a,b)) (NR _) ⟨A,B⟩;have p:z6 (α:=List qZ×List qZ) (fun a=>[O.sl 11 (qb a.1),.sl 11 (qb a.2),.fn (.func 204) [] []]) (fun a=>zlM a.1/\zlM a.2) (fun a=>YH and a.1 a.2) [O.sl 11 (qb a),.sl 11 (qb b),.fn (.func 205) [] []]=none:=by
    cases M:z6 (α:=List qZ×List qZ) (fun a=>[O.sl 11 (qb a.1),.sl 11 (qb a.2),.fn (.func 204) [] []]) (fun a=>zlM a.1/\zlM a.2) (fun a=>YH and a.1 a.2) [O.sl 11 (qb a),.sl 11 (qb b),.fn (.func 205) [] []]with
    |none=>rfl
    |some r=>obtain⟨_,e,_⟩:=zp M;simp at e
   unfold Fu;rw[p];exact this
 unfold xu jj;by_cases q:vr f a b=[]
 ·have c:=hF;unfold YH at c;rw[zd q]at c;simp only[d,c];exact⟨_,_,_,rfl,.inr (.inl ⟨rfl,q⟩),zl _,fun j _ t u=>(C j u).trans (m j t),fun n j e=>(by cases e),fun s es e=>(by cases e)⟩
 ·have c:=hF;unfold YH at c;rw[ze q]at c;simp only[d,c];exact⟨_,_,_,rfl,.inr (.inr ⟨Z,by omega,rfl,by simp⟩),by omega,fun j N t u=>by rw[zt _ _ _ _ (by omega)];exact(C j u).trans (m j t),fun n j e=>(by injection e with e;omega),fun s es e=>(by cases e)⟩
noncomputable abbrev Crrg:Ctx:=dv prog [(199,we Csq f199),(200,zf false [] (Kg Cn)),(201,qG [] (JW du)),(202,qG [.g Cj] (FCm KO)),(203,xu [.s 11 jQ,.s 11 jQ] Fu),(206,qG [.g jQ] (FSt idS))] 289 fp
theorem zg8:Gd Crrg:=UQ mixed ⟨LJ,by simp,ff,by simp,Vf,by simp,nf,by simp,tt,by simp,fo,by simp,trivial⟩ LI
theorem pV(t:za)(ht:t.length+1<=zx):∃r0,zr Crrg f164 [str t]=some r0/\qW r0 (pT t):=by
 refine yZ (sh:=.s 11 jQ) rfl ?_;by_cases T:(400:Int)<t.length
 ·have hv:xv t=([],2):=by unfold xv;rw[zd T]
  simp[T,pT,hv,qb,qC,f164]
 have hsq:=fun Y Z=>UR t [124,124] Y Z
 obtain⟨a,u⟩:=exI (qu t [124,124]);have hpl:∀p∈a,p.length<=400:=fun p Y=>by have:=xf (by rw[u];exact Y);omega
 have hpn:a.length<=401:=by have:=ZG (s:=t) (sep:=[124,124]) (by simp);rw[u]at this;omega
 have b:xv t=match sT a with
  |none=>([],10)
  |some ls=>match XT ls []with
   |none=>([],1)
   |some o=>if(100:Int)<o.length then([],2)else(o,0):=by unfold xv;rw[ze T,u]<;>rfl
 simp[T,hsq];refine Pd (p:=23) (xs:=a.map str) rfl (by simp;exact⟨rfl,rfl⟩) (it:=fp) rfl (by simp[fp,hpSq,u];exact⟨⟨by decide,by omega⟩,rfl⟩) (fun k Y Z=>∃(v:O) (done:List (List Zw)),6<=Z/\Y 0=some ⟨195,1,false,[[.nil]]⟩/\Y 1=some ⟨32,1,false,[[int 0]]⟩/\Y 2=some ⟨215,1,false,[[v]]⟩ /\
   wg Y Z 219 1 v (done.map fun l=>[.sl 11 (Qd l)])/\done.length=k/\sT a=(sT (a.drop k)).map (done++·)) ?_ ?_ ?_
 ·exact⟨.nil,[],by simp,by simp,by simp,by simp,.inl ⟨rfl,rfl⟩,rfl,by rw[ym];cases sT a<;>rfl⟩
 ·rintro k Y Z hk ⟨v,done,z,f,d,b2,C,hdk,he⟩;have hk':k<a.length:=by simpa using hk
  have hpk:(a.map str)[k]=str a[k]:=by simp
  have hpkl:=hpl a[k] (zj hk');have halt:=fun Y Z=>kK Cn a[k] Y Z (by unfold zx;omega)
  simp only[Cn]at halt;rw[hpk];rw[zc hk']at he;simp only[sT]at he;cases D:(Wx a[k]).2
  ·rw[D]at he;simp only[zF,qJ,xp]at he;rw[he]at b;have n0:¬0=Z:=by omega
   have n1:¬1=Z:=by omega
   simp[halt,D,f,d,pT,b,qb,qC,f164]
  ·rw[D]at he;simp only[qA]at he;have er:=wg.yL (P:=prog) (t:=215) (c:=[.sl 11 (Qd (Wx a[k]).1)]) C zfq zj7 zj8 zj9 rfl (by omega) (by simp[hdk];unfold maxLen;omega) (by simp[hdk];omega);have k0:=fun Y'=>yl C Y' 0 (vu C f rfl)
   have k1:=fun Y'=>yl C Y' 1 (vu C d rfl)
   have k2:=fun Y'=>yl C Y' 2 (vu C b2 rfl)
   have n0:¬0=Z:=by omega
   have n1:¬1=Z:=by omega
   have n2:¬2=Z:=by omega
   have n3:¬1=Z+1:=by omega
   have n4:¬2=Z+1:=by omega
   have n5:¬Z+1=2:=by omega
   simp[halt,D,f,d,b2,er,k0,k1,k2,n0,n1,n2,n3,n4,n5,zz,zS,zy];refine⟨by omega,by rw[zt _ _ _ _ (by omega),k1,zt _ _ _ _ (by omega)];exact d,done++[(Wx a[k]).1],.inr ⟨Z+1,by omega,by simp,by rw[zt _ _ _ _ (by omega)];simp⟩,by simp[hdk],?_⟩;rw[he];cases sT (a.drop (k+1))<;>simp
 ·rintro Y Z ⟨v,done,z,f,d,b2,C,hdk,he⟩;rw[jL]at hdk;rw[jL,zo]at he;simp only[sT,zK,kr]at he;obtain⟨zk9,hdl⟩:=pS a done 400 hpl he;rw[he]at b;simp only at b;have hlen:=C.len zfq;rw[jL]at hlen;have hdn:done.length<=401:=by omega
  obtain⟨r,L⟩:=exI (done.map (fun l=>[O.sl 11 (Qd l)]));rw[L]at C;have hrl:r.length=done.length:=by rw[<-L];simp
  simp[b2,hlen];refine zI (fun i U Y Z=>U 2=.ref 0 0 0/\U 3=.ref 1 0 0/\U 35=v/\U 36=int done.length/\U 37=int i/\6<=Z/\Y 0=some ⟨195,1,false,[[.nil]]⟩/\Y 1=some ⟨32,1,false,[[int 0]]⟩ /\
    wg Y Z 219 1 v r/\∃o,K2 Y Z (U 8) o/\(∀s es,U 8≠.sl s es)/\js o/\o.length<=i*500/\XT done []=XT (done.drop i) o) done.length
   ⟨by simp,by simp,by simp,by simp,by simp,z,f,d,C,[],.inr (.inl ⟨by simp,rfl⟩),by simp,(by intro s hs;cases hs),by simp,by simp⟩ ?_
  clear z f d b2 C hlen Y Z;rintro i U Y Z hi ⟨M,N,H,A,B,z,f,d,C,o,K,Q,hgo,hol,hj⟩;by_cases hlt:i<done.length
  ·obtain⟨idA,I,rfl,E⟩:=C.at_ (by omega);obtain⟨l,hl⟩:=exI (done[i]);have hri:∀h:i<r.length,r[i]=[O.sl 11 (Qd l)]:=fun h=>by
    have:r[i]?=some [O.sl 11 (Qd l)]:=by rw[<-L,qQ,zq hlt,hl];rfl
    rw[zq h]at this;injection this
   obtain⟨hgl,hll⟩:=zk9 l (by rw[<-hl];exact zj hlt);rw[zc hlt,hl]at hj;simp only[XT]at hj;have hev:∀(Y:Hp) (Z:Nat),qG [] (JW du) [] Y Z=some (.sl 11 (qb [yp wu]),Y,Z):=fun Y Z=>WW _ Y Z
   have hwi:=zlL i;have hel:(Qd l).length=l.length:=by simp[Qd]
   simp[M,N,H,A,B,hlt,hrl,E,hri,hev,hel];refine zI (fun k U Y Z=>U 2=.ref 0 0 0/\U 3=.ref 1 0 0/\U 35=.own idA 0 r.length/\U 36=int done.length/\U 37=int i/\6<=Z/\Y 0=some ⟨195,1,false,[[.nil]]⟩/\Y 1=some ⟨32,1,false,[[int 0]]⟩ /\
     wg Y Z 219 1 (.own idA 0 r.length) r/\K2 Y Z (U 8) o/\(∀s es,U 8≠.sl s es)/\U 42=.sl 11 (Qd l)/\U 43=int l.length/\U 44=int k/\∃m,K2 Y Z (U 11) m/\js m/\m.length<=k+1/\(∀id n n',U 8=.own id 0 n->U 11≠.own id 0 n')/\JY l [yp wu]=JY (l.drop k) m) l.length
    ⟨by simp[M],by simp[N],by simp[H,hrl],by simp[A],by simp[B],z,f,d,C,by simpa using K,by simpa using Q,by simp,by simp,by simp,[yp wu],.inl (by simp),(QM vV).2,by simp,by simp,by simp⟩ ?_
   clear M N H A B z f d C K Q hi E I U Y Z;rintro k U Y Z hk ⟨M,N,H,A,B,z,f,d,C,K,Q,h42,h43,h44,m,hM,hgm,hml,er,y⟩;by_cases W:k<l.length
   ·obtain⟨c,hc⟩:=exI (l[k]);have hcg:c.xP:=hgl c (by rw[<-hc];exact zj W);obtain⟨hs1,hs2⟩:=Vm hcg;have J:∀h:k<(Qd l).length,(Qd l)[k]=c.V:=fun h=>by simp[Qd,hc]
    have D6:=fun Y Z=>zc9 c Y Z hcg.ok
    have hwk:=zlL k;rw[zc W,hc]at y;simp only[JY]at y;have n0:¬0=Z:=by omega
    have n1:¬1=Z:=by omega
    cases D:(xh c).2
    ·rw[D]at y;simp only[zF,qJ]at y;rw[y]at hj;simp only at hj;rw[hj]at b;simp only at b;simp only[KO,Zw.V]at D6 J;simp[M,N,H,A,B,h42,h43,h44,W,hel,J,D6,D,f,d,n0,n1,pT,b,qb,qC,f164]
    ·rw[D]at y;simp only[qA]at y;have hM':K2 (qR Y Z (some ⟨226,11,false,[c.V]⟩)) (Z+1) (U 11) m:=hM.keep (by omega) fun id hid n e=>zt _ _ _ _ (by omega)
     obtain⟨x,Y',Z',F,hX,hnx',hfr,X,hxs⟩:=Fy and 204 (.inl ⟨rfl,rfl⟩) hM' (.inl rfl:K2 _ _ (.sl 11 (qb (xh c).1)) (xh c).1) (fun id n k e e2=>by cases e2) (hgm.small (by unfold zx;omega)) (js.small hs2 (by unfold zx;omega));have G:∀j,j<Z->(∀n,U 11≠.own j 0 n)->Y' j=Y j:=fun j hj q=>by rw[hfr j (by omega) q (fun n e=>by cases e),zt _ _ _ _ (by omega)]
     have hlm:=JI and m (xh c).1;obtain⟨idA2,I,R,E⟩:=C.at_ (by omega);injection R with R
     subst R;simp only[KO,Zw.V]at D6 J F;simp[M,N,H,A,B,h42,h43,h44,W,hel,J,D6,D,F,hwk];exact⟨by omega,by omega,by rw[G 0 (by omega) (hM.box f (by decide))];exact f,by rw[G 1 (by omega) (hM.box d (by decide))];exact d,.inr ⟨idA,by omega,rfl,by rw[G idA I (hM.box E (by simp))];exact E⟩,K.keep (by omega) (fun id hid n e=>G id hid fun n'=>er id n n' e),Q,_,hX,vt and hgm hs2,by omega,fun id n n' e e2=>by have:=K.lt e;have:=X _ _ e2;omega,y⟩
   ·obtain rfl:k=l.length:=by omega
    rw[zo]at y;simp only[JY]at y;rw[y]at hj;simp only at hj;obtain⟨x,Y',Z',F,hX,hnx',hfr,X,hxs⟩:=Fy or 205 (.inr ⟨rfl,rfl⟩) K hM er (hgo.small (by unfold zx;omega)) (hgm.small (by unfold zx;omega));have hlm:=JI or o m;obtain⟨idA2,I,R,E⟩:=C.at_ (by omega);injection R with R
    subst R;simp[M,N,H,A,B,h42,h43,h44,F,hwi];exact⟨by omega,hrl,by omega,by rw[hfr 0 (by omega) (K.box f (by decide)) (hM.box f (by decide))];exact f,by rw[hfr 1 (by omega) (K.box d (by decide)) (hM.box d (by decide))];exact d,.inr ⟨idA,by omega,by rw[hrl],by rw[hfr idA I (K.box E (by simp)) (hM.box E (by simp))];exact E⟩,_,hX,hxs,vt or hgo hgm,by omega,hj⟩
  ·obtain rfl:i=done.length:=by omega
   rw[zo]at hj;simp only[XT]at hj;rw[hj]at b;simp only at b;have S:=K.len;by_cases h100:(100:Int)<o.length
   ·rw[zd h100]at b;simp[M,N,A,B,S,h100,f,d,pT,b,qb,qC,f164]
   rw[ze h100]at b;simp[M,N,A,B,S,h100];obtain⟨w,hw8⟩:=exI (U 8);rw[hw8]at K Q;refine zI (fun j U Y Z=>U 2=.ref 0 0 0/\U 3=.ref 1 0 0/\U 8=w/\U 66=w/\U 67=int o.length/\U 68=int j/\6<=Z/\Y 0=some ⟨195,1,false,[[.nil]]⟩/\Y 1=some ⟨32,1,false,[[int 0]]⟩/\K2 Y Z w o) o.length
    ⟨by simp[M],by simp[N],by simp[hw8],by simp[hw8],by simp,by simp,z,f,d,K⟩ ?_
   clear M N H A B z f d C K hi hw8 U Y Z S;rintro j U Y Z hjl ⟨M,N,h8,h66,h67,h68,z,f,d,K⟩;by_cases hltj:j<o.length
   ·have hwj:=zlL j;rcases K with rfl|⟨rfl,rfl⟩|⟨id,hid,rfl,hb⟩
    ·exact absurd rfl (Q _ _)
    ·simp at hltj
    ·obtain⟨s,hs⟩:=exI (o[j]);have hgs:=hgo s (by rw[<-hs];exact zj hltj);have hel:(qb o).length=o.length:=by simp[qb]
     have J:∀h:j<(qb o).length,(qb o)[j]=s.V:=fun h=>by simp[qb,hs]
     have hset:(qb o).set j s.V=qb o:=by
      have h':j<(qb o).length:=by omega
      rw[<-J h'];exact List.set_getElem_self h'
     have hcp:∀Y Z,qG [.g jQ] (FSt idS) [.agg s.V] Y Z=some (.agg s.V,Y,Z):=fun Y Z=>UN idS s (.agg s.V) Y Z ⟨hgs.1.small,hgs.2.small⟩ (by simp[qZ.V,Cut.V]) (by simp[qZ.V,Cut.V]) (by simp[qZ.V,Cut.V])
     have m1:¬id=Z:=by omega
     simp only[qZ.V,Cut.V,wI,wC]at J hcp hset;have i0:¬0=id:=fun e=>by rw[<-e]at hb;rw[hb]at f;simp at f
     have i1:¬1=id:=fun e=>by rw[<-e]at hb;rw[hb]at d;simp at d
     have n0:¬0=Z:=by omega
     have n1:¬1=Z:=by omega
     simp[M,N,h8,h66,h67,h68,hltj,hel,hb,J,hcp,m1,hwj,hset];exact⟨by omega,by omega,by simp[i0,n0,f],by simp[i1,n1,d],.inr (.inr ⟨id,by omega,by rw[hel],by simp⟩)⟩
   ·obtain rfl:j=o.length:=by omega
    rcases K with rfl|⟨rfl,rfl⟩|⟨id,hid,rfl,hb⟩
    ·exact absurd rfl (Q _ _)
    ·simp[M,N,h8,h66,h67,h68,f,d,pT,b,qC,qb,f164]
    ·have i0:¬id=0:=fun e=>by rw[e]at hb;rw[hb]at f;simp at f
     have i1:¬id=1:=fun e=>by rw[e]at hb;rw[hb]at d;simp at d
     have hfx:=Vj o;simp only[Sh.sO,O.sl.injEq,true_and]at hfx;simp[M,N,h8,h66,h67,h68,f,d,hb,i0,i1,pT,b,qC,hfx,f164]
theorem XU:zg prog 164 (zf false [] (Kg pT)):=
 xE (fn:=f164) zg8 (zpi func164) false [] _ fun args r h w S vs a=>by obtain⟨l,rfl,Y,rfl⟩:=zp h;obtain⟨b,c,d⟩:=pV l Y;exact⟨_,b,a,by simp[f164],c,d⟩
def Kr(op:Int):Bool:=jD op 2 6||op==12
def ZW(op:Int):Bool:=jD op 7 11
def jx(op:Int):Bool:=jD op 3 6
noncomputable abbrev Cwi:Ctx:=zQ prog [(46,zf false [] (F3 jD))]
theorem LK:AM.Good Cwi (fun g=>[46].contains g):=zw mixed ⟨Wc,fun _=>zu _ _,trivial⟩
def ep(f:Int->Bool):zb->Option O
 |[.v (.int .i64 a)]=>some (qz (f a))
 |_=>none
theorem Ks{f:Int->Bool}{args:zb}{r:O}(h:ep f args=some r):∃a,args=[int a]/\r=qz (f a):=by
 unfold ep at h;split at h
 ·injection h with h;exact⟨_,rfl,h.symm⟩
 ·cases h
@[simp]theorem zku(f:Int->Bool)(a:Int)(Y:Hp)(Z:Nat):zf false [] (ep f) [.v (.int .i64 a)] Y Z=some (qz (f a),Y,Z):=zU rfl rfl (.inl rfl)
theorem Fz:zg prog 223 (zf false [] (ep Kr)):=
 zX (fn:=f223) LK (zpi func223) false [] _ fun args r h=>by obtain⟨a,rfl,rfl⟩:=Ks h;exact⟨by simp[f223],_,zm rfl (by simp[Kr,f223]),zW _⟩
theorem me:zg prog 185 (zf false [] (ep ZW)):=
 zX (fn:=f185) LK (zpi func185) false [] _ fun args r h=>by obtain⟨a,rfl,rfl⟩:=Ks h;exact⟨by simp[f185],_,zm rfl (by simp[ZW,f185]),zW _⟩
theorem aF:zg prog 120 (zf false [] (ep jx)):=
 zX (fn:=f120) LK (zpi func120) false [] _ fun args r h=>by obtain⟨a,rfl,rfl⟩:=Ks h;exact⟨by simp[f120],_,zm rfl (by simp[jx,f120]),zW _⟩
noncomputable abbrev Cms (n:Nat):Ctx:=zQ prog [(146,zf false [] (FC (fun c=>.wY [int c.parts,int c.levels]) n))]
theorem Cr(n:Nat)(c:qO)(h:c.cb<=zx/\c.cb<=n+1):zr (Cms n) f146 [.agg c.V]=some (.wY [int c.parts,int c.levels]):=by
 have q:=hZ c;have r:=bA c;have s:=Qb c;have f:=di c;have t:=Lo c;have u:=jW c.args;obtain⟨v,B⟩:=h;unfold zx at v;refine zm rfl ?_;simp;refine zI (fun k U Y Z=>U 9=.sl 7 (c.args.map qO.V)/\U 10=int c.args.length/\U 11=int k/\U 2=int ((1+jw (c.args.take k):Nat):Int)/\U 3=int (jl (c.args.take k))) c.args.length
  ⟨by simp,by simp,by simp,by simp[jw],by simp[jl]⟩ ?_
 rintro k U Y Z C ⟨l,d,e,g,i⟩;by_cases a:k<c.args.length
 ·obtain⟨m,w⟩:=zko a;have D:=vC (zj a);have y:=zlL k;have o:=uW c.args k;have j:=uW c.args (k+1);have z:=dj c.args fun x E=>hZ x
  have b:=fun Y Z=>ZQ (fun c=>.wY [int c.parts,int c.levels]) n c.args[k] Y Z ⟨by unfold zx;omega,by omega⟩
  have p:i6.wrap (((1+jw (c.args.take k):Nat):Int)+c.args[k].parts)=((1+jw (c.args.take (k+1)):Nat):Int):=by rw[zi (by omega) (by omega),m];omega
  have A:(if(jl (c.args.take k))<c.args[k].levels then(c.args[k].levels:Int)else jl (c.args.take k))=(jl (c.args.take (k+1)):Int):=by rw[w];split<;>omega
  simp[g,i,l,d,e,a,b,y];exact⟨by omega,by rw[zi (by omega) (by omega),m];omega,A⟩
 ·obtain rfl:k=c.args.length:=by omega
  rw[wo]at g i;have p:i6.wrap ((jl c.args:Int)+1)=(c.levels:Int):=by rw[zi (by omega) (by omega),f];omega
  simp[g,i,l,d,e,p,qS,f146];omega
theorem tw:∀n,zg prog 146 (zf false [] (FC (fun c=>.wY [int c.parts,int c.levels]) n)):=by
 intro n
 induction n with
 |zero=>exact eR ⟨_,func146,by kernel_rfl,by kernel_rfl⟩
 |succ n a=>
  have b:Gd (Cms n):=zph mixed ⟨a,trivial⟩;exact zX (fn:=f146) b (zpi func146) false [] _ fun args r h=>by obtain⟨c,rfl,d,rfl⟩:=WT h;exact⟨zG (zl 1) (by decide),_,Cr n c d,zW _⟩
def w1F(c:qO):Bool:=!(c.kind==4)&&(!c.attr.isEmpty||c.op != 0||decide (0<c.yC.length)||!c.pat.isEmpty)
def w2F(c:qO):Bool:=c.kind != 5&&!c.name.isEmpty
def w3F(c:qO):Bool:=!jD c.kind 1 3&&decide (0<c.args.length)
def w4F(c:qO):Bool:=c.kind==4&&!Kr c.op&&decide (0<c.yC.length)
def w5F(c:qO):Bool:=c.kind==4&&!ZW c.op&&!c.pat.isEmpty
def w6F(c:qO):Bool:=c.kind==3&&(c.args.length:Int) != 1
def w7F(c:qO):Bool:=c.kind==4&&jx c.op&&(c.yC.length:Int) != 1
def ZX(c:qO):Bool:=w1F c||w2F c||w3F c||w4F c||w5F c||w6F c||w7F c
noncomputable abbrev Cfo:Ctx:=zQ prog [(46,zf false [] (F3 jD)),(223,zf false [] (ep Kr)),(185,zf false [] (ep ZW)),(120,zf false [] (ep jx))]
theorem zg9:AM.Good Cfo (fun g=>[46,223,185,120].contains g):=zw mixed ⟨Wc,fun _=>zu _ _,Fz,fun _=>zu _ _,me,fun _=>zu _ _,aF,fun _=>zu _ _,trivial⟩
@[simp]theorem zkv:kg Cfo 223:=yI (by rfl) (zu _ _)
@[simp]theorem zkw:kg Cfo 185:=yI (by rfl) (zu _ _)
@[simp]theorem zkx:kg Cfo 120:=yI (by rfl) (zu _ _)
theorem pW(c:qO)(h:c.cb<=zx):zr Cfo f183 [.agg c.V]=some (int (if ZX c=true then 3 else 0)):=by
 refine zm rfl ?_;have a:(!(c.kind==4)&&(!c.attr.isEmpty||c.op != 0||decide (0<c.yC.length)||!c.pat.isEmpty))=w1F c:=rfl;have d:(c.kind != 5&&!c.name.isEmpty)=w2F c:=rfl;have f:(!jD c.kind 1 3&&decide (0<c.args.length))=w3F c:=rfl;have i:(c.kind==4&&!Kr c.op&&decide (0<c.yC.length))=w4F c:=rfl;have k:(c.kind==4&&!ZW c.op&&!c.pat.isEmpty)=w5F c:=rfl;have m:(c.kind==3&&(c.args.length:Int) != 1)=w6F c:=rfl;have o:(c.kind==4&&jx c.op&&(c.yC.length:Int) != 1)=w7F c:=rfl;cases b:w1F c
 case true=>simp[a,b,ZX,f183]
 cases e:w2F c
 case true=>simp[a,b,d,e,ZX,f183]
 cases g:w3F c
 case true=>simp[a,b,d,e,f,g,ZX,f183]
 cases j:w4F c
 case true=>simp[a,b,d,e,f,g,i,j,ZX,f183]
 cases l:w5F c
 case true=>simp[a,b,d,e,f,g,i,j,k,l,ZX,f183]
 cases n:w6F c
 case true=>simp[a,b,d,e,f,g,i,j,k,l,m,n,ZX,f183]
 cases p:w7F c
 case true=>simp[a,b,d,e,f,g,i,j,k,l,m,n,o,p,ZX,f183]
 simp[a,b,d,e,f,g,i,j,k,l,m,n,o,p,ZX,f183]
theorem nj:zg prog 183 (GC fun c=>int (if ZX c=true then 3 else 0)):=
 zX (fn:=f183) zg9 (zpi func183) false [] _ fun args r h=>by obtain⟨c,rfl,a,rfl⟩:=WT h;exact⟨by simp[f183],_,pW c a.1,zW _⟩
noncomputable def aG (p:Option qn) (v:qn):Bool:=match p with
 |none=>false
 |some p=>decide (0<=qV p v)
def FA(op:Int)(v:qn):Bool:=v.kind==0||jx op&&v.kind != 2
noncomputable def X1 (op:Int):Option qn->List qn->Int
 |_,[]=>0
 |p,v::l=>if v.check=0 then(if FA op v=true then 6 else if aG p v=true then 8 else X1 op (some v) l)else v.check
noncomputable def ZI (op:Int) (l:List qn):Int:=if(100:Int)<l.length then 2 else X1 op none l
def WB(l:List qn)(k:Nat):Option qn:=if k=0 then none else l[k-1]?
noncomputable def FIv (f:Int->List qn->O):zb->Option O:=z6 (α:=Int×List qn) (fun a=>[int a.1,.sl 5 (a.2.map qn.V)]) (fun a=>VG a.2<=zx) (fun a=>f a.1 a.2)
theorem US(f:Int->List qn->O)(op:Int)(l:List qn)(Y:Hp)(Z:Nat)(h:VG l<=zx):zf false [] (FIv f) [int op,.sl 5 (l.map qn.V)] Y Z=some (f op l,Y,Z):=
 hPc (op,l) _ _ (by simp) (fun x y e=>by obtain⟨c,d⟩:=x;obtain⟨g,i⟩:=y;simp only[zh,zD]at e;obtain⟨b,a⟩:=e;injection a with _ a;rw[qB b,ir a]) h (.inr (by simp))
noncomputable abbrev Ccv2:Ctx:=zQ prog [(28,GV fun v=>int v.check),(120,zf false [] (ep jx)),(157,zf false [] (Uu zx))]
theorem zda:AM.Good Ccv2 (fun g=>[120,157].contains g):=zw mixed ⟨l0,by simp,aF,fun _=>zu _ _,aA zx,fun _=>zu _ _,trivial⟩
@[simp]theorem ziZ:kg Ccv2 120:=yI (by rfl) (zu _ _)
theorem iJ(op:Int)(l:List qn)(h:VG l<=zx):zr Ccv2 f184 [int op,.sl 5 (l.map qn.V)]=some (int (ZI op l)):=by
 have A:=ju l;unfold zx at h;refine zm rfl ?_;by_cases c:(100:Int)<l.length
 ·have x:ZI op l=2:=by unfold ZI;rw[zd c]
  simp[c,x,f184]
 have x:ZI op l=X1 op none l:=by unfold ZI;rw[ze c]
 rw[x];simp[c];refine zI (fun k U Y Z=>U 0=int op/\U 1=.sl 5 (l.map qn.V)/\U 11=.sl 5 (l.map qn.V)/\U 12=int l.length/\U 13=int k/\X1 op none l=X1 op (WB l k) (l.drop k)) l.length
  ⟨by simp,by simp,by simp,by simp,by simp,by simp[WB]⟩ ?_
 rintro k U Y Z L ⟨p,q,d,e,f,a⟩;by_cases b:k<l.length
 ·have M:=kD (zj b);have B:=zlL k;have i:=fun Y Z=>Yj (fun v=>int v.check) l[k] Y Z (by unfold zx;omega)
  rw[zc b]at a;simp only[X1]at a;have r:WB l (k+1)=some l[k]:=by simp[WB,b]
  have m:(l[k].kind==0||jx op&&l[k].kind != 2)=FA op l[k]:=rfl;by_cases n:l[k].check=0
  case neg=>rw[ze n]at a;have y:=nzT n;simp[p,q,d,e,f,b,i,y,a,f184]
  rw[zd n]at a;cases g:FA op l[k]
  case true=>rw[g,zd rfl]at a;simp[p,q,d,e,f,b,i,n,m,g,a,f184]
  rw[g,ze (by simp)]at a;by_cases H:k=0
  ·subst H;have I:aG (WB l 0) l[0]=false:=rfl;rw[I,ze (by simp)]at a;simp[p,q,d,e,f,b,i,n,m,g,B];exact⟨by omega,by rw[a,show WB l 1=some l[0]from r];simp⟩
  ·obtain⟨j,rfl⟩:∃j,k=j+1:=⟨k-1,by omega⟩;have u:j<l.length:=by omega
   have J:=kD (zj u);have C:i6.wrap ((j:Int)+1-1)=(j:Int):=by rw[zi (by omega) (by omega)];omega
   have s:=zpg (j:Int);have D:((j:Int)+1).toNat=j+1:=by omega
   have E:0<(j:Int)+1:=by omega
   have F:0<=(j:Int)+1:=by omega
   have G:(j:Int)+1<l.length:=by omega
   have t:=fun Y Z=>YG zx l[j] l[j+1] Y Z ⟨by unfold zx;omega,by unfold zx;omega,by unfold zx;omega⟩
   have z:aG (WB l (j+1)) l[j+1]=decide (0<=qV l[j] l[j+1]):=by simp[WB,u,aG]
   rw[z]at a;by_cases w:0<=qV l[j] l[j+1]
   ·have o:decide (0<=qV l[j] l[j+1])=true:=by simpa using w
    rw[zd o]at a;simp[p,q,d,e,f,b,u,i,n,m,g,B,C,s,D,E,F,G,t,w,a,f184]
   ·have o:¬decide (0<=qV l[j] l[j+1])=true:=by simpa using w
    rw[ze o]at a;have K:=zpg ((j:Int)+1+1);simp[p,q,d,e,f,b,u,i,n,m,g,K,C,s,D,E,F,G,t,w];exact⟨by omega,by rw[a,r]⟩
 ·obtain rfl:k=l.length:=by omega
  rw[zo]at a;simp only[X1]at a;simp[p,q,d,e,f,a,f184]
theorem fq:zg prog 184 (zf false [] (FIv fun op l=>int (ZI op l))):=
 pS1 zda func184 false [] fun⟨op,l⟩ a=>⟨by simp[f184],_,iJ op l a,zW _⟩
noncomputable def Jt (op:Int) (s:za):Int:=if(500:Int)<s.length then 2 else if wi 32 126 s=true then(if op=11 then(xv s).2 else 0)else 1
noncomputable def FIs (f:Int->za->O):zb->Option O:=z6 (α:=Int×za) (fun a=>[int a.1,str a.2]) (fun a=>a.2.length<=zx) (fun a=>f a.1 a.2)
theorem UT(f:Int->za->O)(op:Int)(s:za)(Y:Hp)(Z:Nat)(h:s.length<=zx):zf false [] (FIs f) [int op,str s] Y Z=some (f op s,Y,Z):=
 hPc (op,s) _ _ rfl (fun x y e=>by obtain⟨a,b⟩:=x;obtain⟨c,d⟩:=y;simp only[zh,zD]at e;rw[qB e.1,q9 e.2]) h (.inr (by simp))
noncomputable abbrev Cpt:Ctx:=zQ prog [(164,zf false [] (Kg pT))]
theorem zha:Gd Cpt:=zph mixed ⟨XU,trivial⟩
theorem ft(op:Int)(s:za)(h:s.length<=zx):zr Cpt f186 [int op,str s]=some (int (Jt op s)):=by
 unfold zx at h;refine zm rfl ?_;by_cases a:(500:Int)<s.length
 ·have b:Jt op s=2:=by unfold Jt;rw[zd a]
  simp[a,b,f186]
 have i:=fun Y Z=>kK pT s Y Z (by unfold zx;omega)
 simp only[pT]at i;have b:Jt op s=if wi 32 126 s=true then(if op=11 then(xv s).2 else 0)else 1:=by unfold Jt;rw[ze a]
 simp[a];refine zI (fun k U Y Z=>U 0=int op/\U 1=str s/\U 12=int s.length/\U 13=int k/\wi 32 126 s=wi 32 126 (s.drop k)) s.length ⟨by simp,by simp,by simp,by simp,by simp⟩ ?_;rintro k U Y Z q ⟨l,m,c,d,g⟩;by_cases e:k<s.length
 ·have p:=zlL k;rw[xV e]at g;have o:=VX 32 126 s[k];simp only[vm]at o;cases n:pr 32 126 s[k]
  ·have g:wi 32 126 s=false:=by rw[g,n];rfl
   rw[g,ze (by simp)]at b;simp[l,m,c,d,e,b,o,n,f186]
  ·simp[l,m,c,d,e,o,n,p];exact⟨e,by rw[g,n];rfl⟩
 ·obtain rfl:k=s.length:=by omega
  have g:wi 32 126 s=true:=by rw[g,zo];rfl
  rw[g,zd rfl]at b;by_cases f:op=11
  ·rw[zd f]at b;subst f;simp[l,m,c,d,i,b,f186]
  ·rw[ze f]at b;have j:=eqF0 f;simp[l,m,c,d,j,b,f186]
theorem dw:zg prog 186 (zf false [] (FIs fun op s=>int (Jt op s))):=
 pS1 zha func186 false [] fun⟨op,s⟩ a=>⟨by simp[f186],_,ft op s a,zW _⟩
def cK(c:qO):Bool:=!jD c.kind 1 5
def PT(c:qO):Bool:=c.kind==4&&!jD c.op 1 12
def cL(c:qO):Bool:=(c.kind==4&&!wb c.attr)||(c.kind==5&&!wb c.name)
def LL(c:qO):Bool:=c.kind==4&&ZW c.op
noncomputable def vW (c:qO):Int:=if(cK c||PT c)=true then 4 else if ZX c=true then 3 else if cL c=true then 5 else if ZI c.op c.yC=0 then(if LL c=true then Jt c.op c.pat else 0)else ZI c.op c.yC
mutual
noncomputable def qO.fault:qO->Int
 | .mk k a o v p n l=>if vW (.mk k a o v p n l)=0 then Zb l else vW (.mk k a o v p n l)
noncomputable def Zb:List qO->Int
 |[]=>0
 |c::l=>if c.fault=0 then Zb l else c.fault
end
theorem bE(c:qO):c.fault=if vW c=0 then Zb c.args else vW c:=by cases c;simp only[qO.fault];rfl
theorem aH{l:List qO}{k:Nat}(h:k<l.length):Zb (l.drop k)=if l[k].fault=0 then Zb (l.drop (k+1))else l[k].fault:=by rw[zc h,Zb]
noncomputable abbrev UU (n:Nat):Ctx:=zQ prog [(147,zf false [] (FC (fun c=>int c.fault) n)),(46,zf false [] (F3 jD)),(183,GC fun c=>int (if ZX c=true then 3 else 0)),(27,zf false [] (FS wb)),
 (184,zf false [] (FIv fun op l=>int (ZI op l))),(185,zf false [] (ep ZW)),(186,zf false [] (FIs fun op s=>int (Jt op s)))]
@[simp]theorem zi0(n:Nat):kg (UU n) 46:=yI (by rfl) (zu _ _)
@[simp]theorem zi1(n:Nat):kg (UU n) 27:=yI (by rfl) (zu _ _)
@[simp]theorem zi2(n:Nat):kg (UU n) 185:=yI (by rfl) (zu _ _)
theorem nk(n:Nat)(c:qO)(h:c.cb<=zx/\c.cb<=n+1):zr (UU n) f147 [.agg c.V]=some (int c.fault):=by
 have M:=Qb c;have N:=jW c.args;obtain⟨L,R⟩:=h;have x:=bE c;have i:=fun Y Z=>xX (fun c=>int (if ZX c=true then 3 else 0)) c Y Z L
 have r:=fun Y Z=>US (fun op l=>int (ZI op l)) c.op c.yC Y Z (by omega)
 have D:=fun Y Z=>UT (fun op s=>int (Jt op s)) c.op c.pat Y Z (by omega)
 have j:c.attr.length<=zx:=by omega
 have m:c.name.length<=zx:=by omega
 unfold zx at L;refine zm rfl ?_;have v:(!jD c.kind 1 5)=cK c:=rfl;have y:(c.kind==4&&!jD c.op 1 12)=PT c:=rfl;have E:((c.kind==4&&!wb c.attr)||(c.kind==5&&!wb c.name))=cL c:=rfl;have H:(c.kind==4&&ZW c.op)=LL c:=rfl;cases q:cK c
 case true=>simp[v,q,x,vW,f147]
 cases t:PT c
 case true=>simp[v,q,y,t,x,vW,f147]
 cases w:ZX c
 case true=>simp[v,q,y,t,i,w,x,vW,f147]
 cases z:cL c
 case true=>simp[v,q,y,t,i,w,j,m,E,z,x,vW,f147]
 by_cases A:ZI c.op c.yC=0
 case neg=>have I:=nzT A;simp[v,q,y,t,i,w,j,m,E,z,r,A,I,x,vW,f147]
 have o:∀(C:vW c=0),c.fault=Zb c.args:=fun C=>by rw[x,zd C]
 cases F:LL c
 case false=>
  have C:vW c=0:=by simp[vW,q,t,w,z,A,F]
  have p:=o C;simp[v,q,y,t,i,w,j,m,E,z,r,A,H,F];refine zI (fun k U Y Z=>U 73=.sl 7 (c.args.map qO.V)/\U 74=int c.args.length/\U 75=int k/\Zb c.args=Zb (c.args.drop k)) c.args.length ⟨by simp,by simp,by simp,by simp⟩ ?_;rintro k U Y Z P ⟨e,f,g,b⟩;by_cases d:k<c.args.length
  ·have Q:=vC (zj d);have J:=zlL k;have a:=fun Y Z=>ZQ (fun c=>int c.fault) n c.args[k] Y Z ⟨by unfold zx;omega,by omega⟩
   rw[aH d]at b;by_cases u:c.args[k].fault=0
   ·rw[zd u]at b;simp[e,f,g,d,a,u,J];exact⟨by omega,b⟩
   ·rw[ze u]at b;have B:=nzT u;simp[e,f,g,d,a,B,p,b,f147]
  ·obtain rfl:k=c.args.length:=by omega
   rw[zo]at b;have b:Zb c.args=0:=by rw[b];rfl
   simp[e,f,g,p,b,f147]
 case true=>
  by_cases G:Jt c.op c.pat=0
  case neg=>have K:=nzT G;simp[v,q,y,t,i,w,j,m,E,z,r,A,H,F,D,G,K,x,vW,f147]
  have C:vW c=0:=by simp[vW,q,t,w,z,A,F,G]
  have p:=o C;simp[v,q,y,t,i,w,j,m,E,z,r,A,H,F,D,G];refine zI (fun k U Y Z=>U 73=.sl 7 (c.args.map qO.V)/\U 74=int c.args.length/\U 75=int k/\Zb c.args=Zb (c.args.drop k)) c.args.length ⟨by simp,by simp,by simp,by simp⟩ ?_;rintro k U Y Z P ⟨e,f,g,b⟩;by_cases d:k<c.args.length
  ·have Q:=vC (zj d);have J:=zlL k;have a:=fun Y Z=>ZQ (fun c=>int c.fault) n c.args[k] Y Z ⟨by unfold zx;omega,by omega⟩
   rw[aH d]at b;by_cases u:c.args[k].fault=0
   ·rw[zd u]at b;simp[e,f,g,d,a,u,J];exact⟨by omega,b⟩
   ·rw[ze u]at b;have B:=nzT u;simp[e,f,g,d,a,B,p,b,f147]
  ·obtain rfl:k=c.args.length:=by omega
   rw[zo]at b;have b:Zb c.args=0:=by rw[b];rfl
   simp[e,f,g,p,b,f147]
theorem iK:∀n,zg prog 147 (zf false [] (FC (fun c=>int c.fault) n)):=by
 intro n
 induction n with
 |zero=>exact eR ⟨_,func147,by kernel_rfl,by kernel_rfl⟩
 |succ n a=>
  have b:AM.Good (UU n) (fun g=>[46,27,185].contains g):=zw mixed ⟨a,by simp,Wc,fun _=>zu _ _,nj,by simp,xW,fun _=>zu _ _,fq,by simp,me,fun _=>zu _ _,dw,by simp,trivial⟩;exact zX (fn:=f147) b (zpi func147) false [] _ fun args r h=>by obtain⟨c,rfl,d,rfl⟩:=WT h;exact⟨zG (zl 1) (by decide),_,nk n c d,zW _⟩
noncomputable def qO.check (c:qO):Int:=if(decide ((200:Int)<c.parts)||decide ((20:Int)<c.levels))=true then 2 else c.fault
noncomputable abbrev Ccch:Ctx:=zQ prog [(147,GC fun c=>int c.fault),(146,GC fun c=>.wY [int c.parts,int c.levels])]
theorem Xh:zg prog 95 (GC fun c=>int c.check):=
 zX (fn:=f95) (zph mixed ⟨iK zx,tw zx,trivial⟩:AM.Good Ccch _) (zpi func95) false [] _ fun args r h=>by
  obtain⟨c,rfl,a,rfl⟩:=WT h;have b:=fun Y Z=>xX (fun c=>int c.fault) c Y Z a.1
  have d:=fun Y Z=>xX (fun c=>.wY [int c.parts,int c.levels]) c Y Z a.1
  refine⟨by simp[f95],_,zm rfl ?_,zW _⟩;cases e:(decide ((200:Int)<c.parts)||decide ((20:Int)<c.levels))
  ·simp[b,d,e,f95,qO.check]
  ·simp[b,d,e,f95,qO.check]
structure XS (v:qn) (o3 o4:O) (Y:Hp) (Z:Nat):Prop where
 b0:Y 0=some ⟨61,5,false,[[int v.kind,int v.n,str v.s,o3,o4]]⟩
 b1:Y 1=some ⟨61,5,false,[[int 0,int 0,.v (.string ⟨#[]⟩),.nil,.nil]]⟩
 s3:wg Y Z 61 5 o3 (v.items.map qn.V)
 s4:wg Y Z 154 6 o4 (v.fields.map yD)
 d3:∀id m,id<2->o3≠.own id 0 m
 d4:∀id m,id<2->o4≠.own id 0 m
 d:∀id m m',o3=.own id 0 m->o4≠.own id 0 m'
 OD:2<=Z
structure qL where
 key:List UInt8
 attrs:List (List UInt8×qn)
def qL.V(x:qL):zb:=[str x.key,.sl 6 (x.attrs.map yD)]
def qL.cb(x:qL):Nat:=x.key.length+bZ x.attrs
theorem JZ(x:qL):x.cb=x.key.length+bZ x.attrs:=rfl
theorem pX{a b:za×qn}(h:yD a=yD b):a=b:=by simp only[yD,zh]at h;exact zk3 (q9 h.1) (Qt h.2)
theorem J0{a b:qL}(h:a.V=b.V):a=b:=by obtain⟨k,l⟩:=a;obtain⟨e,l'⟩:=b;simp only[qL.V,zh,zD]at h;obtain⟨d,c⟩:=h;injection c with _ c;rw[q9 d,yX (fun _ _=>pX) c]
def Ak(a:za):Bool:=!wb a||a==[107,101,121]
def QC:Option za->List (za×qn)->Int
 |_,[]=>0
 |p,(a,v)::l=>if Ak a then 5 else if vf p a then 8 else if v.check=0 then(if v.kind=0 then 6 else QC (some a) l)else v.check
theorem mf{l:List (za×qn)}{k:Nat}(h:k<l.length)(p:Option za):QC p (l.drop k)=if Ak l[k].1 then 5 else if vf p l[k].1 then 8 else if l[k].2.check=0 then(if l[k].2.kind=0 then 6 else QC (some l[k].1) (l.drop (k+1)))else l[k].2.check:=by rw[zc h,QC]
def qL.fault(x:qL):Int:=if j8 x.key then(if(50:Int)<x.attrs.length then 2 else QC none x.attrs)else 3
noncomputable def FX (out:qL->O):zb->Option O:=z6 (α:=qL) (fun x=>[.agg x.V]) (fun x=>x.cb<=zx) out
theorem mg(Y:Hp)(x:qL):qH Y (.agg x.V)=some (.agg x.V,Y):=by simp[qL.V]
theorem pY(x:qL):O.noOwn (.agg x.V)=true:=by simp[qL.V]
theorem Cs(out:qL->O)(x:qL)(Y:Hp)(Z:Nat)(h:x.cb<=zx):zf false [] (FX out) [.agg x.V] Y Z=some (out x,Y,Z):=
 zU (Y1:=Y) (show zv Y [.agg x.V]=some ([.agg x.V],Y) by simp only[zv,mg])
  (zE (V:=fun x:qL=>[O.agg x.V]) (a:=x) (fun a b e=>by simp only[zh,zD,O.agg.injEq]at e;exact J0 e) h) (.inr (by simp only[q8,pY,JA,Bool.and_self]))
noncomputable abbrev Ccc:Ctx:=zQ prog [(18,zf false [] (FS j8)),(27,zf false [] (FS wb)),(28,GV fun v=>int v.check)]
noncomputable abbrev Crx:Ctx:=zQ prog [(21,zf false [] (FS j8)),(37,zf false [] (FS wb)),(38,GV fun v=>int v.check)]
theorem tx(x:qL)(h:x.cb<=zx):zr Ccc f11 [.agg x.V]=some (int x.fault):=by
 have I:=JZ x;have J:=jV x.attrs;have p:x.key.length<=zx:=by omega
 unfold zx at h;refine zm rfl ?_;rw[qL.fault];cases F:j8 x.key
 ·simp[qL.V,p,F,f11]
 by_cases H:(50:Int)<x.attrs.length
 ·simp[qL.V,p,F,H,f11]
 simp[qL.V,p,F,H];refine zI (fun k U Y Z=>U 1=.ref 0 0 0/\U 15=.sl 6 (x.attrs.map yD)/\U 16=int x.attrs.length/\U 17=int k/\1<=Z/\Y 0=some ⟨30,2,false,[[str x.key,.sl 6 (x.attrs.map yD)]]⟩/\QC none x.attrs=QC (j9 x.attrs k) (x.attrs.drop k)) x.attrs.length
  ⟨by simp,by simp,by simp,by simp,by simp,by simp,by simp[j9]⟩ ?_
 rintro k U Y Z P ⟨m,d,e,f,K,s,b⟩;have t:¬0=Z:=by omega
 by_cases c:k<x.attrs.length
 ·have Q:=xr (zj c);have R:=zlL k;have i:x.attrs[k].1.length<=zx:=by unfold zx;omega
  have a:=fun Y Z=>Yj (fun v=>int v.check) x.attrs[k].2 Y Z (by unfold zx;omega)
  have en:(!wb x.attrs[k].1||x.attrs[k].1==[107,101,121])=Ak x.attrs[k].1:=rfl;rw[mf c]at b;cases n:Ak x.attrs[k].1
  case true=>simp[m,d,e,f,c,i,en,n,b,f11]
  have w:j9 x.attrs (k+1)=some x.attrs[k].1:=by simp[j9,c]
  simp only[n,zF,qJ]at b;by_cases L:k=0
  ·subst L;simp only[j9,vf,qA,zF,qJ]at b;by_cases l:x.attrs[0].2.check=0
   ·rw[zd l]at b;by_cases g:x.attrs[0].2.kind=0
    ·rw[zd g]at b;simp[m,d,e,f,c,i,en,n,a,l,g,b,f11]
    ·rw[ze g]at b;have q:=eqF0 g;have M:=zpg 1;simp[m,d,e,f,c,i,en,n,a,l,q,M]
     and_intros<;>first|omega|(rw[b];rw[w];simp;done)|simp[t,s]
   ·rw[ze l]at b;have r:=nzT l;simp[m,d,e,f,c,i,en,n,a,r,b,f11]
  ·obtain⟨j,rfl⟩:∃j,k=j+1:=⟨k-1,by omega⟩;have y:j<x.attrs.length:=by omega
   have z:i6.wrap ((j:Int)+1-1)=(j:Int):=by rw[zi (by omega) (by omega)];omega
   have o:=zpg (j:Int);have A:((j:Int)+1).toNat=j+1:=by omega
   have B:0<(j:Int)+1:=by omega
   have C:0<=(j:Int)+1:=by omega
   have D:(j:Int)+1<x.attrs.length:=by omega
   have N:=zpg ((j:Int)+1+1);have E:(Op.bytesLess x.attrs[j+1].1 x.attrs[j].1||x.attrs[j+1].1==x.attrs[j].1)=K3 x.attrs[j+1].1 x.attrs[j].1:=rfl;have G:j9 x.attrs (j+1)=some x.attrs[j].1:=by simp[j9,y]
   simp only[G,vf]at b;cases u:K3 x.attrs[j+1].1 x.attrs[j].1
   case true=>simp only[u,qA]at b;simp[m,d,e,f,c,y,i,en,n,a,s,t,z,o,A,B,C,D,E,u,b,f11]
   simp only[u,zF,qJ]at b;by_cases l:x.attrs[j+1].2.check=0
   ·rw[zd l]at b;by_cases g:x.attrs[j+1].2.kind=0
    ·rw[zd g]at b;simp[m,d,e,f,c,y,i,en,n,a,s,t,z,o,A,B,C,D,E,u,l,g,b,f11]
    ·rw[ze g]at b;have q:=eqF0 g;simp[m,d,e,f,c,y,i,en,n,a,s,t,z,o,A,B,C,D,E,u,l,q,N]
     and_intros<;>first|omega|(rw[b];rw[w])|simp[t,s]
   ·rw[ze l]at b;have r:=nzT l;simp[m,d,e,f,c,y,i,en,n,a,s,t,z,o,A,B,C,D,E,u,r,b,f11]
 ·obtain rfl:k=x.attrs.length:=by omega
  rw[zo]at b;have b:QC none x.attrs=0:=by rw[b];rfl
  simp[m,d,e,f,b,f11]
theorem pZ(x:qL)(h:x.cb<=zx):zr Crx f15 [.agg x.V]=some (int x.fault):=by
 have I:=JZ x;have J:=jV x.attrs;have p:x.key.length<=zx:=by omega
 unfold zx at h;refine zm rfl ?_;rw[qL.fault];cases F:j8 x.key
 ·simp[qL.V,p,F,f15]
 by_cases H:(50:Int)<x.attrs.length
 ·simp[qL.V,p,F,H,f15]
 simp[qL.V,p,F,H];refine zI (fun k U Y Z=>U 1=.ref 0 0 0/\U 17=.sl 6 (x.attrs.map yD)/\U 18=int x.attrs.length/\U 19=int k/\1<=Z/\Y 0=some ⟨30,2,false,[[str x.key,.sl 6 (x.attrs.map yD)]]⟩/\QC none x.attrs=QC (j9 x.attrs k) (x.attrs.drop k)) x.attrs.length
  ⟨by simp,by simp,by simp,by simp,by simp,by simp,by simp[j9]⟩ ?_
 rintro k U Y Z P ⟨m,d,e,f,K,s,b⟩;have t:¬0=Z:=by omega
 by_cases c:k<x.attrs.length
 ·have Q:=xr (zj c);have R:=zlL k;have i:x.attrs[k].1.length<=zx:=by unfold zx;omega
  have a:=fun Y Z=>Yj (fun v=>int v.check) x.attrs[k].2 Y Z (by unfold zx;omega)
  have en:(!wb x.attrs[k].1||x.attrs[k].1==[107,101,121])=Ak x.attrs[k].1:=rfl;rw[mf c]at b;cases n:Ak x.attrs[k].1
  case true=>simp[m,d,e,f,c,i,en,n,b,f15]
  have w:j9 x.attrs (k+1)=some x.attrs[k].1:=by simp[j9,c]
  simp only[n,zF,qJ]at b;by_cases L:k=0
  ·subst L;simp only[j9,vf,qA,zF,qJ]at b;by_cases l:x.attrs[0].2.check=0
   ·rw[zd l]at b;by_cases g:x.attrs[0].2.kind=0
    ·rw[zd g]at b;simp[m,d,e,f,c,i,en,n,a,l,g,b,f15]
    ·rw[ze g]at b;have q:=eqF0 g;have M:=zpg 1;simp[m,d,e,f,c,i,en,n,a,l,q,M]
     and_intros<;>first|omega|(rw[b];rw[w];simp;done)|simp[t,s]
   ·rw[ze l]at b;have r:=nzT l;simp[m,d,e,f,c,i,en,n,a,r,b,f15]
  ·obtain⟨j,rfl⟩:∃j,k=j+1:=⟨k-1,by omega⟩;have y:j<x.attrs.length:=by omega
   have z:i6.wrap ((j:Int)+1-1)=(j:Int):=by rw[zi (by omega) (by omega)];omega
   have o:=zpg (j:Int);have A:((j:Int)+1).toNat=j+1:=by omega
   have B:0<(j:Int)+1:=by omega
   have C:0<=(j:Int)+1:=by omega
   have D:(j:Int)+1<x.attrs.length:=by omega
   have N:=zpg ((j:Int)+1+1);have E:(Op.bytesLess x.attrs[j+1].1 x.attrs[j].1||x.attrs[j+1].1==x.attrs[j].1)=K3 x.attrs[j+1].1 x.attrs[j].1:=rfl;have G:j9 x.attrs (j+1)=some x.attrs[j].1:=by simp[j9,y]
   simp only[G,vf]at b;cases u:K3 x.attrs[j+1].1 x.attrs[j].1
   case true=>simp only[u,qA]at b;simp[m,d,e,f,c,y,i,en,n,a,s,t,z,o,A,B,C,D,E,u,b,f15]
   simp only[u,zF,qJ]at b;by_cases l:x.attrs[j+1].2.check=0
   ·rw[zd l]at b;by_cases g:x.attrs[j+1].2.kind=0
    ·rw[zd g]at b;simp[m,d,e,f,c,y,i,en,n,a,s,t,z,o,A,B,C,D,E,u,l,g,b,f15]
    ·rw[ze g]at b;have q:=eqF0 g;simp[m,d,e,f,c,y,i,en,n,a,s,t,z,o,A,B,C,D,E,u,l,q,N]
     and_intros<;>first|omega|(rw[b];rw[w])|simp[t,s]
   ·rw[ze l]at b;have r:=nzT l;simp[m,d,e,f,c,y,i,en,n,a,s,t,z,o,A,B,C,D,E,u,r,b,f15]
 ·obtain rfl:k=x.attrs.length:=by omega
  rw[zo]at b;have b:QC none x.attrs=0:=by rw[b];rfl
  simp[m,d,e,f,b,f15]
theorem ra:zg prog 11 (zf false [] (FX fun x=>int x.fault)):=
 pS1 (zph mixed ⟨YB,xW,l0,trivial⟩:AM.Good Ccc _) func11 false [] fun x a=>⟨zG (zl 1) (by decide),_,tx x a,zW _⟩
theorem XV:zg prog 15 (zf false [] (FX fun x=>int x.fault)):=
 pS1 (zph mixed ⟨VY,Zi,eX,trivial⟩:AM.Good Crx _) func15 false [] fun x a=>⟨zG (zl 1) (by decide),_,pZ x a,zW _⟩
theorem Ct(a b:UInt8):a<b\/a=b\/b<a:=by
 rcases Nat.lt_trichotomy a.toNat b.toNat with h|h|h
 ·exact .inl (xM.2 h)
 ·exact .inr (.inl (Zz.1 h))
 ·exact .inr (.inr (xM.2 h))
theorem dx(a:UInt8):¬a<a:=fun h=>Nat.lt_irrefl _ (xM.1 h)
theorem rb{a b:UInt8}(h:a<b):¬b<a:=fun c=>Nat.lt_asymm (xM.1 h) (xM.1 c)
theorem UW{a b c:UInt8}(h:a<b)(d:b<c):a<c:=xM.2 (Nat.lt_trans (xM.1 h) (xM.1 d))
theorem Ju:∀a b:za,yK a b<0↔Op.bytesLess a b=true
 |[],[]=>by simp[yK,Lib.compareBytes,Op.bytesLess]
 |[],_::_=>by simp[yK,Lib.compareBytes,Op.bytesLess]
 |_::_,[]=>by simp[yK,Lib.compareBytes,Op.bytesLess]
 |a::x,b::y=>by
  have d:=Ju x y;unfold yK at d⊢;rcases Ct a b with h|rfl|h
  ·simp[Lib.compareBytes,Op.bytesLess,h]
  ·simp[Lib.compareBytes,Op.bytesLess,dx,d]
  ·have c:¬a=b:=fun e=>dx b (e ▸ h)
   simp[Lib.compareBytes,Op.bytesLess,h,rb h,c]
theorem vN:∀a b:za,yK a b=0↔a=b
 |[],[]=>by simp[yK,Lib.compareBytes]
 |[],_::_=>by simp[yK,Lib.compareBytes]
 |_::_,[]=>by simp[yK,Lib.compareBytes]
 |a::x,b::y=>by
  have d:=vN x y;unfold yK at d⊢;rcases Ct a b with h|rfl|h
  ·have c:¬a=b:=fun e=>dx b (e ▸ h)
   simp[Lib.compareBytes,h,c]
  ·simp[Lib.compareBytes,dx,d]
  ·have c:¬a=b:=fun e=>dx b (e ▸ h)
   simp[Lib.compareBytes,h,rb h,c]
theorem xi:∀{a b c:za},Op.bytesLess a b=true->Op.bytesLess b c=true->Op.bytesLess a c=true
 |_,[],_,h,_=>by simp[Op.bytesLess]at h
 |_,_::_,[],_,h=>by simp[Op.bytesLess]at h
 |[],_::_,_::_,_,_=>by simp[Op.bytesLess]
 |a::x,b::y,c::z,e,d=>by
  simp only[Op.bytesLess,qd,zP,zH,jq]at e d⊢;rcases e with e|⟨rfl,e⟩
  ·rcases d with d|⟨rfl,d⟩
   ·exact .inl (UW e d)
   ·exact .inl e
  ·rcases d with d|⟨rfl,d⟩
   ·exact .inl d
   ·exact .inr ⟨rfl,xi e d⟩
theorem xH:∀{a b:za},K3 a b=false->Op.bytesLess b a=true
 |[],[],h=>by simp[K3]at h
 |[],_::_,h=>by simp[K3,Op.bytesLess]at h
 |_::_,[],_=>by simp[Op.bytesLess]
 |a::x,b::y,h=>by
  simp only[K3,Op.bytesLess,wZ,jr,Bool.and_eq_false_iff,ya]at h;obtain⟨⟨d,c⟩,f⟩:=h;simp only[Op.bytesLess,qd,zP,zH,jq];rcases Ct a b with g|rfl|g
  ·exact absurd g d
  ·refine .inr ⟨rfl,xH ?_⟩;rcases c with c|c
   ·exact absurd rfl c
   ·have:¬x=y:=fun e=>f (by rw[e])
    simp[K3,c,this]
  ·exact .inl g
def kI(f:Nat->Bool)(lo hi:Nat):Nat:=if h:lo<hi then(if f ((lo+hi)/2)then kI f ((lo+hi)/2+1) hi else kI f lo ((lo+hi)/2))else lo
termination_by hi-lo
decreasing_by all_goals omega
theorem QN{f:Nat->Bool}{lo hi:Nat}(h:lo<hi):kI f lo hi=if f ((lo+hi)/2)then kI f ((lo+hi)/2+1) hi else kI f lo ((lo+hi)/2):=by rw[kI,Oy h]
theorem J1{f:Nat->Bool}{lo hi:Nat}(h:¬lo<hi):kI f lo hi=lo:=by rw[kI,dif_neg h]
theorem NS(f:Nat->Bool)(lo hi:Nat)(h:lo<=hi):lo<=kI f lo hi/\kI f lo hi<=hi:=by
 induction lo,hi using kI.induct (f:=f)with
 |case1 lo hi a b c=>rw[kI,Oy a,zd b];have:=c (by omega);omega
 |case2 lo hi a b c=>rw[kI,Oy a,ze b];have:=c (by omega);omega
 |case3 lo hi a=>rw[kI,dif_neg a];omega
theorem bF{f:Nat->Bool}{n m:Nat}(i:∀k,k<m->f k=true)(j:∀k,m<=k->k<n->f k=false):∀{lo hi:Nat},lo<=m->m<=hi->hi<=n->kI f lo hi=m:=by
 intro lo hi
 induction lo,hi using kI.induct (f:=f)with
 |case1 lo hi a c d=>
  intro e g h;rw[kI,Oy a,zd c];refine d ?_ g h;apply Nat.succ_le_of_lt;refine Nat.lt_of_not_le fun b=>?_
  rw[j _ b (by omega)]at c;cases c
 |case2 lo hi a c d=>
  intro e g h;rw[kI,Oy a,ze c];refine d e ?_ (by omega);refine Nat.le_of_not_lt fun b=>?_
  exact c (i _ b)
 |case3 lo hi a=>intro e g _;rw[kI,dif_neg a];omega
noncomputable def Qg (l:List za) (s:za) (k:Nat):Bool:=match l[k]? with
 |some x=>decide (yK x s<0)
 |none=>false
noncomputable def Zy (l:List za) (s:za):Nat×Bool:=(kI (Qg l s) 0 l.length,match l[kI (Qg l s) 0 l.length]? with
 |some x=>yK x s==0
 |none=>false)
theorem Cu{l:List za}{s:za}(h:(Zy l s).2=true):l[(Zy l s).1]?=some s:=by
 unfold Zy at h⊢;simp only at h⊢;split at h
 ·rename_i x a;rw[a,(vN x s).1 (by simpa using h)]
 ·cases h
theorem UX{l:List za}{s:za}(h:(Zy l s).2=true):(Zy l s).1<l.length:=(zn.1 (Cu h)).1
def bG(l:List za):Prop:=l.Pairwise fun a b=>Op.bytesLess a b=true
theorem aI(a:za):Op.bytesLess a a=false:=by
 cases h:Op.bytesLess a a with
 |false=>rfl
 |true=>have b:=(Ju a a).2 h;have c:=(vN a a).2 rfl;omega
theorem Cv{l:List za}{s:za}(f:bG l){j:Nat}(g:l[j]?=some s):Zy l s=(j,true):=by
 obtain⟨a,b⟩:=zn.1 g;have i:kI (Qg l s) 0 l.length=j:=by
  refine bF (n:=l.length) (fun k d=>?_) (fun k d c=>?_) (kM _) (Nat.le_of_lt a) (zl _)
  ·have:=QY.1 f k j (by omega) a d;rw[b]at this;simp[Qg,show k<l.length by omega,(Ju _ _).2 this]
  ·rcases zpe d with h|rfl
   ·have:=QY.1 f j k a c h;rw[b]at this;have e:¬yK l[k] s<0:=fun m=>by have:=xi this ((Ju _ _).1 m);rw[aI]at this;cases this
    simp[Qg,c,e]
   ·have e:¬yK s s<0:=by rw[(vN s s).2 rfl];omega
    simp[Qg,a,b,e]
 unfold Zy;rw[i,g];simp[(vN s s).2 rfl]
end Go.Q
namespace Go.AM
def wG{S α:Type}(f:S->α->Bool×S):S->List α->Bool×S
 |s,[]=>(false,s)
 |s,a::l=>if(f s a).1=true then(true,(f s a).2)else wG f (f s a).2 l
theorem Al{S α:Type}(f:S->α->Bool×S):∀(s:S) (l m:List α),wG f s (l++m)=if(wG f s l).1=true then(true,(wG f s l).2)else wG f (wG f s l).2 m
 |s,[],m=>by simp[wG]
 |s,a::l,m=>by
  simp only[wI,wG];split
  ·simp
  ·exact Al f _ l m
def vv(succ:Nat->List Nat):Nat->List Int->Nat->Bool×List Int
 | 0,st,_=>(false,st)
 |n+1,st,i=>if st[i]?=some 0 then((wG (vv succ n) (st.set i 1) (succ i)).1,(wG (vv succ n) (st.set i 1) (succ i)).2.set i 2)else(decide (st[i]?=some 1),st)
def Z2(st:List Int):Nat:=st.count 0
theorem iL{st:List Int}{i:Nat}{v:Int}(h:st[i]?=some 0)(b:v≠0):Z2 (st.set i v)+1=Z2 st:=by
 unfold Z2
 induction st generalizing i with
 |nil=>simp at h
 |cons a l c=>
  cases i with
  |zero=>simp at h;subst h;simp[b]
  |succ i=>have:=c (i:=i) (by simpa using h);simp only[List.set_cons_succ,List.count_cons]at this⊢;omega
theorem Cw{st:List Int}{i:Nat}{v:Int}(b:v≠0):Z2 (st.set i v)<=Z2 st:=by
 unfold Z2
 induction st generalizing i with
 |nil=>simp
 |cons a l c=>
  cases i with
  |zero=>simp[List.count_cons,b]
  |succ i=>have:=c (i:=i);simp only[List.set_cons_succ,List.count_cons]at this⊢;omega
structure Kept (st st':List Int):Prop where
 len:st'.length=st.length
 wh:Z2 st'<=Z2 st
 black:∀j:Nat,st[j]?=some 2->st'[j]?=some 2
 grey:∀j:Nat,st'[j]?=some 1↔st[j]?=some 1
 yC:(∀v∈st,v=0\/v=1\/v=2)->∀v∈st',v=0\/v=1\/v=2
theorem Kept.refl(st:List Int):Kept st st:=⟨rfl,zl _,fun _ h=>h,fun _=>Iff.rfl,fun h=>h⟩
theorem Kept.trans{a b c:List Int}(h:Kept a b)(g:Kept b c):Kept a c:=
 ⟨g.len.trans h.len,zG g.wh h.wh,fun j d=>g.black j (h.black j d),fun j=>(g.grey j).trans (h.grey j),fun e=>g.yC (h.yC e)⟩
theorem J2{f:List Int->Nat->Bool×List Int}(b:∀st i,Kept st (f st i).2):∀(l:List Nat) (st:List Int),Kept st (wG f st l).2
 |[],st=>Kept.refl st
 |a::l,st=>by
  simp only[wG];split
  ·exact b st a
  ·exact(b st a).trans (J2 b l _)
theorem xj(succ:Nat->List Nat):∀(n:Nat) (st:List Int) (i:Nat),Kept st (vv succ n st i).2
 | 0,st,i=>Kept.refl st
 |n+1,st,i=>by
  simp only[vv];split
  ·rename_i c;have k:i<st.length:=(zn.1 c).1;have b:=J2 (xj succ n) (succ i) (st.set i 1);obtain⟨r,g⟩:=exI ((wG (vv succ n) (st.set i 1) (succ i)).2);rw[g]at b;simp only[g];have l:r.length=st.length:=by rw[b.len,bY]
   refine⟨by rw[bY,l],?_,fun j d=>?_,fun j=>?_,fun m v e=>?_⟩
   ·have o:=b.wh;have p:=iL c (v:=1) (by decide);have q:=Cw (st:=r) (i:=i) (v:=2) (by decide);omega
   ·by_cases a:i=j
    ·subst a;rw[c]at d;simp at d
    ·rw[jC a];exact b.black j (by rw[jC a];exact d)
   ·by_cases a:i=j
    ·subst a;rw[ZT (by omega),c];simp
    ·rw[jC a,b.grey,jC a]
   ·have f:=b.yC (fun v e=>by
     rcases xx e with h|rfl
     ·exact m v h
     ·exact .inr (.inl rfl))
    rcases xx e with h|rfl
    ·exact f v h
    ·exact .inr (.inr rfl)
  ·exact Kept.refl st
inductive JD (E:Nat->Nat->Prop):Nat->Nat->Prop
 |one {a b:Nat}:E a b->JD E a b
 |tail {a b c:Nat}:JD E a b->E b c->JD E a c
theorem JD.trans{E:Nat->Nat->Prop}{a b c:Nat}(h:JD E a b)(g:JD E b c):JD E a c:=by
 induction g with
 |one e=>exact .tail h e
 |tail _ e d=>exact .tail d e
theorem JD.head{E:Nat->Nat->Prop}{a c:Nat}(h:JD E a c):∃b,E a b/\(b=c\/JD E b c):=by
 induction h with
 |one e=>exact⟨_,e,.inl rfl⟩
 |tail _ e d=>
  obtain⟨b,f,h2⟩:=d;refine⟨b,f,.inr ?_⟩;rcases h2 with rfl|h2
  ·exact .one e
  ·exact .tail h2 e
theorem UY{E:Nat->Nat->Prop}{a:Nat}(h:Acc (fun x y=>E y x) a):¬JD E a a:=by
 induction h with
 |intro x _ c=>
  intro d;obtain⟨y,b,h2⟩:=d.head;rcases h2 with rfl|h2
  ·exact c y b d
  ·exact c y b (.tail h2 b)
theorem mh(succ:Nat->List Nat):∀(n:Nat) (st:List Int) (i:Nat),(∀v∈st,v=0\/v=1\/v=2)->Z2 st<n->i<st.length->(∀a,∀b∈succ a,b<st.length)->(∀j:Nat,st[j]?=some 2->Acc (fun x y=>x∈succ y) j)->(vv succ n st i).1=false ->
  (∀j:Nat,(vv succ n st i).2[j]?=some 2->Acc (fun x y=>x∈succ y) j)/\(vv succ n st i).2[i]?=some 2
 | 0,st,i,_,E,_,_,_,_=>by omega
 |n+1,st,i,D,E,hi,hs,hb,e=>by
  simp only[vv]at e⊢;split at e
  ·rename_i f;rw[zd f];simp only at e⊢;have o:i<st.length:=hi;have F:=iL f (v:=1) (by decide);have z:∀v∈st.set i 1,v=0\/v=1\/v=2:=fun v G=>by
    rcases xx G with h|rfl
    ·exact D v h
    ·exact .inr (.inl rfl)
   have A:∀j:Nat,(st.set i 1)[j]?=some 2->Acc (fun x y=>x∈succ y) j:=fun j g=>by
    by_cases c:i=j
    ·subst c;rw[ZT o]at g;simp at g
    ·rw[jC c]at g;exact hb j g
   have B:∀(l:List Nat) (s:List Int),(∀v∈s,v=0\/v=1\/v=2)->Z2 s<n->s.length=st.length->(∀b∈l,b<st.length)->(∀j:Nat,s[j]?=some 2->Acc (fun x y=>x∈succ y) j)->(wG (vv succ n) s l).1=false ->
     (∀j:Nat,(wG (vv succ n) s l).2[j]?=some 2->Acc (fun x y=>x∈succ y) j)/\∀b∈l,(wG (vv succ n) s l).2[b]?=some 2:=by
    intro l
    induction l with
    |nil=>intro s _ _ _ _ k _;exact⟨k,fun b hb=>by cases hb⟩
    |cons a l H=>
     intro s p q m r k d;simp only[wG]at d⊢;split at d
     ·simp at d
     ·rename_i t;rw[ze t];have u:=xj succ n s a;obtain⟨w,C⟩:=mh succ n s a p q (by rw[m];exact r a (by simp)) (fun x b hb=>by rw[m];exact hs x b hb) k (by simpa using t);obtain⟨I,J⟩:=H _ (u.yC p) (zpf u.wh q) (u.len.trans m) (fun b hb=>r b (by simp[hb])) w d;refine⟨I,fun b hb=>?_⟩;rcases zA.1 hb with rfl|hb
      ·exact(J2 (xj succ n) l _).black _ C
      ·exact J b hb
   obtain⟨w,C⟩:=B (succ i) (st.set i 1) z (by omega) (by rw[bY]) (hs i) A e;have u:=J2 (xj succ n) (succ i) (st.set i 1);refine⟨fun j g=>?_,by rw[ZT (by rw[u.len,bY];exact o)]⟩;by_cases c:i=j
   ·subst c;exact⟨_,fun b hb=>w b (C b hb)⟩
   ·rw[jC c]at g;exact w j g
  ·rename_i f;rw[ze f];simp only at e⊢;refine⟨hb,?_⟩;have K:st[i]?=some st[i]:=zq hi;have L:=D _ (zj hi);rw[K]at f e⊢;rcases L with h|h|h
   ·rw[h]at f;exact(f rfl).elim
   ·rw[h]at e;simp at e
   ·rw[h]
theorem re(succ:Nat->List Nat):∀(n:Nat) (st:List Int) (i:Nat),(∀g:Nat,st[g]?=some 1->JD (fun a b=>b∈succ a) g i)->(vv succ n st i).1=true->∃c,JD (fun a b=>b∈succ a) c c
 | 0,st,i,_,h=>by simp[vv]at h
 |n+1,st,i,p,h=>by
  simp only[vv]at h;split at h
  ·rename_i r;simp only at h;have t:i<st.length:=(zn.1 r).1;have m:∀(l:List Nat) (s:List Int),(∀g:Nat,s[g]?=some 1↔(st.set i 1)[g]?=some 1)->(∀b∈l,b∈succ i)->(wG (vv succ n) s l).1=true->∃c,JD (fun a b=>b∈succ a) c c:=by
    intro l
    induction l with
    |nil=>intro s _ _ e;simp[wG]at e
    |cons a l u=>
     intro s f j e;simp only[wG]at e;split at e
     ·rename_i v;refine re succ n s a (fun g d=>?_) v;have d:=(f g).1 d;have q:a∈succ i:=j a (by simp);by_cases k:i=g
      ·subst k;exact .one q
      ·rw[jC k]at d;exact .tail (p g d) q
     ·exact u _ (fun g=>((xj succ n s a).grey g).trans (f g)) (fun b o=>j b (by simp[o])) e
   exact m (succ i) (st.set i 1) (fun _=>Iff.rfl) (fun _ o=>o) h
  ·simp at h;exact⟨i,p i h⟩
theorem Am{α:Type}{p q:α->Bool}:∀{l:List α},(∀x∈l,p x=true->q x=true)->(∃x∈l,q x=true/\p x=false)->l.countP p<l.countP q
 |[],_,⟨x,b,_⟩=>by cases b
 |a::l,h,⟨x,b,d,e⟩=>by
  have f:l.countP p<=l.countP q:=List.countP_mono_left fun y c=>h y (by simp[c])
  rcases zA.1 b with rfl|b
  ·rw[List.countP_cons,List.countP_cons,d,e];simp;omega
  ·have:=Am (l:=l) (fun y c=>h y (by simp[c])) ⟨x,b,d,e⟩;rw[List.countP_cons,List.countP_cons];have g:=h a (by simp);cases Y:p a
   ·simp only[zF,qJ];split<;>omega
   ·rw[g Y];simp;omega
open Classical in
noncomputable def NT (E:Nat->Nat->Prop) (N i:Nat):Nat:=(List.range N).countP fun j=>decide (JD E i j)
theorem UZ(E:Nat->Nat->Prop)(N i:Nat):NT E N i<=N:=by have:=List.countP_le_length (p:=fun j=>@decide (JD E i j) (Classical.propDecidable _)) (l:=List.range N);rwa [List.length_range]at this
open Classical in
theorem U0{E:Nat->Nat->Prop}{N i j:Nat}(b:j<N)(a:E i j)(c:¬JD E j j):NT E N j<NT E N i:=by
 refine Am (fun k _ d=>?_) ⟨j,jo.2 b,?_,?_⟩
 ·exact y8 ((JD.one a).trans (kN d))
 ·exact y8 (.one a)
 ·exact jm c
structure Io {α:Type} (next:α->List α) (start out queue:List α):Prop where
 nodup:out.Nodup
 strt:∀a∈start,a∈out\/a∈queue
 step:∀a∈out,∀b∈next a,b∈out\/b∈queue
 only:∀(Q:α->Prop),(∀a∈start,Q a)->(∀a b,Q a->b∈next a->Q b)->(∀a∈out,Q a)/\∀a∈queue,Q a
theorem Io.begin{α:Type}(next:α->List α)(start:List α):Io next start [] start:=
 ⟨.nil,fun a h=>.inr h,(fun a h=>by cases h),fun Q h _=>⟨(fun a h=>by cases h),h⟩⟩
theorem Io.skip{α:Type}{next:α->List α}{start out queue:List α}{a:α}(h:Io next start out (a::queue))(e:a∈out):Io next start out queue:=by
 refine⟨h.nodup,fun b d=>?_,fun b d c i=>?_,fun Q f g=>⟨(h.only Q f g).1,fun b d=>(h.only Q f g).2 b (by simp[d])⟩⟩
 ·rcases h.strt b d with h|h
  ·exact .inl h
  ·rcases zA.1 h with rfl|h
   ·exact .inl e
   ·exact .inr h
 ·rcases h.step b d c i with h|h
  ·exact .inl h
  ·rcases zA.1 h with rfl|h
   ·exact .inl e
   ·exact .inr h
theorem Io.take{α:Type}{next:α->List α}{start out e:List α}{a:α}(h:Io next start out (a::e))(m:a ∉ out):Io next start (out++[a]) (e++next a):=by
 have f:∀b,b∈out\/b∈a::e->b∈out++[a]\/b∈e++next a:=fun b d=>by
  simp only[qg,zA,zb4,or_false]at d⊢;rcases d with d|d|d
  ·exact .inl (.inl d)
  ·exact .inl (.inr d)
  ·exact .inr (.inl d)
 refine⟨?_,fun b d=>f b (h.strt b d),fun b d c g=>?_,fun Q n i=>?_⟩
 ·rw[List.nodup_append];refine⟨h.nodup,by simp,fun x o y j=>?_⟩;rintro rfl;simp at j;subst j;exact m o
 ·rcases qg.1 d with d|d
  ·exact f c (h.step b d c g)
  ·simp at d;subst d;exact .inr (qg.2 (.inr g))
 ·obtain⟨p,k⟩:=h.only Q n i;have l:Q a:=k a (by simp);refine⟨fun b d=>?_,fun b d=>?_⟩
  ·rcases qg.1 d with d|d
   ·exact p b d
   ·simp at d;subst d;exact l
  ·rcases qg.1 d with d|d
   ·exact k b (by simp[d])
   ·exact i a b l d
inductive gE {α:Type} (next:α->List α) (start:List α):α->Prop
 |here {a:α}:a∈start->gE next start a
 |there {a b:α}:gE next start a->b∈next a->gE next start b
theorem Io.done{α:Type}{next:α->List α}{start out:List α}(h:Io next start out [])(a:α):a∈out↔gE next start a:=by
 constructor
 ·exact(h.only (gE next start) (fun _=>.here) (fun _ _=>.there)).1 a
 ·intro b
  induction b with
  |here c=>exact(h.strt _ c).resolve_right (by simp)
  |there _ d e=>exact(h.step _ e _ d).resolve_right (by simp)
def FB(F:Nat->(Nat->Bool)->Bool):Nat->Nat->Bool
 | 0,_=>false
 |n+1,i=>F i (FB F n)
theorem Ao{F:Nat->(Nat->Bool)->Bool}{succ:Nat->List Nat}{rk:Nat->Nat}(hF:∀i f g,(∀j∈succ i,f j=g j)->F i f=F i g)(a:∀i,∀j∈succ i,rk j<rk i):∀(r i m k:Nat),rk i<=r->r<m->r<k->FB F m i=FB F k i
 |r,i,m,k,h,d,e=>by
  obtain⟨m,rfl⟩:∃q,m=q+1:=⟨m-1,by omega⟩;obtain⟨k,rfl⟩:∃q,k=q+1:=⟨k-1,by omega⟩;simp only[FB];refine hF i _ _ fun j b=>?_
  have:=a i j b;obtain⟨c,rfl⟩:∃q,r=q+1:=⟨r-1,by omega⟩;exact Ao hF a c j m k (by omega) (by omega) (by omega)
theorem zdb{F:Nat->(Nat->Bool)->Bool}{succ:Nat->List Nat}{rk:Nat->Nat}{N:Nat}(hF:∀i f g,(∀j∈succ i,f j=g j)->F i f=F i g)(a:∀i,∀j∈succ i,rk j<rk i)(b:∀i,rk i<=N)(i:Nat):FB F (N+1) i=F i (FB F (N+1)):=by
 show F i (FB F N)=_;refine hF i _ _ fun j c=>?_
 have d:=a i j c;have e:=b i;exact Ao hF a (rk j) j N (N+1) (zl _) (by omega) (by omega)
end Go.AM
namespace Go.Q
structure qa where
 name:List UInt8
 ins:List (List UInt8)
 outs:List (List UInt8)
 cond:qO
def qa.V(s:qa):zb:=[str s.name,.sl 1 (zJ s.ins),.sl 1 (zJ s.outs)]++s.cond.V
theorem jc(s:qa):s.V=[str s.name,.sl 1 (zJ s.ins),.sl 1 (zJ s.outs),int s.cond.kind,str s.cond.attr,int s.cond.op,.sl 5 (s.cond.yC.map qn.V),str s.cond.pat,str s.cond.name,.sl 7 (s.cond.args.map qO.V)]:=by unfold qa.V;rw[qY];rfl
@[simp]theorem zmq(s:qa):s.V.length=10:=by rw[jc];rfl
@[simp]theorem zky(s:qa):s.V.drop 3=s.cond.V:=rfl
@[simp]theorem zkz(s:qa):s.V.take 10=s.V:=qq (by simp)
@[simp]theorem zo6(s:qa)(h:0<s.V.length):s.V[0]=str s.name:=rfl
@[simp]theorem zo7(s:qa)(h:1<s.V.length):s.V[1]=.sl 1 (zJ s.ins):=rfl
@[simp]theorem zo8(s:qa)(h:2<s.V.length):s.V[2]=.sl 1 (zJ s.outs):=rfl
@[simp]theorem PU(s:qa):s.V.all O.yo=true:=by rw[jc];rfl
@[simp]theorem zhb(s:qa):(∀x,x∈s.V->O.yo x=true)=True:=by have:=PU s;rw[ql]at this;exact eq_true this
theorem Xi{a b:qa}(h:a.V=b.V):a=b:=by
 have f:a.cond.V=b.cond.V:=by rw[jc,jc]at h;simp only[zh,zD]at h;rw[qY,qY];simp only[zh,zD];exact h.2.2.2
 have c:=vQ f;rw[jc,jc]at h;simp only[zh,zD]at h;obtain⟨g,d,e,_⟩:=h;cases a;cases b;simp only at *;injection d with _ d
 injection e with _ e;rw[q9 g,kn d,kn e,c]
theorem kH{a b:List qa}(h:O.sl 10 (a.map qa.V)=.sl 10 (b.map qa.V)):a=b:=by injection h with _ h;exact yX (fun _ _=>Xi) h
def Kf(l:List za):Nat:=(l.map fun s=>1+s.length).sum
def qa.cb(s:qa):Nat:=1+s.name.length+Kf s.ins+Kf s.outs+s.cond.cb
def QZ(l:List qa):Nat:=(l.map qa.cb).sum
theorem fu:∀{l:List za} {s:za},s∈l->1+s.length<=Kf l
 |y::l,s,h=>by
  simp only[Kf,wD,n9];rcases zA.1 h with rfl|h
  ·omega
  ·have:=fu h;unfold Kf at this;omega
theorem Jv:∀l:List za,l.length<=Kf l
 |[]=>zl _
 |y::l=>by have:=Jv l;simp only[Kf,wD,n9,zV]at *;omega
theorem Yn:∀{l:List qa} {s:qa},s∈l->s.cb<=QZ l
 |y::l,s,h=>by
  simp only[QZ,wD,n9];rcases zA.1 h with rfl|h
  ·omega
  ·have:=Yn h;unfold QZ at this;omega
theorem Wk:∀l:List qa,l.length<=QZ l
 |[]=>zl _
 |y::l=>by
  have:=Wk l;have a:1<=y.cb:=by unfold qa.cb;omega
  simp only[QZ,wD,n9,zV]at *;omega
mutual
def qO.names:qO->List za
 | .mk k _ _ _ _ n l=>(if k=5 then[n]else[])++yh l
def yh:List qO->List za
 |[]=>[]
 |c::l=>c.names++yh l
end
theorem vw(c:qO):c.names=(if c.kind=5 then[c.name]else[])++yh c.args:=by cases c;rfl
theorem Ke:∀{l:List qO} {n:za},n∈yh l↔∃c∈l,n∈c.names
 |[],n=>by simp[yh]
 |c::l,n=>by simp[yh,Ke (l:=l)]
theorem FD{l:List qO}{k:Nat}(h:k<l.length):yh (l.drop k)=l[k].names++yh (l.drop (k+1)):=by rw[zc h,yh]
noncomputable def xI (l:List qa) (n:za):Nat:=(Zy (l.map qa.name) n).1
noncomputable def vD (l:List qa) (n:za):Bool:=(Zy (l.map qa.name) n).2
noncomputable def Y6 (l:List qa) (c:qO):Bool:=c.names.all (vD l)
noncomputable def yU (l:List qa) (i:Nat):List Nat:=match l[i]? with
 |some s=>s.cond.names.map (xI l)
 |none=>[]
def Vn:Option za->List za->Int
 |_,[]=>0
 |p,k::l=>if j8 k=true then(if vf p k=true then 8 else Vn (some k) l)else 3
def vE(l:List za):Int:=if(1000:Int)<l.length then 2 else Vn none l
theorem rf{l:List za}{k:Nat}(h:k<l.length)(p:Option za):Vn p (l.drop k)=if j8 l[k]=true then(if vf p l[k]=true then 8 else Vn (some l[k]) (l.drop (k+1)))else 3:=by rw[zc h,Vn]
theorem FE:∀(l:List za) (p:Option za),Vn p l=0->bG l/\∀q,p=some q->∀b∈l,Op.bytesLess q b=true
 |[],p,_=>⟨.nil,fun _ _ _ hb=>by cases hb⟩
 |a::l,p,h=>by
  simp only[Vn]at h;split at h
  case isFalse=>simp at h
  split at h
  ·simp at h
  rename_i e;obtain⟨f,d⟩:=FE l (some a) h;refine⟨wU.2 ⟨d a rfl,f⟩,fun q g b hb=>?_⟩;subst g;have c:Op.bytesLess q a=true:=xH (by simpa[vf]using e);rcases zA.1 hb with rfl|hb
  ·exact c
  ·exact xi c (d a rfl b hb)
theorem rh{l:List za}(h:vE l=0):bG l:=by
 unfold vE at h;split at h
 ·simp at h
 ·exact(FE l none h).1
noncomputable def Zk (s:qa):Int:=if vE s.ins=0 then(if vE s.outs=0 then(if(s.ins.any fun k=>s.outs.contains k)=true then 7 else s.cond.check)else vE s.outs)else vE s.ins
noncomputable def Jf:Option za->List qa->Int
 |_,[]=>0
 |p,s::l=>if wb s.name=true then(if vf p s.name=true then 8 else if Zk s=0 then Jf (some s.name) l else Zk s)else 5
theorem LM{l:List qa}{k:Nat}(h:k<l.length)(p:Option za):Jf p (l.drop k)=if wb l[k].name=true then(if vf p l[k].name=true then 8 else if Zk l[k]=0 then Jf (some l[k].name) (l.drop (k+1))else Zk l[k])else 5:=by rw[zc h,Jf]
theorem ri:∀(l:List qa) (p:Option za),Jf p l=0->(bG (l.map qa.name)/\∀q,p=some q->∀b∈l,Op.bytesLess q b.name=true)/\∀s∈l,wb s.name=true/\Zk s=0
 |[],p,_=>⟨⟨.nil,fun _ _ _ hb=>by cases hb⟩,fun _ hb=>by cases hb⟩
 |a::l,p,h=>by
  simp only[Jf]at h;split at h
  case isFalse=>simp at h
  rename_i e;split at h
  ·simp at h
  rename_i f;split at h
  case isFalse hs=>exact(hs h).elim
  rename_i hs;obtain⟨⟨g,d⟩,i⟩:=ri l (some a.name) h;refine⟨⟨?_,fun q j b hb=>?_⟩,fun s SQ=>?_⟩
  ·unfold bG;rw[wD];refine wU.2 ⟨fun x k=>?_,g⟩;obtain⟨b,hb,rfl⟩:=wA.1 k;exact d a.name rfl b hb
  ·subst j;have c:Op.bytesLess q a.name=true:=xH (by simpa[vf]using f);rcases zA.1 hb with rfl|hb
   ·exact c
   ·exact xi c (d a.name rfl b hb)
  ·rcases zA.1 SQ with rfl|SQ
   ·exact⟨e,hs⟩
   ·exact i s SQ
noncomputable def U1 (l:List qa):List Int->List Nat->Bool×List Int:=wG (vv (yU l) 2097153)
noncomputable def rj (l:List qa):Bool:=(U1 l (List.replicate l.length 0) (List.range l.length)).1
noncomputable def jA (l:List qa):Int:=if(100:Int)<l.length then 2 else if Jf none l=0 then(if(l.all fun s=>Y6 l s.cond)=true then(if rj l=true then 12 else 0)else 9)else Jf none l
structure bh (l:List qa):Prop where
 len:l.length<=100
 up:bG (l.map qa.name)
 right:∀s∈l,wb s.name=true/\Zk s=0
 known:∀s∈l,∀n∈s.cond.names,vD l n=true
 acyc:∀i:Nat,¬JD (fun a b=>b∈yU l a) i i
theorem Cx{l:List qa}{n:za}(h:vD l n=true):xI l n<l.length:=by have:=UX (l:=l.map qa.name) (s:=n) h;rw[jL]at this;exact this
theorem NU{l:List qa}(h:∀s∈l,∀n∈s.cond.names,vD l n=true)(i:Nat):∀j∈yU l i,j<l.length:=by
 intro j a;unfold yU at a;split at a
 ·rename_i s hs;obtain⟨n,b,rfl⟩:=wA.1 a;exact Cx (h s (zM hs) n b)
 ·cases a
theorem Ap{l:List qa}{i:Nat}(h:l.length<=i):yU l i=[]:=by unfold yU;rw[wP h]
theorem rl(n:Nat):Z2 (List.replicate n 0)=n:=by simp[Z2]
theorem FF{l:List qa}(H:l.length<=100)(h:∀s∈l,∀n∈s.cond.names,vD l n=true):rj l=true↔∃i:Nat,JD (fun a b=>b∈yU l a) i i:=by
 constructor
 ·intro F;have f:∀(q:List Nat) (s:List Int),(∀g:Nat,s[g]?≠some 1)->(wG (vv (yU l) 2097153) s q).1=true->∃c,JD (fun a b=>b∈yU l a) c c:=by
   intro q
   induction q with
   |nil=>intro s _ e;simp[wG]at e
   |cons a q r=>
    intro s hs e;simp only[wG]at e;split at e
    ·rename_i t;exact re (yU l) _ s a (fun g k=>(hs g k).elim) t
    ·exact r _ (fun g k=>hs g (((xj (yU l) _ s a).grey g).1 k)) e
  refine f _ _ (fun g k=>?_) F;rw[YR]at k;split at k<;>simp at k
 ·rintro⟨i,hi⟩;refine xy fun u=>?_
  have u:rj l=false:=by simpa using u
  have hs:=NU h;have f:∀(q:List Nat) (s:List Int),(∀v∈s,v=0\/v=1\/v=2)->s.length=l.length->Z2 s<2097153->(∀b∈q,b<l.length)->(∀j:Nat,s[j]?=some 2->Acc (fun x y=>x∈yU l y) j)->(wG (vv (yU l) 2097153) s q).1=false ->
    ∀b,b∈q->Acc (fun x y=>x∈yU l y) b:=by
   intro q
   induction q with
   |nil=>intro s _ _ _ _ _ _ b d;cases d
   |cons a q r=>
    intro s o m C D d e;simp only[wG]at e;split at e
    ·simp at e
    ·rename_i t;have w:=xj (yU l) 2097153 s a;obtain⟨E,G⟩:=mh (yU l) _ s a o C (by rw[m];exact D a (by simp)) (fun x b d=>by rw[m];exact hs x b d) d (by simpa using t);intro b hbm;rcases zA.1 hbm with rfl|hbm
     ·exact E b G
     ·exact r _ (w.yC o) (w.len.trans m) (zpf w.wh C) (fun b d=>D b (by simp[d])) E e b hbm
  have p:=f (List.range l.length) (List.replicate l.length 0) (fun v o=>by rw[List.mem_replicate]at o;exact .inl o.2) (by simp) (by rw[rl];omega) (fun b d=>jo.1 d)
   (fun j z=>by rw[YR]at z;split at z<;>simp at z) u
  obtain⟨b,d,_⟩:=hi.head;have A:i<l.length:=by
   refine Nat.lt_of_not_le fun B=>?_
   rw[Ap B]at d;cases d
  exact UY (p i (jo.2 A)) hi
theorem Cy{l:List qa}(h:jA l=0):bh l:=by
 unfold jA at h;split at h
 ·simp at h
 rename_i g;split at h
 case isFalse hs=>exact(hs h).elim
 rename_i hs;split at h
 case isFalse=>simp at h
 rename_i c;split at h
 ·simp at h
 rename_i a;obtain⟨⟨d,_⟩,e⟩:=ri l none hs;have b:∀s∈l,∀n∈s.cond.names,vD l n=true:=fun s hs n f=>ql.1 (ql.1 c s hs) n f
 refine⟨by omega,d,e,b,fun i hi=>?_⟩;exact a ((FF (by omega) b).2 ⟨i,hi⟩)
noncomputable def rkG (l:List qa) (i:Nat):Nat:=NT (fun a b=>b∈yU l a) l.length i
theorem LN{l:List qa}(h:bh l)(i:Nat):rkG l i<=100:=zG (UZ _ _ _) h.len
theorem LO{l:List qa}(h:bh l)(i:Nat):∀j∈yU l i,rkG l j<rkG l i:=fun j a=>U0 (NU h.known i j a) a (h.acyc j)
mutual
def qO.ZN(XY:za->Bool)(b:qO->Bool):qO->Bool
 | .mk k a o v p n l=>if k=1 then allM XY b l else if k=2 then anyM XY b l else if k=3 then !(zgd XY b l)else if k=5 then XY n else b (.mk k a o v p n l)
def allM(XY:za->Bool)(a:qO->Bool):List qO->Bool
 |[]=>true
 |c::l=>c.ZN XY a&&allM XY a l
def anyM(XY:za->Bool)(a:qO->Bool):List qO->Bool
 |[]=>false
 |c::l=>c.ZN XY a||anyM XY a l
def zgd(XY:za->Bool)(a:qO->Bool):List qO->Bool
 |[]=>false
 |c::_=>c.ZN XY a
end
def hdC(f:qO->Bool):List qO->Bool
 |[]=>false
 |x::_=>f x
theorem rm(XY:za->Bool)(b:qO->Bool)(c:qO):c.ZN XY b=if c.kind=1 then c.args.all (fun x=>x.ZN XY b)else if c.kind=2 then c.args.any (fun x=>x.ZN XY b)else if c.kind=3 then !(hdC (fun x=>x.ZN XY b) c.args)else if c.kind=5 then XY c.name else b c:=by
 have e:∀l,allM XY b l=l.all fun x=>x.ZN XY b:=fun l=>by
  induction l with
  |nil=>rfl
  |cons c l d=>rw[allM,d];rfl
 have f:∀l,anyM XY b l=l.any fun x=>x.ZN XY b:=fun l=>by
  induction l with
  |nil=>rfl
  |cons c l d=>rw[anyM,d];rfl
 have g:∀l,zgd XY b l=hdC (fun x=>x.ZN XY b) l:=fun l=>by cases l<;>rfl
 cases c with
 |mk k a o v p n l=>rw[qO.ZN,e,f,g];rfl
theorem LP{f g:za->Bool}{d:qO->Bool}(c:qO):(∀n∈c.names,f n=g n)->c.ZN f d=c.ZN g d:=by
 induction c using qO.ind with
 |h k a o v p n l q=>
  intro h;rw[vw]at h;have b:∀x∈l,x.ZN f d=x.ZN g d:=fun x e=>q x e fun m r=>h m (qg.2 (.inr (Ke.2 ⟨x,e,r⟩)))
  rw[rm,rm];simp only[qO.kind,qO.args,qO.name];have s:(l.all fun x=>x.ZN f d)=l.all fun x=>x.ZN g d:=by rw[qc,ql,ql];exact⟨fun i x e=>by rw[<-b x e];exact i x e,fun i x e=>by rw[b x e];exact i x e⟩
  have t:(l.any fun x=>x.ZN f d)=l.any fun x=>x.ZN g d:=by rw[qc,vy,vy];exact⟨fun⟨x,e,i⟩=>⟨x,e,by rw[<-b x e];exact i⟩,fun⟨x,e,i⟩=>⟨x,e,by rw[b x e];exact i⟩⟩
  rw[s,t];have u:hdC (fun x=>x.ZN f d) l=hdC (fun x=>x.ZN g d) l:=by
   cases l with
   |nil=>rfl
   |cons x l=>exact b x (by simp)
  rw[u];by_cases j:k=5
  ·rw[h n (by simp[qO.kind,qO.name,j])]
  ·simp only[j,qJ]
def U2(l:List qa)(a:za)(b:qO->Bool)(i:Nat)(f:za->Bool):Bool:=match l[i]? with
 |some s=>s.ins.contains a||(!s.outs.contains a&&s.cond.ZN f b)
 |none=>false
noncomputable def PW (l:List qa) (a:za) (b:qO->Bool):Nat->Bool:=FB (fun i f=>U2 l a b i fun n=>f (xI l n)) 101
theorem NV{l:List qa}(h:bh l)(a:za)(b:qO->Bool)(i:Nat):PW l a b i=U2 l a b i fun n=>PW l a b (xI l n):=by
 refine zdb (succ:=yU l) (rk:=rkG l) (N:=100) (fun i f g c=>?_) (LO h) (LN h) i;simp only[U2];cases hs:l[i]? with
 |none=>rfl
 |some s=>simp only;rw[LP s.cond (f:=fun n=>f (xI l n)) (g:=fun n=>g (xI l n)) fun n d=>c (xI l n) (by unfold yU;rw[hs];exact X4 d)]
noncomputable def zkA (l:List qa) (b:za) (a:qO->Bool) (c:qO):Bool:=c.ZN (fun n=>PW l b a (xI l n)) a
theorem Cz{l:List qa}(a:bG (l.map qa.name)){i:Nat}{s:qa}(h:l[i]?=some s):xI l s.name=i/\vD l s.name=true:=by have:=Cv a (j:=i) (s:=s.name) (by rw[qQ,h];rfl);unfold xI vD;rw[this];exact⟨rfl,rfl⟩
noncomputable def LQ:zb->Option O:=z6 (α:=qa×za) (fun a=>[.agg a.1.V,str a.2]) (fun _=>True) (fun a=>int (yK a.1.name a.2))
theorem mi(x:qa)(s:za)(Y:Hp)(Z:Nat):zf false [] LQ [.agg x.V,str s] Y Z=some (int (yK x.name s),Y,Z):=
 hPc (x,s) _ _ (by simp[jc]) (fun a b e=>by obtain⟨c,d⟩:=a;obtain⟨f,g⟩:=b;simp only[zh,zD,O.agg.injEq]at e;rw[Xi e.1,q9 e.2]) trivial (.inl rfl)
noncomputable abbrev zhc:Ctx:=zQ prog [(89,zf false [] (PE yK))]
theorem FG:zg prog 114 (zf false [] LQ):=
 pS1 (zph mixed ⟨vj,trivial⟩:AM.Good zhc _) func114 false [] fun⟨x,s⟩ _=>⟨by simp[f114],_,zm rfl (by simp[f114,jc]),zW _⟩
noncomputable def U3:zb->Option O:=z6 (α:=List qa×za) (fun a=>[.sl 10 (a.1.map qa.V),str a.2,.fn (.func 114) [] []]) (fun a=>a.1.length<=zx) (fun a=>.wY [int (Zy (a.1.map qa.name) a.2).1,qz (Zy (a.1.map qa.name) a.2).2])
theorem LR(l:List qa)(s:za)(Y:Hp)(Z:Nat)(h:l.length<=zx):zf false [] U3 [.sl 10 (l.map qa.V),str s,.fn (.func 114) [] []] Y Z=some (.wY [int (Zy (l.map qa.name) s).1,qz (Zy (l.map qa.name) s).2],Y,Z):=
 hPc (l,s) _ _ rfl (fun a b e=>by obtain⟨f,g⟩:=a;obtain⟨i,j⟩:=b;simp only[zh,zD]at e;obtain⟨c,d⟩:=e;injection c with _ c;rw[yX (fun _ _=>Xi) c,q9 d]) h (.inl rfl)
noncomputable abbrev zfB:Ctx:=zQ prog [(114,zf false [] LQ)]
theorem PX(l:List qa)(s:za)(w:l.length<=zx):zr zfB f113 [.sl 10 (l.map qa.V),str s,.fn (.func 114) [] []]=some (.wY [int (Zy (l.map qa.name) s).1,qz (Zy (l.map qa.name) s).2]):=by
 refine zm rfl ?_;unfold zx at w;have h:(l.map qa.name).length=l.length:=by simp
 simp;refine ZE (fun st=>st.U 0=.sl 10 (l.map qa.V)/\st.U 1=str s/\st.U 2=.fn (.func 114) [] []/\st.U 8=int l.length/\∃lo hi:Nat,lo<=hi/\hi<=l.length/\st.U 9=int lo/\st.U 10=int hi/\kI (Qg (l.map qa.name) s) 0 (l.map qa.name).length=kI (Qg (l.map qa.name) s) lo hi)
  (fun st=>(Wz (st.U 10)).toNat-(Wz (st.U 9)).toNat) ⟨by simp,by simp,by simp,by simp,0,l.length,by simp,by simp,by simp,by simp,by rw[h]⟩ ?_
 rintro⟨U,Y,Z⟩ ⟨i,j,k,n,lo,hi,y,t,o,d,f⟩;simp only at i j k n o d;by_cases b:lo<hi
 ·have a:=fun x Y Z=>mi x s Y Z
  have v:=zpg ((lo:Int)+hi);have z:(lo+hi)/2<l.length:=by omega
  obtain⟨m,A⟩:∃m,m=(lo+hi)/2:=⟨_,rfl⟩;have g:i6.wrap ((IntKind.u64.wrap ((lo:Int)+hi)).fdiv (2 ^ min 1 IntKind.u64.bits))=(m:Int):=by
   have B:IntKind.u64.wrap ((lo:Int)+hi)=(lo:Int)+hi:=by rw[Kb];omega
   have C:(2 ^ min 1 IntKind.u64.bits:Int)=2:=by decide
   rw[B,C,Ql _ (by omega),zi (by omega) (by omega)];omega
  have e:m<l.length:=by omega
  have D:=zlL m;have u:Qg (l.map qa.name) s m=decide (yK l[m].name s<0):=by simp[Qg,e]
  rw[QN (lo:=lo) b,<-A,u]at f;have c:=a l[m];simp only[jc]at c;by_cases r:yK l[m].name s<0
  ·simp only[r,cY,qA]at f;simp[i,j,k,n,o,d,b,v,g,e,c,r,D,jc];exact⟨⟨m+1,hi,by omega,t,by omega,rfl,by rw[h]at f;exact f⟩,by omega⟩
  ·simp only[r,gz,zF,qJ]at f;simp[i,j,k,n,o,d,b,v,g,e,c,r,jc];exact⟨⟨lo,m,by omega,by omega,rfl,rfl,by rw[h]at f;exact f⟩,by omega⟩
 ·have f:kI (Qg (l.map qa.name) s) 0 (l.map qa.name).length=lo:=by rw[f,J1 (lo:=lo) b]
  have a:=fun x Y Z=>mi x s Y Z
  unfold Zy;rw[f];by_cases p:lo<l.length
  ·have c:=a l[lo];simp only[jc]at c;simp[i,j,k,n,o,d,b,p,c,jc,f113,qS]
  ·have q:l[lo]?=none:=wP (by omega);simp[i,j,k,n,o,d,b,p,q,f113,qS]
theorem LS:zg prog 113 (zf false [] U3):=
 pS1 (zw (q:=[114]) mixed ⟨FG,fun _=>zu _ _,trivial⟩:AM.Good zfB _) func113 false [] fun⟨l,s⟩ a=>⟨zG (zl 3) (by decide),_,PX l s a,zW _⟩
noncomputable def Aq:zb->Option O:=z6 (α:=List qa×za) (fun a=>[.sl 10 (a.1.map qa.V),str a.2]) (fun a=>a.1.length<=zx) (fun a=>.wY [int (Zy (a.1.map qa.name) a.2).1,qz (Zy (a.1.map qa.name) a.2).2])
theorem dy(l:List qa)(s:za)(Y:Hp)(Z:Nat)(h:l.length<=zx):zf false [] Aq [.sl 10 (l.map qa.V),str s] Y Z=some (.wY [int (Zy (l.map qa.name) s).1,qz (Zy (l.map qa.name) s).2],Y,Z):=
 hPc (l,s) _ _ rfl (fun a b e=>by obtain⟨f,g⟩:=a;obtain⟨i,j⟩:=b;simp only[zh,zD]at e;obtain⟨c,d⟩:=e;injection c with _ c;rw[yX (fun _ _=>Xi) c,q9 d]) h (.inl rfl)
noncomputable abbrev zkB:Ctx:=zQ prog [(113,zf false [] U3)]
theorem dz:zg prog 66 (zf false [] Aq):=
 pS1 (zph mixed ⟨LS,trivial⟩:AM.Good zkB _) func66 false [] fun⟨l,s⟩ a=>by
  have b:=fun Y Z=>LR l s Y Z a
  exact⟨by simp[f66],_,zm rfl (by simp[b,qS,f66]),zW _⟩
noncomputable def FTl (out:List za->O) (a:List za->Prop):zb->Option O:=z6 (α:=List za) (fun l=>[.sl 1 (zJ l)]) a out
theorem fv(out:List za->O)(c:List za->Prop)(l:List za)(Y:Hp)(Z:Nat)(h:c l)(d:(out l).flat=true):zf false [] (FTl out c) [.sl 1 (zJ l)] Y Z=some (out l,Y,Z):=
 hPc l _ _ rfl (fun a b e=>by
  simp only[zh,zD]at e;injection e with _ e
  exact kn e) h (.inl d)
def Kt(l:List za)(k:Nat):Option za:=if k=0 then none else l[k-1]?
noncomputable abbrev Cck:Ctx:=zQ prog [(18,zf false [] (FS j8))]
theorem rn(l:List za)(h:Kf l<=zx):zr Cck f91 [.sl 1 (zJ l)]=some (int (vE l)):=by
 have D:=Jv l;have z:=fun s (hs:s∈l)=>fu hs
 unfold zx at h;refine zm rfl ?_;unfold vE;by_cases o:(1000:Int)<l.length
 ·rw[zd o];simp[o,f91]
 rw[ze o];simp[o];refine zI (fun k U Y Z=>U 0=.sl 1 (zJ l)/\U 8=.sl 1 (zJ l)/\U 9=int l.length/\U 10=int k/\Vn none l=Vn (Kt l k) (l.drop k)) l.length
  ⟨by simp,by simp,by simp,by simp,by simp[Kt]⟩ ?_
 rintro k U Y Z E ⟨f,g,i,c,a⟩;by_cases b:k<l.length
 ·have F:=zlL k;obtain⟨s,hs⟩:=exI (l[k]);have d:s.length<=zx:=by have:=z s (by rw[<-hs];exact zj b);unfold zx;omega
  rw[rf b,hs]at a;have m:Kt l (k+1)=some s:=by simp[Kt,b,hs]
  cases e:j8 s
  ·rw[e,ze (by simp)]at a;simp[f,g,i,c,b,hs,d,e,a,f91]
  rw[e,zd rfl]at a;by_cases A:k=0
  ·subst A;have B:=zpg 1;simp only[Kt,vf,qA,zF,qJ]at a;simp[f,g,i,c,b,hs,d,e,B];exact⟨by omega,by rw[a,m];simp⟩
  ·obtain⟨j,rfl⟩:∃j,k=j+1:=⟨k-1,by omega⟩;have q:j<l.length:=by omega
   have t:i6.wrap ((j:Int)+1-1)=(j:Int):=by rw[zi (by omega) (by omega)];omega
   have n:=zpg (j:Int);have u:((j:Int)+1).toNat=j+1:=by omega
   have v:0<(j:Int)+1:=by omega
   have w:0<=(j:Int)+1:=by omega
   have x:(j:Int)+1<l.length:=by omega
   have C:=zpg ((j:Int)+1+1);have y:(Op.bytesLess s l[j]||s==l[j])=K3 s l[j]:=rfl;have r:Kt l (j+1)=some l[j]:=by simp[Kt,q]
   simp only[r,vf]at a;cases p:K3 s l[j]
   ·rw[p,ze (by simp)]at a;simp[f,g,i,c,b,q,hs,d,e,t,n,u,v,w,x,y,p,C];exact⟨by omega,by rw[a,m]⟩
   ·rw[p,zd rfl]at a;simp[f,g,i,c,b,q,hs,d,e,t,n,u,v,w,x,y,p,a,f91]
 ·obtain rfl:k=l.length:=by omega
  rw[zo]at a;have a:Vn none l=0:=by rw[a];rfl
  simp[f,g,i,c,a,f91]
theorem np:zg prog 91 (zf false [] (FTl (fun l=>int (vE l)) fun l=>Kf l<=zx)):=
 pS1 (zph mixed ⟨YB,trivial⟩:AM.Good Cck _) func91 false [] fun l a=>⟨zG (zl 1) (by decide),_,rn l a,zW _⟩
theorem tz:zg prog 182 (zf false [] ax):=
 zX (fn:=f182) yz (zpi func182) false [] _ fun args r h=>by
  unfold ax at h;split at h
  ·injection h with h;subst h;exact⟨by simp[f182],_,zm rfl (by simp[f182]),zW _⟩
  ·cases h
def lsP(a b:za):O:=qz (Op.bytesLess a b)
theorem zdc(a b:za)(Y:Hp)(Z:Nat)(h:a.length<=zx)(c:b.length<=zx):zf false [] (Zo lsP fun _ _=>True) [str a,str b] Y Z=some (qz (Op.bytesLess a b),Y,Z):=kl _ _ a b Y Z h c trivial rfl
noncomputable abbrev Cls:Ctx:=zQ prog [(222,zf false [] ax)]
theorem LU:zg prog 181 (zf false [] (Zo lsP fun _ _=>True)):=
 zX (fn:=f181) (zph mixed ⟨eY,trivial⟩:AM.Good Cls _) (zpi func181) false [] _ fun args r h=>by obtain⟨a,b,rfl,c,d,_,rfl⟩:=kC h;exact⟨by simp[f181],_,zm rfl (by simp[lsP,f181]),zW _⟩
noncomputable def FKs (out:List za->za->O):zb->Option O:=z6 (α:=List za×za) (fun a=>[.sl 1 (zJ a.1),str a.2]) (fun a=>Kf a.1<=zx/\a.2.length<=zx) (fun a=>out a.1 a.2)
theorem FH(out:List za->za->O)(l:List za)(s:za)(Y:Hp)(Z:Nat)(h:Kf l<=zx)(d:s.length<=zx)(f:(out l s).flat=true):zf false [] (FKs out) [.sl 1 (zJ l),str s] Y Z=some (out l s,Y,Z):=
 hPc (l,s) _ _ rfl (fun a b e=>by obtain⟨i,j⟩:=a;obtain⟨k,m⟩:=b;simp only[zh,zD]at e;obtain⟨c,g⟩:=e;injection c with _ c;rw[kn c,q9 g]) ⟨h,d⟩ (.inl f)
noncomputable def bkP (l:List za) (s:za):O:=.wY [int (Zy l s).1,qz (Zy l s).2]
noncomputable def hkP (l:List za) (s:za):O:=qz (Zy l s).2
noncomputable abbrev Cbk:Ctx:=zQ prog [(181,zf false [] (Zo lsP fun _ _=>True)),(182,zf false [] ax)]
theorem LV(l:List za)(s:za)(A:Kf l<=zx)(hs:s.length<=zx):zr Cbk f145 [.sl 1 (zJ l),str s]=some (bkP l s):=by
 refine zm rfl ?_;have J:=Jv l;have B:=fun s (hs:s∈l)=>fu hs
 unfold zx at A hs;have i:(zJ l).length=l.length:=by simp[zJ]
 have j:∀(k:Nat) (h:k<(zJ l).length) (C:k<l.length),(zJ l)[k]=[str l[k]]:=fun k h C=>by simp[zJ]
 simp[i];refine ZE (fun st=>st.U 0=.sl 1 (zJ l)/\st.U 1=str s/\st.U 6=int l.length/\∃lo hi:Nat,lo<=hi/\hi<=l.length/\st.U 7=int lo/\st.U 8=int hi/\kI (Qg l s) 0 l.length=kI (Qg l s) lo hi)
  (fun st=>(Wz (st.U 8)).toNat-(Wz (st.U 7)).toNat) ⟨by simp,by simp,by simp,0,l.length,by simp,by simp,by simp,by simp,rfl⟩ ?_
 rintro⟨U,Y,Z⟩ ⟨p,q,r,lo,hi,D,w,t,u,e⟩;simp only at p q r t u;by_cases c:lo<hi
 ·have z:=zpg ((lo:Int)+hi);have E:(lo+hi)/2<l.length:=by omega
  obtain⟨m,x⟩:∃m,m=(lo+hi)/2:=⟨_,rfl⟩;have f:i6.wrap ((IntKind.u64.wrap ((lo:Int)+hi)).fdiv (2 ^ min 1 IntKind.u64.bits))=(m:Int):=by
   have F:IntKind.u64.wrap ((lo:Int)+hi)=(lo:Int)+hi:=by rw[Kb];omega
   have G:(2 ^ min 1 IntKind.u64.bits:Int)=2:=by decide
   rw[F,G,Ql _ (by omega),zi (by omega) (by omega)];omega
  have a:m<l.length:=by omega
  have b:m<(zJ l).length:=by omega
  have H:=zlL m;have y:Qg l s m=Op.bytesLess l[m] s:=by simp only[Qg,zq a];rw[qc,zP];exact Ju _ _
  rw[QN (lo:=lo) c,<-x,y]at e;have d:=fun Y Z=>zdc l[m] s Y Z (by have:=B _ (zj a);unfold zx;omega) (by unfold zx;omega)
  cases o:Op.bytesLess l[m] s
  ·rw[o,ze (by simp)]at e;rw[o]at d;simp[p,q,r,t,u,c,z,f,i,b,a,j m b a,d];exact⟨⟨lo,m,by omega,by omega,rfl,rfl,e⟩,by omega⟩
  ·rw[o,zd rfl]at e;rw[o]at d;simp[p,q,r,t,u,c,z,f,i,b,a,j m b a,d,H];exact⟨⟨m+1,hi,by omega,w,by omega,rfl,e⟩,by omega⟩
 ·have e:kI (Qg l s) 0 l.length=lo:=by rw[e,J1 (lo:=lo) c]
  unfold bkP Zy;rw[e];by_cases n:lo<l.length
  ·have g:lo<(zJ l).length:=by omega
   have I:(yK l[lo] s==0)=(l[lo]==s):=by rw[qc,jq,jq];exact vN _ _
   cases o:l[lo]==s <;>
    simp[p,q,r,t,u,c,n,g,j lo g n,I,o,f145,qS]
  ·have v:l[lo]?=none:=wP (by omega);simp[p,q,r,t,u,c,n,v,f145,qS]
theorem FJ:zg prog 145 (zf false [] (FKs bkP)):=
 pS1 (zph mixed ⟨LU,tz,trivial⟩:AM.Good Cbk _) func145 false [] fun⟨l,s⟩ ⟨a,hs⟩=>⟨zG (zl 2) (by decide),_,LV l s a hs,zW _⟩
noncomputable abbrev Chk:Ctx:=zQ prog [(145,zf false [] (FKs bkP))]
theorem fw:zg prog 94 (zf false [] (FKs hkP)):=
 pS1 (zph mixed ⟨FJ,trivial⟩:AM.Good Chk _) func94 false [] fun⟨l,s⟩ ⟨b,hs⟩=>by
  have a:=fun Y Z=>FH bkP l s Y Z b hs rfl
  simp only[bkP]at a;exact⟨by simp[f94],_,zm rfl (by simp[a,hkP,qS,f94]),zW _⟩
theorem CA(l:List za)(s:za)(Y:Hp)(Z:Nat)(h:Kf l<=zx)(a:s.length<=zx):zf false [] (FKs hkP) [.sl 1 (zJ l),str s] Y Z=some (qz (Zy l s).2,Y,Z):=FH hkP l s Y Z h a rfl
theorem nR{l:List za}(a:bG l)(s:za):(Zy l s).2=l.contains s:=by
 rw[qc,zhQ];constructor
 ·intro h;exact zM (Cu h)
 ·intro h;obtain⟨j,b⟩:=VE h;rw[Cv a b]
noncomputable def mj (g:Nat) (sp:AM.Spec):Nat->AM.Spec
 | 0=>fun _ _ _=>none
 |k+1=>we (zQ prog [(96,mj g sp k),(g,sp)]) f96
theorem WY{f:FuncId}(a:∃fn,prog.funcs[f]?=some fn/\(fn.name== "runtime.NumGoroutine")=false/\fn.body.isNone=false):zg prog f (fun _ _ _=>none):=⟨a,fun _ _ _ _ _ _ h=>by cases h⟩
theorem dA{g:Nat}{sp:AM.Spec}(h:zg prog g sp):∀k,zg prog 96 (mj g sp k)
 | 0=>WY ⟨_,func96,by kernel_rfl,by kernel_rfl⟩
 |k+1=>zpj (zw (q:=[]) (l:=[(96,mj g sp k),(g,sp)]) mixed ⟨dA h k,by simp,h,by simp,trivial⟩) func96
def jg{U:Type}(T:Nat->Prop)(Rep:U->Hp->Prop)(r:O)(s:U)(Y:Hp)(Z:Nat)(x:O)(a:Hp)(b:Nat):Prop:=x=r/\Rep s a/\Z<=b/\∀j,j<Z->¬T j->a j=Y j
theorem WZ{S α:Type}{f:S->α->Bool×S}{s:S}{a:α}{l:List α}(h:(f s a).1=true):wG f s (a::l)=(true,(f s a).2):=by rw[wG,zd h]
theorem QO{S α:Type}{f:S->α->Bool×S}{s:S}{a:α}{l:List α}(h:(f s a).1=false):wG f s (a::l)=wG f (f s a).2 l:=by rw[wG,ze (by simp[h])]
theorem Vo{α:Type}(f:α->Bool):∀l:List α,(wG (fun(_:Unit) n=>(f n,())) () l).1=l.any f
 |[]=>rfl
 |a::l=>by
  cases h:f a
  ·simp[wG,h,Vo f l]
  ·simp[wG,h]
theorem iM{f:qO->Bool}:∀l:List qO,(wG (fun(_:Unit) n=>(!f n,())) () l).1=!(l.all f)
 |[]=>rfl
 |a::l=>by
  cases h:f a
  ·simp[wG,h]
  ·simp[wG,h,iM l]
theorem rq{U:Type}{T:Nat->Prop}{Rep:U->Hp->Prop}{step:U->za->Bool×U}{Q:za->Prop}{g:Nat}{sp:AM.Spec}{cap:zb}{Z0:Nat}(t:¬g=96)
  (X:∀j,T j->j<Z0) (K:∀s Y j b,Z0<=j->Rep s Y->Rep s (qR Y j b))
  (hS:∀s n Y Z,Q n->n.length<=zx->Z0<=Z->Rep s Y->∃x A B,sp (str n::cap) Y Z=some (x,A,B)/\jg T Rep (qz (!(step s n).1)) (step s n).2 Y Z x A B) :
  ∀(k:Nat) (c:qO) (s:U) (Y:Hp) (Z:Nat),c.cb<=k->c.cb<=zx->(∀n∈c.names,Q n)->Z0<=Z->Rep s Y ->
   ∃x A B,mj g sp k [.agg c.V,.fn (.func g) [] cap] Y Z=some (x,A,B)/\jg T Rep (qz (!(wG step s c.names).1)) (wG step s c.names).2 Y Z x A B
 | 0,c,_,_,_,h,_,_,_,_=>absurd h (by have:=V7 c;omega)
 |k+1,c,s,C,a,hk,hl,hq,L,M=>by
  have hcb:=Qb c;have hal:=jW c.args;have f:=vw c;unfold mj we;rw[zd (by simp[f96])];refine qw rfl ?_;have N:=hl;unfold zx at N;have D:Rep s (qR C a (some ⟨70,7,false,[c.V]⟩)):=K _ _ _ _ L M;have P:¬T a:=fun h=>by have:=X _ h;omega
  refine km (fun U Y Z=>U 1=.fn (.func g) [] cap/\U 2=.ref a 0 0/\Y=qR C a (some ⟨70,7,false,[c.V]⟩)/\Z=a+1) (by simp) ?_;rintro U Y Z ⟨o,z,rfl,rfl⟩;refine km (fun U Y Z=>U 1=.fn (.func g) [] cap/\U 2=.ref a 0 0/\a<Z/\Y a=some ⟨70,7,false,[c.V]⟩/\∃r,Rep r Y/\(∀j,j<a->¬T j->Y j=C j)/\wG step s c.names=wG step r (yh c.args)) ?_ ?_
  ·by_cases E:c.kind=5
   ·rw[zd E]at f;obtain⟨x,Y2,R,p,rfl,F,n2,G⟩:=hS s c.name _ (a+1) (hq c.name (by rw[f];simp)) (by unfold zx;omega) (by omega) D;cases e:(step s c.name).1
    ·rw[e]at p;simp[o,z,E,t,p];refine⟨by omega,by rw[G a (by omega) P];simp,(step s c.name).2,F,fun j J q=>by rw[G j (by omega) q,zt _ _ _ _ (by omega)],?_⟩;rw[f];exact QO e
    ·rw[e]at p;have hv:wG step s c.names=(true,(step s c.name).2):=by rw[f];exact WZ e
     simp[o,z,E,t,p,jg,hv,f96];exact⟨F,by omega,fun j J q=>by rw[G j (by omega) q,zt _ _ _ _ (by omega)]⟩
   ·rw[ze E,wC]at f;have S:=eqF0 E;simp[o,z,S];exact⟨s,D,fun j J q=>by rw[zt _ _ _ _ (by omega)],by rw[f]⟩
  rintro U Y Z ⟨o,z,u,hb,r,H,l,d⟩;simp[z,hb];refine zI (fun k U Y Z=>U 1=.fn (.func g) [] cap/\U 18=.sl 7 (c.args.map qO.V)/\U 19=int c.args.length/\U 20=int k/\a<Z/\(∀j,j<a->¬T j->Y j=C j)/\∃s2,Rep s2 Y/\wG step s c.names=wG step s2 (yh (c.args.drop k))) c.args.length
   ⟨by simp[o],by simp,by simp,by simp,u,l,r,H,by simpa using d⟩ ?_
  clear o z u hb H l d r U Y Z;rintro i U Y Z hi ⟨o,v,w,y,u,l,r,H,d⟩;by_cases m:i<c.args.length
  ·have hm:=vC (zj m);have hw:=zlL i;have W:∀n∈c.args[i].names,Q n:=fun n q=>hq n (by rw[f];exact qg.2 (.inr (Ke.2 ⟨_,zj m,q⟩)))
   obtain⟨x,Y2,R,p,rfl,F,n2,G⟩:=rq t X K hS k c.args[i] r (qR Y Z (some ⟨70,7,false,[c.args[i].V]⟩)) (Z+1) (by omega) (by unfold zx;omega) W (by omega) (K _ _ _ _ (by omega) H);rw[FD m,Al]at d;have I:∀j,j<a->¬T j->Y2 j=C j:=fun j J q=>by rw[G j (by omega) q,zt _ _ _ _ (by omega)];exact l j J q
   cases e:(wG step r c.args[i].names).1
   ·rw[e,ze (by simp)]at d;rw[e]at p;simp[o,v,w,y,m,p,hw];exact⟨by omega,by omega,I,_,F,d⟩
   ·rw[e,zd rfl]at d;rw[e]at p;simp[o,v,w,y,m,p,jg,d,f96];exact⟨F,by omega,I⟩
  ·obtain rfl:i=c.args.length:=by omega
   rw[zo]at d;simp only[yh,wG]at d;simp[o,v,w,y,jg,d,f96];exact⟨H,by omega,l⟩
noncomputable def FK (Ta:Qq):AM.Spec:=we (zQ prog Ta) f111
noncomputable def NW (Ta:Qq):AM.Spec:=we (zQ prog [(111,FK Ta)]) f62
theorem LW{Ta:Qq}(h:de True prog [] Ta):zg prog 111 (FK Ta):=zpj (zw (q:=[]) mixed h) func111
theorem LX{Ta:Qq}(h:de True prog [] Ta):zg prog 62 (NW Ta):=zpj (zw (q:=[]) (l:=[(111,FK Ta)]) mixed ⟨LW h,by simp,trivial⟩) func62
theorem U4{U:Type}{T:Nat->Prop}{Rep:U->Hp->Prop}{step:U->SpanLaw.Sp->Bool×U}{Ta:Qq}{g:Nat}{sp:AM.Spec}{fi cap:zb}{Z0:Nat}(A:lookup Ta g=some sp)(xs:List SpanLaw.Sp)(D:xs.length<=zx)
  (E:∀s x Y Z,x∈xs->Z0<=Z->Rep s Y->∃r b c,sp (fi++.agg (ja x)::cap) Y Z=some (r,b,c)/\jg T Rep (qz (step s x).1) (step s x).2 Y Z r b c)
  (h:U) (i:Hp) (a:Nat) (P:Z0<=a) (F:Rep h i) :
  ∃r b c,NW Ta [.sl 2 (xs.map ja),.fn (.func g) fi cap] i a=some (r,b,c)/\jg T Rep (qz (wG step h xs).1) (wG step h xs).2 i a r b c:=by
 have q:∃r b c,FK Ta [.sl 2 (xs.map ja),.fn (.func g) fi cap] i a=some (r,b,c)/\∃z:Int,r=int z/\decide (0<=z)=(wG step h xs).1/\jg T Rep (int z) (wG step h xs).2 i a r b c:=by
  unfold FK we;rw[zd (by simp[f111])];refine qw rfl ?_;unfold zx at D;simp;refine zI (fun k U Y Z=>U 0=.sl 2 (xs.map ja)/\U 1=.fn (.func g) fi cap/\U 7=int xs.length/\U 8=int k/\a<=Z/\(∀j,j<a->¬T j->Y j=i j)/\∃s,Rep s Y/\wG step h xs=wG step s (xs.drop k)) xs.length ⟨by simp,by simp,by simp,by simp,zl _,fun _ _ _=>rfl,h,F,by simp⟩ ?_;rintro k U Y Z Q ⟨t,u,v,w,y,m,s,n,f⟩;by_cases d:k<xs.length
  ·have G:=zlL k;obtain⟨x,p⟩:=exI (xs[k]);obtain⟨r,Y2,H,l,rfl,B,R,I⟩:=E s x Y Z (by rw[<-p];exact zj d) (by omega) n;rw[zc d,p]at f;have o:∀j,j<a->¬T j->Y2 j=i j:=fun j J C=>by rw[I j (by omega) C];exact m j J C
   cases e:(step s x).1
   ·rw[QO e]at f;rw[e]at l;simp[t,u,v,w,d,p,A,l,G];exact⟨by omega,by omega,o,_,B,f⟩
   ·rw[WZ e]at f;rw[e]at l;simp[t,u,v,w,d,p,A,l,f,jg,f111];exact⟨B,by omega,o⟩
  ·obtain rfl:k=xs.length:=by omega
   rw[zo]at f;simp only[wG]at f;simp[t,u,v,w,f,jg,f111];exact⟨n,y,m⟩
 obtain⟨r,b,c,l,z,rfl,K,_,L,M,N⟩:=q;unfold NW we;rw[zd (by simp[f62])];refine qw rfl ?_;simp[l,K,jg,f62];exact⟨L,M,N⟩
abbrev Rg:=Int×Int×Int
abbrev QU(r:Rg):zb:=[int r.1,int r.2.1,int r.2.2]
theorem FL{a b:Rg}(h:QU a=QU b):a=b:=by simp only[zh,zD,O.v.injEq,Value.int.injEq,true_and]at h;exact zk3 h.1 (zk3 h.2.1 h.2.2)
theorem dB{a b:List Rg}(h:O.sl 3 (a.map QU)=O.sl 3 (b.map QU)):a=b:=by injection h with _ h;exact yX (fun _ _=>FL) h
def rgO(a:Int)(r:Rg):Bool:=(r.1 != a)||decide (r.2.1<=r.1)
def rgT(p:Option Int)(r:Rg):Bool:=match p with
 |none=>false
 |some q=>q==r.2.2
def NX(n:Int):Int->Option Int->List Rg->Int
 |at_,_,[]=>if at_=100000 then 0 else 8
 |at_,p,r::l=>if jD r.2.2 0 (n-1)then(if rgO at_ r then 8 else if(100000:Int)<r.2.1 then 1 else if rgT p r then 7 else NX n r.2.1 (some r.2.2) l)else 1
theorem FM{l:List Rg}{k:Nat}(h:k<l.length)(n a:Int)(p:Option Int):NX n a p (l.drop k)=if jD l[k].2.2 0 (n-1)then(if rgO a l[k]then 8 else if(100000:Int)<l[k].2.1 then 1 else if rgT p l[k]then 7 else NX n l[k].2.1 (some l[k].2.2) (l.drop (k+1)))else 1:=by rw[zc h,NX]
def Ku(l:List Rg)(k:Nat):Option Int:=if k=0 then none else(l[k-1]?).map (·.2.2)
def wW(l:List Rg)(n:Int):Int:=if l.length=0 then 9 else if(200:Int)<l.length then 2 else NX n 0 none l
theorem tA:zg prog 150 (zf false [] (F3 jD)):=
 zX (fn:=f150) yz (zpi func150) false [] _ fun args r h=>by obtain⟨a,b,c,rfl,rfl⟩:=oR h;exact⟨by simp[f150],_,zm rfl (by simp[f150,jD]),zW _⟩
noncomputable abbrev Cwf:Ctx:=zQ prog [(150,zf false [] (F3 jD))]
theorem iN(l:List Rg)(n:Int)(N:1<=n/\n<=20):zr Cwf f102 [.sl 3 (l.map QU),int n]=some (int (wW l n)):=by
 refine zm rfl ?_;have g:=zpg (n-1);rw[wW];by_cases v:l.length=0
 ·have:l=[]:=qv.1 v;subst this;simp[f102]
 have q:¬l=[]:=fun h=>v (by rw[h];rfl)
 have D:((l.length:Int)==0)=false:=by simpa using q
 by_cases E:(200:Int)<l.length
 ·simp[D,v,q,E,f102]
 simp[D,v,q,E];refine zI (fun k U Y Z=>U 0=.sl 3 (l.map QU)/\U 1=int n/\U 14=.sl 3 (l.map QU)/\U 15=int l.length/\U 16=int k/\∃a:Int,U 5=int a/\NX n 0 none l=NX n a (Ku l k) (l.drop k)) l.length
  ⟨by simp,by simp,by simp,by simp,by simp,0,by simp,by simp[Ku]⟩ ?_
 rintro k U Y Z P ⟨i,m,d,e,f,a,o,b⟩;by_cases c:k<l.length
 ·have Q:=zlL k;rw[FM c]at b;cases p:jD l[k].2.2 0 (n-1)
  case false=>rw[p]at b;simp at b;simp[i,m,o,d,e,f,c,g,p,b,f102]
  simp only[p,qA]at b;have r:((l[k].1 != a)||decide (l[k].2.1<=l[k].1))=rgO a l[k]:=rfl;cases z:rgO a l[k]
  case true=>rw[z]at r b;simp only[qA]at b;simp[i,m,o,d,e,f,c,g,p,r,b,f102]
  rw[z]at r;simp only[z,zF,qJ]at b;by_cases s:(100000:Int)<l[k].2.1
  ·rw[zd s]at b;simp[i,m,o,d,e,f,c,g,p,r,s,b,f102]
  rw[ze s]at b;have t:Ku l (k+1)=some l[k].2.2:=by simp[Ku,c]
  by_cases K:k=0
  ·subst K;simp only[Ku,qA,rgT,zF,qJ]at b;have L:=zpg 1;simp[i,m,o,d,e,f,c,g,p,r,s,L];exact⟨c,by rw[b,t];simp⟩
  ·obtain⟨j,rfl⟩:∃j,k=j+1:=⟨k-1,by omega⟩;have A:j<l.length:=by omega
   have F:i6.wrap ((j:Int)+1-1)=(j:Int):=by rw[zi (by omega) (by omega)];omega
   have u:=zpg (j:Int);have G:((j:Int)+1).toNat=j+1:=by omega
   have H:0<(j:Int)+1:=by omega
   have I:0<=(j:Int)+1:=by omega
   have J:(j:Int)+1<l.length:=by omega
   have M:=zpg ((j:Int)+1+1);have B:Ku l (j+1)=some l[j].2.2:=by simp[Ku,A]
   have w:(l[j].2.2==l[j+1].2.2)=rgT (some l[j].2.2) l[j+1]:=rfl;rw[B]at b;cases x:rgT (some l[j].2.2) l[j+1]
   ·rw[x]at w;simp only[x,zF,qJ]at b;simp[i,m,o,d,e,f,c,A,g,p,r,s,w,F,u,G,H,I,J,M];exact⟨by omega,by rw[b,t]⟩
   ·rw[x]at w;simp only[x,qA]at b;simp[i,m,o,d,e,f,c,A,g,p,r,s,w,F,u,G,H,I,J,b,f102]
 ·obtain rfl:k=l.length:=by omega
  rw[zo,NX]at b;by_cases y:a=100000
  ·rw[zd y]at b;simp[i,m,o,d,e,f,y,b,f102]
  ·rw[ze y]at b;have C:(a != 100000)=true:=by simpa using y
   simp[i,m,o,d,e,f,C,b,f102]
noncomputable def LY (out:List Rg->Int->O) (pre:List Rg->Int->Prop):zb->Option O:=z6 (α:=List Rg×Int) (fun a=>[.sl 3 (a.1.map QU),int a.2]) (fun a=>pre a.1 a.2) (fun a=>out a.1 a.2)
theorem YJ(out:List Rg->Int->O)(pre:List Rg->Int->Prop)(l:List Rg)(n:Int)(Y:Hp)(Z:Nat)(h:pre l n):zf false [] (LY out pre) [.sl 3 (l.map QU),int n] Y Z=some (out l n,Y,Z):=
 hPc (l,n) _ _ rfl (fun a b e=>by obtain⟨c,d⟩:=a;obtain⟨f,g⟩:=b;simp only[zh,zD]at e;rw[dB e.1,qB e.2]) h (.inr rfl)
theorem Kv:zg prog 102 (zf false [] (LY (fun l n=>int (wW l n)) fun _ n=>1<=n/\n<=20)):=
 pS1 (zw (q:=[150]) mixed ⟨tA,fun _=>zu _ _,trivial⟩:AM.Good Cwf _) func102 false [] fun⟨l,n⟩ a=>⟨zG (zl 2) (by decide),_,iN l n a,zW _⟩
def cM(n:Int):Int->Int->Option Int->List Rg->Prop
 |lo,hi,_,[]=>lo=hi
 |lo,hi,p,r::l=>r.1=lo/\r.1<r.2.1/\r.2.1<=hi/\0<=r.2.2/\r.2.2<n/\p≠some r.2.2/\cM n r.2.1 hi (some r.2.2) l
theorem Ar:∀{n a:Int} {p:Option Int} {l:List Rg},NX n a p l=0->cM n a 100000 p l
 |_,_,_,[],h=>by
  unfold NX at h;split at h
  ·assumption
  ·cases h
 |n,a,p,r::l,h=>by
  unfold NX at h;split at h
  case isFalse=>cases h
  rename_i b;split at h
  case isTrue=>cases h
  rename_i c;split at h
  case isTrue=>cases h
  rename_i e;split at h
  case isTrue=>cases h
  rename_i d;simp only[jD,zH,zP]at b;simp only[rgO,qd,zeO,ne_eq,zP,not_or,Decidable.not_not]at c;refine⟨c.1,by omega,by omega,b.1,by omega,?_,Ar h⟩;rintro rfl;exact d (by simp[rgT])
theorem Yo{l:List Rg}{n:Int}(h:wW l n=0):cM n 0 100000 none l/\l.length<=200/\0<l.length:=by
 unfold wW at h;split at h
 ·cases h
 split at h
 ·cases h
 exact⟨Ar h,by omega,by omega⟩
abbrev encI(n:Int):zb:=[int n]
def putR(l:List Rg)(f t v:Int):List Rg:=if t<=f then l else match l.getLast? with
 |some s=>if s.2.1=f/\s.2.2=v then l.dropLast++[(s.1,t,v)]else l++[(f,t,v)]
 |none=>[(f,t,v)]
def blkR(l:List Rg):Option kV:=if l.isEmpty then none else some ⟨126,3,true,l.map QU⟩
def zkC(Y:Hp)(Z:Nat)(x:O)(d:List Rg):Prop:=(x=.nil/\d=[])\/(d≠[]/\∃id,id<Z/\x=.own id 0 d.length/\Y id=blkR d)
structure wL where
 name:List UInt8
 qy:List UInt8
 rest:Int
def wL.V(x:wL):zb:=[str x.name,str x.qy,int x.rest]
theorem fx{a b:wL}(h:a.V=b.V):a=b:=by cases a;cases b;simp only[wL.V,zh,zD]at h;rw[q9 h.1,q9 h.2.1,qB h.2.2]
structure vK where
 name:List UInt8
 qy:List UInt8
 buckets:Int
 zk:List (List UInt8)
def vK.V(x:vK):zb:=[str x.name,str x.qy,int x.buckets,.sl 1 (zJ x.zk)]
theorem zdd{a b:vK}(h:a.V=b.V):a=b:=by
 cases a;cases b;simp only[vK.V,zh,zD]at h;obtain⟨d,e,f,c⟩:=h;injection c with _ c
 rw[q9 d,q9 e,qB f,kn c]
structure yM where
 at_:Int
 w7:List Sp
def yM.V(x:yM):zb:=[int x.at_,.sl 2 (x.w7.map ja)]
theorem NY{a b:yM}(h:a.V=b.V):a=b:=by cases a;cases b;simp only[yM.V,zh,zD]at h;rw[qB h.1,QK h.2]
structure Xp where
 name:List UInt8
 wE:List UInt8
 flag:List UInt8
 cond:qO
 qy:List UInt8
 xR:List Rg
 zN:List yM
def Xp.V(x:Xp):zb:=[str x.name,str x.wE,str x.flag]++x.cond.V++[str x.qy,.sl 3 (x.xR.map QU),.sl 2 (x.zN.map yM.V)]
theorem qD(x:Xp):x.V=[str x.name,str x.wE,str x.flag,int x.cond.kind,str x.cond.attr,int x.cond.op,.sl 5 (x.cond.yC.map qn.V),str x.cond.pat,str x.cond.name,.sl 7 (x.cond.args.map qO.V),str x.qy,.sl 3 (x.xR.map QU),.sl 2 (x.zN.map yM.V)]:=by unfold Xp.V;rw[qY];rfl
theorem dC{a b:Xp}(h:a.V=b.V):a=b:=by
 have e:a.cond.V=b.cond.V:=by rw[qD,qD]at h;simp only[zh,zD]at h;rw[qY,qY];simp only[zh,zD];exact⟨h.2.2.2.1,h.2.2.2.2.1,h.2.2.2.2.2.1,h.2.2.2.2.2.2.1,h.2.2.2.2.2.2.2.1,h.2.2.2.2.2.2.2.2.1,h.2.2.2.2.2.2.2.2.2.1⟩
 have c:=vQ e;rw[qD,qD]at h;simp only[zh,zD]at h;obtain⟨f,g,i,_,_,_,_,_,_,_,j,k,d⟩:=h;cases a;cases b;simp only at *;injection d with _ d
 rw[q9 f,q9 g,q9 i,c,q9 j,dB k,yX (fun _ _=>NY) d]
structure Bk where
 zk:List wL
 holds:List vK
 zZ:List Xp
def Bk.V(b:Bk):zb:=[.sl 3 (b.zk.map wL.V),.sl 4 (b.holds.map vK.V),.sl 13 (b.zZ.map Xp.V)]
theorem W0{a b:Bk}(h:a.V=b.V):a=b:=by
 cases a;cases b;simp only[Bk.V,zh,zD]at h;obtain⟨c,d,e⟩:=h;injection c with _ c
 injection d with _ d;injection e with _ e;rw[yX (fun _ _=>fx) c,yX (fun _ _=>zdd) d,yX (fun _ _=>dC) e]
def yt{α:Type}(f:α->Nat)(l:List α):Nat:=(l.map f).sum
theorem yv{α:Type}{f:α->Nat}:∀{l:List α} {x:α},x∈l->f x<=yt f l
 |y::l,x,h=>by
  simp only[yt,wD,n9];rcases zA.1 h with rfl|h
  ·omega
  ·have:=yv (f:=f) h;simp only[yt]at this;omega
theorem wa{α:Type}{f:α->Nat}(a:∀x,1<=f x):∀l:List α,l.length<=yt f l
 |[]=>by simp
 |y::l=>by have:=wa a l;have:=a y;simp only[yt,wD,n9,zV]at *;omega
def wL.cb(x:wL):Nat:=1+x.name.length+x.qy.length
def vK.cb(x:vK):Nat:=1+x.name.length+x.qy.length+yt (fun s=>1+s.length) x.zk
def yM.cb(x:yM):Nat:=1+x.w7.length
def Xp.cb(x:Xp):Nat:=x.name.length+x.wE.length+x.flag.length+x.cond.cb+x.qy.length+x.xR.length+yt yM.cb x.zN
def Bk.cb(b:Bk):Nat:=yt wL.cb b.zk+yt vK.cb b.holds+yt Xp.cb b.zZ
theorem xw(x:wL):1<=x.cb:=by unfold wL.cb;omega
theorem Wl(x:vK):1<=x.cb:=by unfold vK.cb;omega
theorem Kw(x:yM):1<=x.cb:=by unfold yM.cb;omega
theorem aJ(x:Xp):1<=x.cb:=by have:=V7 x.cond;unfold Xp.cb;omega
def y9(name a:za):Int:=if wb name=true then(if K3 name a=true then 8 else 0)else 5
noncomputable def PY (f:za->za->O):zb->Option O:=z6 (α:=za×za) (fun a=>[str a.1,str a.2]) (fun a=>a.1.length<=zx) (fun a=>f a.1 a.2)
theorem bH(f:za->za->O)(a b:za)(Y:Hp)(Z:Nat)(h:a.length<=zx)(c:(f a b).flat=true):zf false [] (PY f) [str a,str b] Y Z=some (f a b,Y,Z):=
 hPc (a,b) _ _ rfl BN h (.inl c)
noncomputable abbrev Cnf:Ctx:=zQ prog [(27,zf false [] (FS wb))]
theorem Qu:zg prog 99 (zf false [] (PY fun a b=>int (y9 a b))):=
 pS1 (zph mixed ⟨xW,trivial⟩:AM.Good Cnf _) func99 false [] fun⟨a,b⟩ d=>by
  have c:(Op.bytesLess a b||a==b)=K3 a b:=rfl;refine⟨by simp[f99],_,zm rfl ?_,zW _⟩;simp only at d;cases e:wb a
  ·simp[d,e,y9,f99]
  ·cases f:K3 a b
   ·simp[d,e,c,f,y9,f99]
   ·simp[d,e,c,f,y9,f99]
def YK(s:za):Bool:=jD s.length 1 40&&j8 s
noncomputable abbrev Csl:Ctx:=zQ prog [(26,zf false [] (F3 jD)),(18,zf false [] (FS j8))]
@[simp]theorem zkD:kg Csl 18:=yI (by rfl) (zu _ _)
theorem CB:zg prog 148 (zf false [] (FS YK)):=
 pS1 (zw (q:=[26,18]) mixed ⟨Z9,fun _=>zu _ _,YB,fun _=>zu _ _,trivial⟩:AM.Good Csl _) func148 false [] fun l Y=>⟨by simp[f148],_,zm rfl (by simp[Y,YK,f148]),zW _⟩
def QP(n:Int):Bool:=jD n 0 4000000000
noncomputable abbrev Ctm:Ctx:=zQ prog [(26,zf false [] (F3 jD))]
theorem Xj:zg prog 10 (zf false [] (ep QP)):=
 zX (fn:=f10) (zph mixed ⟨Z9,trivial⟩:AM.Good Ctm _) (zpi func10) false [] _ fun args r h=>by obtain⟨a,rfl,rfl⟩:=Ks h;exact⟨by simp[f10],_,zm rfl (by simp[QP,f10]),zW _⟩
noncomputable def U5:zb->Option O:=z6 (α:=wL×za) (fun a=>[.agg a.1.V,str a.2]) (fun _=>True) (fun a=>int (yK a.1.name a.2))
theorem ru(x:wL)(s:za)(Y:Hp)(Z:Nat):zf false [] U5 [.agg x.V,str s] Y Z=some (int (yK x.name s),Y,Z):=
 hPc (x,s) _ _ (by simp[wL.V]) (fun a b e=>by obtain⟨c,d⟩:=a;obtain⟨f,g⟩:=b;simp only[zh,zD,O.agg.injEq]at e;rw[fx e.1,q9 e.2]) trivial (.inl rfl)
noncomputable abbrev zkE:Ctx:=zQ prog [(89,zf false [] (PE yK))]
theorem LZ:zg prog 88 (zf false [] U5):=
 pS1 (zph mixed ⟨vj,trivial⟩:AM.Good zkE _) func88 false [] fun⟨x,s⟩ _=>⟨by simp[f88],_,zm rfl (by simp[f88,wL.V]),zW _⟩
noncomputable def FBsL:zb->Option O:=z6 (α:=List wL×za) (fun a=>[.sl 3 (a.1.map wL.V),str a.2,.fn (.func 88) [] []]) (fun a=>a.1.length<=zx) (fun a=>.wY [int (Zy (a.1.map wL.name) a.2).1,qz (Zy (a.1.map wL.name) a.2).2])
theorem PZ(l:List wL)(s:za)(Y:Hp)(Z:Nat)(h:l.length<=zx):zf false [] FBsL [.sl 3 (l.map wL.V),str s,.fn (.func 88) [] []] Y Z=some (.wY [int (Zy (l.map wL.name) s).1,qz (Zy (l.map wL.name) s).2],Y,Z):=
 hPc (l,s) _ _ rfl (fun a b e=>by obtain⟨f,g⟩:=a;obtain⟨i,j⟩:=b;simp only[zh,zD]at e;obtain⟨c,d⟩:=e;injection c with _ c;rw[yX (fun _ _=>fx) c,q9 d]) h (.inl rfl)
noncomputable abbrev CbsL:Ctx:=zQ prog [(88,zf false [] U5)]
theorem U6(l:List wL)(s:za)(w:l.length<=zx):zr CbsL f87 [.sl 3 (l.map wL.V),str s,.fn (.func 88) [] []]=some (.wY [int (Zy (l.map wL.name) s).1,qz (Zy (l.map wL.name) s).2]):=by
 refine zm rfl ?_;unfold zx at w;have h:(l.map wL.name).length=l.length:=by simp
 simp;refine ZE (fun st=>st.U 0=.sl 3 (l.map wL.V)/\st.U 1=str s/\st.U 2=.fn (.func 88) [] []/\st.U 8=int l.length/\∃lo hi:Nat,lo<=hi/\hi<=l.length/\st.U 9=int lo/\st.U 10=int hi/\kI (Qg (l.map wL.name) s) 0 (l.map wL.name).length=kI (Qg (l.map wL.name) s) lo hi)
  (fun st=>(Wz (st.U 10)).toNat-(Wz (st.U 9)).toNat) ⟨by simp,by simp,by simp,by simp,0,l.length,by simp,by simp,by simp,by simp,by rw[h]⟩ ?_
 rintro⟨U,Y,Z⟩ ⟨i,j,k,n,lo,hi,y,t,o,d,f⟩;simp only at i j k n o d;by_cases b:lo<hi
 ·have a:=fun x Y Z=>ru x s Y Z
  have v:=zpg ((lo:Int)+hi);have z:(lo+hi)/2<l.length:=by omega
  obtain⟨m,A⟩:∃m,m=(lo+hi)/2:=⟨_,rfl⟩;have g:i6.wrap ((IntKind.u64.wrap ((lo:Int)+hi)).fdiv (2 ^ min 1 IntKind.u64.bits))=(m:Int):=by
   have B:IntKind.u64.wrap ((lo:Int)+hi)=(lo:Int)+hi:=by rw[Kb];omega
   have C:(2 ^ min 1 IntKind.u64.bits:Int)=2:=by decide
   rw[B,C,Ql _ (by omega),zi (by omega) (by omega)];omega
  have e:m<l.length:=by omega
  have D:=zlL m;have u:Qg (l.map wL.name) s m=decide (yK l[m].name s<0):=by simp[Qg,e]
  rw[QN (lo:=lo) b,<-A,u]at f;have c:=a l[m];simp only[wL.V]at c;by_cases r:yK l[m].name s<0
  ·simp only[r,cY,qA]at f;simp[i,j,k,n,o,d,b,v,g,e,c,r,D,wL.V];exact⟨⟨m+1,hi,by omega,t,by omega,rfl,by rw[h]at f;exact f⟩,by omega⟩
  ·simp only[r,gz,zF,qJ]at f;simp[i,j,k,n,o,d,b,v,g,e,c,r,wL.V];exact⟨⟨lo,m,by omega,by omega,rfl,rfl,by rw[h]at f;exact f⟩,by omega⟩
 ·have f:kI (Qg (l.map wL.name) s) 0 (l.map wL.name).length=lo:=by rw[f,J1 (lo:=lo) b]
  have a:=fun x Y Z=>ru x s Y Z
  unfold Zy;rw[f];by_cases p:lo<l.length
  ·have c:=a l[lo];simp only[wL.V]at c;simp[i,j,k,n,o,d,b,p,c,wL.V,f87,qS]
  ·have q:l[lo]?=none:=wP (by omega);simp[i,j,k,n,o,d,b,p,q,f87,qS]
theorem P0:zg prog 87 (zf false [] FBsL):=
 pS1 (zw (q:=[88]) mixed ⟨LZ,fun _=>zu _ _,trivial⟩:AM.Good CbsL _) func87 false [] fun⟨l,s⟩ a=>⟨zG (zl 3) (by decide),_,U6 l s a,zW _⟩
noncomputable def L0:zb->Option O:=z6 (α:=List wL×za) (fun a=>[.sl 3 (a.1.map wL.V),str a.2]) (fun a=>a.1.length<=zx) (fun a=>.wY [int (Zy (a.1.map wL.name) a.2).1,qz (Zy (a.1.map wL.name) a.2).2])
theorem Vp(l:List wL)(s:za)(Y:Hp)(Z:Nat)(h:l.length<=zx):zf false [] L0 [.sl 3 (l.map wL.V),str s] Y Z=some (.wY [int (Zy (l.map wL.name) s).1,qz (Zy (l.map wL.name) s).2],Y,Z):=
 hPc (l,s) _ _ rfl (fun a b e=>by obtain⟨f,g⟩:=a;obtain⟨i,j⟩:=b;simp only[zh,zD]at e;obtain⟨c,d⟩:=e;injection c with _ c;rw[yX (fun _ _=>fx) c,q9 d]) h (.inl rfl)
noncomputable abbrev CofL:Ctx:=zQ prog [(87,zf false [] FBsL)]
theorem Vq:zg prog 45 (zf false [] L0):=
 pS1 (zph mixed ⟨P0,trivial⟩:AM.Good CofL _) func45 false [] fun⟨l,s⟩ a=>by
  have b:=fun Y Z=>PZ l s Y Z a
  exact⟨by simp[f45],_,zm rfl (by simp[b,qS,f45]),zW _⟩
def iO(p:Option Int)(x:Int):Bool:=match p with
 |none=>false
 |some q=>decide (x<=q)
def L1:Option Int->List Sp->List yM->Int
 |_,_,[]=>0
 |p,b,x::l=>if QP x.at_=true then(if iO p x.at_=true then 8 else if yG x.w7=0 then(if x.w7=b then 7 else L1 (some x.at_) x.w7 l)else yG x.w7)else 1
def yY(l:List yM):Int:=if(50:Int)<l.length then 2 else L1 none [] l
def ml(l:List yM)(k:Nat):Option Int:=if k=0 then none else(l[k-1]?).map (·.at_)
theorem tB:zg prog 152 (zf false [2,2] (Ua (fun a b=>qz (decide (a=b))) fun a _=>a.length<=zx)):=
 pS1 yz func152 false [2,2] fun⟨a,b⟩ c=>⟨zG (zl 2) (by decide),_,l6 a b c,zW _⟩
theorem U7(a b:List Sp)(v:O)(Y:Hp)(Z:Nat)(h:a.length<=zx)(c:v=.sl 2 (b.map ja)\/(v=.nil/\b=[])):zf false [2,2] (Ua (fun a b=>qz (decide (a=b))) fun a _=>a.length<=zx) [.sl 2 (a.map ja),v] Y Z=some (qz (decide (a=b)),Y,Z):=by
 have hs:Ua (fun a b=>qz (decide (a=b))) (fun a _=>a.length<=zx) [.sl 2 (a.map ja),.sl 2 (b.map ja)]=some (qz (decide (a=b))):=
  zE (V:=fun a:List Sp×List Sp=>[O.sl 2 (a.1.map ja),.sl 2 (a.2.map ja)]) (a:=(a,b)) (fun a b e=>by obtain⟨d,f⟩:=a;obtain⟨g,i⟩:=b;simp only[zh,zD]at e;rw[QK e.1,QK e.2]) h
 rcases c with rfl|⟨rfl,rfl⟩
 ·exact zU rfl hs (.inl rfl)
 ·exact zU rfl hs (.inl rfl)
noncomputable abbrev Cph:Ctx:=zQ prog [(10,zf false [] (ep QP)),(151,zf false [] (FP (fun l=>int (yG l)) fun _=>True)),(152,zf false [2,2] (Ua (fun a b=>qz (decide (a=b))) fun a _=>a.length<=zx))]
theorem zhd:Gd Cph:=zph mixed ⟨Xj,hC,tB,trivial⟩
noncomputable def FPh (out:List yM->O):zb->Option O:=z6 (α:=List yM) (fun l=>[.sl 2 (l.map yM.V)]) (fun l=>yt yM.cb l<=zx) out
theorem FN{a b:List yM}(h:O.sl 2 (a.map yM.V)=O.sl 2 (b.map yM.V)):a=b:=by injection h with _ h;exact yX (fun _ _=>NY) h
theorem fy(out:List yM->O)(l:List yM)(Y:Hp)(Z:Nat)(h:yt yM.cb l<=zx):zf false [] (FPh out) [.sl 2 (l.map yM.V)] Y Z=some (out l,Y,Z):=
 hPc l _ _ rfl (fun a b e=>by simp only[zh,zD]at e;exact FN e) h (.inr rfl)
theorem FO(l:List yM)(h:yt yM.cb l<=zx):zr Cph f103 [.sl 2 (l.map yM.V)]=some (int (yY l)):=by
 have F:=wa Kw l;unfold zx at h;refine zm rfl ?_;by_cases q:(50:Int)<l.length
 ·have E:yY l=2:=by unfold yY;rw[zd q]
  simp[q,E,f103]
 have E:yY l=L1 none [] l:=by unfold yY;rw[ze q]
 rw[E];simp[q];refine zI (fun k U Y Z=>U 0=.sl 2 (l.map yM.V)/\U 10=.sl 2 (l.map yM.V)/\U 11=int l.length/\U 12=int k/\∃b,(U 3=.sl 2 (b.map ja)\/(U 3=.nil/\b=[]))/\L1 none [] l=L1 (ml l k) b (l.drop k)) l.length
  ⟨by simp,by simp,by simp,by simp,[],.inr ⟨by simp,rfl⟩,by simp[ml]⟩ ?_
 rintro k U Y Z N ⟨r,d,e,g,b,G,a⟩;by_cases c:k<l.length
 ·have H:=yv (f:=yM.cb) (zj c);obtain⟨x,n⟩:=exI (l[k]);have w:ml l (k+1)=some x.at_:=by simp[ml,c,n]
  rw[n]at H;have I:x.cb=1+x.w7.length:=rfl;rw[zc c,n]at a;simp only[L1]at a;have J:∀h:k<(l.map yM.V).length,(l.map yM.V)[k]=x.V:=fun h=>by simp[n]
  have m:=fun Y Z=>NH (fun l=>int (yG l)) (fun _=>True) x.w7 Y Z trivial
  have i:=fun Y Z=>U7 x.w7 b (U 3) Y Z (by unfold zx;omega) G
  have K:=zlL k;cases p:QP x.at_
  case false=>rw[p,ze (by simp)]at a;simp[r,d,e,g,c,n,yM.V,p,a,f103]
  rw[p,zd rfl]at a;have step:∀(Y:Hp) (Z:Nat) (o:iO (ml l k) x.at_=false),L1 none [] l=if yG x.w7=0 then(if x.w7=b then 7 else L1 (some x.at_) x.w7 (l.drop (k+1)))else yG x.w7:=fun _ _ o=>by rw[o,ze (by simp)]at a;exact a
  by_cases L:k=0
  ·subst L;have a:=step Y Z rfl;by_cases hs:yG x.w7=0
   case neg=>rw[ze hs]at a;have u:=nzT hs;simp[r,d,e,g,c,n,yM.V,p,m,u,a,f103]
   rw[zd hs]at a;by_cases s:x.w7=b
   ·rw[zd s]at a;rw[y8 s]at i;simp[r,d,e,g,c,n,yM.V,p,m,hs,i,a,f103]
   ·rw[ze s]at a;rw[jm s]at i;simp[r,d,e,g,c,n,yM.V,p,m,hs,i,K];exact⟨by omega,x.w7,rfl,by rw[a,show ml l 1=some x.at_ from w];simp⟩
  ·obtain⟨j,rfl⟩:∃j,k=j+1:=⟨k-1,by omega⟩;have y:j<l.length:=by omega
   have z:i6.wrap ((j:Int)+1-1)=(j:Int):=by rw[zi (by omega) (by omega)];omega
   have t:=zpg (j:Int);have M:=zpg ((j:Int)+1+1);have A:((j:Int)+1).toNat=j+1:=by omega
   have B:0<(j:Int)+1:=by omega
   have C:0<=(j:Int)+1:=by omega
   have D:(j:Int)+1<l.length:=by omega
   have o:iO (ml l (j+1)) x.at_=decide (x.at_<=l[j].at_):=by simp[ml,y,iO]
   by_cases v:x.at_<=l[j].at_
   ·rw[o,zd (by simpa using v)]at a;simp[r,d,e,g,c,y,n,yM.V,p,z,t,A,B,C,D,v,a,f103]
   have a:=step Y Z (by rw[o];simpa using v);by_cases hs:yG x.w7=0
   case neg=>rw[ze hs]at a;have u:=nzT hs;simp[r,d,e,g,c,y,n,yM.V,p,z,t,A,B,C,D,v,m,u,a,f103]
   rw[zd hs]at a;by_cases s:x.w7=b
   ·rw[zd s]at a;rw[y8 s]at i;simp[r,d,e,g,c,y,n,yM.V,p,z,t,A,B,C,D,v,m,hs,i,a,f103]
   ·rw[ze s]at a;rw[jm s]at i;simp[r,d,e,g,c,y,n,yM.V,p,z,t,M,A,B,C,D,v,m,hs,i];exact⟨by omega,x.w7,rfl,by rw[a,w]⟩
 ·obtain rfl:k=l.length:=by omega
  rw[zo]at a;simp only[L1]at a;simp[r,d,e,g,a,f103]
theorem fA:zg prog 103 (zf false [] (FPh fun l=>int (yY l))):=
 pS1 zhd func103 false [] fun l a=>⟨by simp[f103],_,FO l a,zW _⟩
def Xk(l:List yM)(i:Nat):Int:=match l[i+1]? with
 |some p=>p.at_
 |none=>1125899906842624
noncomputable def FPi2 (f:List yM->Nat->O):zb->Option O:=z6 (α:=List yM×Nat) (fun a=>[.sl 2 (a.1.map yM.V),int a.2]) (fun a=>a.1.length<=zx/\a.2<=zx) (fun a=>f a.1 a.2)
theorem As(f:List yM->Nat->O)(l:List yM)(i:Nat)(Y:Hp)(Z:Nat)(h:l.length<=zx/\i<=zx):zf false [] (FPi2 f) [.sl 2 (l.map yM.V),int i] Y Z=some (f l i,Y,Z):=
 hPc (l,i) _ _ rfl (fun a b e=>by obtain⟨g,c⟩:=a;obtain⟨j,d⟩:=b;simp only[zh,zD]at e;have:=qB e.2;rw[FN e.1,show c=d by omega]) h (.inr rfl)
theorem P1:zg prog 154 (zf false [] (FPi2 fun l i=>int (Xk l i))):=
 pS1 yz func154 false [] fun⟨l,i⟩ ⟨d,e⟩=>by
  unfold zx at d e;simp only at d e;refine⟨by simp[f154],_,zm rfl ?_,zW _⟩;have f:=zlL i;by_cases b:i+1<l.length
  ·have a:(i:Int)+1<l.length:=by omega
   have g:((i:Int)+1).toNat=i+1:=by omega
   have h:0<=(i:Int)+1:=by omega
   simp[f,b,a,g,h,Xk,yM.V,f154]
  ·have a:¬(i:Int)+1<l.length:=by omega
   have c:l[i+1]?=none:=wP (by omega);simp[f,a,Xk,c,f154]
def va:List Sp->List Sp->Bool
 |a::l,b::m=>if a.2<=b.1 then va l (b::m)else if b.2<=a.1 then va (a::l) m else true
 |_,_=>false
termination_by a b=>a.length+b.length
theorem L2{a b:List Sp}{i k:Nat}(hi:i<a.length)(c:k<b.length):va (a.drop i) (b.drop k)=if a[i].2<=b[k].1 then va (a.drop (i+1)) (b.drop k)else if b[k].2<=a[i].1 then va (a.drop i) (b.drop (k+1))else true:=by rw[zc hi,zc c,va]
theorem mm(b:List Sp):va [] b=false:=by unfold va;rfl
theorem mn(a:List Sp):va a []=false:=by cases a<;>(unfold va;rfl)
theorem L3(a b:List Sp)(n:a.length<=zx)(o:b.length<=zx):zr C0 f155 [.sl 2 (a.map ja),.sl 2 (b.map ja)]=some (qz (va a b)):=by
 unfold zx at n o;refine zm rfl ?_;simp;refine ZE (fun st=>st.U 0=.sl 2 (a.map ja)/\st.U 1=.sl 2 (b.map ja)/\∃i k:Nat,st.U 5=int i/\st.U 6=int k/\i<=a.length/\k<=b.length/\va a b=va (a.drop i) (b.drop k))
  (fun st=>a.length+b.length-(Wz (st.U 5)).toNat-(Wz (st.U 6)).toNat) ⟨by simp,by simp,0,0,by simp,by simp,by simp,by simp,by simp⟩ ?_
 rintro⟨U,Y,Z⟩ ⟨f,g,i,k,h,j,hi,p,c⟩;simp only at f g h j;by_cases d:i<a.length
 ·by_cases e:k<b.length
  ·rw[L2 d e]at c;have q:=zlL i;have r:=zlL k;by_cases l:a[i].2<=b[k].1
   ·rw[zd l]at c;simp[f,g,h,j,d,e,l,q];exact⟨⟨i+1,by omega,k,rfl,by omega,p,c⟩,by omega⟩
   ·rw[ze l]at c;by_cases m:b[k].2<=a[i].1
    ·rw[zd m]at c;simp[f,g,h,j,d,e,l,m,r];exact⟨⟨i,rfl,k+1,by omega,hi,by omega,c⟩,by omega⟩
    ·rw[ze m]at c;simp[f,g,h,j,d,e,l,m,c,f155]
  ·obtain rfl:k=b.length:=by omega
   rw[zo,mn]at c;simp[f,g,h,j,d,c,f155]
 ·obtain rfl:i=a.length:=by omega
  rw[zo,mm]at c;simp[f,g,h,j,c,f155]
theorem FQ:zg prog 155 (zf false [] (Ua (fun a b=>qz (va a b)) fun a b=>a.length<=zx/\b.length<=zx)):=
 pS1 yz func155 false [] fun⟨a,b⟩ c=>⟨by simp[f155],_,L3 a b c.1 c.2,zW _⟩
def Au(a b:List yM)(i k:Nat)(p q:yM)(c:Int):Bool:=(decide (p.at_<=q.at_)&&decide (q.at_<Xk a i+c))||(decide (q.at_<=p.at_)&&decide (p.at_<Xk b k+c))
def FT(a b:List yM)(i k:Nat)(p q:yM)(c:Int):Bool:=Au a b i k p q c&&va p.w7 q.w7
def Y7(a b:List yM)(i:Nat)(p:yM)(c:Int):Nat->List yM->Bool
 |_,[]=>false
 |k,q::l=>FT a b i k p q c||Y7 a b i p c (k+1) l
def Y8(a b:List yM)(c:Int):Nat->List yM->Bool
 |_,[]=>false
 |i,p::l=>Y7 a b i p c 0 b||Y8 a b c (i+1) l
def KR(a b:Xp)(c:Int):Bool:=Y8 a.zN b.zN c 0 a.zN
def Xl(l:List yM):Prop:=∀p∈l,0<=p.at_/\p.at_<=4000000000
theorem Av{l:List yM}(h:Xl l)(i:Nat):0<=Xk l i/\Xk l i<=1125899906842624:=by
 unfold Xk;split
 ·rename_i p Y;have:=h p (zM Y);omega
 ·omega
def Xp.um(x:Xp):Prop:=Xl x.zN/\x.cb<=zx
noncomputable def L4:zb->Option O:=z6 (α:=Xp×Xp×Int) (fun a=>[.agg a.1.V,.agg a.2.1.V,int a.2.2]) (fun a=>a.1.um/\a.2.1.um/\0<=a.2.2/\a.2.2<=100000000) (fun a=>qz (KR a.1 a.2.1 a.2.2))
theorem bI(Y:Hp)(x:Xp):qH Y (.agg x.V)=some (.agg x.V,Y):=by rw[qD];simp
theorem FU(x:Xp):O.noOwn (.agg x.V)=true:=by rw[qD];simp
theorem FW(a b:Xp)(c:Int)(Y:Hp)(Z:Nat)(h:a.um/\b.um/\0<=c/\c<=100000000):zf false [] L4 [.agg a.V,.agg b.V,int c] Y Z=some (qz (KR a b c),Y,Z):=
 hPc (a,b,c) _ _ (by simp only[zv,bI];rfl) (fun x y e=>by obtain⟨d,f,g⟩:=x;obtain⟨i,j,k⟩:=y;simp only[zh,zD,O.agg.injEq]at e;rw[dC e.1,dC e.2.1,qB e.2.2]) h (.inl rfl)
noncomputable abbrev Ccla:Ctx:=zQ prog [(154,zf false [] (FPi2 fun l i=>int (Xk l i))),(155,zf false [] (Ua (fun a b=>qz (va a b)) fun a b=>a.length<=zx/\b.length<=zx))]
theorem zde:AM.Good Ccla (fun g=>[154,155].contains g):=zw mixed ⟨P1,fun _=>zu _ _,FQ,fun _=>zu _ _,trivial⟩
@[simp]theorem zi3:kg Ccla 154:=yI (by rfl) (zu _ _)
@[simp]theorem zi4:kg Ccla 155:=yI (by rfl) (zu _ _)
theorem FY{a b:List yM}{c:Int}{i:Nat}{l:List yM}(h:i<l.length):Y8 a b c i (l.drop i)=(Y7 a b i l[i] c 0 b||Y8 a b c (i+1) (l.drop (i+1))):=by rw[zc h,Y8]
theorem FZ{a b:List yM}{c:Int}{i k:Nat}{p:yM}{l:List yM}(h:k<l.length):Y7 a b i p c k (l.drop k)=(FT a b i k p l[k] c||Y7 a b i p c (k+1) (l.drop (k+1))):=by rw[zc h,Y7]
theorem L5(a b:Xp)(rest:Int)(ha:a.um)(hb:b.um)(hr:0<=rest/\rest<=100000000):zr Ccla f106 [.agg a.V,.agg b.V,int rest]=some (qz (KR a b rest)):=by
 obtain⟨A,I⟩:=ha;obtain⟨B,J⟩:=hb;have hla:=wa Kw a.zN;have hlb:=wa Kw b.zN;have xca:a.cb=a.name.length+a.wE.length+a.flag.length+a.cond.cb+a.qy.length+a.xR.length+yt yM.cb a.zN:=rfl;have xcb:b.cb=b.name.length+b.wE.length+b.flag.length+b.cond.cb+b.qy.length+b.xR.length+yt yM.cb b.zN:=rfl;unfold zx at I J;refine zm rfl ?_;simp[qD];have C:KR a b rest=Y8 a.zN b.zN rest 0 a.zN:=rfl;refine zI (fun i U Y Z=>U 2=int rest/\U 3=.ref 0 0 0/\U 4=.ref 1 0 0/\U 13=.sl 2 (a.zN.map yM.V)/\U 14=int a.zN.length/\U 15=int i/\2<=Z/\Y 0=some ⟨74,13,false,[a.V]⟩/\Y 1=some ⟨74,13,false,[b.V]⟩/\KR a b rest=Y8 a.zN b.zN rest i (a.zN.drop i)) a.zN.length
  ⟨by simp,by simp,by simp,by simp,by simp,by simp,by simp,by simp[qD],by simp[qD],by rw[C];simp⟩ ?_
 rintro i U Y Z hi ⟨r,s,t,c,d,e,K,u,v,h⟩;by_cases n:i<a.zN.length
 ·obtain⟨p,o⟩:=exI (a.zN[i]);have hpm:=A p (by rw[<-o];exact zj n);have hsp:=yv (f:=yM.cb) (show p∈a.zN by rw[<-o];exact zj n);have hpc:p.cb=1+p.w7.length:=rfl;rw[FY n,o]at h;have L:=zlL i;have D:¬0=Z:=by omega
  have n1:¬1=Z:=by omega
  simp[r,s,t,c,d,e,n,o,yM.V,u,v,D,n1,qD];obtain⟨P,R⟩:=exI Z;rw[R];have hea:=Av A i;refine zI (fun k U Y Z=>U 2=int rest/\U 3=.ref 0 0 0/\U 4=.ref 1 0 0/\U 13=.sl 2 (a.zN.map yM.V)/\U 14=int a.zN.length/\U 15=int i/\U 7=int i/\U 8=.ref P 0 0/\U 21=.sl 2 (b.zN.map yM.V)/\U 22=int b.zN.length/\U 23=int k/\2<=P/\P<Z /\
    Y 0=some ⟨74,13,false,[a.V]⟩/\Y 1=some ⟨74,13,false,[b.V]⟩/\Y P=some ⟨118,2,false,[p.V]⟩/\KR a b rest=(Y7 a.zN b.zN i p rest k (b.zN.drop k)||Y8 a.zN b.zN rest (i+1) (a.zN.drop (i+1)))) b.zN.length
   ⟨by simp[r],by simp[s],by simp[t],by simp[c],by simp[d],by simp[e],by simp,by simp,by simp,by simp,by simp,by omega,(by show P<P+1;omega),by simp[u,show¬0=P by omega],by simp[v,show¬1=P by omega],by simp[yM.V],by simpa using h⟩ ?_
  clear r s t c d e K u v D n1 R hi U Y Z;rintro k U Y Z hk ⟨r,s,t,c,d,e,S,T,x,y,z,M,SS,u,v,N,h⟩;by_cases g:k<b.zN.length
  ·obtain⟨q,j⟩:=exI (b.zN[k]);have hqm:=B q (by rw[<-j];exact zj g);have hsq:=yv (f:=yM.cb) (show q∈b.zN by rw[<-j];exact zj g);have hqc:q.cb=1+q.w7.length:=rfl;rw[FZ g,j]at h;have Q:=zlL k;have heb:=Av B k;have W:=zpg (Xk a.zN i+rest);have X:=zpg (Xk b.zN k+rest);have E:=fun Y Z=>As (fun l i=>int (Xk l i)) a.zN i Y Z ⟨by unfold zx;omega,by unfold zx;omega⟩
   have F:=fun Y Z=>As (fun l i=>int (Xk l i)) b.zN k Y Z ⟨by unfold zx;omega,by unfold zx;omega⟩
   have G:=fun Y Z=>ph (fun a b=>qz (va a b)) (fun a b=>a.length<=zx/\b.length<=zx) p.w7 q.w7 Y Z ⟨by unfold zx;omega,by unfold zx;omega⟩
   have D:¬0=Z:=by omega
   have n1:¬1=Z:=by omega
   have nP:¬P=Z:=by omega
   have m:((decide (p.at_<=q.at_)&&decide (q.at_<Xk a.zN i+rest))||(decide (q.at_<=p.at_)&&decide (p.at_<Xk b.zN k+rest)))=Au a.zN b.zN i k p q rest:=rfl;have w:(Au a.zN b.zN i k p q rest&&va p.w7 q.w7)=FT a.zN b.zN i k p q rest:=rfl;rw[yM.V]at N;rw[qD]at u v;cases H:FT a.zN b.zN i k p q rest
   ·rw[H]at h;simp[r,s,t,S,T,c,d,e,x,y,z,g,j,yM.V,u,v,N,D,n1,nP,E,F,G,W,X,m,w,H,Q];exact⟨by omega,M,by omega,(qD a).symm,(qD b).symm,by rw[h];rfl⟩
   ·rw[H]at h;simp[r,s,t,S,T,c,d,e,x,y,z,g,j,yM.V,u,v,N,D,n1,nP,E,F,G,W,X,m,w,H,h,f106]
  ·obtain rfl:k=b.zN.length:=by omega
   rw[zo]at h;simp only[Y7,ye]at h;simp[r,s,t,c,d,e,x,y,z,L];exact⟨by omega,by omega,by rw[<-qD];exact u,by rw[<-qD];exact v,h⟩
 ·obtain rfl:i=a.zN.length:=by omega
  rw[zo]at h;simp only[Y8]at h;simp[r,s,t,c,d,e,h,f106]
theorem F1:zg prog 106 (zf false [] L4):=
 pS1 zde func106 false [] fun⟨a,b,c⟩ ⟨d,e,f⟩=>⟨by simp[f106],_,L5 a b c d e f,zW _⟩
end Go.Q
