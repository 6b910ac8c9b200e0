/- Lemmas. -/
import Derived.RangeFuncBox
import Derived.RangeFuncLeaves
import Derived.Shelf.Abstract
import Derived.WalkKit
import Derived.OwnWalkIn
import Derived.TacticsInMore
import Derived.LoopNIn
import Derived.LoopIn
import Derived.Test.YtnbicamkimignaaGreatDoorG15
set_option maxRecDepth 100000
set_option maxHeartbeats 4000000
open Go Proofs Proofs.YtnbicamkimignaaGreatDoor Proofs.Tryz RowKit AM SpanLaw Q Zz
open Go.IntKind renaming i64→i6
namespace Go.Q
theorem nz:zg prog 238 (KA 5 239 PO U8):=
 Xw (by decide) ⟨_,func238,by kernel_rfl,by kernel_rfl⟩ Tryz.TD zd4
noncomputable def FBB (f:Bool→Bool→Bool):zc→Option O:=qv (α:=Bool×Bool) (fun a=>[wq a.1,wq a.2]) (fun _=>True) (fun a=>wq (f a.1 a.2))
theorem C9(f:Bool→Bool→Bool)(a b:Bool)(Y:Hp)(Z:Nat):zi false [] (FBB f) [wq a,wq b] Y Z=some (wq (f a b),Y,Z):=
 qe rfl (zJ (V:=fun a:Bool×Bool=>[wq a.1,wq a.2]) (a:=(a,b)) (fun x y e=>by obtain⟨c,d⟩:=x;obtain⟨g,h⟩:=y;simp only[zh,zK]at e;rw[Q7 e.1,Q7 e.2]) trivial) (.inl rfl)
theorem Da:zg prog 213 (zi false [] (FBB and)):=
 qq (fn:=f213) w8 ⟨_,func213,by kernel_rfl,rfl,by kernel_rfl⟩ false [] _ fun args r h=>by obtain⟨⟨a,b⟩,rfl,_,rfl⟩:=zr h;exact⟨by simp[f213],_,zo rfl (by cases a<;>simp[wH,f213]),qm _⟩
theorem GG:zg prog 214 (zi false [] (FBB or)):=
 qq (fn:=f214) w8 ⟨_,func214,by kernel_rfl,rfl,by kernel_rfl⟩ false [] _ fun args r h=>by obtain⟨⟨a,b⟩,rfl,_,rfl⟩:=zr h;exact⟨by simp[f214],_,zo rfl (by cases a<;>simp[wH,f214]),qm _⟩
theorem pX{Y:Hp}{Z:Nat}{v:O}{l:List Cut}(h:q6 Y Z 237 5 v (wE l))(hs:∀c∈l,c.v.small)(k:l.length<4611686018427387904) :
  ∃Y',KA 5 239 PO U8 [v,.fn (.func 239) [] []] Y Z=some (.yb [],Y',Z)∧q6 Y' Z 237 5 v (wE (QH l))∧∀j,(∀n,v≠.own j 0 n)→Y' j=Y j:=by
 have a:(wE (QH l)).length=(wE l).length:=by have:=(Zp l).length_eq;simpa[wE]using this
 rcases h with⟨rfl,m⟩|⟨id,f,rfl,b⟩
 ·refine⟨Y,rfl,.inl ⟨rfl,?_⟩,fun _ _=>rfl⟩;rw[m]at a;exact qo.1 a
 ·by_cases d:(wE l).length=0
  ·refine⟨Y,by simp only[KA,zf d],?_,fun _ _=>rfl⟩;have g:wE l=[]:=qo.1 d;rw[g]at a b;have o:=qo.1 a;rw[g,o];exact .inr ⟨id,f,rfl,b⟩
  ·refine⟨qZ Y id (some ⟨237,5,true,wE (QH l)⟩),?_,.inr ⟨id,f,by rw[a],by simp⟩,fun j p=>zw _ _ _ _ fun e=>p (wE l).length (by subst e;rfl)⟩;unfold KA;simp only[zj d,b];rw[zf ⟨rfl,rfl,rfl,by simp,by simpa[wE]using k,by simpa using PQ l,fun x i=>by simp only[yj,yk]at i;obtain⟨c,q,rfl⟩:=qX.1 i;exact⟨c,rfl,hs c q⟩⟩]
   simp[GF]
theorem sS{c:zc}{s:wR}(h:Z4 jM c=s.V):∃d k l m n o e,c=[int s.lo.v.a,int s.lo.v.b,int s.lo.v.c,d,wq s.lo.after,k,l,m,n,o,e]∧n1 1 d=.sl 1 (qd s.lo.v.pre)∧d.wY=true:=by
 have f:=xl jM c;rw[h]at f;simp[wR.V,Cut.V]at f
 match c,f with
 |[B,C,D,i,E,p,q,r,t,u,g],_=>simp[wR.V,Cut.V]at h;obtain⟨w,x,y,j,z,F,G,H,I,J,A⟩:=h;subst w;subst x;subst y;subst z;refine⟨i,p,q,r,t,u,g,rfl,j,?_⟩;cases i<;>first|rfl|(simp[n1]at j)
theorem gR{out:List wR}{m:Nat}(b:m<out.length)(h:out.length=m+1)(c:Cut):QG out c=out.set m ⟨out[m].lo,c,false⟩:=by
 unfold QG;have a:out≠[]:=by rintro rfl;simp at b
 rw[List.getLast?_eq_some_getLast a];have d:out.getLast a=out[m]:=by rw[List.getLast_eq_getElem];congr 1;omega
 simp only[d];apply List.ext_getElem
 ·simp;omega
 ·intro i f g;rw[List.getElem_set];split
  ·rename_i e;subst e;rw[List.getElem_append_right (by simp;omega)];simp
  ·rw[List.getElem_append_left (by simp at f⊢;omega)];simp
theorem Db(b:Cut→Bool)(a:Bool×List wR)(c:Cut)(h:a.1=true→a.2≠[]):(bu b a c).1=true→(bu b a c).2≠[]:=by obtain⟨o,out⟩:=a;unfold bu;cases b c<;>cases o<;>simp at h⊢<;>assumption
theorem dC(l:List wR)(c:Cut)(Y:Hp)(Z:Nat)(b:kg l)(d:c.v.small):qh [.s 11 jM,.g ka] (FRC fun l c=>wq (yP l c)) [.sl 11 (qz l),.agg c.V] Y Z=some (wq (yP l c),Y,Z):=
 ju (show zA Y [.sl 11 (qz l),.agg c.V]=some ([.sl 11 (qz l),.agg c.V],Y) by simp[Cut.V]) (by
  have e:(Sh.s 11 jM).fix (.sl 11 (qz l))=.sl 11 (qz l):=by simp only[Sh.eT,qz,List.map_map];congr 1
  have f:(Sh.g ka).fix (.agg c.V)=.agg c.V:=by simp[Cut.V]
  show FRC _ [(Sh.s 11 jM).fix (.sl 11 (qz l)),(Sh.g ka).fix (.agg c.V)]=_;rw[e,f];exact zJ (V:=fun a:List wR×Cut=>[O.sl 11 (qz a.1),.agg a.2.V]) (a:=(l,c)) zd3 ⟨b,d⟩) (.inl rfl)
noncomputable abbrev Ccmb:Ctx:=qb prog [(238,KA 5 239 PO U8),(240,qh [.s 11 jM,.g ka] (FRC fun l c=>wq (yP l c))),
 (213,zi false [] (FBB and)),(214,zi false [] (FBB or))]
theorem U9:AM.Good Ccmb (fun g=>[240].contains g):=zI mixed ⟨nz,by simp,Ao,fun _=>jx _ _,Da,by simp,GG,by simp,trivial⟩
theorem sT{l:List wR}{k:Nat}(h:k<l.length):wz (l.take (k+1))=wz (l.take k)++(if l[k].vL=true then[l[k].lo]else[l[k].lo,l[k].hi]):=by rw[qx h,Wy];simp[wz]
theorem Dc(a:Cut→Bool){l:List Cut}{k:Nat}(h:k<l.length)(b:Bool×List wR):VY a (l.take (k+1)) b=bu a (VY a (l.take k) b) l[k]:=by unfold VY;rw[qx h,List.foldl_append];rfl
theorem sU(a b:List Cut):wE (a++b)=wE a++wE b:=by simp[wE]
noncomputable def WE (f:Bool→Bool→Bool) (a b:List wR):Option jz:=if vj f a b=[]then none else some ⟨239,11,true,qz (vj f a b)⟩
theorem Mo(i o n:Nat)(Y:Hp):ZD (.own i o n) Y=qZ Y i none:=rfl
theorem Dd{Y:Hp}{Z e s:Nat}{v:O}{xs:List zc}(h:q6 Y Z e s v xs){j:Nat}(a:Z≤j):∀n,v≠.own j 0 n:=by
 rcases h with⟨rfl,_⟩|⟨id,b,rfl,_⟩
 ·intro n e;cases e
 ·intro n e;injection e with e;omega
theorem dD(f:Bool→Bool→Bool)(hv:O)(TC:∀x y Y Z,jQ Ccmb Y Z (some hv) [wq x,wq y]=some (wq (f x y),Y,Z))(a b:List wR)(ha:kg a)(hb:kg b) :
  ∃x Y Z,yr Ccmb f212 [.sl 11 (qz a),.sl 11 (qz b),hv] (fun _=>none) 0=some (x,Y,Z)∧C8 jM (WE f a b) x Y Z:=by
 refine zT rfl ?_;have hsa:=ha;have hsb:=hb;obtain⟨ha1,ha2⟩:=ha;obtain⟨hb1,hb2⟩:=hb;unfold zG at ha1 hb1;obtain⟨ls,hls⟩:∃ls:List (List wR),[a,b]=ls:=⟨_,rfl⟩;obtain⟨rows,T⟩:∃rows:List zc,[[O.sl 11 (qz a)],[.sl 11 (qz b)]]=rows:=⟨_,rfl⟩;have L:∀i,i<2→∃l:List wR,(wz (ls.take (i+1)).flatten=wz (ls.take i).flatten++wz l)∧rows[i]?=some [O.sl 11 (qz l)]∧l.length≤2097152∧(∀s∈l,s.small)∧(wz (ls.take i).flatten).length≤4194304:=by
  intro i hi;rw[←hls,←T];rcases(by omega:i=0∨i=1)with rfl|rfl
  ·exact⟨a,by simp[wz],rfl,ha1,ha2,by simp[wz]⟩
  ·exact⟨b,by simp[Wy],rfl,hb1,hb2,by have:=Z7 a;simp;omega⟩
 simp[zv,zN,zy,T];refine zQ (fun i g Y Z=>g 0=.sl 11 (qz a)∧g 1=.sl 11 (qz b)∧g 2=hv∧g 19=.own 0 0 2∧g 20=int 2∧g 21=int i∧1≤Z∧Y 0=some ⟨209,1,true,rows⟩∧(∀n,g 7≠.own 0 0 n)∧q6 Y Z 237 5 (g 7) (wE (wz (ls.take i).flatten))) 2
  ⟨by simp,by simp,by simp,by simp,by simp,by simp,by simp,by simp,by simp,.inl ⟨by simp,by simp[wz,wE]⟩⟩ ?_
 rintro i g Y Z hi ⟨F,G,H,w,z,A,U,b0,M,B⟩;by_cases hlt:i<2
 ·obtain⟨l,hl,hr,hll,hls2,hcl⟩:=L i hlt;obtain⟨hr1,hr2⟩:=zq.1 hr;have hw:i6.wrap ((i:Int)+1)=(i:Int)+1:=zn (by omega) (by omega);have q:(qz l).length=l.length:=by simp[qz]
  have hltI:(i:Int)<2:=by omega
  simp[F,G,H,w,z,A,hltI,hlt,b0,hr1,hr2,q];refine zQ (fun k g Y Z=>g 0=.sl 11 (qz a)∧g 1=.sl 11 (qz b)∧g 2=hv∧g 19=.own 0 0 2∧g 20=int 2∧g 21=int i∧1≤Z∧Y 0=some ⟨209,1,true,rows⟩∧(∀n,g 7≠.own 0 0 n)∧q6 Y Z 237 5 (g 7) (wE (wz (ls.take i).flatten++wz (l.take k))) ∧
   g 25=.sl 11 (qz l)∧g 26=int l.length∧g 27=int k) l.length
   ⟨by simp[F],by simp[G],by simp[H],by simp[w],by simp[z],by simp[A],U,b0,by simpa using M,by simpa[wz]using B,by simp,by simp,by simp⟩ ?_
  clear F G H w z A U b0 M B hi g Y Z;rintro k g Y Z hk ⟨F,G,H,w,z,A,U,b0,M,B,h25,h26,Uc⟩;by_cases o:k<l.length
  ·have I:i6.wrap ((k:Int)+1)=(k:Int)+1:=zn (by omega) (by omega);have u:∀h:k<(qz l).length,(qz l)[k]=l[k].V:=fun h=>by simp[qz]
   have hcn:=Z7 (l.take k);rw[yM]at hcn;have hct:=sT o;obtain⟨xs,j⟩:∃xs,wE (wz (ls.take i).flatten++wz (l.take k))=xs:=⟨_,rfl⟩;have C:xs.length≤8388608+2:=by rw[←j];simp[wE];omega
   rw[j]at B;have hE:wE (wz (ls.take i).flatten++wz (l.take (k+1)))=xs++(if l[k].vL=true then[l[k].lo]else[l[k].lo,l[k].hi]).map Cut.V:=by rw[hct,←qj,sU,j];rfl
   have hkn:=fun Y'=>yt B Y' Z (Dd B (ze _))
   have hk0:=fun Y'=>yt B Y' 0 M
   obtain⟨s,hs⟩:∃s,l[k]=s:=⟨_,rfl⟩;rw[hs]at hct u hE;have r:=q6.yx (P:=prog) (t:=258) (c:=s.lo.V) (B.more (some ⟨239,11,false,[s.V]⟩)) gJ dd sw sx rfl (by omega) (by unfold maxLen;omega) (by omega);have W:=q6.after (Y:=qZ Y Z (some ⟨239,11,false,[s.V]⟩)) (Z:=Z+1) (e:=237) (s:=5) (v:=g 7) (xs:=xs) (c:=s.lo.V) (tmp:=some ⟨237,5,true,[s.lo.V]⟩);have D:=q6.yx (P:=prog) (t:=258) (c:=s.hi.V) W gJ dd sw sx rfl (by omega) (by simp;unfold maxLen;omega) (by simp;omega);rw[show(xs++[s.lo.V]).length=xs.length+1 by simp,qj,show[s.lo.V]++[s.hi.V]=[s.lo.V,s.hi.V]from rfl]at D;have X:=q6.after (Y:=qZ (ZD (g 7) (qZ (qZ Y Z (some ⟨239,11,false,[s.V]⟩)) (Z+1) (some ⟨237,5,true,[s.lo.V]⟩))) (Z+1+1) (some ⟨237,5,true,xs++[s.lo.V]⟩)) (Z:=Z+1+2) (e:=237) (s:=5) (v:=.own (Z+1+1) 0 (xs.length+1)) (xs:=xs++[s.lo.V]) (c:=s.hi.V) (tmp:=some ⟨237,5,true,[s.hi.V]⟩);rw[show(xs++[s.lo.V]).length=xs.length+1 by simp,qj,show[s.lo.V]++[s.hi.V]=[s.lo.V,s.hi.V]from rfl]at X;simp only[wR.V,Cut.V,q9,wN]at r D W X u;have m1:¬Z=Z+1+1:=by omega
   have m2:¬Z=Z+1+2:=by omega
   have m3:¬Z=Z+1+2+1:=by omega
   have n1:¬0=Z:=by omega
   have n2:¬0=Z+1:=by omega
   have n3:¬0=Z+2:=by omega
   have n4:¬0=Z+3:=by omega
   have n5:¬0=Z+4:=by omega
   cases N:s.vL
   ·rw[N]at hct;rw[N]at r D W X u;simp[F,G,H,w,z,A,h25,h26,Uc,o,q,u,r,D,hkn,I,m1,m2,m3,zv,zN,zy];refine⟨by omega,?_,?_⟩
    ·simp[Mo,hk0,b0,n1]
    ·rw[hE,N];simp only[zU,wK,qF,kp,Cut.V];exact X
   ·rw[N]at hct;rw[N]at r D W X u;simp[F,G,H,w,z,A,h25,h26,Uc,o,q,u,r,hkn,I,m1,m2,m3,zv,zN,zy];refine⟨by omega,?_,?_⟩
    ·simp[hk0,b0,n1]
    ·rw[hE,N];simp only[wi,qF,kp,Cut.V];exact W
  ·obtain rfl:k=l.length:=by omega
   rw[yk,←hl]at B;simp[F,G,H,w,z,A,h25,h26,Uc,hw];exact⟨by omega,U,b0,M,B⟩
 ·obtain rfl:i=2:=by omega
  have hls3:(ls.take 2).flatten=a++b:=by rw[←hls];simp
  rw[hls3]at B;have Tt:∀c∈wz (a++b),c.v.small:=YX (Q:=fun c=>c.v.small) fun s hs=>by
   rcases qP.1 hs with h|h
   ·exact ha2 s h
   ·exact hb2 s h
  have hcl:=Z7 (a++b);rw[ye]at hcl;obtain⟨Y',J,H8,hfr'⟩:=pX B Tt (by omega);obtain⟨v,hv7⟩:∃v,g 7=v:=⟨_,rfl⟩;obtain⟨cs,hcs⟩:∃cs,QH (wz (a++b))=cs:=⟨_,rfl⟩;have hcsl:cs.length≤8388608:=by rw[←hcs,(Zp _).length_eq];omega
  have hcsm:∀c∈cs,c.v.small:=fun c hc=>Tt c ((Zp _).mem_iff.1 (by rw[hcs];exact hc))
  have hfin:vj f a b=(VY (fun c=>f (yP a c) (yP b c)) cs (false,[])).2:=by rw[←hcs,Wy];rfl
  obtain⟨is,his⟩:∃is:Cut→Bool,(fun c=>f (yP a c) (yP b c))=is:=⟨_,rfl⟩;have hisc:∀c,f (yP a c) (yP b c)=is c:=fun c=>by rw[←his]
  rw[his]at hfin;rw[hv7]at J H8;rw[hcs]at H8;clear B hcs Tt L hls3;have hlen:=H8.len gJ;have q:(wE cs).length=cs.length:=by simp[wE]
  rw[q]at hlen;simp[F,G,H,w,z,A,hv7,J,hlen];refine zQ (fun k g Y Z=>g 0=.sl 11 (qz a)∧g 1=.sl 11 (qz b)∧g 2=hv∧g 48=v∧g 49=int cs.length∧g 50=int k∧q6 Y Z 237 5 v (wE cs)∧∃xs,q6 Y Z 239 11 (g 12) xs∧xs.map (Z4 jM)=qz (VY is (cs.take k) (false,[])).2 ∧
    g 13=wq (VY is (cs.take k) (false,[])).1∧(∀id n m,v=.own id 0 n→g 12≠.own id 0 m)∧((VY is (cs.take k) (false,[])).1=true→(VY is (cs.take k) (false,[])).2≠[])∧xs.length≤k∧(xs=[]→g 12=.nil)) cs.length
   ⟨by simp[F],by simp[G],by simp[H],by simp,by simp,by simp,H8,[],.inl ⟨by simp,rfl⟩,by simp[VY,qz],by simp[VY],by simp,by simp[VY],by simp,by simp⟩ ?_
  clear F G H w z A U b0 M H8 hi g Y Z hlt J hlen hfr' hv7 Y';rintro k g Y Z hk ⟨F,G,H,h48,h49,h50,B,xs,hX,j,R,BZ,Ua,hxk,Ud⟩;by_cases o:k<cs.length
  ·have I:i6.wrap ((k:Int)+1)=(k:Int)+1:=zn (by omega) (by omega);obtain⟨id,hid,rfl,hh⟩:=B.at_ (by rw[q];omega);have p:=Dc is o (false,[]);obtain⟨st,TF⟩:∃st,VY is (cs.take k) (false,[])=st:=⟨_,rfl⟩;obtain⟨c,hc⟩:∃c,cs[k]=c:=⟨_,rfl⟩;rw[hc,TF]at p;rw[TF]at j R Ua;have hopn:=Db is st c Ua;have E:c.v.small:=hcsm c (by rw[←hc];exact zm o);have u:∀h:k<(wE cs).length,(wE cs)[k]=c.V:=fun h=>by simp[wE,hc]
   have hca:=fun Y Z=>dC a c Y Z hsa E
   have rW:=fun Y Z=>dC b c Y Z hsb E
   have d:=fun Y Z=>TC (yP a c) (yP b c) Y Z
   rw[hisc c]at d;simp only[Cut.V]at hca rW u;have m0:¬id=Z:=by omega
   have m1:¬id=Z+1:=by omega
   have m2:¬id=Z+1+1:=by omega
   rw[q]at B;have hki:=fun Y'=>yt hX Y' id (fun n=>BZ id _ n rfl)
   have TG:bu is st c=(is c,if(is c&&!st.1)=true then st.2++[yw c]else if(!is c&&st.1)=true then QG st.2 c else st.2):=rfl;rw[TG]at p;rw[TG]at hopn;simp only at hopn;obtain⟨op,out⟩:=st;simp only at j R Ua hopn;cases hb:is c<;>cases op
   ·rw[hb]at d p;simp at p;simp[F,G,H,h48,h49,h50,q,o,hh,u,hca,rW,d,R,I,m0,p];exact⟨by omega,B.more _,xs,hX.more _,j,fun i n m e _=>BZ i _ m (by rw[e]),by omega,Ud⟩
   ·rw[hb]at d p;simp at p;have hne:=Ua rfl;obtain⟨m,hm⟩:∃m,out.length=m+1:=⟨out.length-1,by have:=kz.2 hne;omega⟩;have C:xs.length=m+1:=by have:=zD List.length j;simp[qz]at this;omega
    obtain⟨S,hid2,K,hh2⟩:=hX.at_ (by omega);have zda:¬S=id:=fun e=>BZ id _ _ rfl (by rw[K,e])
    have TH:¬id=S:=fun e=>zda e.symm
    have p0:¬S=Z:=by omega
    rw[C]at K;have hlm:m<xs.length:=by omega
    have TI:m<out.length:=by omega
    have hrm:Z4 jM xs[m]=out[m].V:=by
     have e1:(xs.map (Z4 jM))[m]?=(qz out)[m]?:=by rw[j]
     simp only[wy,zu hlm,qz,zu TI,zH,qw]at e1;exact e1
    obtain⟨x3,x5,x6,x7,x8,x9,x10,L,hn3,FD⟩:=sS hrm;have wm:i6.wrap (m:Int)=(m:Int):=zn (by omega) (by omega);have wm1:i6.wrap ((m:Int)+1-1)=(m:Int):=by rw[zn (by omega) (by omega)];omega
    simp[F,G,H,h48,h49,h50,q,o,hh,u,hca,rW,d,R,I,m0,p,K,hh2,p0,wm,wm1,hlm,L,FD,jt];refine⟨by omega,.inr ⟨id,by omega,by rw[q],by simp[TH,m0,hh]⟩,xs.set m [int out[m].lo.v.a,int out[m].lo.v.b,int out[m].lo.v.c,x3,wq out[m].lo.after,int c.v.a,int c.v.b,int c.v.c,.sl 1 (qd c.v.pre),wq c.after,wq false],.inr ⟨S,by omega,by simp[C],by simp⟩,?_,fun i n k' e _ e2=>absurd (e2.trans e.symm) zda,by simp;omega,fun e=>by have:=zD List.length e;rw[List.length_set,C]at this;cases this⟩;rw[List.map_set,j,gR TI hm c,qz,qz,List.map_set];simp[hn3,wR.V,Cut.V]
   ·rw[hb]at d p;simp at p;have r:=q6.yx (P:=prog) (t:=209) (c:=[int c.v.a,int c.v.b,int c.v.c,.sl 1 (qd c.v.pre),wq c.after,int 0,int 0,int 0,.nil,wq false,wq true]) (hX.more (some ⟨237,5,false,[c.V]⟩)) Io sy Cw Cx rfl (by omega) (by unfold maxLen;omega) (by omega);simp only[Cut.V]at r;simp[F,G,H,h48,h49,h50,q,o,hh,u,hca,rW,d,R,I,m0,p,r,zR,qc,zv,zN,zy];refine⟨by omega,.inr ⟨id,by omega,by rw[q],by simp[hki,hh,m0,m1,m2]⟩,xs++[[int c.v.a,int c.v.b,int c.v.c,.sl 1 (qd c.v.pre),wq c.after,int 0,int 0,int 0,.nil,wq false,wq true]],by simpa using q6.after,?_,fun i n m e _ e2=>by omega,by simp;omega⟩;rw[yz,j];simp[qz,yw,wR.V,Cut.V,QV,qd]
   ·rw[hb]at d p;simp at p;simp[F,G,H,h48,h49,h50,q,o,hh,u,hca,rW,d,R,I,m0,p];exact⟨by omega,B.more _,xs,hX.more _,j,fun i n m e _=>BZ i _ m (by rw[e]),Ua rfl,by omega,Ud⟩
  ·obtain rfl:k=cs.length:=by omega
   rw[yk]at j;rw[←hfin]at j;have C:xs.length=(vj f a b).length:=by have:=zD List.length j;simpa[qz]using this
   simp[F,G,H,h48,h49,h50,f212];unfold WE;rcases hX with⟨K,rfl⟩|⟨S,hid2,K,hh2⟩
   ·rw[zf (qo.1 C.symm)];exact K
   ·by_cases hz:vj f a b=[]
    ·rw[zf hz];rw[hz]at C;exact Ud (qo.1 C)
    ·rw[zj hz];refine⟨S,_,K,hh2,rfl,?_⟩;simp only[fG,j]
theorem KC(l:List wR):(Sh.s 11 jM).fix (.sl 11 (qz l))=.sl 11 (qz l):=by simp only[Sh.eT,qz,List.map_map];congr 1
noncomputable def De:zc→Option (Option jz):=fun args=>
 match qv (α:=List wR×List wR) (fun a=>[.sl 11 (qz a.1),.sl 11 (qz a.2),.fn (.func 213) [] []]) (fun a=>kg a.1∧kg a.2) (fun a=>WE and a.1 a.2) args with
 |some r=>some r
 |none=>qv (α:=List wR×List wR) (fun a=>[.sl 11 (qz a.1),.sl 11 (qz a.2),.fn (.func 214) [] []]) (fun a=>kg a.1∧kg a.2) (fun a=>WE or a.1 a.2) args
theorem IF(g:O):∀a b:List wR×List wR,[O.sl 11 (qz a.1),.sl 11 (qz a.2),g]=[.sl 11 (qz b.1),.sl 11 (qz b.2),g]→a=b:=by rintro⟨f,h⟩ ⟨i,j⟩ e;simp only[zh,zK]at e;obtain⟨c,d⟩:=e;injection c with _ c;injection d with _ d;rw[Z6 c,Z6 d]
theorem pY:zg prog 212 (v8 [.s 11 jM,.s 11 jM] De):=
 JZ (fn:=f212) U9 ⟨_,func212,by kernel_rfl,rfl,by kernel_rfl⟩ _ jM _ fun args r h=>by
  unfold De at h;split at h
  ·rename_i f e;injection h with h;subst h
   obtain⟨⟨a,b⟩,rfl,⟨c,d⟩,rfl⟩:=zr e;exact⟨by simp[f212],dD and _ (fun x y Y Z=>by simp[C9]) a b c d⟩
  ·obtain⟨⟨a,b⟩,rfl,⟨c,d⟩,rfl⟩:=zr h;exact⟨by simp[f212],dD or _ (fun x y Y Z=>by simp[C9]) a b c d⟩
theorem Df(args:zc)(r:Option jz)(h:yV 9 1 args=some r):args.length≤f66.ntmps∧∃x Y Z,yr C0 f66 args (fun _=>none) 0=some (x,Y,Z)∧kd r x Y Z:=by
 unfold yV at h;split at h
 ·injection h with h;subst h;exact⟨by simp[f66],zT rfl (by simp[jP,ji,f66,kd])⟩
 ·injection h with h;subst h;exact⟨by simp[f66],zT rfl (by simp[jP,ji,f66,kd,zv,wU,AM.view,maxLen,zN,zy])⟩
 ·rename_i es;split at h
  ·rename_i d;obtain⟨rfl,a,b⟩:=d;injection h with h;subst h
   cases es with
   |nil=>exact absurd rfl a
   |cons c es=>
    unfold zG at b;simp at b;have e:es.length+1≤maxLen:=by unfold maxLen;omega
    have f:(es.length+1)*16≤140737488355328:=by omega
    refine⟨by simp[f66],zT rfl ?_⟩;simp[jP,ji,f66,kd,zv,wU,AM.view,zN,zy,e,f]
  ·cases h
 ·cases h
theorem dE:zg prog 66 (yO [] (yV 9 1)):=
 jw (fn:=f66) (code:=_) w8 ⟨func66,by kernel_rfl,rfl,by kernel_rfl⟩ [] _ Df
def idV(v:yJ):O:=.agg v.V
def idS(s:wR):O:=.agg s.V
noncomputable def FVe (f:yJ→O):zc→Option O:=qv (α:=yJ) (fun v=>[.agg v.V]) (fun v=>v.pre.length≤zG) f
theorem Dg(f:yJ→O)(v:yJ)(Y:Hp)(Z:Nat)(h:v.pre.length≤zG):qh [.g vB] (FVe f) [.agg v.V] Y Z=some (f v,Y,Z):=
 ju (show zA Y [.agg v.V]=some ([.agg v.V],Y) by simp[yJ.V]) (by
  have c:(Sh.g vB).fix (.agg v.V)=.agg v.V:=by simp[yJ.V]
  show FVe f [(Sh.g vB).fix (.agg v.V)]=_;rw[c];exact zJ (V:=fun v:yJ=>[O.agg v.V]) (a:=v) (fun a b e=>by simp only[zh,zK]at e;injection e with e;exact Kp e) h) (.inr (by simp[yJ.V]))
noncomputable abbrev Ccpv:Ctx:=qb prog [(66,yO [] (yV 9 1))]
theorem zaa:AM.Good Ccpv (fun g=>([]:List Nat).contains g):=zI mixed ⟨dE,by simp,trivial⟩
theorem fH(v:yJ)(y:O)(f:vw 1 (qd v.pre) y)(h:v.pre.length≤zG):∃i,zz Ccpv f241 [.agg [int v.a,int v.b,int v.c,y]]=some i∧qM i (.agg v.V):=by
 obtain⟨a,b,c,p⟩:=v;refine QD (sh:=.g vB) rfl ?_;simp only at h f;generalize e:qd p=T at f;have d:T.length≤zG:=by rw[←e];simpa[qd]using h
 cases f with
 |nil=>simp[yO,yf,yV,Xr,yJ.V,e,f241]
 |em=>simp[yO,yf,yV,Xr,yJ.V,e,f241]
 |sl=>rename_i j es;simp only[qa]at d;simp[yO,yf,yV,Xr,yJ.V,e,d,f241]
theorem dF:zg prog 241 (qh [.g vB] (FVe idV)):=
 jD (fn:=f241) zaa ⟨_,func241,by kernel_rfl,rfl,by kernel_rfl⟩ false [] _ fun args r h w S vs c=>by obtain⟨v,e,d,rfl⟩:=zr h;have a:=Km (hs:=[.g vB]) c;rw[e]at a;obtain⟨u,f,i⟩:=Qv a;subst f;obtain⟨y,k,b⟩:=xk i (j:=3) (s:=1) (es:=qd v.pre) (by simp[yJ.V]);obtain⟨l,m,n⟩:=fH v y k d;exact⟨_,l,.cons b .nil,by simp[f241],by simpa[yJ.V]using m,n⟩
noncomputable def FSt (f:wR→O):zc→Option O:=qv (α:=wR) (fun s=>[.agg s.V]) wR.small f
theorem PS(f:wR→O)(s:wR)(u:O)(Y:Hp)(Z:Nat)(h:s.small)(c:(Sh.g jM).fix u=.agg s.V)(d:qf Y u=some (u,Y))(i:u.noOwn=true):qh [.g jM] (FSt f) [u] Y Z=some (f s,Y,Z):=
 ju (show zA Y [u]=some ([u],Y) by simp only[zA,d]) (by show FSt f [(Sh.g jM).fix u]=_;rw[c];exact zJ (V:=fun v:wR=>[O.agg v.V]) (a:=s) (fun a b e=>by simp only[zh,zK]at e;injection e with e;exact nu e) h) (.inr (by rw[qN,i];rfl))
noncomputable abbrev Ccps:Ctx:=qb prog [(241,qh [.g vB] (FVe idV))]
theorem zab:AM.Good Ccps (fun g=>[241].contains g):=zI mixed ⟨dF,fun _=>jx _ _,trivial⟩
theorem fI(s:wR)(hs:s.small):zz Ccps f215 [.agg s.V]=some (.agg s.V):=by
 refine zo rfl ?_;have d:∀Y Z,qh [.g vB] (FVe idV) [.agg [int s.lo.v.a,int s.lo.v.b,int s.lo.v.c,.sl 1 (qd s.lo.v.pre)]] Y Z=some (.agg [int s.lo.v.a,int s.lo.v.b,int s.lo.v.c,.sl 1 (qd s.lo.v.pre)],Y,Z):=fun Y Z=>Dg idV s.lo.v Y Z hs.1.1
 have e:∀Y Z,qh [.g vB] (FVe idV) [.agg [int s.hi.v.a,int s.hi.v.b,int s.hi.v.c,.sl 1 (qd s.hi.v.pre)]] Y Z=some (.agg [int s.hi.v.a,int s.hi.v.b,int s.hi.v.c,.sl 1 (qd s.hi.v.pre)],Y,Z):=fun Y Z=>Dg idV s.hi.v Y Z hs.2.1
 simp[wR.V,Cut.V,d,e,wH,f215,jt]
theorem dG:zg prog 215 (qh [.g jM] (FSt idS)):=
 wo (fn:=f215) zab ⟨_,func215,by kernel_rfl,rfl,by kernel_rfl⟩ _ _ fun args r h=>by obtain⟨s,rfl,a,rfl⟩:=zr h;exact⟨by simp[f215],_,fI s a,qM.refl _⟩
theorem Vr{l:za}{n:Int}(h:Zc l=some n):0≤n∧n≤999999:=by
 unfold Zc at h;split at h
 ·rename_i a;injection h with h
  obtain⟨b,c⟩:=mY a.1;obtain⟨m,d,e⟩:=Vg l 0 c;have f:Lib.decNat l=some m:=by unfold Lib.decNat;rw[zj (by simpa using b)];exact d
  have g:m<10 ^ 6:=zlO (by simpa using e) (Nat.pow_le_pow_right (by omega) a.2);have i:n=(m:Int):=by rw[←h];unfold uW;rw[f];rfl
  omega
 ·cases h
theorem Mp{v:yJ}(h:Ys v=0):(0≤v.a∧v.a≤999999)∧(0≤v.b∧v.b≤999999)∧(0≤v.c∧v.c≤999999)∧v.pre.length≤10∧∀p∈v.pre,yF p=false:=by
 unfold Ys at h;split at h
 ·rename_i d;simp only[jg,zF,ql]at d;split at h
  ·cases h
  ·rename_i g;split at h
   ·cases h
   ·rename_i e;refine⟨d.1,d.2.1,d.2.2,by omega,fun p Y=>?_⟩;cases f:yF p with
    |false=>rfl
    |true=>exact absurd (lz.2 ⟨p,Y,f⟩) e
 ·cases h
theorem zac{t:za}{v:yJ}(h:uX t=some v):Ys v=0:=by
 unfold uX at h;split at h
 ·split at h
  ·split at h
   ·rename_i a;injection h with h
    rw[←h];exact a
   ·cases h
  ·cases h
 ·cases h
theorem GH{p:za}(h:yF p=false):p.length≤20:=by simp only[yF,w5,jh]at h;omega
theorem lK:∀(l:List za) (p q:Part) (i:Nat),yC p i l=some q→(0≤p.n0∧p.n0≤999999)∧(0≤p.n1∧p.n1≤999999)∧(0≤p.n2∧p.n2≤999999)∧0≤p.has∧p.has≤i∧(1≤i→1≤p.has)∧p.pre=[] →
  (0≤q.n0∧q.n0≤999999)∧(0≤q.n1∧q.n1≤999999)∧(0≤q.n2∧q.n2≤999999)∧0≤q.has∧q.has≤i+l.length∧(1≤i+l.length→1≤q.has)∧q.pre=[]
 |[],p,q,i,h,Y=>by
  simp only[yC]at h;injection h with h
  subst h;simpa using Y
 |t::l,p,q,i,h,Y=>by
  simp only[yC]at h;split at h
  ·rename_i r hs;obtain⟨a,b,c,d,e,f,g⟩:=Y;have m:(0≤r.n0∧r.n0≤999999)∧(0≤r.n1∧r.n1≤999999)∧(0≤r.n2∧r.n2≤999999)∧0≤r.has∧r.has≤(i+1:Nat)∧(1≤i+1→1≤r.has)∧r.pre=[]:=by
    unfold yd at hs;split at hs
    ·rename_i j;injection hs with hs
     obtain⟨n,k⟩:=Option.isSome_iff_exists.1 j.1;have o:=Vr k;rw[k]at hs;simp only[WS]at hs;subst hs;have s:=j.2;unfold Part.put;split<;>simp only<;>refine⟨?_,?_,?_,?_,?_,?_,g⟩<;>first|assumption|omega
    ·split at hs
     ·rename_i u;injection hs with hs
      subst hs;exact⟨a,b,c,d,by omega,fun _=>f (by omega),g⟩
     ·cases hs
   have:=lK l r q (i+1) h m;rw[qa];refine⟨this.1,this.2.1,this.2.2.1,this.2.2.2.1,?_,?_,this.2.2.2.2.2.2⟩
   ·have:=this.2.2.2.2.1;omega
   ·intro _;exact this.2.2.2.2.2.1 (by omega)
  ·cases h
def QI(l:List za):Prop:=l.length≤10∧∀p∈l,yF p=false
theorem J0{l:List za}(h:QI l):vP l:=⟨by have:=h.1;unfold zG;omega,fun p Y=>by have:=GH (h.2 p Y);unfold zG;omega⟩
theorem sV(s sep:za):qC s sep≠[]:=by
 unfold qC Lib.split;intro h;cases a:Lib.count s sep with
 |zero=>rw[a]at h;cases h
 |succ n=>rw[a]at h;simp only[Lib.splitK]at h;split at h<;>cases h
theorem KD{t:za}(h:(zY t).2=true):(zY t).1.ok∧QI (zY t).1.pre:=by
 unfold zY at h⊢;split at h
 ·rename_i a;rw[zf a];split at h
  ·rename_i v i;obtain⟨b,c,d,e,f⟩:=Mp (zac i);exact⟨⟨b,c,d,⟨by simp,by simp⟩,J0 ⟨e,f⟩⟩,e,f⟩
  ·cases h
 ·rename_i a;rw[zj a];split at h
  ·cases h
  ·rename_i j;rw[zj j];split at h
   ·rename_i p Y;have:=lK _ wO p 0 Y (by simp[wO]);obtain⟨b,c,d,e,f,k,l⟩:=this;have m:=kz.2 (sV t [46]);have g:QI p.pre:=by rw[l];exact⟨by simp,by simp⟩
    exact⟨⟨b,c,d,⟨k (by omega),by show p.has≤3;omega⟩,J0 g⟩,g⟩
   ·cases h
def Zg.xz(c:Zg):Prop:=c.sign.length≤3∧(c.sign=jI∨((c.p.ok∧QI c.p.pre)∧(c.sign=[45]→c.tu.ok∧QI c.tu.pre)))
theorem Zg.xz.ok{c:Zg}(h:c.xz):c.ok:=⟨by have:=h.1;unfold zG;omega,h.2.imp id fun⟨a,b⟩=>⟨a.1,fun e=>(b e).1⟩⟩
theorem KE:∀(a:List za) (s:za),(wW a s).1=[]∨(wW a s).1∈a
 |[],s=>.inl rfl
 |g::l,s=>by
  simp only[wW];split
  ·exact .inr (by simp)
  ·exact(KE l s).imp id fun h=>by simp[h]
theorem Dh{s:za}(h:s=[]∨s∈wI):s.length≤3∧s≠[45]:=by
 rcases h with rfl|h
 ·simp
 ·simp only[wI,zL,List.not_mem_nil,or_false]at h;rcases h with rfl|rfl|rfl|rfl|rfl|rfl|rfl<;>simp
theorem Mq{w:za}{l l':List za}{c:Zg}(h:kQ w l=some (c,l')):c.xz∧l'.length≤l.length:=by
 refine⟨?_,PG h⟩;have a:=Dh (KE wI w);unfold kQ at h;split at h
 ·injection h with h;injection h with h _;subst h;exact⟨by simp[fB,jI],.inl rfl⟩
 ·split at h
  ·split at h
   ·split at h
    ·rename_i b;injection h with h;injection h with h _;subst h
     exact⟨a.1,.inr ⟨KD b,fun e=>absurd e a.2⟩⟩
    ·cases h
   ·cases h
  ·split at h
   ·rename_i b;injection h with h;injection h with h _;subst h
    exact⟨a.1,.inr ⟨KD b,fun e=>absurd e a.2⟩⟩
   ·cases h
theorem sW:∀(n:Nat) (a:List za) (l:List Zg),yR n a=some l→(∀c∈l,c.xz)∧l.length≤a.length
 | 0,a,l,h=>by
  simp only[yR]at h;injection h with h;subst h
  exact⟨by simp,by simp⟩
 |n+1,[],l,h=>by
  simp only[yR]at h;injection h with h;subst h
  exact⟨by simp,by simp⟩
 |n+1,w::a,l,h=>by
  simp only[yR]at h;split at h
  ·rename_i c l' hs;obtain⟨e,g⟩:=Mq hs;cases b:yR n l' with
   |none=>rw[b]at h;cases h
   |some r=>
    rw[b]at h;simp only[zH,qw]at h;subst h;obtain⟨f,i⟩:=sW n l' r b;refine⟨fun x d=>?_,by simp;omega⟩;rcases zL.1 d with rfl|d
    ·exact e
    ·exact f x d
  ·cases h
theorem Mr{t:za}(h:(QU t).2=true):(∀c∈(QU t).1,c.xz)∧(QU t).1.length≤t.length+1:=by
 have n:(wQ (qC t [32])).length≤t.length+1:=zC (zeM _ _) (Zm (by simp));have f:∀d:List za,d=wQ (qC t [32])→((match yR d.length d with
   |some l=>(l,!l.isEmpty)
   |none=>([],false)):List Zg×Bool).2=true→(∀c∈((match yR d.length d with
   |some l=>(l,!l.isEmpty)
   |none=>([],false)):List Zg×Bool).1,c.xz)∧((match yR d.length d with
   |some l=>(l,!l.isEmpty)
   |none=>([],false)):List Zg×Bool).1.length≤t.length+1:=by
  intro d e i;cases j:yR d.length d with
  |none=>rw[j]at i;cases i
  |some l=>obtain⟨o,k⟩:=sW _ _ _ j;exact⟨o,by rw[e]at k;exact zC k n⟩
 unfold QU at h⊢;split at h
 ·rename_i a b c e;split at h
  ·rename_i g;simp only[zF]at h;rw[zf g];refine⟨fun x m=>?_,by simp⟩;simp only[jy]at m;subst m;exact⟨by simp,.inr ⟨KD h.1,fun _=>KD h.2⟩⟩
  ·rename_i g;rw[zj g];have:=f [a,b,c] (by rw[e]) h;exact this
 ·exact f _ rfl h
def Cut.xz(c:Cut):Prop:=QI c.v.pre
theorem Cut.xz.small{c:Cut}(h:c.xz):c.v.small:=J0 h
theorem sX:QV.xz:=⟨by simp[QV],by simp[QV]⟩
theorem xm:wA.xz:=⟨by simp[wA],by simp[wA,yF,fk,Ko,vA,y0,Vf,pr]⟩
theorem Xz(p:Part)(i:Nat):(jF p i).xz:=by
 have h:(jF p i).v.pre=[[48]]:=by unfold jF;split<;>rfl
 have:=xm;unfold Cut.xz at this⊢;rw[h];exact this
theorem nA{p:Part}(h:QI p.pre):(ZN p).xz:=h
theorem aw{p:Part}(h:QI p.pre):(vS p).xz:=by
 unfold vS;split
 ·exact Xz _ _
 ·exact h
theorem WG{a b:Cut}(c:a.xz)(d:b.xz):(fv a b).length≤1∧∀s∈fv a b,s.lo.xz∧s.hi.xz:=by
 unfold fv;split
 ·exact⟨by simp,by simp⟩
 ·refine⟨by simp,fun s hs=>?_⟩;simp only[jy]at hs;subst hs;exact⟨c,d⟩
theorem Wg{a:Cut}(b:a.xz):([yw a]:List wR).length≤1∧∀s∈[yw a],s.lo.xz∧s.hi.xz:=by refine⟨by simp,fun s hs=>?_⟩;simp only[jy]at hs;subst hs;exact⟨b,sX⟩
theorem ax{c:Zg}(b:c.xz):(vW c).1.length≤1∧∀s∈(vW c).1,s.lo.xz∧s.hi.xz:=by
 obtain⟨_,b⟩:=b;unfold vW;by_cases d:c.sign=jI
 ·rw[zf d];exact Wg xm
 rw[zj d];obtain⟨⟨_,Y⟩,g⟩:=b.resolve_left d;have a:=nA Y;have f:=aw Y;split
 ·exact Wg a
 split
 ·exact WG xm a
 split
 ·exact Wg f
 split
 ·exact WG xm f
 split
 ·rename_i e;exact WG a (aw (g e).2)
 split
 ·exact WG a (Xz _ _)
 split
 ·exact WG a (Xz _ _)
 ·exact WG a f
def jU(l:List wR):Prop:=∀s∈l,s.lo.xz∧s.hi.xz
theorem jU.small{l:List wR}(h:jU l)(a:l.length≤zG):kg l:=⟨a,fun s hs=>⟨(h s hs).1.small,(h s hs).2.small⟩⟩
theorem xu(f:Bool→Bool→Bool){a b:List wR}(c:jU a)(d:jU b):jU (vj f a b):=sR sX f c d
def pE:List za→Option (List (List Zg))
 |[]=>some []
 |s::l=>if(QU s).2=true then(pE l).map ((QU s).1::·)else none
noncomputable def VZ:List Zg→List wR→Option (List wR)
 |[],m=>some m
 |c::l,m=>if(vW c).2=true then VZ l (vj and m (vW c).1)else none
noncomputable def dH:List (List Zg)→List wR→Option (List wR)
 |[],o=>some o
 |l::a,o=>match VZ l [yw wA]with
  |some m=>dH a (vj or o m)
  |none=>none
noncomputable def QJ (t:za):List wR×Int:=if(400:Int)<t.length then([],2)else match pE (qC t [124,124])with
 |none=>([],10)
 |some a=>match dH a []with
  |none=>([],1)
  |some o=>if(100:Int)<o.length then([],2)else(o,0)
theorem Di:∀(l:List za) (d:List (List Zg)) (n:Nat),(∀s∈l,s.length≤n)→pE l=some d→(∀a∈d,(∀c∈a,c.xz)∧a.length≤n+1)∧d.length=l.length
 |[],d,n,_,h=>by
  simp only[pE]at h;injection h with h;subst h
  exact⟨by simp,rfl⟩
 |s::l,d,n,e,h=>by
  simp only[pE]at h;split at h
  ·rename_i hs;cases b:pE l with
   |none=>rw[b]at h;cases h
   |some r=>
    rw[b]at h;simp only[zH,qw]at h;subst h;obtain⟨f,g⟩:=Di l r n (fun x i=>e x (by simp[i])) b;obtain⟨j,k⟩:=Mr hs;have:=e s (by simp);refine⟨fun a b=>?_,by simp[g]⟩;rcases zL.1 b with rfl|b
    ·exact⟨j,by omega⟩
    ·exact f a b
  ·cases h
attribute [local go_sem] Oper.semAt_some
theorem GJ{P:Program}{g:FuncId}{F:zc→Option O}{us:List Value}{v:Value}(h:km True P g (zi false [] F))(f:zi false [] F (us.map O.v) (fun _=>none) 0=some (.v v,fun _=>none,0))(i:∀u∈us,lit u=true){W:World}(m:Ln P W fun b=>b<W.heap.size) :
  Calls P g us.toArray W fun e j=>e=.returned v∧Fr True W (fun _=>False) j:=by
 have n:Zip (qK W (fun b=>b<W.heap.size) (fun _=>⟨0,0,0⟩) 0) (us.map O.v) us:=by
  induction us with
  |nil=>exact .nil
  |cons u us l=>exact .cons (.c (.v (i u (by simp)))) (by
    clear f;have:∀us:List Value,(∀u∈us,lit u=true)→Zip (qK W (fun b=>b<W.heap.size) (fun _=>⟨0,0,0⟩) 0) (us.map O.v) us:=by
     intro us
     induction us with
     |nil=>intro _;exact .nil
     |cons u us l=>intro h;exact .cons (.c (.v (h u (by simp)))) (l fun x d=>h x (by simp[d]))
    exact this us fun x d=>i x (by simp[d]))
 refine(h.2 _ _ _ _ _ _ f W (fun b=>b<W.heap.size) (fun _=>⟨0,0,0⟩) us (sr _ (fun b o=>o) m) n).mono fun e j p=>?_
 obtain⟨x,r,s,rfl,a,d⟩:=p;obtain⟨rfl,_⟩:=d.yH;exact⟨rfl,⟨a.fr.os,a.fr.tape,a.fr.output,a.fr.size,a.fr.drawn,fun k q _=>a.fr.block k q fun⟨_,_,h,_⟩=>by cases h⟩⟩
theorem lL{W b:World}{L:Nat→Prop}(h:Fr True W L b){a:Addr}{v:Value}(c:W.cell? a=some v)(d:¬L a.block):b.cell? a=some v:=by rw[←c];exact aa (h.block _ (Ib c) d)
def aP(l:List za):List Value:=l.map fun p=>.string ⟨p.toArray⟩
def PT(w:World)(b:Nat):Nat:=match w.cell? ⟨b,0,none⟩with
 |some (.string s)=>s.size
 |_=>0
def vR(w:World)(b:Nat)(v:Value):Prop:=∃cs ty,w.heap[b]?=some (.cells cs ty (0,0))∧cs[0]?=some v
theorem vR.cell{w:World}{b:Nat}{v:Value}(h:vR w b v):w.cell? ⟨b,0,none⟩=some v:=by obtain⟨cs,ty,a,c⟩:=h;simp[World.cell?,a,c]
theorem vR.free{w:World}{b:Nat}{v:Value}(h:vR w b v):w.frozen? ⟨b,0,none⟩=false:=by obtain⟨cs,ty,a,c⟩:=h;simp[World.frozen?,a]
theorem vR.same{w a:World}{b:Nat}{v:Value}(h:vR w b v)(e:a.heap[b]?=w.heap[b]?):vR a b v:=by obtain⟨cs,ty,c,d⟩:=h;exact⟨cs,ty,e.trans c,d⟩
theorem vR.lt{w:World}{b:Nat}{v:Value}(h:vR w b v):b<w.heap.size:=by obtain⟨cs,ty,a,c⟩:=h;exact(qu.1 a).1
theorem vR.set{w:World}{b:Nat}{v:Value}(u:Value)(h:vR w b v):vR (w.setCell ⟨b,0,none⟩ u) b u:=by obtain⟨cs,ty,a,c⟩:=h;have d:=(qu.1 c).1;refine⟨cs.setIfInBounds 0 u,ty,?_,by simp[d]⟩;simp[World.setCell,Ji,a]
theorem vR.TJ{w:World}{b:Nat}(u:Value)(B:Nat→Prop)(a:B b):Fr True w B (w.setCell ⟨b,0,none⟩ u):=
 ⟨rfl,rfl,rfl,by simp[World.setCell],fun _=>ze _,fun k _ c=>by
  have:¬b=k:=fun e=>c (e ▸ a)
  simp[World.setCell,Ji,this]⟩
theorem vR.str{w:World}{b:Nat}{s:ByteArray}(h:vR w b (.string s)):PT w b=s.size:=by unfold PT;rw[h.cell]
theorem Aq(n l B1 B2 B3:Nat)(sep t:za)(hs1:1≤sep.length)(hs2:sep.length≤zG)(ht:t.length≤zG)(h12:B1≠B2)(h23:B3≠B2)(J Jx:List Value→World→Prop)
  (hJ:∀pre W W',J pre W→Fr True W (fun b=>b=B1∨b=B2∨b=B3) W'→J pre W') (hGl:∀pre W,J pre W→Ln prog W fun b=>b<W.heap.size)
  (hY:∀pre x W,J pre W→(aP (qC t sep))[pre.length]?=some x→YieldAt Fence.wide n prog l #[x] W fun e W'=>(e=.returned (.bool true)∧J (pre++[x]) W'∧(∀b,(b=B1∨b=B2∨b=B3)→W'.heap[b]?=W.heap[b]?)∧W.heap.size≤W'.heap.size)∨(e=.returned (.bool false)∧Jx (pre++[x]) W'))
  (W:World) (h0:J [] W) (h1:W.cell? ⟨B1,0,none⟩=some (.string ⟨sep.toArray⟩)) (h2:vR W B2 (.string ⟨t.toArray⟩)) (h3:W.cell? ⟨B3,0,none⟩=some (.int .i64 0)) :
  CallsIn Fence.wide (n+1) prog 258 #[.func (.yield l) #[] #[],.pointer (some ⟨B1,0,none⟩),.pointer (some ⟨B2,0,none⟩),.pointer (some ⟨B3,0,none⟩)] W fun e W'=>(∃v,e=.returned v)∧(J (aP (qC t sep)) W'∨∃pre,Jx pre W'):=by
 refine callsIn_of_wp func258 rfl trivial ?_ rfl;simp only[Tryz.ntmps258,yN,qa,vV,Nat.reduceAdd,Nat.reduceSub,Array.replicate_succ,Array.replicate_zero,List.push_toArray,List.append_toArray,wN,q9];have h2c:=h2.cell;have hse:((sep.length:Int)==0)=false:=q7.2 (by omega)
 gi_wp2
 try simp only[hse]
 have hx:∀cur:za,cur.length≤zG→∀wr:World,Ln prog wr (fun b=>b<wr.heap.size)→Calls prog 260 #[.string ⟨cur.toArray⟩,.string ⟨sep.toArray⟩] wr fun e w'=>e=.returned (.int .i64 (Lib.index cur sep))∧Fr True wr (fun _=>False) w':=fun cur hc wr hg=>by exact GJ (us:=[.string ⟨cur.toArray⟩,.string ⟨sep.toArray⟩]) di (Kn cur sep _ _ hc hs2) (by simp[lit]) hg
 gi_loopw [] (fun wr=>∃(done:List za) (cur:za),qC t sep=done++qC cur sep∧cur.length≤t.length∧J (aP done) wr∧wr.cell? ⟨B1,0,none⟩=some (.string ⟨sep.toArray⟩)∧vR wr B2 (.string ⟨cur.toArray⟩)∧wr.cell? ⟨B3,0,none⟩=some (.int .i64 0))
  (fun wr=>PT wr B2)
 case atStart=>exact⟨[],t,rfl,ze _,h0,h1,h2,h3⟩
 case round=>
  obtain⟨done,cur,hsp,hcl,hJs,c1,k2,c3⟩:=hrel;have c2:=k2.cell;have hg:=hGl _ _ hJs
  gi_wp2
  refine⟨trivial,zkl.2 ((hx cur (zC hcl ht) wr hg).mono ?_)⟩;rintro e w1 ⟨rfl,fr⟩;dsimp only;have d1:=lL fr c1 (fun h=>h);have m2:=k2.same (fr.block _ k2.lt fun h=>h);have d2:=m2.cell;have d3:=lL fr c3 (fun h=>h);have hJ1:=hJ _ _ _ hJs ⟨fr.os,fr.tape,fr.output,fr.size,fr.drawn,fun k hk _=>fr.block k hk fun h=>h⟩;have hel:(aP done).length=done.length:=by simp[aP]
  by_cases hneg:Lib.index cur sep<0
  ·have hsk:qC cur sep=[cur]:=by
    have hm:Lib.index cur sep=-1:=by
     rcases Lib.index_spec cur sep with⟨h,_⟩|⟨i,h,_⟩
     ·exact h
     ·omega
    unfold qC Lib.split;rw[Lib.count_miss hm];rfl
   have hu:(aP (qC t sep))[(aP done).length]?=some (.string ⟨cur.toArray⟩):=by rw[hsp,hsk,hel];simp[aP]
   obtain⟨fn,tmps,assign,body,hy,hR⟩:=hY _ _ w1 hJ1 hu
   gi_wp2
   refine hR.mono ?_;rintro e W3 (⟨rfl,hJ3,hk3,hz3⟩|⟨rfl,hJx3⟩)
   ·gi_wp2
    go_end0
    refine⟨⟨_,rfl⟩,.inl ?_⟩;rw[hsp,hsk];simpa[aP]using hJ3
   ·gi_wp2
    go_end0
    exact⟨⟨_,rfl⟩,.inr ⟨_,hJx3⟩⟩
  ·obtain⟨i,hi⟩:∃i:Nat,Lib.index cur sep=i:=⟨(Lib.index cur sep).toNat,by omega⟩;have hne:sep≠[]:=by rintro rfl;simp at hs1
   have hsk:qC cur sep=cur.take i::qC (cur.drop (i+sep.length)) sep:=by unfold qC Lib.split;rw[Lib.count_hit hne hi,eL 1,b5 hi]
   have htk:(cur.drop (i+sep.length)).take (cur.length-(i+sep.length))=cur.drop (i+sep.length):=qp (by simp);have hroom:=Lib.index_room cur sep (by omega);rw[hi]at hroom;unfold zG at ht hs2;have hwi:wrap64 (i:Int)=(i:Int):=by unfold wrap64;omega
   have hu:(aP (qC t sep))[(aP done).length]?=some (.string ⟨(cur.take i).toArray⟩):=by rw[hsp,hsk,hel];simp[aP]
   obtain⟨fn,tmps,assign,body,hy,hR⟩:=hY _ _ w1 hJ1 hu;rw[hi]
   gi_wp2
   refine hR.mono ?_;rintro e W3 (⟨rfl,hJ3,hk3,hz3⟩|⟨rfl,hJx3⟩)
   ·have e1:W3.cell? ⟨B1,0,none⟩=some (.string ⟨sep.toArray⟩):=by rw[←d1];exact aa (hk3 B1 (.inl rfl))
    have o2:=m2.same (hk3 B2 (.inr (.inl rfl)));have e2:=o2.cell;have e4:=o2.free;have e3:W3.cell? ⟨B3,0,none⟩=some (.int .i64 0):=by rw[←d3];exact aa (hk3 B3 (.inr (.inr rfl)))
    gi_wp2
    go_roundw
    case rel=>
     refine⟨done++[cur.take i],cur.drop (i+sep.length),by rw[hsp,hsk];simp,by simp;omega,?_,?_,?_,?_⟩
     ·have:=hJ _ _ _ hJ3 (vR.TJ (w:=W3) (b:=B2) (.string ⟨(cur.drop (i+sep.length)).toArray⟩) (fun b=>b=B1∨b=B2∨b=B3) (.inr (.inl rfl)));simpa[aP]using this
     ·exact lL (vR.TJ (w:=W3) (b:=B2) _ (fun b=>b=B2) rfl) e1 h12
     ·exact o2.set (.string ⟨(cur.drop (i+sep.length)).toArray⟩)
     ·exact lL (vR.TJ (w:=W3) (b:=B2) _ (fun b=>b=B2) rfl) e3 h23
    case measure=>have:=o2.set (.string ⟨(cur.drop (i+sep.length)).toArray⟩);rw[this.str,k2.str];simp;omega
   ·gi_wp2
    refine bodyPost_ret (results_none rfl _ _ _) rfl ?_;exact⟨⟨_,rfl⟩,.inr ⟨_,hJx3⟩⟩
def dI:Qq:=fun cap Y=>match cap with
 |[.ref b 0 0,.ref a 0 0,.ref c 0 0]=>match Y b,Y a,Y c with
  |some ⟨_,1,false,[[.v (.string sep)]]⟩,some ⟨_,1,false,[[.v (.string t)]]⟩,some ⟨_,1,false,[[.v (.int .i64 0)]]⟩=>
   if b≠a∧c≠a∧1≤sep.data.toList.length∧sep.data.toList.length≤zG∧t.data.toList.length≤zG then some ((qC t.data.toList sep.data.toList).map str,qZ (qZ (qZ Y b none) a none) c none)else none
  |_,_,_=>none
 |_=>none
theorem fJ{P:Program}{w:World}{S:Nat→Prop}{G:Nat→GI}{Y:Hp}{Z id e:Nat}{u:Value}(c:Inv P w S G Y Z)(d:Y id=some ⟨e,1,false,[[.v u]]⟩):vR w (G id).g u:=by have b:=c.live id _ d;have hs:(G id).s=1:=b.bs.symm;obtain⟨a,f,k,h⟩:=b.row (by omega);obtain⟨x,i,j⟩:=h 0 0 [.v u] (.v u) rfl rfl;obtain⟨rfl,_⟩:=j.2.1.yH;exact⟨a,e,f,by simpa[hs]using i⟩
theorem GK:Co True prog 258 dI:=by
 refine⟨⟨_,func258,by kernel_rfl,by kernel_rfl⟩,fun cap Y Z xs Y1 h=>?_⟩;unfold dI at h;split at h
 case h_2=>cases h
 rename_i d c i3;split at h
 case h_2=>cases h
 rename_i e1 sep e2 t e3 s r u;split at h
 case isFalse=>cases h
 rename_i F;obtain⟨v,x,y,z,H⟩:=F;injection h with h
 injection h with I a;subst I;subst a;have f:∀id b,qZ (qZ (qZ Y d none) c none) i3 none id=some b→Y id=some b∧id≠d∧id≠c∧id≠i3:=fun id b a=>by
  by_cases o:id=i3
  ·subst o;rw[w9]at a;cases a
  rw[qY _ _ _ _ o]at a;by_cases p:id=c
  ·subst p;rw[w9]at a;cases a
  rw[qY _ _ _ _ p]at a;by_cases q:id=d
  ·subst q;rw[w9]at a;cases a
  rw[qY _ _ _ _ q]at a;exact⟨a,q,p,o⟩
 refine⟨aP (qC t.data.toList sep.data.toList),by simp[aP],by simp[aP,lit],fun id b a=>(f id b a).1,fun w S G vs j k=>?_⟩;obtain⟨v1,r1,rfl,K,k⟩:=k.jl;obtain⟨v2,r2,rfl,L,k⟩:=k.jl;obtain⟨v3,r3,rfl,M,k⟩:=k.jl;obtain rfl:=k.Yi;have N:=fJ j s;have P:=fJ j r;have Q:=fJ j u;obtain⟨_,rfl⟩:=K.YE;obtain⟨_,rfl⟩:=L.YE;obtain⟨_,rfl⟩:=M.YE;have A:(G d).g≠(G c).g:=fun e=>v (j.inj _ _ _ _ s r e)
 have B:(G i3).g≠(G c).g:=fun e=>x (j.inj _ _ _ _ u r e)
 refine⟨fun b=>b=(G d).g∨b=(G c).g∨b=(G i3).g,?_,?_⟩
 ·have m:∀i blk,Y i=some blk→(i=d∨i=c∨i=i3)→kN Y G (G i).g∧cN S G (qZ (qZ (qZ Y d none) c none) i3 none) (G i).g:=fun i blk a C=>
   ⟨⟨i,blk,a,rfl⟩,j.apart i blk a,fun id R hid e=>by
     obtain⟨T,q,p,o⟩:=f id R hid;have:=j.inj _ _ _ _ T a e;subst this;rcases C with h|h|h
     ·exact q h
     ·exact p h
     ·exact o h⟩
  rintro b (rfl|rfl|rfl)
  ·exact m d _ s (.inl rfl)
  ·exact m c _ r (.inr (.inl rfl))
  ·exact m i3 _ u (.inr (.inr rfl))
 ·intro n l J U X hJx D hY W h0 E _;have:=Aq n l (G d).g (G c).g (G i3).g sep.data.toList t.data.toList y z H A B J U X D hY W h0 (N.same (E _ (.inl rfl))).cell (P.same (E _ (.inr (.inl rfl)))) (Q.same (E _ (.inr (.inr rfl)))).cell;simpa using this
end Go.Q
