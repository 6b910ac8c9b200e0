/- Lemmas. -/
import Derived.Test.YtmngbpkapamhoaaGreatDoorG8
set_option maxRecDepth 100000
set_option maxHeartbeats 4000000
open Go Proofs Proofs.YtmngbpkapamhoaaGreatDoor Proofs.Tryz RowKit AM SpanLaw Q Zz
open Go.IntKind renaming i64→i6
namespace Go.AM
def cU(P:Program)(l:Y7)(g:FuncId)(it:QG):Ctx:=⟨P,lookup l,fun _=>[],fun _=>[],fun _=>false,fun _=>[],fun k=>if k=g then some it else none⟩
@[simp]theorem zib(P:Program)(l:Y7)(g:FuncId)(it:QG):(cU P l g it).P=P:=rfl
@[simp]theorem zic(P:Program)(l:Y7)(k:FuncId)(it:QG)(Y:Hp)(Z g:Nat)(x y xs:zb):kg (cU P l k it) Y Z (some (.fn (.func g) x y)) xs=(lookup l g).bind fun s=>s (x++xs++y) Y Z:=by unfold kg cU;simp only;cases lookup l g<;>rfl
@[simp]theorem SM(P:Program)(l:Y7)(k:FuncId)(it:QG)(i:Nat)(a:Array Oper)(d:Bool)(st:St)(K:Exit->St->Prop):ZX (cU P l k it) (.region i a d) st K=tL (cU P l k it) a a.toList st (Wf K):=Jk _ i a d st K rfl rfl
theorem SN{P:Program}{l:Y7}{q:List Nat}{k:FuncId}{it:QG}(b:P.follows .mixedOrders=true)(h:sj True P q l)(hi:Ni P k it):AM.Good (cU P l k it) (fun g=>q.contains g):=
 let g:=qC b h
 ⟨g.spec,g.quiet,g.mixed,(fun _ _ h=>by cases h),(fun j a h=>by
  have:(if j=k then some it else none)=some a:=h;split at this
  ·rename_i e;injection this with this
   subst this;subst e;exact hi
  ·cases this)⟩
@[simp]theorem zkb(C:Ctx)(b:Code)(K:Exit->St->Prop)(st:St):asgK C b K .normal st=ZX C b st K:=rfl
@[simp]theorem zkc(I:Nat->Hp->Nat->Prop)(k:Nat)(σ:Nat->O)(K:Exit->St->Prop)(st:St):rngK I k σ K .normal st=I (k+1) st.Y st.Z:=rfl
@[simp]theorem zkd(I:Nat->Hp->Nat->Prop)(k:Nat)(σ:Nat->O)(K:Exit->St->Prop)(st:St):rngK I k σ K .ret st=K .ret ⟨σ,st.Y,st.Z⟩:=rfl
theorem KY{Y:Hp}{Z e s:Nat}{v:O}{xs:List zb}(h:qN Y Z e s v xs){j:Nat}{b:Blk}(a:Y j=some b)(c:b.arr=false):∀n,v≠.own j 0 n:=by
 rcases h with⟨rfl,_⟩|⟨id,f,rfl,d⟩
 ·intro n e;cases e
 ·intro n e;injection e with e
  subst e;rw[d]at a;injection a with a
  subst a;cases c
end Go.AM
namespace Go.Q
noncomputable def EC (t:za):O:=.w5 [.sl 11 (qn (QZ t).1),int (QZ t).2]
theorem pc:zg prog 199 (wD C0 f199):=kL je func199
noncomputable abbrev Csq:Ctx:=zV prog [(199,wD C0 f199)]
theorem zfb:Gd Csq:=zW mixed ⟨pc,trivial⟩
theorem Il:zg prog 165 (wD Csq f165):=kL zfb func165
def Ri(t sep:za)(Y:Hp)(Z:Nat):Hp:=qq (qq (qq Y Z (some ⟨9,1,false,[[str t]]⟩)) (Z+1) (some ⟨9,1,false,[[str sep]]⟩)) (Z+1+1) (some ⟨3,1,false,[[int 0]]⟩)
theorem BC(t sep:za)(Y:Hp)(Z:Nat):wD C0 f199 [str t,str sep,int 0] Y Z=some (.fn (.func 231) [] [.ref (Z+1) 0 0,.ref Z 0 0,.ref (Z+1+1) 0 0],Ri t sep Y Z,Z+1+1+1):=by unfold wD;rw[zd (by simp[f199])];refine jf rfl ?_;simp[Ri,f199]
theorem SO(t sep:za)(Y:Hp)(Z:Nat):wD Csq f165 [str t,str sep] Y Z=some (.fn (.func 231) [] [.ref (Z+1) 0 0,.ref Z 0 0,.ref (Z+1+1) 0 0],Ri t sep Y Z,Z+1+1+1):=by
 have a:=fun Y Z=>BC t sep Y Z
 unfold wD;rw[zd (by simp[f165])];refine jf rfl ?_;simp[a,f165]
def Kz(Y:Hp)(Z:Nat)(v:O)(m:List wQ):Prop:=v=.sl 11 (qn m)\/(v=.nil/\m=[])\/∃id,id<Z/\v=.own id 0 (qn m).length/\Y id=some ⟨208,11,true,qn m⟩
theorem Kz.frz{Y:Hp}{Z:Nat}{v:O}{m:List wQ}(h:Kz Y Z v m):∃y Y1,qt Y v=some (y,Y1)/\(Sh.s 11 jW).fix y=.sl 11 (qn m)/\(∀j,(∀n,v≠.own j 0 n)->Y1 j=Y j)/\∀j b,Y1 j=some b->Y j=some b:=by
 rcases h with rfl|⟨rfl,rfl⟩|⟨id,f,rfl,c⟩
 ·exact⟨_,Y,rfl,KV m,fun _ _=>rfl,fun _ _ h=>h⟩
 ·exact⟨_,Y,rfl,rfl,fun _ _=>rfl,fun _ _ h=>h⟩
 ·refine⟨.sl 11 (qn m),qq Y id none,by simp[c],KV m,fun j d=>zz _ _ _ _ fun e=>d _ (by subst e;rfl),fun j b a=>?_⟩;by_cases e:j=id
  ·subst e;rw[wU]at a;cases a
  ·rwa [zD _ _ _ _ e]at a
theorem Kz.keep{Y Y':Hp}{Z Z':Nat}{v:O}{m:List wQ}(h:Kz Y Z v m)(d:Z<=Z')(a:∀id,id<Z->(∀n,v=.own id 0 n->Y' id=Y id)):Kz Y' Z' v m:=by
 rcases h with rfl|⟨rfl,rfl⟩|⟨id,b,rfl,c⟩
 ·exact .inl rfl
 ·exact .inr (.inl ⟨rfl,rfl⟩)
 ·exact .inr (.inr ⟨id,by omega,rfl,by rw[a id b _ rfl];exact c⟩)
theorem Kz.len{Y:Hp}{Z:Nat}{v:O}{m:List wQ}(h:Kz Y Z v m):Vi prog 169 v=some (int m.length):=by rcases h with rfl|⟨rfl,rfl⟩|⟨id,a,rfl,b⟩<;>simp[qn]
theorem Kz.box{Y:Hp}{Z:Nat}{v:O}{m:List wQ}(h:Kz Y Z v m){j:Nat}{b:Blk}(a:Y j=some b)(c:b.e≠208):∀n,v≠.own j 0 n:=by
 rcases h with rfl|⟨rfl,rfl⟩|⟨id,f,rfl,d⟩
 ·intro n e;cases e
 ·intro n e;cases e
 ·intro n e;injection e with e
  subst e;rw[d]at a;injection a with a
  subst a;exact c rfl
theorem Kz.lt{Y:Hp}{Z:Nat}{v:O}{m:List wQ}(h:Kz Y Z v m){j n:Nat}(e:v=.own j 0 n):j<Z:=by
 rcases h with rfl|⟨rfl,rfl⟩|⟨id,a,rfl,b⟩
 ·cases e
 ·cases e
 ·injection e with e;omega
theorem zbl(c:Zo)(Y:Hp)(Z:Nat)(h:c.ok):qP [.g Bv] (FCm Kn) [.agg c.V] Y Z=some (Kn c,Y,Z):=
 xv (show zC Y [.agg c.V]=some ([.agg c.V],Y) by simp[Zo.V]) (by
  have d:(Sh.g Bv).fix (.agg c.V)=.agg c.V:=by simp[Zo.V]
  show FCm Kn [(Sh.g Bv).fix (.agg c.V)]=_;rw[d];exact qD (V:=fun v:Zo=>[O.agg v.V]) (a:=c) (fun a b e=>by simp only[zj,zG]at e;injection e with e;exact NL e) h) (.inr (by simp[Zo.V]))
theorem ED(f:Bool->Bool->Bool)(g:Nat)(C:(f=and/\g=170)\/(f=or/\g=171)){Y:Hp}{Z:Nat}{v w:O}{a b:List wQ}(D:Kz Y Z v a)(E:Kz Y Z w b)(h:∀id n k,v=.own id 0 n->w≠.own id 0 k)(t:kz a)(u:kz b) :
  ∃x Y' Z',xo [.s 11 jW,.s 11 jW] Ex [v,w,.fn (.func g) [] []] Y Z=some (x,Y',Z')/\Kz Y' Z' x (vr f a b)/\Z<=Z'/\(∀j,j<Z->(∀n,v≠.own j 0 n)->(∀n,w≠.own j 0 n)->Y' j=Y j)/\(∀n j,x=.own j 0 n->Z<=j)/\∀s es,x≠.sl s es:=by
 obtain⟨y,Y1,F,G,i,_⟩:=D.frz;have l:Kz Y1 Z w b:=E.keep (zl _) fun id _ n e=>i id fun H I=>h id H n I e
 obtain⟨z,Y2,J,K,A,_⟩:=l.frz;have d:zC Y [v,w,.fn (.func g) [] []]=some ([y,z,.fn (.func g) [] []],Y2):=by simp only[zC,F,J];rfl
 have B:Ex (dU [.s 11 jW,.s 11 jW] (yS [] [y,z,.fn (.func g) [] []]))=some (Yc f a b):=by
  show Ex [(Sh.s 11 jW).fix y,(Sh.s 11 jW).fix z,.fn (.func g) [] []]=_;rw[G,K];rcases C with⟨rfl,rfl⟩|⟨rfl,rfl⟩
  ·have:=qD (V:=fun a:List wQ×List wQ=>[O.sl 11 (qn a.1),.sl 11 (qn a.2),.fn (.func 170) [] []]) (pre:=fun a=>kz a.1/\kz a.2) (out:=fun a=>Yc and a.1 a.2) (a:=(a,b)) (L2 _) ⟨t,u⟩;unfold Ex;rw[this]
  ·have:=qD (V:=fun a:List wQ×List wQ=>[O.sl 11 (qn a.1),.sl 11 (qn a.2),.fn (.func 171) [] []]) (pre:=fun a=>kz a.1/\kz a.2) (out:=fun a=>Yc or a.1 a.2) (a:=(a,b)) (L2 _) ⟨t,u⟩;have m:qd (α:=List wQ×List wQ) (fun a=>[O.sl 11 (qn a.1),.sl 11 (qn a.2),.fn (.func 170) [] []]) (fun a=>kz a.1/\kz a.2) (fun a=>Yc and a.1 a.2) [O.sl 11 (qn a),.sl 11 (qn b),.fn (.func 171) [] []]=none:=by
    cases L:qd (α:=List wQ×List wQ) (fun a=>[O.sl 11 (qn a.1),.sl 11 (qn a.2),.fn (.func 170) [] []]) (fun a=>kz a.1/\kz a.2) (fun a=>Yc and a.1 a.2) [O.sl 11 (qn a),.sl 11 (qn b),.fn (.func 171) [] []]with
    |none=>rfl
    |some r=>obtain⟨_,e,_⟩:=zO L;simp at e
   unfold Ex;rw[m];exact this
 unfold xo jm;by_cases o:vr f a b=[]
 ·have c:=B;unfold Yc at c;rw[zd o]at c;simp only[d,c];exact⟨_,_,_,rfl,.inr (.inl ⟨rfl,o⟩),zl _,fun j _ p q=>(A j q).trans (i j p),fun n j e=>(by cases e),fun s es e=>(by cases e)⟩
 ·have c:=B;unfold Yc at c;rw[ze o]at c;simp only[d,c];exact⟨_,_,_,rfl,.inr (.inr ⟨Z,by omega,rfl,by simp⟩),by omega,fun j M p q=>by rw[zz _ _ _ _ (by omega)];exact(A j q).trans (i j p),fun n j e=>(by injection e with e;omega),fun s es e=>(by cases e)⟩
noncomputable abbrev Crrg:Ctx:=cU prog [(165,wD Csq f165),(166,hP (bz Bz)),(167,qP [] (Jt cT)),(168,qP [.g Bv] (FCm Kn)),(169,xo [.s 11 jW,.s 11 jW] Ex),(172,qP [.g jW] (FSt idS))] 231 eK
theorem zfc:Gd Crrg:=SN mixed ⟨Il,by simp,eA,by simp,KP,by simp,mf,by simp,sD,by simp,eI,by simp,trivial⟩ Ik
theorem pd(t:za)(ht:t.length+1<=zA):∃r0,zv Crrg f141 [str t]=some r0/\wL r0 (EC t):=by
 refine ji (sh:=.s 11 jW) rfl ?_;by_cases T:(400:Int)<t.length
 ·have hv:QZ t=([],2):=by unfold QZ;rw[zd T]
  simp[T,EC,hv,qn,qB,f141]
 have hsq:=fun Y Z=>SO t [124,124] Y Z
 obtain⟨a,u⟩:=wZ (qy t [124,124]);have hpl:∀p∈a,p.length<=400:=fun p Y=>by have:=xM (by rw[u];exact Y);omega
 have hpn:a.length<=401:=by have:=Zu (s:=t) (sep:=[124,124]) (by simp);rw[u]at this;omega
 have b:QZ t=match sa a with
  |none=>([],10)
  |some ls=>match eJ ls []with
   |none=>([],1)
   |some o=>if(100:Int)<o.length then([],2)else(o,0):=by unfold QZ;rw[ze T,u]<;>rfl
 simp[T,hsq];refine Nh (p:=23) (xs:=a.map str) rfl (by simp;exact⟨rfl,rfl⟩) (it:=eK) rfl (by simp[eK,Ri,u];exact⟨⟨by decide,by omega⟩,rfl⟩) (fun k Y Z=>∃(v:O) (done:List (List Zo)),6<=Z/\Y 0=some ⟨169,1,false,[[.nil]]⟩/\Y 1=some ⟨28,1,false,[[int 0]]⟩/\Y 2=some ⟨186,1,false,[[v]]⟩ /\
   qN Y Z 190 1 v (done.map fun l=>[.sl 11 (Z5 l)])/\done.length=k/\sa a=(sa (a.drop k)).map (done++·)) ?_ ?_ ?_
 ·exact⟨.nil,[],by simp,by simp,by simp,by simp,.inl ⟨rfl,rfl⟩,rfl,by rw[wY];cases sa a<;>rfl⟩
 ·rintro k Y Z hk ⟨v,done,z,f,d,b2,C,hdk,he⟩;have hk':k<a.length:=by simpa using hk
  have hpk:(a.map str)[k]=str a[k]:=by simp
  have hpkl:=hpl a[k] (zi hk');have halt:=fun Y Z=>ZM Bz a[k] Y Z (by unfold zA;omega)
  simp only[Bz]at halt;rw[hpk];rw[zc hk']at he;simp only[sa]at he;cases D:(Wc a[k]).2
  ·rw[D]at he;simp only[zP,wF,xg]at he;rw[he]at b;have n0:¬0=Z:=by omega
   have n1:¬1=Z:=by omega
   simp[halt,D,f,d,EC,b,qn,qB,f141]
  ·rw[D]at he;simp only[qV]at he;have tp:=qN.yx (P:=prog) (t:=186) (c:=[.sl 11 (Z5 (Wc a[k]).1)]) C zdo zhT zhU zhV rfl (by omega) (by simp[hdk];unfold maxLen;omega) (by simp[hdk];omega);have k0:=fun Y'=>yr C Y' 0 (KY C f rfl)
   have k1:=fun Y'=>yr C Y' 1 (KY C d rfl)
   have k2:=fun Y'=>yr C Y' 2 (KY C b2 rfl)
   have n0:¬0=Z:=by omega
   have n1:¬1=Z:=by omega
   have n2:¬2=Z:=by omega
   have n3:¬1=Z+1:=by omega
   have n4:¬2=Z+1:=by omega
   have n5:¬Z+1=2:=by omega
   simp[halt,D,f,d,b2,tp,k0,k1,k2,n0,n1,n2,n3,n4,n5,zt,zJ,zr];refine⟨by omega,by rw[zz _ _ _ _ (by omega),k1,zz _ _ _ _ (by omega)];exact d,done++[(Wc a[k]).1],.inr ⟨Z+1,by omega,by simp,by rw[zz _ _ _ _ (by omega)];simp⟩,by simp[hdk],?_⟩;rw[he];cases sa (a.drop (k+1))<;>simp
 ·rintro Y Z ⟨v,done,z,f,d,b2,C,hdk,he⟩;rw[Zn]at hdk;rw[Zn,zp]at he;simp only[sa,zH,ku]at he;obtain⟨ziT,hdl⟩:=EB a done 400 hpl he;rw[he]at b;simp only at b;have hlen:=C.len zdo;rw[Zn]at hlen;have hdn:done.length<=401:=by omega
  obtain⟨r,L⟩:=wZ (done.map (fun l=>[O.sl 11 (Z5 l)]));rw[L]at C;have hrl:r.length=done.length:=by rw[<-L];simp
  simp[b2,hlen];refine zL (fun i σ Y Z=>σ 2=.ref 0 0 0/\σ 3=.ref 1 0 0/\σ 35=v/\σ 36=int done.length/\σ 37=int i/\6<=Z/\Y 0=some ⟨169,1,false,[[.nil]]⟩/\Y 1=some ⟨28,1,false,[[int 0]]⟩ /\
    qN Y Z 190 1 v r/\∃o,Kz Y Z (σ 8) o/\(∀s es,σ 8≠.sl s es)/\kb o/\o.length<=i*500/\eJ done []=eJ (done.drop i) o) done.length
   ⟨by simp,by simp,by simp,by simp,by simp,z,f,d,C,[],.inr (.inl ⟨by simp,rfl⟩),by simp,(by intro s hs;cases hs),by simp,by simp⟩ ?_
  clear z f d b2 C hlen Y Z;rintro i σ Y Z hi ⟨M,N,H,A,B,z,f,d,C,o,K,Q,hgo,hol,hj⟩;by_cases hlt:i<done.length
  ·obtain⟨idA,I,rfl,E⟩:=C.at_ (by omega);obtain⟨l,hl⟩:=wZ (done[i]);have hri:∀h:i<r.length,r[i]=[O.sl 11 (Z5 l)]:=fun h=>by
    have:r[i]?=some [O.sl 11 (Z5 l)]:=by rw[<-L,qz,zq hlt,hl];rfl
    rw[zq h]at this;injection this
   obtain⟨hgl,hll⟩:=ziT l (by rw[<-hl];exact zi hlt);rw[zc hlt,hl]at hj;simp only[eJ]at hj;have hev:∀(Y:Hp) (Z:Nat),qP [] (Jt cT) [] Y Z=some (.sl 11 (qn [yu wv]),Y,Z):=fun Y Z=>Wy _ Y Z
   have hwi:=qe i;have hel:(Z5 l).length=l.length:=by simp[Z5]
   simp[M,N,H,A,B,hlt,hrl,E,hri,hev,hel];refine zL (fun k σ Y Z=>σ 2=.ref 0 0 0/\σ 3=.ref 1 0 0/\σ 35=.own idA 0 r.length/\σ 36=int done.length/\σ 37=int i/\6<=Z/\Y 0=some ⟨169,1,false,[[.nil]]⟩/\Y 1=some ⟨28,1,false,[[int 0]]⟩ /\
     qN Y Z 190 1 (.own idA 0 r.length) r/\Kz Y Z (σ 8) o/\(∀s es,σ 8≠.sl s es)/\σ 42=.sl 11 (Z5 l)/\σ 43=int l.length/\σ 44=int k/\∃m,Kz Y Z (σ 11) m/\kb m/\m.length<=k+1/\(∀id n n',σ 8=.own id 0 n->σ 11≠.own id 0 n')/\Xj l [yu wv]=Xj (l.drop k) m) l.length
    ⟨by simp[M],by simp[N],by simp[H,hrl],by simp[A],by simp[B],z,f,d,C,by simpa using K,by simpa using Q,by simp,by simp,by simp,[yu wv],.inl (by simp),(WA xH).2,by simp,by simp,by simp⟩ ?_
   clear M N H A B z f d C K Q hi E I σ Y Z;rintro k σ Y Z hk ⟨M,N,H,A,B,z,f,d,C,K,Q,h42,h43,h44,m,hM,hgm,hml,tp,y⟩;by_cases U:k<l.length
   ·obtain⟨c,hc⟩:=wZ (l[k]);have hcg:c.xR:=hgl c (by rw[<-hc];exact zi U);obtain⟨hs1,hs2⟩:=aX hcg;have J:∀h:k<(Z5 l).length,(Z5 l)[k]=c.V:=fun h=>by simp[Z5,hc]
    have Db:=fun Y Z=>zbl c Y Z hcg.ok
    have hwk:=qe k;rw[zc U,hc]at y;simp only[Xj]at y;have n0:¬0=Z:=by omega
    have n1:¬1=Z:=by omega
    cases D:(xi c).2
    ·rw[D]at y;simp only[zP,wF]at y;rw[y]at hj;simp only at hj;rw[hj]at b;simp only at b;simp only[Kn,Zo.V]at Db J;simp[M,N,H,A,B,h42,h43,h44,U,hel,J,Db,D,f,d,n0,n1,EC,b,qn,qB,f141]
    ·rw[D]at y;simp only[qV]at y;have hM':Kz (qq Y Z (some ⟨198,11,false,[c.V]⟩)) (Z+1) (σ 11) m:=hM.keep (by omega) fun id hid n e=>zz _ _ _ _ (by omega)
     obtain⟨x,Y',Z',F,hX,hnx',PN,W,hxs⟩:=ED and 170 (.inl ⟨rfl,rfl⟩) hM' (.inl rfl:Kz _ _ (.sl 11 (qn (xi c).1)) (xi c).1) (fun id n k e e2=>by cases e2) (hgm.small (by unfold zA;omega)) (kb.small hs2 (by unfold zA;omega));have G:∀j,j<Z->(∀n,σ 11≠.own j 0 n)->Y' j=Y j:=fun j hj q=>by rw[PN j (by omega) q (fun n e=>by cases e),zz _ _ _ _ (by omega)]
     have hlm:=KU and m (xi c).1;obtain⟨idA2,I,R,E⟩:=C.at_ (by omega);injection R with R
     subst R;simp only[Kn,Zo.V]at Db J F;simp[M,N,H,A,B,h42,h43,h44,U,hel,J,Db,D,F,hwk];exact⟨by omega,by omega,by rw[G 0 (by omega) (hM.box f (by decide))];exact f,by rw[G 1 (by omega) (hM.box d (by decide))];exact d,.inr ⟨idA,by omega,rfl,by rw[G idA I (hM.box E (by simp))];exact E⟩,K.keep (by omega) (fun id hid n e=>G id hid fun n'=>tp id n n' e),Q,_,hX,xN and hgm hs2,by omega,fun id n n' e e2=>by have:=K.lt e;have:=W _ _ e2;omega,y⟩
   ·obtain rfl:k=l.length:=by omega
    rw[zp]at y;simp only[Xj]at y;rw[y]at hj;simp only at hj;obtain⟨x,Y',Z',F,hX,hnx',PN,W,hxs⟩:=ED or 171 (.inr ⟨rfl,rfl⟩) K hM tp (hgo.small (by unfold zA;omega)) (hgm.small (by unfold zA;omega));have hlm:=KU or o m;obtain⟨idA2,I,R,E⟩:=C.at_ (by omega);injection R with R
    subst R;simp[M,N,H,A,B,h42,h43,h44,F,hwi];exact⟨by omega,hrl,by omega,by rw[PN 0 (by omega) (K.box f (by decide)) (hM.box f (by decide))];exact f,by rw[PN 1 (by omega) (K.box d (by decide)) (hM.box d (by decide))];exact d,.inr ⟨idA,by omega,by rw[hrl],by rw[PN idA I (K.box E (by simp)) (hM.box E (by simp))];exact E⟩,_,hX,hxs,xN or hgo hgm,by omega,hj⟩
  ·obtain rfl:i=done.length:=by omega
   rw[zp]at hj;simp only[eJ]at hj;rw[hj]at b;simp only at b;have S:=K.len;by_cases X:(100:Int)<o.length
   ·rw[zd X]at b;simp[M,N,A,B,S,X,f,d,EC,b,qn,qB,f141]
   rw[ze X]at b;simp[M,N,A,B,S,X];obtain⟨w,hw8⟩:=wZ (σ 8);rw[hw8]at K Q;refine zL (fun j σ Y Z=>σ 2=.ref 0 0 0/\σ 3=.ref 1 0 0/\σ 8=w/\σ 66=w/\σ 67=int o.length/\σ 68=int j/\6<=Z/\Y 0=some ⟨169,1,false,[[.nil]]⟩/\Y 1=some ⟨28,1,false,[[int 0]]⟩/\Kz Y Z w o) o.length
    ⟨by simp[M],by simp[N],by simp[hw8],by simp[hw8],by simp,by simp,z,f,d,K⟩ ?_
   clear M N H A B z f d C K hi hw8 σ Y Z S;rintro j σ Y Z hjl ⟨M,N,h8,h66,h67,h68,z,f,d,K⟩;by_cases hltj:j<o.length
   ·have hwj:=qe j;rcases K with rfl|⟨rfl,rfl⟩|⟨id,hid,rfl,hb⟩
    ·exact absurd rfl (Q _ _)
    ·simp at hltj
    ·obtain⟨s,hs⟩:=wZ (o[j]);have hgs:=hgo s (by rw[<-hs];exact zi hltj);have hel:(qn o).length=o.length:=by simp[qn]
     have J:∀h:j<(qn o).length,(qn o)[j]=s.V:=fun h=>by simp[qn,hs]
     have hset:(qn o).set j s.V=qn o:=by
      have h':j<(qn o).length:=by omega
      rw[<-J h'];exact List.set_getElem_self h'
     have hcp:∀Y Z,qP [.g jW] (FSt idS) [.agg s.V] Y Z=some (.agg s.V,Y,Z):=fun Y Z=>SK idS s (.agg s.V) Y Z ⟨hgs.1.small,hgs.2.small⟩ (by simp[wQ.V,Cut.V]) (by simp[wQ.V,Cut.V]) (by simp[wQ.V,Cut.V])
     have m1:¬id=Z:=by omega
     simp only[wQ.V,Cut.V,wB,w7]at J hcp hset;have i0:¬0=id:=fun e=>by rw[<-e]at hb;rw[hb]at f;simp at f
     have i1:¬1=id:=fun e=>by rw[<-e]at hb;rw[hb]at d;simp at d
     have n0:¬0=Z:=by omega
     have n1:¬1=Z:=by omega
     simp[M,N,h8,h66,h67,h68,hltj,hel,hb,J,hcp,m1,hwj,hset];exact⟨by omega,by omega,by simp[i0,n0,f],by simp[i1,n1,d],.inr (.inr ⟨id,by omega,by rw[hel],by simp⟩)⟩
   ·obtain rfl:j=o.length:=by omega
    rcases K with rfl|⟨rfl,rfl⟩|⟨id,hid,rfl,hb⟩
    ·exact absurd rfl (Q _ _)
    ·simp[M,N,h8,h66,h67,h68,f,d,EC,b,qB,qn,f141]
    ·have i0:¬id=0:=fun e=>by rw[e]at hb;rw[hb]at f;simp at f
     have i1:¬id=1:=fun e=>by rw[e]at hb;rw[hb]at d;simp at d
     have hfx:=KV o;simp only[Sh.rY,O.sl.injEq,Gr]at hfx;simp[M,N,h8,h66,h67,h68,f,d,hb,i0,i1,EC,b,qB,hfx,f141]
theorem mh:zg prog 141 (hP (bz EC)):=
 W6 (fn:=f141) zfc (qX func141) false [] _ fun args r h w S vs a=>by obtain⟨l,rfl,Y,rfl⟩:=zO h;obtain⟨b,c,d⟩:=pd l Y;exact⟨_,b,a,by simp[f141],c,d⟩
def Wi(op:Int):Bool:=jG op 2 6||op==12
def ZQ(op:Int):Bool:=jG op 7 11
def xz(op:Int):Bool:=jG op 3 6
noncomputable abbrev Cwi:Ctx:=zV prog [(55,hP (F3 jG))]
theorem Im:AM.Good Cwi (fun g=>[55].contains g):=qC mixed ⟨QP,fun _=>zu _ _,trivial⟩
def mi(f:Int->Bool):zb->Option O
 |[.v (.int .i64 a)]=>some (wb (f a))
 |_=>none
theorem J0{f:Int->Bool}{args:zb}{r:O}(h:mi f args=some r):∃a,args=[int a]/\r=wb (f a):=by
 unfold mi at h;split at h
 ·injection h with h;exact⟨_,rfl,h.symm⟩
 ·cases h
@[simp]theorem zid(f:Int->Bool)(a:Int)(Y:Hp)(Z:Nat):hP (mi f) [.v (.int .i64 a)] Y Z=some (wb (f a),Y,Z):=yI rfl rfl (.inl rfl)
theorem EE:zg prog 137 (hP (mi Wi)):=
 yy (fn:=f137) Im (qX func137) false [] _ fun args r h=>by obtain⟨a,rfl,rfl⟩:=J0 h;exact⟨by simp[f137],_,zn rfl (by simp[Wi,f137]),z8 _⟩
theorem X2:zg prog 96 (hP (mi ZQ)):=
 yy (fn:=f96) Im (qX func96) false [] _ fun args r h=>by obtain⟨a,rfl,rfl⟩:=J0 h;exact⟨by simp[f96],_,zn rfl (by simp[ZQ,f96]),z8 _⟩
theorem lk:zg prog 138 (hP (mi xz)):=
 yy (fn:=f138) Im (qX func138) false [] _ fun args r h=>by obtain⟨a,rfl,rfl⟩:=J0 h;exact⟨by simp[f138],_,zn rfl (by simp[xz,f138]),z8 _⟩
noncomputable abbrev Cms (n:Nat):Ctx:=zV prog [(49,hP (FCp (fun c=>.w5 [int c.parts,int c.levels]) n))]
theorem BD(n:Nat)(c:qO)(h:c.parts<=zA/\c.parts<=n+1):zv (Cms n) f49 [.agg c.V]=some (.w5 [int c.parts,int c.levels]):=by
 have hpe:=Ja c;have f:=cL c;have q:=H2 c;have r:=cO c.args;obtain⟨s,w⟩:=h;unfold zA at s;refine zn rfl ?_;simp;refine zL (fun k σ Y Z=>σ 9=.sl 7 (c.args.map qO.V)/\σ 10=int c.args.length/\σ 11=int k/\σ 2=int ((1+y7 (c.args.take k):Nat):Int)/\σ 3=int (jr (c.args.take k))) c.args.length
  ⟨by simp,by simp,by simp,by simp[y7],by simp[jr]⟩ ?_
 rintro k σ Y Z x ⟨l,d,e,g,i⟩;by_cases a:k<c.args.length
 ·obtain⟨m,t⟩:=zh7 a;have y:=cN (zi a);have u:=qe k;have o:=uh c.args k;have j:=uh c.args (k+1);have b:=fun Y Z=>R9 (fun c=>.w5 [int c.parts,int c.levels]) n c.args[k] Y Z ⟨by unfold zA;omega,by omega⟩
  have p:i6.wrap (((1+y7 (c.args.take k):Nat):Int)+c.args[k].parts)=((1+y7 (c.args.take (k+1)):Nat):Int):=by rw[wS (by omega) (by omega),m];omega
  have v:(if(jr (c.args.take k))<c.args[k].levels then(c.args[k].levels:Int)else jr (c.args.take k))=(jr (c.args.take (k+1)):Int):=by rw[t];split<;>omega
  simp[g,i,l,d,e,a,b,u];exact⟨by omega,by rw[wS (by omega) (by omega),m];omega,v⟩
 ·obtain rfl:k=c.args.length:=by omega
  rw[qf]at g i;have p:i6.wrap ((jr c.args:Int)+1)=(c.levels:Int):=by rw[wS (by omega) (by omega),f];omega
  simp[g,i,l,d,e,p,wK,f49];omega
theorem pg:∀n,zg prog 49 (hP (FCp (fun c=>.w5 [int c.parts,int c.levels]) n)):=by
 intro n
 induction n with
 |zero=>
  exact aV ⟨_,func49,by kernel_rfl,by kernel_rfl⟩ fun args r h=>by obtain⟨c,_,⟨_,e⟩,_⟩:=zO h;have:=gv c;omega
 |succ n a=>have b:Gd (Cms n):=zW mixed ⟨a,trivial⟩;exact vM b func49 false [] fun c d=>⟨zI (zl 1) (by decide),_,BD n c d,z8 _⟩
theorem sE(n:Nat):zg prog 49 (hP (FC (fun c=>.w5 [int c.parts,int c.levels]) n)):=ui (Sa _ n) (pg zA)
def w1F(c:qO):Bool:=!(c.kind==4)&&(!c.attr.isEmpty||c.op != 0||decide (0<c.jh.length)||!c.pat.isEmpty)
def w2F(c:qO):Bool:=c.kind != 5&&!c.name.isEmpty
def w3F(c:qO):Bool:=!jG c.kind 1 3&&decide (0<c.args.length)
def w4F(c:qO):Bool:=c.kind==4&&!Wi c.op&&decide (0<c.jh.length)
def w5F(c:qO):Bool:=c.kind==4&&!ZQ c.op&&!c.pat.isEmpty
def w6F(c:qO):Bool:=c.kind==3&&(c.args.length:Int) != 1
def w7F(c:qO):Bool:=c.kind==4&&xz c.op&&(c.jh.length:Int) != 1
def Zw(c:qO):Bool:=w1F c||w2F c||w3F c||w4F c||w5F c||w6F c||w7F c
noncomputable abbrev Cfo:Ctx:=zV prog [(55,hP (F3 jG)),(137,hP (mi Wi)),(96,hP (mi ZQ)),(138,hP (mi xz))]
theorem zfd:AM.Good Cfo (fun g=>[55,137,96,138].contains g):=qC mixed ⟨QP,fun _=>zu _ _,EE,fun _=>zu _ _,X2,fun _=>zu _ _,lk,fun _=>zu _ _,trivial⟩
@[simp]theorem zie:ki Cfo 137:=yL (by rfl) (zu _ _)
@[simp]theorem zif:ki Cfo 96:=yL (by rfl) (zu _ _)
@[simp]theorem zig:ki Cfo 138:=yL (by rfl) (zu _ _)
theorem ph(c:qO)(h:c.cb<=zA):zv Cfo f94 [.agg c.V]=some (int (if Zw c=true then 3 else 0)):=by
 refine zn rfl ?_;have a:(!(c.kind==4)&&(!c.attr.isEmpty||c.op != 0||decide (0<c.jh.length)||!c.pat.isEmpty))=w1F c:=rfl;have d:(c.kind != 5&&!c.name.isEmpty)=w2F c:=rfl;have f:(!jG c.kind 1 3&&decide (0<c.args.length))=w3F c:=rfl;have i:(c.kind==4&&!Wi c.op&&decide (0<c.jh.length))=w4F c:=rfl;have k:(c.kind==4&&!ZQ c.op&&!c.pat.isEmpty)=w5F c:=rfl;have m:(c.kind==3&&(c.args.length:Int) != 1)=w6F c:=rfl;have o:(c.kind==4&&xz c.op&&(c.jh.length:Int) != 1)=w7F c:=rfl;cases b:w1F c
 case true=>simp[a,b,Zw,f94]
 cases e:w2F c
 case true=>simp[a,b,d,e,Zw,f94]
 cases g:w3F c
 case true=>simp[a,b,d,e,f,g,Zw,f94]
 cases j:w4F c
 case true=>simp[a,b,d,e,f,g,i,j,Zw,f94]
 cases l:w5F c
 case true=>simp[a,b,d,e,f,g,i,j,k,l,Zw,f94]
 cases n:w6F c
 case true=>simp[a,b,d,e,f,g,i,j,k,l,m,n,Zw,f94]
 cases p:w7F c
 case true=>simp[a,b,d,e,f,g,i,j,k,l,m,n,o,p,Zw,f94]
 simp[a,b,d,e,f,g,i,j,k,l,m,n,o,p,Zw,f94]
theorem mj:zg prog 94 (GC fun c=>int (if Zw c=true then 3 else 0)):=
 yy (fn:=f94) zfd (qX func94) false [] _ fun args r h=>by obtain⟨c,rfl,a,rfl⟩:=Wu h;exact⟨by simp[f94],_,ph c a.1,z8 _⟩
noncomputable def cV (p:Option qu) (v:qu):Bool:=match p with
 |none=>false
 |some p=>decide (0<=yt p v)
def EF(op:Int)(v:qu):Bool:=v.kind==0||xz op&&v.kind != 2
noncomputable def Xs (op:Int):Option qu->List qu->Int
 |_,[]=>0
 |p,v::l=>if v.check=0 then(if EF op v=true then 6 else if cV p v=true then 8 else Xs op (some v) l)else v.check
noncomputable def Zx (op:Int) (l:List qu):Int:=if(100:Int)<l.length then 2 else Xs op none l
def Wj(l:List qu)(k:Nat):Option qu:=if k=0 then none else l[k-1]?
noncomputable def FIv (f:Int->List qu->O):zb->Option O:=qd (α:=Int×List qu) (fun a=>[int a.1,.sl 5 (a.2.map qu.V)]) (fun a=>Vg a.2<=zA) (fun a=>f a.1 a.2)
theorem SP(f:Int->List qu->O)(op:Int)(l:List qu)(Y:Hp)(Z:Nat)(h:Vg l<=zA):hP (FIv f) [int op,.sl 5 (l.map qu.V)] Y Z=some (f op l,Y,Z):=
 QL (op,l) _ _ (by simp) (fun x y e=>by obtain⟨c,d⟩:=x;obtain⟨g,i⟩:=y;simp only[zj,zG]at e;obtain⟨b,a⟩:=e;injection a with _ a;rw[qR b,gC a]) h (.inr (by simp))
noncomputable abbrev Ccv2:Ctx:=zV prog [(139,GV fun v=>int v.check),(138,hP (mi xz)),(140,hP (Nb zA))]
theorem zbm:AM.Good Ccv2 (fun g=>[138,140].contains g):=qC mixed ⟨DY,by simp,lk,fun _=>zu _ _,oY zA,fun _=>zu _ _,trivial⟩
@[simp]theorem zgD:ki Ccv2 138:=yL (by rfl) (zu _ _)
theorem gR(op:Int)(l:List qu)(h:Vg l<=zA):zv Ccv2 f95 [int op,.sl 5 (l.map qu.V)]=some (int (Zx op l)):=by
 have A:=jw l;unfold zA at h;refine zn rfl ?_;by_cases c:(100:Int)<l.length
 ·have x:Zx op l=2:=by unfold Zx;rw[zd c]
  simp[c,x,f95]
 have x:Zx op l=Xs op none l:=by unfold Zx;rw[ze c]
 rw[x];simp[c];refine zL (fun k σ Y Z=>σ 0=int op/\σ 1=.sl 5 (l.map qu.V)/\σ 11=.sl 5 (l.map qu.V)/\σ 12=int l.length/\σ 13=int k/\Xs op none l=Xs op (Wj l k) (l.drop k)) l.length
  ⟨by simp,by simp,by simp,by simp,by simp,by simp[Wj]⟩ ?_
 rintro k σ Y Z L ⟨p,q,d,e,f,a⟩;by_cases b:k<l.length
 ·have M:=kY (zi b);have B:=qe k;have i:=fun Y Z=>JW (fun v=>int v.check) l[k] Y Z (by unfold zA;omega)
  rw[zc b]at a;simp only[Xs]at a;have r:Wj l (k+1)=some l[k]:=by simp[Wj,b]
  have m:(l[k].kind==0||xz op&&l[k].kind != 2)=EF op l[k]:=rfl;by_cases n:l[k].check=0
  case neg=>rw[ze n]at a;have y:=vX n;simp[p,q,d,e,f,b,i,y,a,f95]
  rw[zd n]at a;cases g:EF op l[k]
  case true=>rw[g,zd rfl]at a;simp[p,q,d,e,f,b,i,n,m,g,a,f95]
  rw[g,ze (by simp)]at a;by_cases H:k=0
  ·subst H;have I:cV (Wj l 0) l[0]=false:=rfl;rw[I,ze (by simp)]at a;simp[p,q,d,e,f,b,i,n,m,g,B];exact⟨by omega,by rw[a,show Wj l 1=some l[0]from r];simp⟩
  ·obtain⟨j,rfl⟩:∃j,k=j+1:=⟨k-1,by omega⟩;have u:j<l.length:=by omega
   have J:=kY (zi u);have C:i6.wrap ((j:Int)+1-1)=(j:Int):=by rw[wS (by omega) (by omega)];omega
   have s:=wq (j:Int);have D:((j:Int)+1).toNat=j+1:=by omega
   have E:0<(j:Int)+1:=by omega
   have F:0<=(j:Int)+1:=by omega
   have G:(j:Int)+1<l.length:=by omega
   have t:=fun Y Z=>KO zA l[j] l[j+1] Y Z ⟨by unfold zA;omega,by unfold zA;omega,by unfold zA;omega⟩
   have z:cV (Wj l (j+1)) l[j+1]=decide (0<=yt l[j] l[j+1]):=by simp[Wj,u,cV]
   rw[z]at a;by_cases w:0<=yt l[j] l[j+1]
   ·have o:decide (0<=yt l[j] l[j+1])=true:=by simpa using w
    rw[zd o]at a;simp[p,q,d,e,f,b,u,i,n,m,g,B,C,s,D,E,F,G,t,w,a,f95]
   ·have o:¬decide (0<=yt l[j] l[j+1])=true:=by simpa using w
    rw[ze o]at a;have K:=wq ((j:Int)+1+1);simp[p,q,d,e,f,b,u,i,n,m,g,K,C,s,D,E,F,G,t,w];exact⟨by omega,by rw[a,r]⟩
 ·obtain rfl:k=l.length:=by omega
  rw[zp]at a;simp only[Xs]at a;simp[p,q,d,e,f,a,f95]
theorem eL:zg prog 95 (hP (FIv fun op l=>int (Zx op l))):=
 vM zbm func95 false [] fun⟨op,l⟩ a=>⟨by simp[f95],_,gR op l a,z8 _⟩
noncomputable def Jw (op:Int) (s:za):Int:=if(500:Int)<s.length then 2 else if wc 32 126 s=true then(if op=11 then(QZ s).2 else 0)else 1
noncomputable def FIs (f:Int->za->O):zb->Option O:=qd (α:=Int×za) (fun a=>[int a.1,str a.2]) (fun a=>a.2.length<=zA) (fun a=>f a.1 a.2)
theorem SQ(f:Int->za->O)(op:Int)(s:za)(Y:Hp)(Z:Nat)(h:s.length<=zA):hP (FIs f) [int op,str s] Y Z=some (f op s,Y,Z):=
 QL (op,s) _ _ rfl (fun x y e=>by obtain⟨a,b⟩:=x;obtain⟨c,d⟩:=y;simp only[zj,zG]at e;rw[qR e.1,wC e.2]) h (.inr (by simp))
noncomputable abbrev Cpt:Ctx:=zV prog [(141,hP (bz EC))]
theorem zfe:Gd Cpt:=zW mixed ⟨mh,trivial⟩
theorem eM(op:Int)(s:za)(h:s.length<=zA):zv Cpt f97 [int op,str s]=some (int (Jw op s)):=by
 unfold zA at h;refine zn rfl ?_;by_cases a:(500:Int)<s.length
 ·have b:Jw op s=2:=by unfold Jw;rw[zd a]
  simp[a,b,f97]
 have i:=fun Y Z=>ZM EC s Y Z (by unfold zA;omega)
 simp only[EC]at i;have b:Jw op s=if wc 32 126 s=true then(if op=11 then(QZ s).2 else 0)else 1:=by unfold Jw;rw[ze a]
 simp[a];refine zL (fun k σ Y Z=>σ 0=int op/\σ 1=str s/\σ 12=int s.length/\σ 13=int k/\wc 32 126 s=wc 32 126 (s.drop k)) s.length ⟨by simp,by simp,by simp,by simp,by simp⟩ ?_;rintro k σ Y Z q ⟨l,m,c,d,g⟩;by_cases e:k<s.length
 ·have p:=qe k;rw[xJ e]at g;have o:=Vz 32 126 s[k];simp only[xF]at o;cases n:pr 32 126 s[k]
  ·have g:wc 32 126 s=false:=by rw[g,n];rfl
   rw[g,ze (by simp)]at b;simp[l,m,c,d,e,b,o,n,f97]
  ·simp[l,m,c,d,e,o,n,p];exact⟨e,by rw[g,n];rfl⟩
 ·obtain rfl:k=s.length:=by omega
  have g:wc 32 126 s=true:=by rw[g,zp];rfl
  rw[g,zd rfl]at b;by_cases f:op=11
  ·rw[zd f]at b;subst f;simp[l,m,c,d,i,b,f97]
  ·rw[ze f]at b;have j:=jN f;simp[l,m,c,d,j,b,f97]
theorem cW:zg prog 97 (hP (FIs fun op s=>int (Jw op s))):=
 vM zfe func97 false [] fun⟨op,s⟩ a=>⟨by simp[f97],_,eM op s a,z8 _⟩
def Xk(c:qO):Bool:=!jG c.kind 1 5
def Io(c:qO):Bool:=c.kind==4&&!jG c.op 1 12
def X3(c:qO):Bool:=(c.kind==4&&!wy c.attr)||(c.kind==5&&!wy c.name)
def EG(c:qO):Bool:=c.kind==4&&ZQ c.op
noncomputable def vA (c:qO):Int:=if(Xk c||Io c)=true then 4 else if Zw c=true then 3 else if X3 c=true then 5 else if Zx c.op c.jh=0 then(if EG c=true then Jw c.op c.pat else 0)else Zx c.op c.jh
mutual
noncomputable def qO.fault:qO->Int
 | .mk k a o v p n l=>if vA (.mk k a o v p n l)=0 then xE l else vA (.mk k a o v p n l)
noncomputable def xE:List qO->Int
 |[]=>0
 |c::l=>if c.fault=0 then xE l else c.fault
end
theorem gS(c:qO):c.fault=if vA c=0 then xE c.args else vA c:=by cases c;simp only[qO.fault];rfl
theorem X4{l:List qO}{k:Nat}(h:k<l.length):xE (l.drop k)=if l[k].fault=0 then xE (l.drop (k+1))else l[k].fault:=by rw[zc h,xE]
noncomputable abbrev SR (n:Nat):Ctx:=zV prog [(50,hP (FC (fun c=>int c.fault) n)),(55,hP (F3 jG)),(94,GC fun c=>int (if Zw c=true then 3 else 0)),(29,hP (FS wy)),
 (95,hP (FIv fun op l=>int (Zx op l))),(96,hP (mi ZQ)),(97,hP (FIs fun op s=>int (Jw op s)))]
@[simp]theorem zgE(n:Nat):ki (SR n) 55:=yL (by rfl) (zu _ _)
@[simp]theorem zgF(n:Nat):ki (SR n) 29:=yL (by rfl) (zu _ _)
@[simp]theorem zgG(n:Nat):ki (SR n) 96:=yL (by rfl) (zu _ _)
theorem ml(n:Nat)(c:qO)(h:c.cb<=zA/\c.cb<=n+1):zv (SR n) f50 [.agg c.V]=some (int c.fault):=by
 have M:=Wh c;have N:=vp c.args;obtain⟨L,R⟩:=h;have x:=gS c;have i:=fun Y Z=>vx (fun c=>int (if Zw c=true then 3 else 0)) c Y Z L
 have r:=fun Y Z=>SP (fun op l=>int (Zx op l)) c.op c.jh Y Z (by omega)
 have D:=fun Y Z=>SQ (fun op s=>int (Jw op s)) c.op c.pat Y Z (by omega)
 have j:c.attr.length<=zA:=by omega
 have m:c.name.length<=zA:=by omega
 unfold zA at L;refine zn rfl ?_;have v:(!jG c.kind 1 5)=Xk c:=rfl;have y:(c.kind==4&&!jG c.op 1 12)=Io c:=rfl;have E:((c.kind==4&&!wy c.attr)||(c.kind==5&&!wy c.name))=X3 c:=rfl;have H:(c.kind==4&&ZQ c.op)=EG c:=rfl;cases q:Xk c
 case true=>simp[v,q,x,vA,f50]
 cases t:Io c
 case true=>simp[v,q,y,t,x,vA,f50]
 cases w:Zw c
 case true=>simp[v,q,y,t,i,w,x,vA,f50]
 cases z:X3 c
 case true=>simp[v,q,y,t,i,w,j,m,E,z,x,vA,f50]
 by_cases A:Zx c.op c.jh=0
 case neg=>have I:=vX A;simp[v,q,y,t,i,w,j,m,E,z,r,A,I,x,vA,f50]
 have o:∀(C:vA c=0),c.fault=xE c.args:=fun C=>by rw[x,zd C]
 cases F:EG c
 case false=>
  have C:vA c=0:=by simp[vA,q,t,w,z,A,F]
  have p:=o C;simp[v,q,y,t,i,w,j,m,E,z,r,A,H,F];refine zL (fun k σ Y Z=>σ 73=.sl 7 (c.args.map qO.V)/\σ 74=int c.args.length/\σ 75=int k/\xE c.args=xE (c.args.drop k)) c.args.length ⟨by simp,by simp,by simp,by simp⟩ ?_;rintro k σ Y Z P ⟨e,f,g,b⟩;by_cases d:k<c.args.length
  ·have Q:=xL (zi d);have J:=qe k;have a:=fun Y Z=>Qf (fun c=>int c.fault) n c.args[k] Y Z ⟨by unfold zA;omega,by omega⟩
   rw[X4 d]at b;by_cases u:c.args[k].fault=0
   ·rw[zd u]at b;simp[e,f,g,d,a,u,J];exact⟨by omega,b⟩
   ·rw[ze u]at b;have B:=vX u;simp[e,f,g,d,a,B,p,b,f50]
  ·obtain rfl:k=c.args.length:=by omega
   rw[zp]at b;have b:xE c.args=0:=by rw[b];rfl
   simp[e,f,g,p,b,f50]
 case true=>
  by_cases G:Jw c.op c.pat=0
  case neg=>have K:=vX G;simp[v,q,y,t,i,w,j,m,E,z,r,A,H,F,D,G,K,x,vA,f50]
  have C:vA c=0:=by simp[vA,q,t,w,z,A,F,G]
  have p:=o C;simp[v,q,y,t,i,w,j,m,E,z,r,A,H,F,D,G];refine zL (fun k σ Y Z=>σ 73=.sl 7 (c.args.map qO.V)/\σ 74=int c.args.length/\σ 75=int k/\xE c.args=xE (c.args.drop k)) c.args.length ⟨by simp,by simp,by simp,by simp⟩ ?_;rintro k σ Y Z P ⟨e,f,g,b⟩;by_cases d:k<c.args.length
  ·have Q:=xL (zi d);have J:=qe k;have a:=fun Y Z=>Qf (fun c=>int c.fault) n c.args[k] Y Z ⟨by unfold zA;omega,by omega⟩
   rw[X4 d]at b;by_cases u:c.args[k].fault=0
   ·rw[zd u]at b;simp[e,f,g,d,a,u,J];exact⟨by omega,b⟩
   ·rw[ze u]at b;have B:=vX u;simp[e,f,g,d,a,B,p,b,f50]
  ·obtain rfl:k=c.args.length:=by omega
   rw[zp]at b;have b:xE c.args=0:=by rw[b];rfl
   simp[e,f,g,p,b,f50]
theorem gT:∀n,zg prog 50 (hP (FC (fun c=>int c.fault) n)):=by
 intro n
 induction n with
 |zero=>exact mL ⟨_,func50,by kernel_rfl,by kernel_rfl⟩
 |succ n a=>
  have b:AM.Good (SR n) (fun g=>[55,29,96].contains g):=qC mixed ⟨a,by simp,QP,fun _=>zu _ _,mj,by simp,ZJ,fun _=>zu _ _,eL,by simp,X2,fun _=>zu _ _,cW,by simp,trivial⟩;exact yy (fn:=f50) b (qX func50) false [] _ fun args r h=>by obtain⟨c,rfl,d,rfl⟩:=Wu h;exact⟨zI (zl 1) (by decide),_,ml n c d,z8 _⟩
noncomputable def qO.check (c:qO):Int:=if(decide ((200:Int)<c.parts)||decide ((20:Int)<c.levels))=true then 2 else c.fault
noncomputable abbrev Ccch:Ctx:=zV prog [(50,GC fun c=>int c.fault),(49,GC fun c=>.w5 [int c.parts,int c.levels])]
theorem YY:zg prog 26 (GC fun c=>int c.check):=
 yy (fn:=f26) (zW mixed ⟨gT zA,sE zA,trivial⟩:AM.Good Ccch _) (qX func26) false [] _ fun args r h=>by
  obtain⟨c,rfl,a,rfl⟩:=Wu h;have b:=fun Y Z=>vx (fun c=>int c.fault) c Y Z a.1
  have d:=fun Y Z=>vx (fun c=>.w5 [int c.parts,int c.levels]) c Y Z a.1
  refine⟨by simp[f26],_,zn rfl ?_,z8 _⟩;cases e:(decide ((200:Int)<c.parts)||decide ((20:Int)<c.levels))
  ·simp[b,d,e,f26,qO.check]
  ·simp[b,d,e,f26,qO.check]
end Go.Q
namespace Go.Q
open Go.RowKit Go.AM Go.PrLaw
def tq:List za:=[[],[104,97,115],[61],[60],[60,61],[62],[62,61],[112,114,101,102,105,120],[115,117,102,102,105,120],[99,111,110,116,97,105,110,115],[108,105,107,101],[118,101,114,115,105,111,110],[111,118,101,114,108,97,112,115]]
def nK(op:Int):za:=(tq[op.toNat]?).getD []
def KZ(l:List qu):za:=if l=[]then[110,101,118,101,114]else Lib.join (l.map qu.show) [32,124,32]
def pj(c:qO):za:=if ZQ c.op=true then Z2 c.pat else KZ c.jh
def Q0(c:qO):za:=if c.op=1 then[104,97,115,32,46]++c.attr else[46]++(c.attr++([32]++(nK c.op++([32]++pj c))))
def Jy(k:Int):za:=if k=1 then[97,108,108]else if k=2 then[97,110,121]else[110,111,116]
mutual
def qO.show:qO->za
 | .mk k a o v p n l=>if k=4 then Q0 (.mk k a o v p n l)else if k=5 then[105,110,32]++n else Jy k++([40]++(Lib.join (C4 l) [44,32]++[41]))
def C4:List qO->List za
 |[]=>[]
 |c::l=>c.show::C4 l
end
theorem pk:∀l:List qO,C4 l=l.map qO.show
 |[]=>rfl
 |c::l=>by simp[C4,pk l]
theorem Ye(c:qO):c.show=if c.kind=4 then Q0 c else if c.kind=5 then[105,110,32]++c.name else Jy c.kind++([40]++(Lib.join (c.args.map qO.show) [44,32]++[41])):=by cases c;rw[qO.show,pk];rfl
theorem SS(k:Int)(a:za)(o:Int)(v:List qu)(p n:za)(l:List qO):(qO.mk k a o v p n l).show=if k=4 then Q0 (.mk k a o v p n l)else if k=5 then[105,110,32]++n else Jy k++([40]++(Lib.join (l.map qO.show) [44,32]++[41])):=Ye _
theorem NW(k:Int)(a:za)(o:Int)(v:List qu)(p n:za)(l:List qO):(qO.mk k a o v p n l).fault=if vA (.mk k a o v p n l)=0 then xE l else vA (.mk k a o v p n l):=gS _
theorem SU(k:Int)(a:za)(o:Int)(v:List qu)(p n:za)(l:List qO):vA (.mk k a o v p n l)=if(Xk (.mk k a o v p n l)||Io (.mk k a o v p n l))=true then 4 else if Zw (.mk k a o v p n l)=true then 3 else if X3 (.mk k a o v p n l)=true then 5 else if Zx o v=0 then(if EG (.mk k a o v p n l)=true then Jw o p else 0)else Zx o v:=rfl
theorem SV(k:Int)(a:za)(o:Int)(v:List qu)(p n:za)(l:List qO):Xk (.mk k a o v p n l)=!jG k 1 5:=rfl
theorem zff(k:Int)(a:za)(o:Int)(v:List qu)(p n:za)(l:List qO):Io (.mk k a o v p n l)=(k==4&&!jG o 1 12):=rfl
theorem zfg(k:Int)(a:za)(o:Int)(v:List qu)(p n:za)(l:List qO):w4F (.mk k a o v p n l)=(k==4&&!Wi o&&decide (0<v.length)):=rfl
inductive dH:qO->Prop
 |mk {k o:Int} {a p n:List UInt8} {v:List qu} {l:List qO}:1<=k->k<=5->(k=4->1<=o/\o<=12)->(∀x∈v,Xn x)->(k=4->Wi o=false->v=[])->(∀x∈l,dH x)->dH (.mk k a o v p n l)
theorem dH.kind{c:qO}(h:dH c):1<=c.kind/\c.kind<=5:=by cases h;exact⟨by assumption,by assumption⟩
theorem dH.op{c:qO}(h:dH c)(a:c.kind=4):1<=c.op/\c.op<=12:=by cases h with|mk _ _ b _ _ _=>exact b a
theorem dH.jh{c:qO}(h:dH c):∀x∈c.jh,Xn x:=by cases h with|mk _ _ _ a _ _=>exact a
theorem dH.none{c:qO}(h:dH c)(a:c.kind=4)(b:Wi c.op=false):c.jh=[]:=by cases h with|mk _ _ _ _ d _=>exact d a b
theorem dH.args{c:qO}(h:dH c):∀x∈c.args,dH x:=by cases h with|mk _ _ _ _ _ a=>exact a
theorem BE(op:Int):(nK op).length<=8:=by
 unfold nK;by_cases h:op.toNat<13
 ·have a:∀k:Nat,k<13->((tq[k]?).getD []).length<=8:=by decide
  exact a _ h
 ·rw[jk (by simp[tq];omega)];simp
theorem uC(k:Int):(Jy k).length<=3:=by
 unfold Jy;split
 ·simp
 ·split<;>simp
theorem gU(l:List qu)(h:∀x∈l,Xn x):(KZ l).length<=30*Vg l+5:=by
 unfold KZ;split
 ·simp
 ·have c:∀l:List qu,(∀x∈l,Xn x)->((l.map qu.show).map fun x=>([32,124,32]:za).length+x.length).sum<=30*Vg l:=by
   intro l
   induction l with
   |nil=>intro _;simp
   |cons v l e=>
    intro d;have a:=KJ v (d v (by simp));have b:=e fun x f=>d x (by simp[f])
    simp only[z6,yo,Vg,zx,qj]at b⊢;omega
  have j:=Jq [32,124,32] (l.map qu.show);have:=c l h;omega
theorem NX(c:qO)(h:∀x∈c.jh,Xn x):(Q0 c).length+10<=30*(1+c.attr.length+Vg c.jh+c.pat.length):=by
 have a:=BE c.op;have b:=gU c.jh h;have d:=W9 c.pat;unfold Q0 pj;split
 ·simp only[zm,zx,qj];omega
 ·split<;>simp only[zm,zx,qj]<;>omega
theorem gV(c:qO)(h:dH c):c.show.length+10<=30*c.cb:=by
 induction c using qO.ind with
 |h k a o v p n l g=>
  have i:=Wh (.mk k a o v p n l);have m:=NX (.mk k a o v p n l) h.jh;have r:=uC k;rw[SS];simp only[qO.attr,qO.jh,qO.pat,qO.name,qO.args]at i m;split
  ·omega
  split
  ·simp only[zm,zx,qj];omega
  ·have e:∀l:List qO,(∀x∈l,x.show.length+10<=30*x.cb)->((l.map qO.show).map fun x=>([44,32]:za).length+x.length).sum<=30*iG l:=by
    intro l
    induction l with
    |nil=>intro _;simp
    |cons v l q=>
     intro f;have a:=f v (by simp);have b:=q fun x d=>f x (by simp[d])
     simp only[z6,yo,iG,zx,qj]at b⊢;omega
   have j:=Jq [44,32] (l.map qO.show);have:=e l fun x d=>g x d (h.args x d)
   simp only[zm,zx,qj];omega
theorem BF(v:qu)(h:v.check=0):v.fault=0:=by
 unfold qu.check at h;split at h
 ·simp at h
 ·exact h
theorem L3(op:Int):∀(l:List qu) (p:Option qu),Xs op p l=0->∀x∈l,Xn x
 |[],_,_,x,a=>by cases a
 |v::l,p,h,x,a=>by
  rw[Xs]at h;split at h
  case isFalse b=>exact(b h).elim
  rename_i b;split at h
  ·simp at h
  split at h
  ·simp at h
  rcases zw.1 a with rfl|a
  ·exact A8 _ (BF _ b)
  ·exact L3 op l _ h x a
theorem BG(c:qO)(h:c.fault=0):dH c:=by
 induction c using qO.ind with
 |h k a o v p n l t=>
  rw[NW]at h;split at h
  case isFalse d=>exact(d h).elim
  rename_i d;rw[SU]at d;split at d
  ·simp at d
  rename_i B;split at d
  ·simp at d
  rename_i C;split at d
  ·simp at d
  split at d
  case isFalse g=>exact(g d).elim
  rename_i g;have i:Xk (.mk k a o v p n l)=false:=by cases hx:Xk (.mk k a o v p n l)<;>simp_all
  have j:Io (.mk k a o v p n l)=false:=by cases hx:Io (.mk k a o v p n l)<;>simp_all
  have m:w4F (.mk k a o v p n l)=false:=by cases hx:w4F (.mk k a o v p n l)<;>simp_all[Zw]
  rw[SV,Bool.not_eq_false']at i;rw[zff]at j;rw[zfg]at m;unfold jG at i;rw[zE]at i;refine .mk (vV i.1) (vV i.2) (fun e=>?_) ?_ (fun e u=>?_) ?_
  ·subst e;have f:(decide (1<=o)&&decide (o<=12))=true:=by
    cases s:jG o 1 12
    ·rw[s]at j;exact absurd j (by decide)
    ·exact s
   rw[zE]at f;exact⟨vV f.1,vV f.2⟩
  ·unfold Zx at g;split at g
   ·simp at g
   ·exact L3 o v none g
  ·subst e;rw[u]at m;cases v with
   |nil=>rfl
   |cons x v=>simp at m
  ·have q:∀l:List qO,(∀x∈l,x.fault=0->dH x)->xE l=0->∀x∈l,dH x:=by
    intro l
    induction l with
    |nil=>intro _ _ x hx;cases hx
    |cons y l w=>
     intro a b x hx;rw[xE]at b;split at b
     ·rename_i r;rcases zw.1 hx with rfl|hx
      ·exact a _ (by simp) r
      ·exact w (fun z A=>a z (by simp[A])) b x hx
     ·rename_i r;exact(r b).elim
   exact q l t h
theorem eN(c:qO)(h:c.check=0):dH c:=by
 unfold qO.check at h;split at h
 ·simp at h
 ·exact BG c h
def FSg:zb->Option O
 |[]=>some (.sl 1 (zy tq))
 |_=>none
theorem EH:zg prog 98 (hP FSg):=
 yy (fn:=f98) je (qX func98) false [] _ fun args r h=>by
  unfold FSg at h;split at h
  ·injection h with h;subst h;exact⟨by simp[f98],_,zn rfl (by simp[zt,zJ,zr,zy,tq,maxLen,wK,AM.freeze,qt,wI,f98]),z8 _⟩
  ·cases h
theorem SX(Y:Hp)(Z:Nat):hP FSg [] Y Z=some (.sl 1 (zy tq),Y,Z):=yI rfl rfl (.inr rfl)
theorem zbn(u:Nat)(h:u<13):(zy tq)[u]?=some [str (nK u)]:=by have a:tq.length=13:=rfl;simp only[zy,qz,nK,Int.toNat_natCast];rw[zq (by omega)];rfl
noncomputable def SY:zb->Option (za×O):=qd (α:=qO) (fun c=>[.agg c.V]) (fun c=>dH c/\c.kind=4/\c.cb<=zA) (fun c=>(Q0 c,.w5 []))
theorem zbo(c:qO)(h:dH c/\c.kind=4/\c.cb<=zA):SY [.agg c.V]=some (Q0 c,.w5 []):=
 qD (V:=fun c:qO=>[.agg c.V]) (a:=c) (fun a b e=>by simp only[zj,zG,O.agg.injEq]at e;exact xx e) h
noncomputable abbrev Cpt2:Ctx:=zV prog [(98,hP FSg),(10,xh TB UB RV),(96,hP (mi ZQ)),(99,hP FXs)]
theorem zbp:AM.Good Cpt2 (fun g=>[98].contains g):=qC mixed ⟨EH,fun _=>zu _ _,Vd,by simp,X2,by simp,D1,by simp,trivial⟩
theorem po(c:qO)(A:dH c)(hk:c.kind=4)(hcb:c.cb<=zA){Y:Hp}{Z:Nat}{l:za}{b0:Blk}{K:Hp->Hp}(hS:ZY TB UB Y Z l b0 K)(hl:l.length+(Q0 c).length<=140737488355328) :
  tX TB UB (yR Cpt2 f51 [.ref 0 0 0,.agg c.V] Y Z) (l++Q0 c) (.w5 []):=by
 refine W8 rfl ?_;have hcbe:=Wh c;have hl1:=jw c.jh;unfold zA at hcb;have GJ:=hS.pos;obtain⟨o1,o2⟩:=A.op hk;obtain⟨H0,hH⟩:∃H0,H0=qq Y Z (some ⟨53,7,false,[c.V]⟩):=⟨_,rfl⟩;have P:∀j,j<Z->H0 j=Y j:=fun j hj=>by rw[hH];exact zD _ _ _ _ (by omega)
 have hH1:H0 Z=some ⟨53,7,false,[c.V]⟩:=by rw[hH];simp
 by_cases h1:c.op=1
 ·have ht:Q0 c=[104,97,115,32,46]++c.attr:=by unfold Q0;rw[zd h1]
  rw[ht]at hl⊢;have hm:5+c.attr.length<=maxLen:=by unfold maxLen;omega
  obtain⟨Y1,t,B1,_⟩:=wsF hS (yd Z) P ([104,97,115,32,46]++c.attr) (by simp) hl;rw[hH]at t;simp at t;simp[h1,hm,t,f51];exact B1.ends (by simp) (by simp)
 ·obtain⟨u,C⟩:∃u:Nat,c.op=u:=⟨c.op.toNat,by omega⟩;have hul:u<13:=by omega
  obtain⟨SG,D⟩:=wZ (zy tq);have Ls:SG.length=13:=by rw[<-D];rfl
  obtain⟨S,E⟩:=wZ (nK u);have hsn:S.length<=8:=by rw[<-E];exact BE _
  have Q:=zbn u hul;rw[D,E]at Q;have R:=SX;rw[D]at R;obtain⟨tl,F⟩:=wZ (pj c);have ht:Q0 c=[46]++(c.attr++([32]++(S++([32]++tl)))):=by unfold Q0;rw[ze h1,C,E,F]
  rw[ht]at hl⊢;simp at hl;obtain⟨Y1,t,B1,U⟩:=wsF hS (yd Z) P ([46]++(c.attr++([32]++(S++[32])))) (by simp) (by simp;omega);have o:Y1 Z=some ⟨53,7,false,[c.V]⟩:=by rw[U Z (zl _) (by omega),hH1]
  rw[hH]at t;simp at t;have mx1:1+c.attr.length<=maxLen:=by unfold maxLen;omega
  have mx2:c.attr.length+1+1<=maxLen:=by unfold maxLen;omega
  have mx3:c.attr.length+1+1+S.length<=maxLen:=by unfold maxLen;omega
  have mx4:c.attr.length+(S.length+1)+1+1<=maxLen:=by unfold maxLen;omega
  have hu1:((u:Int)==1)=false:=qQ.2 (by omega);have hu0:(0:Int)<=(u:Int):=by omega
  obtain⟨n1,m1,h,p,W⟩:∃n1 m1 h,lS TB UB Y1 n1 m1 h/\n1=Z+1+1/\m1=Z+1/\h=l++([46]++(c.attr++([32]++(S++[32])))):=⟨_,_,_,B1,rfl,rfl,rfl⟩;clear B1 U;refine y1 (fun st=>st.σ 0=.ref 0 0 0/\st.σ 3=.ref Z 0 0/\st.Z=Z+1/\st.Y=qq Y Z (some ⟨53,7,false,[c.V]⟩)) (by simp) ?_;rintro⟨σ,Y2,q⟩ ⟨b,f,v,w⟩;simp only at b f v w;subst v;subst w;refine y1 (fun st=>st.σ 0=.ref 0 0 0/\st.σ 3=.ref Z 0 0/\st.Z=Z+1/\st.Y=qq Y Z (some ⟨53,7,false,[c.V]⟩)) (by simp[b,f,C,hu1]) ?_;clear b f σ;rintro⟨σ,Y2,q⟩ ⟨b,f,v,w⟩;simp only at b f v w;subst v;subst w;refine y1 (fun st=>st.σ 0=.ref 0 0 0/\st.σ 3=.ref Z 0 0/\st.Z=n1/\st.Y=Y1) ?_ ?_
  ·simp[b,f,C,hu0,mx1,mx2,mx3,mx4,R,Ls,Q,t,W]
  clear b f σ;rintro⟨σ,Y2,q⟩ ⟨b,f,v,w⟩;simp only at b f v w;subst v;subst w;obtain⟨rfl,rfl,rfl⟩:=W;obtain⟨T,X⟩:∃T,T=l++([46]++(c.attr++([32]++(S++([32]++tl))))):=⟨_,rfl⟩;rw[<-X];have hTl:T.length=l.length+(c.attr.length+(S.length+(tl.length+1)+1)+1):=by rw[X];simp
  have G:c.op=u:=C;refine y1 (fun st=>st.σ 0=.ref 0 0 0/\st.σ 3=.ref Z 0 0/\st.Y Z=some ⟨53,7,false,[c.V]⟩/\∃m cur,lS TB UB st.Y st.Z m cur/\T=cur++JV [32,124,32] 0 (c.jh.map qu.show)) ?_ ?_
  ·cases d:ZQ c.op
   ·have y:tl=KZ c.jh:=by rw[<-F];unfold pj;rw[d];rfl
    by_cases hv:c.jh=[]
    ·have a:tl=[110,101,118,101,114]:=by rw[y,KZ,zd hv]
     have htll:tl.length=5:=by rw[a];rfl
     obtain⟨Y2,H,I,i⟩:=nH p [110,101,118,101,114] (by simp) (by simp;omega);have f2:=(i Z (by omega) (by omega) (by omega)).trans o;rw[G]at d;simp[b,f,o,C,d,hv,H];exact⟨f2,_,_,I,by rw[X,a];simp[Y8]⟩
    ·have a:tl=JV [32,124,32] 0 (c.jh.map qu.show):=by rw[y,KZ,ze hv];rfl
     have hvl:((c.jh.length:Int)==0)=false:=qQ.2 fun e=>hv (wx (by omega))
     rw[G]at d;simp[b,f,o,C,d,hvl];exact⟨_,_,p,by rw[X,a];simp⟩
   ·have hnv:c.jh=[]:=A.none hk (by simp[ZQ,jG]at d;simp[Wi,jG];omega)
    have a:tl=Z2 c.pat:=by rw[<-F];unfold pj;rw[d];rfl
    have hq:=W9 c.pat;have hx:=fun Y Z=>zaZ c.pat Y Z (by unfold zA;omega)
    obtain⟨Y2,H,I,i⟩:=nH p (Z2 c.pat) (by simp[Z2]) (by rw[<-a];simp;omega);have f2:=(i Z (by omega) (by omega) (by omega)).trans o;rw[G]at d;simp[b,f,o,C,d,hx,H,qv,qS,js];exact⟨f2,_,_,I,by rw[X,a,hnv];simp[Y8]⟩
  clear b f σ p t o;rintro⟨σ,Y2,q⟩ ⟨b,f,o,m,cur,B,g⟩;simp only at b f o B;simp[b,f,o];refine zL (fun k σ Y Z=>σ 0=.ref 0 0 0/\σ 45=.sl 5 (c.jh.map qu.V)/\σ 46=int c.jh.length/\σ 47=int k/\∃m cur,lS TB UB Y Z m cur/\T=cur++JV [32,124,32] k ((c.jh.drop k).map qu.show)) c.jh.length ⟨by simp[b],by simp,by simp,by simp,m,cur,B,by simpa using g⟩ ?_;clear b f o B g σ m cur Y2 q;rintro k σ Y Z hkl ⟨b,J,L,M,m,cur,B,g⟩;by_cases r:k<c.jh.length
  ·have hw:=qe k;have z:=zi r;have hm:=kY z;have s:=A.jh _ z;rw[zc r,z6,VA]at g;obtain⟨x,hx⟩:=wZ (c.jh[k]);rw[hx]at g hm s;have hw1:i6.wrap 1=1:=by decide
   have n:=zo List.length g;have hxs:=fun Y Z=>R4 x Y Z s (by unfold zA;omega)
   have hmn:=B.2.2.2;have B':=B.same (Z':=Z+1) (Y':=qq Y Z (some ⟨145,5,false,[x.V]⟩)) (yd _) (fun j hj=>zD _ _ _ _ (by omega));by_cases N:k=0
   ·subst N;simp at g n;obtain⟨Y2,H,I,_⟩:=nH B' x.show (Ba x s) (by omega);simp[b,J,L,M,r,hx,hxs,H,hw1];exact⟨by omega,_,_,I,by simpa using g⟩
   ·rw[ze N]at g;have hk1:0<k:=by omega
    simp[N]at g n;obtain⟨Y2,H,I,i⟩:=nH B' [32,124,32] (by simp) (by simp;omega);have f2:Y2 Z=some ⟨145,5,false,[x.V]⟩:=by rw[i Z (by omega) (by omega) (by omega)];simp
    obtain⟨hp3,e3,B3,_⟩:=nH I x.show (Ba x s) (by simp;omega);simp[b,J,L,M,r,hx,hk1,H,f2,hxs,e3,hw];exact⟨by omega,_,_,B3,by simpa using g⟩
  ·obtain rfl:k=c.jh.length:=by omega
   rw[zp,yX,Y8,ku]at g;simp[b,J,L,M,f51];exact B.ends g (by omega)
theorem mm:zg prog 51 (xh TB UB SY):=
 Ql (code:=_) zbp ⟨func51,by kernel_rfl,rfl,by kernel_rfl⟩ _ _ SY fun xs t r h=>by obtain⟨c,rfl,⟨b,d,f⟩,e⟩:=zO h;injection e with g i;subst g;subst i;exact⟨rfl,zI (zl 2) (by decide),fun Y Z l k K j a=>po c b d f j a⟩
noncomputable def FPr (n:Nat):zb->Option (za×O):=qd (α:=qO) (fun c=>[.agg c.V]) (fun c=>dH c/\c.cb<=zA/\c.cb<=n) (fun c=>(c.show,.w5 []))
theorem NY{a b:qO}(e:[O.agg a.V]=[.agg b.V]):a=b:=by simp only[zj,zG,O.agg.injEq]at e;exact xx e
theorem SZ(n:Nat)(c:qO)(h:dH c/\c.cb<=zA/\c.cb<=n):FPr n [.agg c.V]=some (c.show,.w5 []):=qD (V:=fun c:qO=>[.agg c.V]) (a:=c) (fun _ _=>NY) h
theorem S3{f:FuncId}(a:∃fn,prog.funcs[f]?=some fn/\(fn.name== "runtime.NumGoroutine")=false/\fn.body.isNone=false):zg prog f (xh TB UB (FPr 0)):=by
 refine⟨a,fun args Y Z r Y' Z' h=>?_⟩;unfold xh at h;split at h
 ·split at h
  ·obtain⟨_,_,h⟩:=yw.1 h;obtain⟨_,h,_⟩:=yw.1 h;obtain⟨c,_,b,_⟩:=zO h;have:=XU c;omega
  ·cases h
 ·cases h
theorem fzC(Y:Hp)(c:qO):zC Y [.agg c.V]=some ([.agg c.V],Y):=by simp only[zC,Yb]
theorem noC(c:qO):([O.agg c.V].all O.noOwn)=true:=by simp only[wi,cM,V4,Pq]
theorem prS{Y:Hp}{Z m:Nat}{cur:za}(n:Nat)(c:qO)(B:lS TB UB Y Z m cur)(h:dH c/\c.cb<=zA/\c.cb<=n)(a:cur.length+c.show.length<=140737488355328) :
  ∃Y',xh TB UB (FPr n) [.ref 0 0 0,.agg c.V] Y Z=some (.w5 [],Y',Z+1)/\lS TB UB Y' (Z+1) Z (cur++c.show)/\∀j,j≠0->j≠m->j≠Z->Y' j=Y j:=
 B.put (Y1:=Y) (fzC Y c) (noC c) (SZ n c h) a
noncomputable abbrev Cpr (n:Nat):Ctx:=zV prog [(27,xh TB UB (FPr n)),(51,xh TB UB SY),(10,xh TB UB RV),(52,xh TB UB M9)]
theorem Ip(n:Nat)(c:qO)(s:dH c)(I:c.cb<=zA)(hcn:c.cb<=n+1){Y:Hp}{Z:Nat}{l:za}{b0:Blk}{K:Hp->Hp}(J:ZY TB UB Y Z l b0 K)(C:l.length+c.show.length<=140737488355328) :
  tX TB UB (yR (Cpr n) f27 [.ref 0 0 0,.agg c.V] Y Z) (l++c.show) (.w5 []):=by
 refine W8 rfl ?_;have hcbe:=Wh c;have hl1:=vp c.args;have hkd:=s.kind;have GJ:=J.pos;obtain⟨D,E⟩:∃D,D=qq Y Z (some ⟨53,7,false,[c.V]⟩):=⟨_,rfl⟩;have i:∀j,j<Z->D j=Y j:=fun j hj=>by rw[E];exact zD _ _ _ _ (by omega)
 have L:D Z=some ⟨53,7,false,[c.V]⟩:=by rw[E];simp
 by_cases G:c.kind=4
 ·have M:c.show=Q0 c:=by rw[Ye,zd G]
  rw[M]at C⊢;obtain⟨Y1,b,H,_⟩:=J.put (h:=D) (Z':=Z+1) (F:=SY) (rest:=[.agg c.V]) (yd _) i (fzC _ c) (noC c) (zbo c ⟨s,G,I⟩) C;rw[E]at b;simp[G,b,f27];exact H.ends (by simp) (by simp)
 unfold zA at I;by_cases W:c.kind=5
 ·have M:c.show=[105,110,32]++c.name:=by rw[Ye,ze G,zd W]
  rw[M]at C⊢;have hm:3+c.name.length<=maxLen:=by unfold maxLen;omega
  obtain⟨Y1,b,H,_⟩:=wsF J (yd Z) i ([105,110,32]++c.name) (by simp) C;rw[E]at b;simp at b;simp[W,hm,b,f27];exact H.ends (by simp) (by simp)
 obtain⟨X,N⟩:=wZ (Lib.join (c.args.map qO.show) [44,32]);have hj0:X=JV [44,32] 0 ((c.args.drop 0).map qO.show):=by rw[wY,<-N];rfl
 have M:c.show=Jy c.kind++([40]++(X++[41])):=by rw[Ye,ze G,ze W,N]
 have hwl:=uC c.kind;have hwn:Jy c.kind++[40]≠[]:=by simp
 rw[M]at C⊢;obtain⟨T,hT⟩:∃T,T=l++(Jy c.kind++([40]++(X++[41]))):=⟨_,rfl⟩;have P:T.length=l.length+(Jy c.kind++([40]++(X++[41]))).length:=by rw[hT];simp
 rw[<-hT];rw[<-P]at C;simp at P;have t:4<=maxLen:=by unfold maxLen;omega
 obtain⟨H1,e⟩:∃H1,H1=qq D (Z+1) (some ⟨9,1,true,[[.v (.string ⟨#[]⟩)],[.v (.string ⟨#[97,108,108]⟩)],[.v (.string ⟨#[97,110,121]⟩)],[.v (.string ⟨#[110,111,116]⟩)]]⟩):=⟨_,rfl⟩;obtain⟨Y1,b,H,Q⟩:=wsF (h:=H1) (Z':=Z+1+1) J (by omega) (fun j hj=>by rw[e,zD _ _ _ _ (by omega)];exact i j hj) (Jy c.kind++[40]) hwn (by simp;omega);have f1:Y1 Z=some ⟨53,7,false,[c.V]⟩:=by rw[Q Z (zl _) (by omega),e,zD _ _ _ _ (by omega),L]
 rw[e,E]at b;refine y1 (fun st=>st.σ 0=.ref 0 0 0/\st.σ 3=.ref Z 0 0/\st.Z=Z+1/\st.Y=qq Y Z (some ⟨53,7,false,[c.V]⟩)) (by simp) ?_;rintro⟨σ,Y2,R⟩ ⟨d,f,p,q⟩;simp only at d f p q;subst p;subst q;have k4':(c.kind==4)=false:=qQ.2 G;have k5':(c.kind==5)=false:=qQ.2 W;refine y1 (fun st=>st.σ 0=.ref 0 0 0/\st.σ 3=.ref Z 0 0/\st.Z=Z+1/\st.Y=qq Y Z (some ⟨53,7,false,[c.V]⟩)) (by simp[d,f,k4',k5']) ?_;clear d f σ;rintro⟨σ,Y2,R⟩ ⟨d,f,p,q⟩;simp only at d f p q;subst p;subst q;refine y1 (fun st=>st.σ 0=.ref 0 0 0/\st.σ 3=.ref Z 0 0/\st.Z=Z+1+1+1/\st.Y=Y1) ?_ ?_
 ·rcases(by omega:c.kind=1\/c.kind=2\/c.kind=3)with hk|hk|hk
  ·rw[hk]at b;simp[Jy]at b;simp[d,f,hk,zt,zJ,zr,t,b]
  ·rw[hk]at b;simp[Jy]at b;simp[d,f,hk,zt,zJ,zr,t,b]
  ·rw[hk]at b;simp[Jy]at b;simp[d,f,hk,zt,zJ,zr,t,b]
 clear d f σ;rintro⟨σ,Y2,R⟩ ⟨d,f,p,q⟩;simp only at d f p q;subst p;subst q;clear i L E e b Q;simp[d,f,f1];refine zL (fun k σ Y Z=>σ 0=.ref 0 0 0/\σ 29=.sl 7 (c.args.map qO.V)/\σ 30=int c.args.length/\σ 31=int k/\∃m cur,lS TB UB Y Z m cur/\T=cur++(JV [44,32] k ((c.args.drop k).map qO.show)++[41])) c.args.length ⟨by simp[d],by simp,by simp,by simp,_,_,H,by rw[hT,<-hj0];simp⟩ ?_;clear d f f1 H σ J;rintro k σ Y Z hkl ⟨d,u,w,y,m,cur,B,g⟩;by_cases o:k<c.args.length
 ·have hw:=qe k;have r:=zi o;have hm:=xL r;have z:=s.args _ r;rw[zc o,z6,VA]at g;obtain⟨x,hx⟩:=wZ (c.args[k]);rw[hx]at g hm z;have hw1:i6.wrap 1=1:=by decide
  have a:=zo List.length g;have hmn:=B.2.2.2;have B':=B.same (Z':=Z+1) (Y':=qq Y Z (some ⟨53,7,false,[x.V]⟩)) (yd _) (fun j hj=>zD _ _ _ _ (by omega));by_cases A:k=0
  ·subst A;simp at g a;obtain⟨Y2,S,U,_⟩:=prS n x B' ⟨z,by unfold zA;omega,by omega⟩ (by omega);simp[d,u,w,y,o,hx,S,hw1];exact⟨by omega,_,_,U,by simpa using g⟩
  ·rw[ze A]at g;have hk1:0<k:=by omega
   simp[A]at g a;obtain⟨Y2,S,U,fr2⟩:=nH B' [44,32] (by simp) (by simp;omega);have f2:Y2 Z=some ⟨53,7,false,[x.V]⟩:=by rw[fr2 Z (by omega) (by omega) (by omega)];simp
   obtain⟨hp3,e3,B3,_⟩:=prS n x U ⟨z,by unfold zA;omega,by omega⟩ (by simp;omega);simp[d,u,w,y,o,hx,hk1,S,f2,e3,hw];exact⟨by omega,_,_,B3,by simpa using g⟩
 ·obtain rfl:k=c.args.length:=by omega
  rw[zp,yX,Y8,w7]at g;have a:=zo List.length g;simp at a;obtain⟨Y2,S,U,_⟩:=Nz B 41 41 rfl (by omega);simp[d,u,w,y,S,f27];exact U.ends g (by omega)
theorem EI:∀n,zg prog 27 (xh TB UB (FPr n)):=by
 intro n
 induction n with
 |zero=>exact S3 ⟨_,func27,by kernel_rfl,by kernel_rfl⟩
 |succ n d=>
  have f:Gd (Cpr n):=zW mixed ⟨d,mm,Vd,dZ,trivial⟩;exact Ql (code:=_) f ⟨func27,by kernel_rfl,rfl,by kernel_rfl⟩ _ _ (FPr (n+1)) fun xs t r h=>by obtain⟨c,rfl,b,e⟩:=zO h;injection e with g i;subst g;subst i;exact⟨rfl,zI (zl 2) (by decide),fun Y Z l k K j a=>Ip n c b.1 b.2.1 b.2.2 j a⟩
noncomputable def Zc (c:qO):za×Int:=if c.check=0 then(if(20000:Int)<c.show.length then([],2)else(c.show,0))else([],c.check)
noncomputable def JL (c:qO):O:=.w5 [str (Zc c).1,int (Zc c).2]
theorem S5(c:qO)(h:dH c):c.show≠[]:=by
 rw[Ye];split
 ·unfold Q0;split<;>simp
 split<;>simp
noncomputable abbrev Cprt:Ctx:=zV prog [(26,GC fun c=>int c.check),(27,xh TB UB (FPr zA)),(14,wD nG f14),(15,HN)]
theorem zbq:Gd Cprt:=zW mixed ⟨YY,EI zA,iF,iE,trivial⟩
theorem Iq(c:qO)(h:c.cb<=zA):zv Cprt f13 [.agg c.V]=some (JL c):=by
 have a:=fun Y Z=>vx (fun c=>int c.check) c Y Z h
 refine zn rfl ?_;by_cases b:c.check=0
 ·have d:=eN c b;have k:=gV c d;unfold zA at h;obtain⟨Y1,g,i,l,_⟩:=ot (T:=TB) (U:=UB) (F:=FPr zA) (h:=qq (qq (fun _=>none) 0 (some ⟨53,7,false,[c.V]⟩)) 1 (some ⟨37,2,false,[[.v (.pointer none),.nil]]⟩)) (id:=1) (Z':=2) (rest:=[.agg c.V]) (by rw[wU];rfl) (by omega) (fzC _ c) (noC c) (SZ zA c ⟨d,by unfold zA;omega,by unfold zA;omega⟩) (by omega);have j:=fun Z=>LO Y1 Z 1 2 c.show.length i
  have m:=fun Z=>oq Y1 Z 1 2 c.show i l (S5 c d) (by omega)
  by_cases e:(20000:Int)<c.show.length
  ·have Y:JL c=.w5 [str [],int 2]:=by unfold JL Zc;rw[zd b,zd e]
   simp[a,b,g,j,e,Y,wK,AM.freeze,zC,qt,wI,f13]
  ·have Y:JL c=.w5 [str c.show,int 0]:=by unfold JL Zc;rw[zd b,ze e]
   simp[a,b,g,j,m,e,Y,wK,AM.freeze,zC,qt,wI,f13]
 ·have Y:JL c=.w5 [str [],int c.check]:=by unfold JL Zc;rw[ze b]
  have f:=vX b;simp[a,f,Y,wK,AM.freeze,zC,qt,wI,f13]
theorem GO:zg prog 13 (GC JL):=
 yy (fn:=f13) zbq (qX func13) false [] _ fun args r h=>by obtain⟨c,rfl,a,rfl⟩:=Wu h;exact⟨by simp[f13],_,Iq c a.1,z8 _⟩
end Go.Q
namespace Go.SpanLaw
abbrev Sp:=Int×Int
def ll:Int->List Sp->Prop
 |_,[]=>True
 |lo,s::l=>lo<s.1/\s.1<s.2/\ll s.2 l
def mem(l:List Sp)(k:Int):Prop:=∃s∈l,s.1<=k/\k<s.2
def skip(x:Int):List Sp->List Sp
 |[]=>[]
 |b::l=>if b.2<=x then skip x l else b::l
def Below(hi:Int)(l:List Sp):Prop:=∀s∈l,s.2<=hi
structure zkC (op:Int->Prop) (at_:Int) (out:List Sp):Prop where
 canon:ll (-1) out
 below:Below at_ out
 holds:∀k,mem out k↔0<=k/\k<at_/\op k
end Go.SpanLaw
namespace Go.Q
abbrev jP(s:Sp):zb:=[int s.1,int s.2]
theorem S6{a b:Sp}(h:jP a=jP b):a=b:=by simp only[zj,zG,O.v.injEq,Value.int.injEq,Gr]at h;exact Prod.ext h.1 h.2
theorem Jd{a b:List Sp}(h:O.sl 2 (a.map jP)=O.sl 2 (b.map jP)):a=b:=by injection h with _ h;exact jZ (fun _ _=>S6) h
def spR(s:Sp):Bool:=!jG s.1 0 99999||decide ((100000:Int)<s.2)
def spO(p:Option Int)(s:Sp):Bool:=decide (s.2<=s.1)||(match p with
 |none=>false
 |some q=>decide (s.1<=q))
def NZ:Option Int->List Sp->Int
 |_,[]=>0
 |p,s::l=>if spR s then 1 else if spO p s then 8 else NZ (some s.2) l
theorem EJ{l:List Sp}{k:Nat}(h:k<l.length)(p:Option Int):NZ p (l.drop k)=if spR l[k]then 1 else if spO p l[k]then 8 else NZ (some l[k].2) (l.drop (k+1)):=by rw[zc h,NZ]
def J1(l:List Sp)(k:Nat):Option Int:=if k=0 then none else(l[k-1]?).map (·.2)
def jc(l:List Sp):Int:=if(100:Int)<l.length then 2 else NZ none l
theorem Z7:zg prog 67 (hP (F3 jG)):=
 yy (fn:=f67) je (qX func67) false [] _ fun args r h=>by obtain⟨a,b,c,rfl,rfl⟩:=oc h;exact⟨by simp[f67],_,zn rfl (by simp[f67,jG]),z8 _⟩
noncomputable abbrev Cwl:Ctx:=zV prog [(67,hP (F3 jG))]
theorem mn(l:List Sp):zv Cwl f119 [.sl 2 (l.map jP)]=some (int (jc l)):=by
 refine zn rfl ?_;rw[jc];by_cases q:(100:Int)<l.length
 ·simp[q,f119]
 simp[q];refine zL (fun k σ Y Z=>σ 0=.sl 2 (l.map jP)/\σ 8=.sl 2 (l.map jP)/\σ 9=int l.length/\σ 10=int k/\NZ none l=NZ (J1 l k) (l.drop k)) l.length
  ⟨by simp,by simp,by simp,by simp,by simp[J1]⟩ ?_
 rintro k σ Y Z z ⟨f,g,h,c,a⟩;by_cases b:k<l.length
 ·have A:=qe k;have en:(!jG l[k].1 0 99999||decide ((100000:Int)<l[k].2))=spR l[k]:=rfl;rw[EJ b]at a;cases n:spR l[k]
  case true=>rw[n]at en a;simp[f,g,h,c,b,en,a,f119]
  rw[n]at en;simp only[n,zP,wF]at a;have e:J1 l (k+1)=some l[k].2:=by simp[J1,b]
  by_cases w:k=0
  ·subst w;simp only[J1,qV,spO,Bool.or_false]at a;by_cases d:l[0].2<=l[0].1
   ·simp only[d,ziN,qV]at a;simp[f,g,h,c,b,en,d,a,f119]
   ·simp only[d,decide_false,zP,wF]at a;have x:=wq 1;simp[f,g,h,c,b,en,d,x]
    and_intros<;>first|omega|(rw[a];rw[e];done)|(rw[a];rw[e];simp)
  ·obtain⟨j,rfl⟩:∃j,k=j+1:=⟨k-1,by omega⟩;have o:j<l.length:=by omega
   have r:i6.wrap ((j:Int)+1-1)=(j:Int):=by rw[wS (by omega) (by omega)];omega
   have i:=wq (j:Int);have s:((j:Int)+1).toNat=j+1:=by omega
   have t:0<(j:Int)+1:=by omega
   have u:0<=(j:Int)+1:=by omega
   have v:(j:Int)+1<l.length:=by omega
   have y:=wq ((j:Int)+1+1);have p:J1 l (j+1)=some l[j].2:=by simp[J1,o]
   have m:(decide (l[j+1].2<=l[j+1].1)||decide (l[j+1].1<=l[j].2))=spO (some l[j].2) l[j+1]:=rfl;rw[p]at a;cases d:spO (some l[j].2) l[j+1]
   ·rw[d]at m;simp only[d,zP,wF]at a;simp[f,g,h,c,b,o,en,r,i,s,t,u,v,m,y]
    and_intros<;>first|omega|(rw[a];rw[e])
   ·rw[d]at m;simp only[d,qV]at a;simp[f,g,h,c,b,o,en,r,i,s,t,u,v,m,a,f119]
 ·obtain rfl:k=l.length:=by omega
  rw[zp]at a;have a:NZ none l=0:=by rw[a];rfl
  simp[f,g,h,c,a,f119]
theorem rspR(s:Sp):(decide (s.1<0)||decide ((100000:Int)<=s.1)||decide ((100000:Int)<s.2))=spR s:=by unfold spR jG;by_cases a:s.1<0<;>by_cases b:(100000:Int)<=s.1<;>simp[a,b]<;>omega
theorem gW(l:List Sp):zv C0 f131 [.sl 2 (l.map jP)]=some (int (jc l)):=by
 refine zn rfl ?_;rw[jc];by_cases q:(100:Int)<l.length
 ·simp[q,f131]
 simp[q];refine zL (fun k σ Y Z=>σ 0=.sl 2 (l.map jP)/\σ 8=.sl 2 (l.map jP)/\σ 9=int l.length/\σ 10=int k/\NZ none l=NZ (J1 l k) (l.drop k)) l.length
  ⟨by simp,by simp,by simp,by simp,by simp[J1]⟩ ?_
 rintro k σ Y Z z ⟨f,g,h,c,a⟩;by_cases b:k<l.length
 ·have A:=qe k;have en:(decide (l[k].1<0)||decide ((100000:Int)<=l[k].1)||decide ((100000:Int)<l[k].2))=spR l[k]:=rspR l[k];rw[EJ b]at a;cases n:spR l[k]
  case true=>rw[n]at en a;simp[f,g,h,c,b,en,a,f131]
  rw[n]at en;simp only[n,zP,wF]at a;have e:J1 l (k+1)=some l[k].2:=by simp[J1,b]
  by_cases w:k=0
  ·subst w;simp only[J1,qV,spO,Bool.or_false]at a;by_cases d:l[0].2<=l[0].1
   ·simp only[d,ziN,qV]at a;simp[f,g,h,c,b,en,d,a,f131]
   ·simp only[d,decide_false,zP,wF]at a;have x:=wq 1;simp[f,g,h,c,b,en,d,x]
    and_intros<;>first|omega|(rw[a];rw[e];done)|(rw[a];rw[e];simp)
  ·obtain⟨j,rfl⟩:∃j,k=j+1:=⟨k-1,by omega⟩;have o:j<l.length:=by omega
   have r:i6.wrap ((j:Int)+1-1)=(j:Int):=by rw[wS (by omega) (by omega)];omega
   have i:=wq (j:Int);have s:((j:Int)+1).toNat=j+1:=by omega
   have t:0<(j:Int)+1:=by omega
   have u:0<=(j:Int)+1:=by omega
   have v:(j:Int)+1<l.length:=by omega
   have y:=wq ((j:Int)+1+1);have p:J1 l (j+1)=some l[j].2:=by simp[J1,o]
   have m:(decide (l[j+1].2<=l[j+1].1)||decide (l[j+1].1<=l[j].2))=spO (some l[j].2) l[j+1]:=rfl;rw[p]at a;cases d:spO (some l[j].2) l[j+1]
   ·rw[d]at m;simp only[d,zP,wF]at a;simp[f,g,h,c,b,o,en,r,i,s,t,u,v,m,y]
    and_intros<;>first|omega|(rw[a];rw[e])
   ·rw[d]at m;simp only[d,qV]at a;simp[f,g,h,c,b,o,en,r,i,s,t,u,v,m,a,f131]
 ·obtain rfl:k=l.length:=by omega
  rw[zp]at a;have a:NZ none l=0:=by rw[a];rfl
  simp[f,g,h,c,a,f131]
noncomputable def FP (out:List Sp->O) (pre:List Sp->Prop):zb->Option O:=qd (α:=List Sp) (fun l=>[.sl 2 (l.map jP)]) pre out
theorem L4(out:List Sp->O)(pre:List Sp->Prop)(l:List Sp)(Y:Hp)(Z:Nat)(h:pre l):hP (FP out pre) [.sl 2 (l.map jP)] Y Z=some (out l,Y,Z):=
 QL l _ _ rfl (fun a b e=>by simp only[zj,zG]at e;exact Jd e) h (.inr rfl)
theorem gX:zg prog 119 (hP (FP (fun l=>int (jc l)) fun _=>True)):=
 vM (qC (q:=[67]) mixed ⟨Z7,fun _=>zu _ _,trivial⟩:AM.Good Cwl _) func119 false [] fun l _=>⟨zI (zl 1) (by decide),_,mn l,z8 _⟩
theorem eO:zg prog 131 (hP (FP (fun l=>int (jc l)) fun _=>True)):=
 vM je func131 false [] fun l _=>⟨zI (zl 1) (by decide),_,gW l,z8 _⟩
theorem uD:∀{l:List Sp} {p:Option Int},NZ p l=0->ll (p.getD (-1)) l/\Below 100000 l/\∀s∈l,0<=s.1
 |[],_,_=>⟨trivial,fun s hs=>absurd hs (by simp),fun s hs=>absurd hs (by simp)⟩
 |s::l,p,h=>by
  simp only[NZ]at h;split at h
  ·cases h
  split at h
  ·cases h
  rename_i c b;obtain⟨d,e,f⟩:=uD h;simp only[spR,jG,qx,Q6,Bool.and_eq_false_iff,kd,zS,not_or]at c;simp only[spO,qx,zS,not_or]at b;refine⟨⟨?_,by omega,d⟩,fun x a=>?_,fun x a=>?_⟩
  ·cases p with
   |none=>show -1<s.1;omega
   |some q=>have:=b.2;simp at this;exact this
  ·rcases zw.1 a with rfl|a
   ·omega
   ·exact e x a
  ·rcases zw.1 a with rfl|a
   ·omega
   ·exact f x a
theorem Kq{l:List Sp}(h:jc l=0):ll (-1) l/\Below 100000 l/\(∀s∈l,0<=s.1)/\l.length<=100:=by
 unfold jc at h;split at h
 ·cases h
 ·obtain⟨a,b,c⟩:=uD h;exact⟨a,b,c,by omega⟩
noncomputable def S7 (out:List Sp->List Sp->O) (pre:List Sp->List Sp->Prop):zb->Option O:=qd (α:=List Sp×List Sp) (fun a=>[.sl 2 (a.1.map jP),.sl 2 (a.2.map jP)]) (fun a=>pre a.1 a.2) (fun a=>out a.1 a.2)
theorem pq(out:List Sp->List Sp->O)(pre:List Sp->List Sp->Prop)(a b:List Sp)(Y:Hp)(Z:Nat)(h:pre a b):hP (S7 out pre) [.sl 2 (a.map jP),.sl 2 (b.map jP)] Y Z=some (out a b,Y,Z):=
 QL (a,b) _ _ rfl (fun a b e=>by obtain⟨c,d⟩:=a;obtain⟨f,g⟩:=b;simp only[zj,zG]at e;rw[Jd e.1,Jd e.2]) h (.inr rfl)
end Go.Q
namespace Go.Proofs
open Go.Shelf
end Go.Proofs
namespace Go.Q
theorem S8{a b:List Sp}{k:Nat}(c:k<a.length)(d:k<b.length):decide (a.drop k=b.drop k)=(decide (a[k]=b[k])&&decide (a.drop (k+1)=b.drop (k+1))):=by rw[zc c,zc d,<-Bool.decide_and];congr 1;simp only[zj]
theorem binS(x y u v:Int):Qi prog .neq 65 (.agg [int x,int y]) (.agg [int u,int v])=some (wb (!(decide (x=u)&&decide (y=v)))):=by simp only[Qi,fl65,ym,qV,zH,zkz];rfl
theorem zfh{a b:Sp}:decide (a=b)=(decide (a.1=b.1)&&decide (a.2=b.2)):=by simp[Prod.ext_iff]
theorem lp(a b:List Sp)(q:a.length<=zA):zv C0 f120 [.sl 2 (a.map jP),.sl 2 (b.map jP)]=some (wb (decide (a=b))):=by
 unfold zA at q;refine zn rfl ?_;by_cases j:a.length=b.length
 case neg=>
  have f:((a.length:Int) != (b.length:Int))=true:=by simp;omega
  have l:¬a=b:=fun e=>j (by rw[e])
  simp[f,l,f120]
 have f:((a.length:Int) != (b.length:Int))=false:=by simp[j]
 simp[f];refine zL (fun k σ Y Z=>σ 0=.sl 2 (a.map jP)/\σ 1=.sl 2 (b.map jP)/\σ 12=int a.length/\σ 13=int k/\decide (a=b)=decide (a.drop k=b.drop k)) a.length
  ⟨by simp,by simp,by simp,by simp,by simp⟩ ?_
 rintro k σ Y Z s ⟨m,n,g,h,i⟩;by_cases d:k<a.length
 ·have c:k<b.length:=by omega
  have r:=qe k;rw[S8 d c,zfh]at i;by_cases o:a[k].1=b[k].1<;>by_cases p:a[k].2=b[k].2<;>simp only[o,p,ziN,decide_false,zkz,kv,Bool.and_false,Qc]at i
  ·simp[m,n,g,h,d,c,o,p,r,binS];exact⟨d,by simpa using i⟩
  all_goals simp[m,n,g,h,d,c,o,p,i,binS,f120]
 ·obtain rfl:k=a.length:=by omega
  rw[zp,j,zp]at i;simp[m,n,g,h,i,f120]
theorem BH:zg prog 120 (hP (S7 (fun a b=>wb (decide (a=b))) fun a _=>a.length<=zA)):=
 vM je func120 false [] fun⟨a,b⟩ c=>⟨zI (zl 2) (by decide),_,lp a b c,z8 _⟩
abbrev Rg:=Int×Int×Int
abbrev Qq(r:Rg):zb:=[int r.1,int r.2.1,int r.2.2]
theorem S9{a b:Rg}(h:Qq a=Qq b):a=b:=by simp only[zj,zG,O.v.injEq,Value.int.injEq,Gr]at h;exact Prod.ext h.1 (Prod.ext h.2.1 h.2.2)
theorem pt{a b:List Rg}(h:O.sl 3 (a.map Qq)=O.sl 3 (b.map Qq)):a=b:=by injection h with _ h;exact jZ (fun _ _=>S9) h
def rgO(a:Int)(r:Rg):Bool:=(r.1 != a)||decide (r.2.1<=r.1)
def rgT(p:Option Int)(r:Rg):Bool:=match p with
 |none=>false
 |some q=>q==r.2.2
def L5(n:Int):Int->Option Int->List Rg->Int
 |at_,_,[]=>if at_=100000 then 0 else 8
 |at_,p,r::l=>if jG r.2.2 0 (n-1)then(if rgO at_ r then 8 else if(100000:Int)<r.2.1 then 1 else if rgT p r then 7 else L5 n r.2.1 (some r.2.2) l)else 1
theorem EK{l:List Rg}{k:Nat}(h:k<l.length)(n a:Int)(p:Option Int):L5 n a p (l.drop k)=if jG l[k].2.2 0 (n-1)then(if rgO a l[k]then 8 else if(100000:Int)<l[k].2.1 then 1 else if rgT p l[k]then 7 else L5 n l[k].2.1 (some l[k].2.2) (l.drop (k+1)))else 1:=by rw[zc h,L5]
def J2(l:List Rg)(k:Nat):Option Int:=if k=0 then none else(l[k-1]?).map (·.2.2)
def jn(l:List Rg)(n:Int):Int:=if l.length=0 then 9 else if(200:Int)<l.length then 2 else L5 n 0 none l
theorem sF:zg prog 117 (hP (F3 jG)):=
 yy (fn:=f117) je (qX func117) false [] _ fun args r h=>by obtain⟨a,b,c,rfl,rfl⟩:=oc h;exact⟨by simp[f117],_,zn rfl (by simp[f117,jG]),z8 _⟩
noncomputable abbrev Cwf:Ctx:=zV prog [(117,hP (F3 jG))]
theorem gY(l:List Rg)(n:Int)(N:1<=n/\n<=20):zv Cwf f70 [.sl 3 (l.map Qq),int n]=some (int (jn l n)):=by
 refine zn rfl ?_;have g:=wq (n-1);rw[jn];by_cases v:l.length=0
 ·have:l=[]:=qo.1 v;subst this;simp[f70]
 have q:¬l=[]:=fun h=>v (by rw[h];rfl)
 have D:((l.length:Int)==0)=false:=by simpa using q
 by_cases E:(200:Int)<l.length
 ·simp[D,v,q,E,f70]
 simp[D,v,q,E];refine zL (fun k σ Y Z=>σ 0=.sl 3 (l.map Qq)/\σ 1=int n/\σ 14=.sl 3 (l.map Qq)/\σ 15=int l.length/\σ 16=int k/\∃a:Int,σ 5=int a/\L5 n 0 none l=L5 n a (J2 l k) (l.drop k)) l.length
  ⟨by simp,by simp,by simp,by simp,by simp,0,by simp,by simp[J2]⟩ ?_
 rintro k σ Y Z P ⟨i,m,d,e,f,a,o,b⟩;by_cases c:k<l.length
 ·have Q:=qe k;rw[EK c]at b;cases p:jG l[k].2.2 0 (n-1)
  case false=>rw[p]at b;simp at b;simp[i,m,o,d,e,f,c,g,p,b,f70]
  simp only[p,qV]at b;have r:((l[k].1 != a)||decide (l[k].2.1<=l[k].1))=rgO a l[k]:=rfl;cases z:rgO a l[k]
  case true=>rw[z]at r b;simp only[qV]at b;simp[i,m,o,d,e,f,c,g,p,r,b,f70]
  rw[z]at r;simp only[z,zP,wF]at b;by_cases s:(100000:Int)<l[k].2.1
  ·rw[zd s]at b;simp[i,m,o,d,e,f,c,g,p,r,s,b,f70]
  rw[ze s]at b;have t:J2 l (k+1)=some l[k].2.2:=by simp[J2,c]
  by_cases K:k=0
  ·subst K;simp only[J2,qV,rgT,zP,wF]at b;have L:=wq 1;simp[i,m,o,d,e,f,c,g,p,r,s,L];exact⟨c,by rw[b,t];simp⟩
  ·obtain⟨j,rfl⟩:∃j,k=j+1:=⟨k-1,by omega⟩;have A:j<l.length:=by omega
   have F:i6.wrap ((j:Int)+1-1)=(j:Int):=by rw[wS (by omega) (by omega)];omega
   have u:=wq (j:Int);have G:((j:Int)+1).toNat=j+1:=by omega
   have H:0<(j:Int)+1:=by omega
   have I:0<=(j:Int)+1:=by omega
   have J:(j:Int)+1<l.length:=by omega
   have M:=wq ((j:Int)+1+1);have B:J2 l (j+1)=some l[j].2.2:=by simp[J2,A]
   have w:(l[j].2.2==l[j+1].2.2)=rgT (some l[j].2.2) l[j+1]:=rfl;rw[B]at b;cases x:rgT (some l[j].2.2) l[j+1]
   ·rw[x]at w;simp only[x,zP,wF]at b;simp[i,m,o,d,e,f,c,A,g,p,r,s,w,F,u,G,H,I,J,M];exact⟨by omega,by rw[b,t]⟩
   ·rw[x]at w;simp only[x,qV]at b;simp[i,m,o,d,e,f,c,A,g,p,r,s,w,F,u,G,H,I,J,b,f70]
 ·obtain rfl:k=l.length:=by omega
  rw[zp,L5]at b;by_cases y:a=100000
  ·rw[zd y]at b;simp[i,m,o,d,e,f,y,b,f70]
  ·rw[ze y]at b;have C:(a != 100000)=true:=by simpa using y
   simp[i,m,o,d,e,f,C,b,f70]
noncomputable def FRN (out:List Rg->Int->O) (pre:List Rg->Int->Prop):zb->Option O:=qd (α:=List Rg×Int) (fun a=>[.sl 3 (a.1.map Qq),int a.2]) (fun a=>pre a.1 a.2) (fun a=>out a.1 a.2)
theorem eP(out:List Rg->Int->O)(pre:List Rg->Int->Prop)(l:List Rg)(n:Int)(Y:Hp)(Z:Nat)(h:pre l n):hP (FRN out pre) [.sl 3 (l.map Qq),int n] Y Z=some (out l n,Y,Z):=
 QL (l,n) _ _ rfl (fun a b e=>by obtain⟨c,d⟩:=a;obtain⟨f,g⟩:=b;simp only[zj,zG]at e;rw[pt e.1,qR e.2]) h (.inr rfl)
theorem J3:zg prog 70 (hP (FRN (fun l n=>int (jn l n)) fun _ n=>1<=n/\n<=20)):=
 vM (qC (q:=[117]) mixed ⟨sF,fun _=>zu _ _,trivial⟩:AM.Good Cwf _) func70 false [] fun⟨l,n⟩ a=>⟨zI (zl 2) (by decide),_,gY l n a,z8 _⟩
def L6(n:Int):Int->Int->Option Int->List Rg->Prop
 |lo,hi,_,[]=>lo=hi
 |lo,hi,p,r::l=>r.1=lo/\r.1<r.2.1/\r.2.1<=hi/\0<=r.2.2/\r.2.2<n/\p≠some r.2.2/\L6 n r.2.1 hi (some r.2.2) l
theorem uE:∀{n a:Int} {p:Option Int} {l:List Rg},L5 n a p l=0->L6 n a 100000 p l
 |_,_,_,[],h=>by
  unfold L5 at h;split at h
  ·assumption
  ·cases h
 |n,a,p,r::l,h=>by
  unfold L5 at h;split at h
  case isFalse=>cases h
  rename_i b;split at h
  case isTrue=>cases h
  rename_i c;split at h
  case isTrue=>cases h
  rename_i e;split at h
  case isTrue=>cases h
  rename_i d;simp only[jG,zE,zS]at b;simp only[rgO,qx,bne_iff_ne,ne_eq,zS,not_or,Decidable.not_not]at c;refine⟨c.1,by omega,by omega,b.1,by omega,?_,uE h⟩;rintro rfl;exact d (by simp[rgT])
theorem sG{l:List Rg}{n:Int}(h:jn l n=0):L6 n 0 100000 none l/\l.length<=200/\0<l.length:=by
 unfold jn at h;split at h
 ·cases h
 split at h
 ·cases h
 exact⟨uE h,by omega,by omega⟩
structure w9 where
 name:List UInt8
 qp:List UInt8
 rest:Int
def w9.V(x:w9):zb:=[str x.name,str x.qp,int x.rest]
theorem eQ{a b:w9}(h:a.V=b.V):a=b:=by cases a;cases b;simp only[w9.V,zj,zG]at h;rw[wC h.1,wC h.2.1,qR h.2.2]
structure vi where
 name:List UInt8
 qp:List UInt8
 buckets:Int
 zf:List (List UInt8)
def vi.V(x:vi):zb:=[str x.name,str x.qp,int x.buckets,.sl 1 (zy x.zf)]
theorem zbr{a b:vi}(h:a.V=b.V):a=b:=by
 cases a;cases b;simp only[vi.V,zj,zG]at h;obtain⟨d,e,f,c⟩:=h;injection c with _ c
 rw[wC d,wC e,qR f,km c]
structure yz where
 at_:Int
 qJ:List Sp
def yz.V(x:yz):zb:=[int x.at_,.sl 2 (x.qJ.map jP)]
theorem L7{a b:yz}(h:a.V=b.V):a=b:=by cases a;cases b;simp only[yz.V,zj,zG]at h;rw[qR h.1,Jd h.2]
structure Xp where
 name:List UInt8
 wH:List UInt8
 flag:List UInt8
 cond:qO
 qp:List UInt8
 yF:List Rg
 zF:List yz
def Xp.V(x:Xp):zb:=[str x.name,str x.wH,str x.flag]++x.cond.V++[str x.qp,.sl 3 (x.yF.map Qq),.sl 2 (x.zF.map yz.V)]
theorem qK(x:Xp):x.V=[str x.name,str x.wH,str x.flag,int x.cond.kind,str x.cond.attr,int x.cond.op,.sl 5 (x.cond.jh.map qu.V),str x.cond.pat,str x.cond.name,.sl 7 (x.cond.args.map qO.V),str x.qp,.sl 3 (x.yF.map Qq),.sl 2 (x.zF.map yz.V)]:=by unfold Xp.V;rw[we];rfl
theorem cX{a b:Xp}(h:a.V=b.V):a=b:=by
 have e:a.cond.V=b.cond.V:=by rw[qK,qK]at h;simp only[zj,zG]at h;rw[we,we];simp only[zj,zG];exact⟨h.2.2.2.1,h.2.2.2.2.1,h.2.2.2.2.2.1,h.2.2.2.2.2.2.1,h.2.2.2.2.2.2.2.1,h.2.2.2.2.2.2.2.2.1,h.2.2.2.2.2.2.2.2.2.1⟩
 have c:=xx e;rw[qK,qK]at h;simp only[zj,zG]at h;obtain⟨f,g,i,_,_,_,_,_,_,_,j,k,d⟩:=h;cases a;cases b;simp only at *;injection d with _ d
 rw[wC f,wC g,wC i,c,wC j,pt k,jZ (fun _ _=>L7) d]
structure Bk where
 zf:List w9
 holds:List vi
 zU:List Xp
def Bk.V(b:Bk):zb:=[.sl 3 (b.zf.map w9.V),.sl 4 (b.holds.map vi.V),.sl 13 (b.zU.map Xp.V)]
theorem Kr{a b:Bk}(h:a.V=b.V):a=b:=by
 cases a;cases b;simp only[Bk.V,zj,zG]at h;obtain⟨c,d,e⟩:=h;injection c with _ c
 injection d with _ d;injection e with _ e;rw[jZ (fun _ _=>eQ) c,jZ (fun _ _=>zbr) d,jZ (fun _ _=>cX) e]
def yn{α:Type}(f:α->Nat)(l:List α):Nat:=(l.map f).sum
theorem yD{α:Type}{f:α->Nat}:∀{l:List α} {x:α},x∈l->f x<=yn f l
 |y::l,x,h=>by
  simp only[yn,z6,yo];rcases zw.1 h with rfl|h
  ·omega
  ·have:=yD (f:=f) h;simp only[yn]at this;omega
theorem qZ{α:Type}{f:α->Nat}(a:∀x,1<=f x):∀l:List α,l.length<=yn f l
 |[]=>by simp
 |y::l=>by have:=qZ a l;have:=a y;simp only[yn,z6,yo,zx]at *;omega
def w9.cb(x:w9):Nat:=1+x.name.length+x.qp.length
def vi.cb(x:vi):Nat:=1+x.name.length+x.qp.length+yn (fun s=>1+s.length) x.zf
def yz.cb(x:yz):Nat:=1+x.qJ.length
def Xp.cb(x:Xp):Nat:=x.name.length+x.wH.length+x.flag.length+x.cond.cb+x.qp.length+x.yF.length+yn yz.cb x.zF
def Bk.cb(b:Bk):Nat:=yn w9.cb b.zf+yn vi.cb b.holds+yn Xp.cb b.zU
theorem vR(x:w9):1<=x.cb:=by unfold w9.cb;omega
theorem Q1(x:vi):1<=x.cb:=by unfold vi.cb;omega
theorem J4(x:yz):1<=x.cb:=by unfold yz.cb;omega
theorem X5(x:Xp):1<=x.cb:=by have:=XU x.cond;unfold Xp.cb;omega
theorem BI(a b:UInt8):a<b\/a=b\/b<a:=by
 rcases Nat.lt_trichotomy a.toNat b.toNat with h|h|h
 ·exact .inl (xC.2 h)
 ·exact .inr (.inl (ve.1 h))
 ·exact .inr (.inr (xC.2 h))
theorem cY(a:UInt8):¬a<a:=fun h=>Nat.lt_irrefl _ (xC.1 h)
theorem pw{a b:UInt8}(h:a<b):¬b<a:=fun c=>Nat.lt_asymm (xC.1 h) (xC.1 c)
theorem Tb{a b c:UInt8}(h:a<b)(d:b<c):a<c:=xC.2 (Nat.lt_trans (xC.1 h) (xC.1 d))
theorem VN:∀a b:za,jE a b<0↔Op.bytesLess a b=true
 |[],[]=>by simp[jE,Lib.compareBytes,Op.bytesLess]
 |[],_::_=>by simp[jE,Lib.compareBytes,Op.bytesLess]
 |_::_,[]=>by simp[jE,Lib.compareBytes,Op.bytesLess]
 |a::x,b::y=>by
  have d:=VN x y;unfold jE at d⊢;rcases BI a b with h|rfl|h
  ·simp[Lib.compareBytes,Op.bytesLess,h]
  ·simp[Lib.compareBytes,Op.bytesLess,cY,d]
  ·have c:¬a=b:=fun e=>cY b (e ▸ h)
   simp[Lib.compareBytes,Op.bytesLess,h,pw h,c]
theorem Za:∀a b:za,jE a b=0↔a=b
 |[],[]=>by simp[jE,Lib.compareBytes]
 |[],_::_=>by simp[jE,Lib.compareBytes]
 |_::_,[]=>by simp[jE,Lib.compareBytes]
 |a::x,b::y=>by
  have d:=Za x y;unfold jE at d⊢;rcases BI a b with h|rfl|h
  ·have c:¬a=b:=fun e=>cY b (e ▸ h)
   simp[Lib.compareBytes,h,c]
  ·simp[Lib.compareBytes,cY,d]
  ·have c:¬a=b:=fun e=>cY b (e ▸ h)
   simp[Lib.compareBytes,h,pw h,c]
theorem Qr:∀{a b c:za},Op.bytesLess a b=true->Op.bytesLess b c=true->Op.bytesLess a c=true
 |_,[],_,h,_=>by simp[Op.bytesLess]at h
 |_,_::_,[],_,h=>by simp[Op.bytesLess]at h
 |[],_::_,_::_,_,_=>by simp[Op.bytesLess]
 |a::x,b::y,c::z,e,d=>by
  simp only[Op.bytesLess,qx,zS,zE,jY]at e d⊢;rcases e with e|⟨rfl,e⟩
  ·rcases d with d|⟨rfl,d⟩
   ·exact .inl (Tb e d)
   ·exact .inl e
  ·rcases d with d|⟨rfl,d⟩
   ·exact .inl d
   ·exact .inr ⟨rfl,Qr e d⟩
theorem Zy:∀{a b:za},Xh a b=false->Op.bytesLess b a=true
 |[],[],h=>by simp[Xh]at h
 |[],_::_,h=>by simp[Xh,Op.bytesLess]at h
 |_::_,[],_=>by simp[Op.bytesLess]
 |a::x,b::y,h=>by
  simp only[Xh,Op.bytesLess,wP,kd,Bool.and_eq_false_iff,qQ]at h;obtain⟨⟨d,c⟩,f⟩:=h;simp only[Op.bytesLess,qx,zS,zE,jY];rcases BI a b with g|rfl|g
  ·exact absurd g d
  ·refine .inr ⟨rfl,Zy ?_⟩;rcases c with c|c
   ·exact absurd rfl c
   ·have:¬x=y:=fun e=>f (by rw[e])
    simp[Xh,c,this]
  ·exact .inl g
def YG(f:Nat->Bool)(lo hi:Nat):Nat:=if h:lo<hi then(if f ((lo+hi)/2)then YG f ((lo+hi)/2+1) hi else YG f lo ((lo+hi)/2))else lo
termination_by hi-lo
decreasing_by all_goals omega
theorem gZ{f:Nat->Bool}{lo hi:Nat}(h:lo<hi):YG f lo hi=if f ((lo+hi)/2)then YG f ((lo+hi)/2+1) hi else YG f lo ((lo+hi)/2):=by rw[YG,zcP h]
theorem px{f:Nat->Bool}{lo hi:Nat}(h:¬lo<hi):YG f lo hi=lo:=by rw[YG,dif_neg h]
theorem N0{f:Nat->Bool}{n m:Nat}(i:∀k,k<m->f k=true)(j:∀k,m<=k->k<n->f k=false):∀{lo hi:Nat},lo<=m->m<=hi->hi<=n->YG f lo hi=m:=by
 intro lo hi
 induction lo,hi using YG.induct (f:=f)with
 |case1 lo hi a c d=>
  intro e g h;rw[YG,zcP a,zd c];refine d ?_ g h;apply Nat.succ_le_of_lt;refine Nat.lt_of_not_le fun b=>?_
  rw[j _ b (by omega)]at c;cases c
 |case2 lo hi a c d=>
  intro e g h;rw[YG,zcP a,ze c];refine d e ?_ (by omega);refine Nat.le_of_not_lt fun b=>?_
  exact c (i _ b)
 |case3 lo hi a=>intro e g _;rw[YG,dif_neg a];omega
noncomputable def Z8 (l:List za) (s:za) (k:Nat):Bool:=match l[k]? with
 |some x=>decide (jE x s<0)
 |none=>false
noncomputable def ZF (l:List za) (s:za):Nat×Bool:=(YG (Z8 l s) 0 l.length,match l[YG (Z8 l s) 0 l.length]? with
 |some x=>jE x s==0
 |none=>false)
theorem BJ{l:List za}{s:za}(h:(ZF l s).2=true):l[(ZF l s).1]?=some s:=by
 unfold ZF at h⊢;simp only at h⊢;split at h
 ·rename_i x a;rw[a,(Za x s).1 (by simpa using h)]
 ·cases h
theorem Tc{l:List za}{s:za}(h:(ZF l s).2=true):(ZF l s).1<l.length:=(zk.1 (BJ h)).1
def eR(l:List za):Prop:=l.Pairwise fun a b=>Op.bytesLess a b=true
theorem X6(a:za):Op.bytesLess a a=false:=by
 cases h:Op.bytesLess a a with
 |false=>rfl
 |true=>have b:=(VN a a).2 h;have c:=(Za a a).2 rfl;omega
theorem BK{l:List za}{s:za}(f:eR l){j:Nat}(g:l[j]?=some s):ZF l s=(j,true):=by
 obtain⟨a,b⟩:=zk.1 g;have i:YG (Z8 l s) 0 l.length=j:=by
  refine N0 (n:=l.length) (fun k d=>?_) (fun k d c=>?_) (ZS _) (Nat.le_of_lt a) (zl _)
  ·have:=Lr.1 f k j (by omega) a d;rw[b]at this;simp[Z8,show k<l.length by omega,(VN _ _).2 this]
  ·rcases Nat.lt_or_eq_of_le d with h|rfl
   ·have:=Lr.1 f j k a c h;rw[b]at this;have e:¬jE l[k] s<0:=fun m=>by have:=Qr this ((VN _ _).1 m);rw[X6]at this;cases this
    simp[Z8,c,e]
   ·have e:¬jE s s<0:=by rw[(Za s s).2 rfl];omega
    simp[Z8,a,b,e]
 unfold ZF;rw[i,g];simp[(Za s s).2 rfl]
def jS(name a:za):Int:=if wy name=true then(if Xh name a=true then 8 else 0)else 5
noncomputable def N1 (f:za->za->O):zb->Option O:=qd (α:=za×za) (fun a=>[str a.1,str a.2]) (fun a=>a.1.length<=zA) (fun a=>f a.1 a.2)
theorem aY(f:za->za->O)(a b:za)(Y:Hp)(Z:Nat)(h:a.length<=zA)(c:(f a b).flat=true):hP (N1 f) [str a,str b] Y Z=some (f a b,Y,Z):=
 QL (a,b) _ _ rfl A3 h (.inl c)
noncomputable abbrev Cnf:Ctx:=zV prog [(29,hP (FS wy))]
theorem Qg:zg prog 65 (hP (N1 fun a b=>int (jS a b))):=
 vM (zW mixed ⟨ZJ,trivial⟩:AM.Good Cnf _) func65 false [] fun⟨a,b⟩ d=>by
  have c:(Op.bytesLess a b||a==b)=Xh a b:=rfl;refine⟨by simp[f65],_,zn rfl ?_,z8 _⟩;simp only at d;cases e:wy a
  ·simp[d,e,jS,f65]
  ·cases f:Xh a b
   ·simp[d,e,c,f,jS,f65]
   ·simp[d,e,c,f,jS,f65]
def Yf(s:za):Bool:=jG s.length 1 40&&Zb s
noncomputable abbrev Csl:Ctx:=zV prog [(67,hP (F3 jG)),(106,hP (FS Zb))]
@[simp]theorem zih:ki Csl 106:=yL (by rfl) (zu _ _)
theorem BL:zg prog 112 (hP (FS Yf)):=
 vM (qC (q:=[67,106]) mixed ⟨Z7,fun _=>zu _ _,XQ,fun _=>zu _ _,trivial⟩:AM.Good Csl _) func112 false [] fun l Y=>⟨by simp[f112],_,zn rfl (by simp[Y,Yf,f112]),z8 _⟩
def X7(n:Int):Bool:=jG n 0 4000000000
noncomputable abbrev Ctm:Ctx:=zV prog [(67,hP (F3 jG))]
theorem BM:zg prog 118 (hP (mi X7)):=
 yy (fn:=f118) (zW mixed ⟨Z7,trivial⟩:AM.Good Ctm _) (qX func118) false [] _ fun args r h=>by obtain⟨a,rfl,rfl⟩:=J0 h;exact⟨by simp[f118],_,zn rfl (by simp[X7,f118]),z8 _⟩
noncomputable def Td:zb->Option O:=qd (α:=w9×za) (fun a=>[.agg a.1.V,str a.2]) (fun _=>True) (fun a=>int (jE a.1.name a.2))
theorem pz(x:w9)(s:za)(Y:Hp)(Z:Nat):hP Td [.agg x.V,str s] Y Z=some (int (jE x.name s),Y,Z):=
 QL (x,s) _ _ (by simp[w9.V]) (fun a b e=>by obtain⟨c,d⟩:=a;obtain⟨f,g⟩:=b;simp only[zj,zG,O.agg.injEq]at e;rw[eQ e.1,wC e.2]) trivial (.inl rfl)
noncomputable abbrev zii:Ctx:=zV prog [(111,hP (PF jE))]
theorem Ir:zg prog 114 (hP Td):=
 vM (zW mixed ⟨xy,trivial⟩:AM.Good zii _) func114 false [] fun⟨x,s⟩ _=>⟨by simp[f114],_,zn rfl (by simp[f114,w9.V]),z8 _⟩
noncomputable def FBsL:zb->Option O:=qd (α:=List w9×za) (fun a=>[.sl 3 (a.1.map w9.V),str a.2,.fn (.func 114) [] []]) (fun a=>a.1.length<=zA) (fun a=>.w5 [int (ZF (a.1.map w9.name) a.2).1,wb (ZF (a.1.map w9.name) a.2).2])
theorem N2(l:List w9)(s:za)(Y:Hp)(Z:Nat)(h:l.length<=zA):hP FBsL [.sl 3 (l.map w9.V),str s,.fn (.func 114) [] []] Y Z=some (.w5 [int (ZF (l.map w9.name) s).1,wb (ZF (l.map w9.name) s).2],Y,Z):=
 QL (l,s) _ _ rfl (fun a b e=>by obtain⟨f,g⟩:=a;obtain⟨i,j⟩:=b;simp only[zj,zG]at e;obtain⟨c,d⟩:=e;injection c with _ c;rw[jZ (fun _ _=>eQ) c,wC d]) h (.inl rfl)
noncomputable abbrev CbsL:Ctx:=zV prog [(114,hP Td)]
theorem Te(l:List w9)(s:za)(w:l.length<=zA):zv CbsL f113 [.sl 3 (l.map w9.V),str s,.fn (.func 114) [] []]=some (.w5 [int (ZF (l.map w9.name) s).1,wb (ZF (l.map w9.name) s).2]):=by
 refine zn rfl ?_;unfold zA at w;have h:(l.map w9.name).length=l.length:=by simp
 simp;refine Jl (fun st=>st.σ 0=.sl 3 (l.map w9.V)/\st.σ 1=str s/\st.σ 2=.fn (.func 114) [] []/\st.σ 8=int l.length/\∃lo hi:Nat,lo<=hi/\hi<=l.length/\st.σ 9=int lo/\st.σ 10=int hi/\YG (Z8 (l.map w9.name) s) 0 (l.map w9.name).length=YG (Z8 (l.map w9.name) s) lo hi)
  (fun st=>(dS (st.σ 10)).toNat-(dS (st.σ 9)).toNat) ⟨by simp,by simp,by simp,by simp,0,l.length,by simp,by simp,by simp,by simp,by rw[h]⟩ ?_
 rintro⟨σ,Y,Z⟩ ⟨i,j,k,n,lo,hi,y,t,o,d,f⟩;simp only at i j k n o d;by_cases b:lo<hi
 ·have a:=fun x Y Z=>pz x s Y Z
  have v:=wq ((lo:Int)+hi);have z:(lo+hi)/2<l.length:=by omega
  obtain⟨m,A⟩:∃m,m=(lo+hi)/2:=⟨_,rfl⟩;have g:i6.wrap ((IntKind.u64.wrap ((lo:Int)+hi)).fdiv (2 ^ min 1 IntKind.u64.bits))=(m:Int):=by
   have B:IntKind.u64.wrap ((lo:Int)+hi)=(lo:Int)+hi:=by rw[IntKind.wrap_u64];omega
   have C:(2 ^ min 1 IntKind.u64.bits:Int)=2:=by decide
   rw[B,C,Int.fdiv_eq_ediv_of_nonneg _ (by omega),wS (by omega) (by omega)];omega
  have e:m<l.length:=by omega
  have D:=qe m;have u:Z8 (l.map w9.name) s m=decide (jE l[m].name s<0):=by simp[Z8,e]
  rw[gZ (lo:=lo) b,<-A,u]at f;have c:=a l[m];simp only[w9.V]at c;by_cases r:jE l[m].name s<0
  ·simp only[r,ziN,qV]at f;simp[i,j,k,n,o,d,b,v,g,e,c,r,D,w9.V];exact⟨⟨m+1,hi,by omega,t,by omega,rfl,by rw[h]at f;exact f⟩,by omega⟩
  ·simp only[r,decide_false,zP,wF]at f;simp[i,j,k,n,o,d,b,v,g,e,c,r,w9.V];exact⟨⟨lo,m,by omega,by omega,rfl,rfl,by rw[h]at f;exact f⟩,by omega⟩
 ·have f:YG (Z8 (l.map w9.name) s) 0 (l.map w9.name).length=lo:=by rw[f,px (lo:=lo) b]
  have a:=fun x Y Z=>pz x s Y Z
  unfold ZF;rw[f];by_cases p:lo<l.length
  ·have c:=a l[lo];simp only[w9.V]at c;simp[i,j,k,n,o,d,b,p,c,w9.V,f113,wK]
  ·have q:l[lo]?=none:=jk (by omega);simp[i,j,k,n,o,d,b,p,q,f113,wK]
theorem N3:zg prog 113 (hP FBsL):=
 vM (qC (q:=[114]) mixed ⟨Ir,fun _=>zu _ _,trivial⟩:AM.Good CbsL _) func113 false [] fun⟨l,s⟩ a=>⟨zI (zl 3) (by decide),_,Te l s a,z8 _⟩
noncomputable def N4:zb->Option O:=qd (α:=List w9×za) (fun a=>[.sl 3 (a.1.map w9.V),str a.2]) (fun a=>a.1.length<=zA) (fun a=>.w5 [int (ZF (a.1.map w9.name) a.2).1,wb (ZF (a.1.map w9.name) a.2).2])
theorem a8(l:List w9)(s:za)(Y:Hp)(Z:Nat)(h:l.length<=zA):hP N4 [.sl 3 (l.map w9.V),str s] Y Z=some (.w5 [int (ZF (l.map w9.name) s).1,wb (ZF (l.map w9.name) s).2],Y,Z):=
 QL (l,s) _ _ rfl (fun a b e=>by obtain⟨f,g⟩:=a;obtain⟨i,j⟩:=b;simp only[zj,zG]at e;obtain⟨c,d⟩:=e;injection c with _ c;rw[jZ (fun _ _=>eQ) c,wC d]) h (.inl rfl)
noncomputable abbrev CofL:Ctx:=zV prog [(113,hP FBsL)]
theorem ba:zg prog 68 (hP N4):=
 vM (zW mixed ⟨N3,trivial⟩:AM.Good CofL _) func68 false [] fun⟨l,s⟩ a=>by
  have b:=fun Y Z=>N2 l s Y Z a
  exact⟨by simp[f68],_,zn rfl (by simp[b,wK,f68]),z8 _⟩
def hC(p:Option Int)(x:Int):Bool:=match p with
 |none=>false
 |some q=>decide (x<=q)
def Da:Option Int->List Sp->List yz->Int
 |_,_,[]=>0
 |p,b,x::l=>if X7 x.at_=true then(if hC p x.at_=true then 8 else if jc x.qJ=0 then(if x.qJ=b then 7 else Da (some x.at_) x.qJ l)else jc x.qJ)else 1
def yU(l:List yz):Int:=if(50:Int)<l.length then 2 else Da none [] l
def lq(l:List yz)(k:Nat):Option Int:=if k=0 then none else(l[k-1]?).map (·.at_)
theorem sH:zg prog 120 (zh false [2,2] (S7 (fun a b=>wb (decide (a=b))) fun a _=>a.length<=zA)):=
 vM je func120 false [2,2] fun⟨a,b⟩ c=>⟨zI (zl 2) (by decide),_,lp a b c,z8 _⟩
theorem Tf(a b:List Sp)(v:O)(Y:Hp)(Z:Nat)(h:a.length<=zA)(c:v=.sl 2 (b.map jP)\/(v=.nil/\b=[])):zh false [2,2] (S7 (fun a b=>wb (decide (a=b))) fun a _=>a.length<=zA) [.sl 2 (a.map jP),v] Y Z=some (wb (decide (a=b)),Y,Z):=by
 have hs:S7 (fun a b=>wb (decide (a=b))) (fun a _=>a.length<=zA) [.sl 2 (a.map jP),.sl 2 (b.map jP)]=some (wb (decide (a=b))):=
  qD (V:=fun a:List Sp×List Sp=>[O.sl 2 (a.1.map jP),.sl 2 (a.2.map jP)]) (a:=(a,b)) (fun a b e=>by obtain⟨d,f⟩:=a;obtain⟨g,i⟩:=b;simp only[zj,zG]at e;rw[Jd e.1,Jd e.2]) h
 rcases c with rfl|⟨rfl,rfl⟩
 ·exact yI rfl hs (.inl rfl)
 ·exact yI rfl hs (.inl rfl)
noncomputable abbrev Cph:Ctx:=zV prog [(118,hP (mi X7)),(119,hP (FP (fun l=>int (jc l)) fun _=>True)),(120,zh false [2,2] (S7 (fun a b=>wb (decide (a=b))) fun a _=>a.length<=zA))]
theorem zfi:Gd Cph:=zW mixed ⟨BM,gX,sH,trivial⟩
noncomputable def FPh (out:List yz->O):zb->Option O:=qd (α:=List yz) (fun l=>[.sl 2 (l.map yz.V)]) (fun l=>yn yz.cb l<=zA) out
theorem EL{a b:List yz}(h:O.sl 2 (a.map yz.V)=O.sl 2 (b.map yz.V)):a=b:=by injection h with _ h;exact jZ (fun _ _=>L7) h
theorem eS(out:List yz->O)(l:List yz)(Y:Hp)(Z:Nat)(h:yn yz.cb l<=zA):hP (FPh out) [.sl 2 (l.map yz.V)] Y Z=some (out l,Y,Z):=
 QL l _ _ rfl (fun a b e=>by simp only[zj,zG]at e;exact EL e) h (.inr rfl)
theorem EM(l:List yz)(h:yn yz.cb l<=zA):zv Cph f71 [.sl 2 (l.map yz.V)]=some (int (yU l)):=by
 have F:=qZ J4 l;unfold zA at h;refine zn rfl ?_;by_cases q:(50:Int)<l.length
 ·have E:yU l=2:=by unfold yU;rw[zd q]
  simp[q,E,f71]
 have E:yU l=Da none [] l:=by unfold yU;rw[ze q]
 rw[E];simp[q];refine zL (fun k σ Y Z=>σ 0=.sl 2 (l.map yz.V)/\σ 10=.sl 2 (l.map yz.V)/\σ 11=int l.length/\σ 12=int k/\∃b,(σ 3=.sl 2 (b.map jP)\/(σ 3=.nil/\b=[]))/\Da none [] l=Da (lq l k) b (l.drop k)) l.length
  ⟨by simp,by simp,by simp,by simp,[],.inr ⟨by simp,rfl⟩,by simp[lq]⟩ ?_
 rintro k σ Y Z N ⟨r,d,e,g,b,G,a⟩;by_cases c:k<l.length
 ·have H:=yD (f:=yz.cb) (zi c);obtain⟨x,n⟩:=wZ (l[k]);have w:lq l (k+1)=some x.at_:=by simp[lq,c,n]
  rw[n]at H;have I:x.cb=1+x.qJ.length:=rfl;rw[zc c,n]at a;simp only[Da]at a;have J:∀h:k<(l.map yz.V).length,(l.map yz.V)[k]=x.V:=fun h=>by simp[n]
  have m:=fun Y Z=>L4 (fun l=>int (jc l)) (fun _=>True) x.qJ Y Z trivial
  have i:=fun Y Z=>Tf x.qJ b (σ 3) Y Z (by unfold zA;omega) G
  have K:=qe k;cases p:X7 x.at_
  case false=>rw[p,ze (by simp)]at a;simp[r,d,e,g,c,n,yz.V,p,a,f71]
  rw[p,zd rfl]at a;have step:∀(Y:Hp) (Z:Nat) (o:hC (lq l k) x.at_=false),Da none [] l=if jc x.qJ=0 then(if x.qJ=b then 7 else Da (some x.at_) x.qJ (l.drop (k+1)))else jc x.qJ:=fun _ _ o=>by rw[o,ze (by simp)]at a;exact a
  by_cases L:k=0
  ·subst L;have a:=step Y Z rfl;by_cases hs:jc x.qJ=0
   case neg=>rw[ze hs]at a;have u:=vX hs;simp[r,d,e,g,c,n,yz.V,p,m,u,a,f71]
   rw[zd hs]at a;by_cases s:x.qJ=b
   ·rw[zd s]at a;rw[kp s]at i;simp[r,d,e,g,c,n,yz.V,p,m,hs,i,a,f71]
   ·rw[ze s]at a;rw[kr s]at i;simp[r,d,e,g,c,n,yz.V,p,m,hs,i,K];exact⟨by omega,x.qJ,rfl,by rw[a,show lq l 1=some x.at_ from w];simp⟩
  ·obtain⟨j,rfl⟩:∃j,k=j+1:=⟨k-1,by omega⟩;have y:j<l.length:=by omega
   have z:i6.wrap ((j:Int)+1-1)=(j:Int):=by rw[wS (by omega) (by omega)];omega
   have t:=wq (j:Int);have M:=wq ((j:Int)+1+1);have A:((j:Int)+1).toNat=j+1:=by omega
   have B:0<(j:Int)+1:=by omega
   have C:0<=(j:Int)+1:=by omega
   have D:(j:Int)+1<l.length:=by omega
   have o:hC (lq l (j+1)) x.at_=decide (x.at_<=l[j].at_):=by simp[lq,y,hC]
   by_cases v:x.at_<=l[j].at_
   ·rw[o,zd (by simpa using v)]at a;simp[r,d,e,g,c,y,n,yz.V,p,z,t,A,B,C,D,v,a,f71]
   have a:=step Y Z (by rw[o];simpa using v);by_cases hs:jc x.qJ=0
   case neg=>rw[ze hs]at a;have u:=vX hs;simp[r,d,e,g,c,y,n,yz.V,p,z,t,A,B,C,D,v,m,u,a,f71]
   rw[zd hs]at a;by_cases s:x.qJ=b
   ·rw[zd s]at a;rw[kp s]at i;simp[r,d,e,g,c,y,n,yz.V,p,z,t,A,B,C,D,v,m,hs,i,a,f71]
   ·rw[ze s]at a;rw[kr s]at i;simp[r,d,e,g,c,y,n,yz.V,p,z,t,M,A,B,C,D,v,m,hs,i];exact⟨by omega,x.qJ,rfl,by rw[a,w]⟩
 ·obtain rfl:k=l.length:=by omega
  rw[zp]at a;simp only[Da]at a;simp[r,d,e,g,a,f71]
theorem eT:zg prog 71 (hP (FPh fun l=>int (yU l))):=
 vM zfi func71 false [] fun l a=>⟨by simp[f71],_,EM l a,z8 _⟩
def X8(l:List yz)(i:Nat):Int:=match l[i+1]? with
 |some p=>p.at_
 |none=>1125899906842624
noncomputable def FPi2 (f:List yz->Nat->O):zb->Option O:=qd (α:=List yz×Nat) (fun a=>[.sl 2 (a.1.map yz.V),int a.2]) (fun a=>a.1.length<=zA/\a.2<=zA) (fun a=>f a.1 a.2)
theorem uF(f:List yz->Nat->O)(l:List yz)(i:Nat)(Y:Hp)(Z:Nat)(h:l.length<=zA/\i<=zA):hP (FPi2 f) [.sl 2 (l.map yz.V),int i] Y Z=some (f l i,Y,Z):=
 QL (l,i) _ _ rfl (fun a b e=>by obtain⟨g,c⟩:=a;obtain⟨j,d⟩:=b;simp only[zj,zG]at e;have:=qR e.2;rw[EL e.1,show c=d by omega]) h (.inr rfl)
theorem N5:zg prog 122 (hP (FPi2 fun l i=>int (X8 l i))):=
 vM je func122 false [] fun⟨l,i⟩ ⟨d,e⟩=>by
  unfold zA at d e;simp only at d e;refine⟨by simp[f122],_,zn rfl ?_,z8 _⟩;have f:=qe i;by_cases b:i+1<l.length
  ·have a:(i:Int)+1<l.length:=by omega
   have g:((i:Int)+1).toNat=i+1:=by omega
   have h:0<=(i:Int)+1:=by omega
   simp[f,b,a,g,h,X8,yz.V,f122]
  ·have a:¬(i:Int)+1<l.length:=by omega
   have c:l[i+1]?=none:=jk (by omega);simp[f,a,X8,c,f122]
def va:List Sp->List Sp->Bool
 |a::l,b::m=>if a.2<=b.1 then va l (b::m)else if b.2<=a.1 then va (a::l) m else true
 |_,_=>false
termination_by a b=>a.length+b.length
theorem Is{a b:List Sp}{i k:Nat}(hi:i<a.length)(c:k<b.length):va (a.drop i) (b.drop k)=if a[i].2<=b[k].1 then va (a.drop (i+1)) (b.drop k)else if b[k].2<=a[i].1 then va (a.drop i) (b.drop (k+1))else true:=by rw[zc hi,zc c,va]
theorem lr(b:List Sp):va [] b=false:=by unfold va;rfl
theorem lu(a:List Sp):va a []=false:=by cases a<;>(unfold va;rfl)
theorem It(a b:List Sp)(n:a.length<=zA)(o:b.length<=zA):zv C0 f123 [.sl 2 (a.map jP),.sl 2 (b.map jP)]=some (wb (va a b)):=by
 unfold zA at n o;refine zn rfl ?_;simp;refine Jl (fun st=>st.σ 0=.sl 2 (a.map jP)/\st.σ 1=.sl 2 (b.map jP)/\∃i k:Nat,st.σ 5=int i/\st.σ 6=int k/\i<=a.length/\k<=b.length/\va a b=va (a.drop i) (b.drop k))
  (fun st=>a.length+b.length-(dS (st.σ 5)).toNat-(dS (st.σ 6)).toNat) ⟨by simp,by simp,0,0,by simp,by simp,by simp,by simp,by simp⟩ ?_
 rintro⟨σ,Y,Z⟩ ⟨f,g,i,k,h,j,hi,p,c⟩;simp only at f g h j;by_cases d:i<a.length
 ·by_cases e:k<b.length
  ·rw[Is d e]at c;have q:=qe i;have r:=qe k;by_cases l:a[i].2<=b[k].1
   ·rw[zd l]at c;simp[f,g,h,j,d,e,l,q];exact⟨⟨i+1,by omega,k,rfl,by omega,p,c⟩,by omega⟩
   ·rw[ze l]at c;by_cases m:b[k].2<=a[i].1
    ·rw[zd m]at c;simp[f,g,h,j,d,e,l,m,r];exact⟨⟨i,rfl,k+1,by omega,hi,by omega,c⟩,by omega⟩
    ·rw[ze m]at c;simp[f,g,h,j,d,e,l,m,c,f123]
  ·obtain rfl:k=b.length:=by omega
   rw[zp,lu]at c;simp[f,g,h,j,d,c,f123]
 ·obtain rfl:i=a.length:=by omega
  rw[zp,lr]at c;simp[f,g,h,j,c,f123]
theorem EN:zg prog 123 (hP (S7 (fun a b=>wb (va a b)) fun a b=>a.length<=zA/\b.length<=zA)):=
 vM je func123 false [] fun⟨a,b⟩ c=>⟨by simp[f123],_,It a b c.1 c.2,z8 _⟩
def uG(a b:List yz)(i k:Nat)(p q:yz)(rest:Int):Bool:=(decide (p.at_<=q.at_)&&decide (q.at_<X8 a i+rest))||(decide (q.at_<=p.at_)&&decide (p.at_<X8 b k+rest))
def EO(a b:List yz)(i k:Nat)(p q:yz)(rest:Int):Bool:=uG a b i k p q rest&&va p.qJ q.qJ
def Yz(a b:List yz)(i:Nat)(p:yz)(rest:Int):Nat->List yz->Bool
 |_,[]=>false
 |k,q::l=>EO a b i k p q rest||Yz a b i p rest (k+1) l
def YA(a b:List yz)(rest:Int):Nat->List yz->Bool
 |_,[]=>false
 |i,p::l=>Yz a b i p rest 0 b||YA a b rest (i+1) l
def Ks(a b:Xp)(rest:Int):Bool:=YA a.zF b.zF rest 0 a.zF
def VO(l:List yz):Prop:=∀p∈l,0<=p.at_/\p.at_<=4000000000
theorem uH{l:List yz}(h:VO l)(i:Nat):0<=X8 l i/\X8 l i<=1125899906842624:=by
 unfold X8;split
 ·rename_i p Y;have:=h p (zN Y);omega
 ·omega
def Xp.tt(x:Xp):Prop:=VO x.zF/\x.cb<=zA
noncomputable def Iu:zb->Option O:=qd (α:=Xp×Xp×Int) (fun a=>[.agg a.1.V,.agg a.2.1.V,int a.2.2]) (fun a=>a.1.tt/\a.2.1.tt/\0<=a.2.2/\a.2.2<=100000000) (fun a=>wb (Ks a.1 a.2.1 a.2.2))
theorem bb(Y:Hp)(x:Xp):qt Y (.agg x.V)=some (.agg x.V,Y):=by rw[qK];simp
theorem Tg(x:Xp):O.noOwn (.agg x.V)=true:=by rw[qK];simp
theorem EP(a b:Xp)(rest:Int)(Y:Hp)(Z:Nat)(h:a.tt/\b.tt/\0<=rest/\rest<=100000000):hP Iu [.agg a.V,.agg b.V,int rest] Y Z=some (wb (Ks a b rest),Y,Z):=
 QL (a,b,rest) _ _ (by simp only[zC,bb];rfl) (fun x y e=>by obtain⟨c,d,f⟩:=x;obtain⟨g,i,j⟩:=y;simp only[zj,zG,O.agg.injEq]at e;rw[cX e.1,cX e.2.1,qR e.2.2]) h (.inl rfl)
noncomputable abbrev Ccla:Ctx:=zV prog [(122,hP (FPi2 fun l i=>int (X8 l i))),(123,hP (S7 (fun a b=>wb (va a b)) fun a b=>a.length<=zA/\b.length<=zA))]
theorem zbs:AM.Good Ccla (fun g=>[122,123].contains g):=qC mixed ⟨N5,fun _=>zu _ _,EN,fun _=>zu _ _,trivial⟩
@[simp]theorem zgH:ki Ccla 122:=yL (by rfl) (zu _ _)
@[simp]theorem zgI:ki Ccla 123:=yL (by rfl) (zu _ _)
theorem ER{a b:List yz}{rest:Int}{i:Nat}{l:List yz}(h:i<l.length):YA a b rest i (l.drop i)=(Yz a b i l[i] rest 0 b||YA a b rest (i+1) (l.drop (i+1))):=by rw[zc h,YA]
theorem ES{a b:List yz}{rest:Int}{i k:Nat}{p:yz}{l:List yz}(h:k<l.length):Yz a b i p rest k (l.drop k)=(EO a b i k p l[k] rest||Yz a b i p rest (k+1) (l.drop (k+1))):=by rw[zc h,Yz]
theorem Iv(a b:Xp)(rest:Int)(X:a.tt)(hb:b.tt)(hr:0<=rest/\rest<=100000000):zv Ccla f74 [.agg a.V,.agg b.V,int rest]=some (wb (Ks a b rest)):=by
 obtain⟨A,I⟩:=X;obtain⟨B,J⟩:=hb;have hla:=qZ J4 a.zF;have hlb:=qZ J4 b.zF;have xca:a.cb=a.name.length+a.wH.length+a.flag.length+a.cond.cb+a.qp.length+a.yF.length+yn yz.cb a.zF:=rfl;have xcb:b.cb=b.name.length+b.wH.length+b.flag.length+b.cond.cb+b.qp.length+b.yF.length+yn yz.cb b.zF:=rfl;unfold zA at I J;refine zn rfl ?_;simp[qK];have C:Ks a b rest=YA a.zF b.zF rest 0 a.zF:=rfl;refine zL (fun i σ Y Z=>σ 2=int rest/\σ 3=.ref 0 0 0/\σ 4=.ref 1 0 0/\σ 13=.sl 2 (a.zF.map yz.V)/\σ 14=int a.zF.length/\σ 15=int i/\2<=Z/\Y 0=some ⟨57,13,false,[a.V]⟩/\Y 1=some ⟨57,13,false,[b.V]⟩/\Ks a b rest=YA a.zF b.zF rest i (a.zF.drop i)) a.zF.length
  ⟨by simp,by simp,by simp,by simp,by simp,by simp,by simp,by simp[qK],by simp[qK],by rw[C];simp⟩ ?_
 rintro i σ Y Z hi ⟨r,s,t,c,d,e,K,u,v,h⟩;by_cases n:i<a.zF.length
 ·obtain⟨p,o⟩:=wZ (a.zF[i]);have hpm:=A p (by rw[<-o];exact zi n);have hsp:=yD (f:=yz.cb) (show p∈a.zF by rw[<-o];exact zi n);have hpc:p.cb=1+p.qJ.length:=rfl;rw[ER n,o]at h;have L:=qe i;have D:¬0=Z:=by omega
  have n1:¬1=Z:=by omega
  simp[r,s,t,c,d,e,n,o,yz.V,u,v,D,n1,qK];obtain⟨P,hP⟩:=wZ Z;rw[hP];have hea:=uH A i;refine zL (fun k σ Y Z=>σ 2=int rest/\σ 3=.ref 0 0 0/\σ 4=.ref 1 0 0/\σ 13=.sl 2 (a.zF.map yz.V)/\σ 14=int a.zF.length/\σ 15=int i/\σ 7=int i/\σ 8=.ref P 0 0/\σ 21=.sl 2 (b.zF.map yz.V)/\σ 22=int b.zF.length/\σ 23=int k/\2<=P/\P<Z /\
    Y 0=some ⟨57,13,false,[a.V]⟩/\Y 1=some ⟨57,13,false,[b.V]⟩/\Y P=some ⟨63,2,false,[p.V]⟩/\Ks a b rest=(Yz a.zF b.zF i p rest k (b.zF.drop k)||YA a.zF b.zF rest (i+1) (a.zF.drop (i+1)))) b.zF.length
   ⟨by simp[r],by simp[s],by simp[t],by simp[c],by simp[d],by simp[e],by simp,by simp,by simp,by simp,by simp,by omega,(by show P<P+1;omega),by simp[u,show¬0=P by omega],by simp[v,show¬1=P by omega],by simp[yz.V],by simpa using h⟩ ?_
  clear r s t c d e K u v D n1 hP hi σ Y Z;rintro k σ Y Z hk ⟨r,s,t,c,d,e,R,S,x,y,z,M,cB,u,v,N,h⟩;by_cases g:k<b.zF.length
  ·obtain⟨q,j⟩:=wZ (b.zF[k]);have hqm:=B q (by rw[<-j];exact zi g);have hsq:=yD (f:=yz.cb) (show q∈b.zF by rw[<-j];exact zi g);have hqc:q.cb=1+q.qJ.length:=rfl;rw[ES g,j]at h;have Q:=qe k;have heb:=uH B k;have T:=wq (X8 a.zF i+rest);have U:=wq (X8 b.zF k+rest);have E:=fun Y Z=>uF (fun l i=>int (X8 l i)) a.zF i Y Z ⟨by unfold zA;omega,by unfold zA;omega⟩
   have F:=fun Y Z=>uF (fun l i=>int (X8 l i)) b.zF k Y Z ⟨by unfold zA;omega,by unfold zA;omega⟩
   have G:=fun Y Z=>pq (fun a b=>wb (va a b)) (fun a b=>a.length<=zA/\b.length<=zA) p.qJ q.qJ Y Z ⟨by unfold zA;omega,by unfold zA;omega⟩
   have D:¬0=Z:=by omega
   have n1:¬1=Z:=by omega
   have W:¬P=Z:=by omega
   have m:((decide (p.at_<=q.at_)&&decide (q.at_<X8 a.zF i+rest))||(decide (q.at_<=p.at_)&&decide (p.at_<X8 b.zF k+rest)))=uG a.zF b.zF i k p q rest:=rfl;have w:(uG a.zF b.zF i k p q rest&&va p.qJ q.qJ)=EO a.zF b.zF i k p q rest:=rfl;rw[yz.V]at N;rw[qK]at u v;cases H:EO a.zF b.zF i k p q rest
   ·rw[H]at h;simp[r,s,t,R,S,c,d,e,x,y,z,g,j,yz.V,u,v,N,D,n1,W,E,F,G,T,U,m,w,H,Q];exact⟨by omega,M,by omega,(qK a).symm,(qK b).symm,by rw[h];rfl⟩
   ·rw[H]at h;simp[r,s,t,R,S,c,d,e,x,y,z,g,j,yz.V,u,v,N,D,n1,W,E,F,G,T,U,m,w,H,h,f74]
  ·obtain rfl:k=b.zF.length:=by omega
   rw[zp]at h;simp only[Yz,yN]at h;simp[r,s,t,c,d,e,x,y,z,L];exact⟨by omega,by omega,by rw[<-qK];exact u,by rw[<-qK];exact v,h⟩
 ·obtain rfl:i=a.zF.length:=by omega
  rw[zp]at h;simp only[YA]at h;simp[r,s,t,c,d,e,h,f74]
theorem ET:zg prog 74 (hP Iu):=
 vM zbs func74 false [] fun⟨a,b,rest⟩ ⟨c,d,e⟩=>⟨by simp[f74],_,Iv a b rest c d e,z8 _⟩
end Go.Q
namespace Go.AM
section
variable(C:Ctx)(ρ:Operand->Option O)(Y:Hp)(Z:Nat)
@[simp]theorem zgJ(t:TypeId)(x i:Operand)(a:Bool):qb C ρ Y Z (.lookup t x i a)=(do let p <-ρ x;let q <-ρ i;let r <-JM C.P Y t p q a;some (r,Y,Z)):=by simp only[qb];cases ρ x<;>cases ρ i<;>(try rfl);simp;cases JM C.P Y t _ _ a<;>rfl
@[simp]theorem zbt(t:TypeId)(m k x:Operand):qb C ρ Y Z (.mapUpdate t m k x)=(do let p <-ρ m;let q <-ρ k;let y <-ρ x;let h <-JN C.P Y t p q y;some (.w5 [],h,Z)):=by simp only[qb];cases ρ m<;>cases ρ k<;>cases ρ x<;>(try rfl);simp;cases JN C.P Y t _ _ _<;>rfl
@[simp]theorem zfj(t:TypeId):qb C ρ Y Z (.makeMap t none)=(do let _ <-dJ C.P t;some (.mp Z,qq Y Z (some ⟨t,0,false,[]⟩),Z+1)):=by simp only[qb];cases dJ C.P t<;>rfl
end
end Go.AM
namespace Go.Q
@[simp]theorem zij(σ:Nat->O):AM.get σ (.const (.pointer none))=some (.v (.pointer none)):=rfl
def pA(l:List za):List zb:=l.map fun s=>[str s,wb true]
def xk(l:List za):Blk:=⟨74,0,false,pA l⟩
theorem hU(s:za):∀(l:List za) (i:Nat),(s ∉ l->KB (.string ⟨s.toArray⟩) (pA l) i=some none)/\(s∈l->∃j,KB (.string ⟨s.toArray⟩) (pA l) i=some (some (j,wb true)))
 |[],i=>⟨fun _=>rfl,fun h=>by simp at h⟩
 |x::l,i=>by
  obtain⟨c,d⟩:=hU s l (i+1);by_cases a:s=x
  ·refine⟨fun h=>absurd (by simp[a]) h,fun _=>⟨i,?_⟩⟩;subst a;simp[pA,KB,YN]
  ·have f:YN (.string ⟨s.toArray⟩) (.string ⟨x.toArray⟩)=some false:=by simp only[YN];congr 1;rw[qQ];intro e;exact a (by simpa[MF]using e)
   have b:KB (.string ⟨s.toArray⟩) (pA (x::l)) i=KB (.string ⟨s.toArray⟩) (pA l) (i+1):=by simp only[pA,z6,KB,f]
   refine⟨fun h=>by rw[b];exact c fun g=>h (List.mem_cons_of_mem _ g),fun h=>?_⟩;rcases zw.1 h with h|h
   ·exact absurd h a
   ·rw[b];exact d h
@[simp]theorem zgK:dJ prog 74=some (none,4):=by kernel_rfl
@[simp]theorem zfk:dK prog 4=some (wb false):=by kernel_rfl
theorem EU{Y:Hp}{id:Nat}{l:List za}(s:za)(h:Y id=some (xk l)):JM prog Y 74 (.mp id) (str s) false=some (wb (decide (s∈l))):=by
 obtain⟨b,c⟩:=hU s l 0;by_cases a:s∈l
 ·obtain⟨j,d⟩:=c a;simp[JM,Dg,h,xk,iH,d,a]
 ·simp[JM,Dg,h,xk,iH,b a,a]
theorem L8{Y:Hp}{id:Nat}{l:List za}(s:za)(h:Y id=some (xk l))(hs:s ∉ l):JN prog Y 74 (.mp id) (str s) (wb true)=some (qq Y id (some (xk (l++[s])))):=by obtain⟨a,b⟩:=hU s l 0;simp[JN,h,xk,iH,a hs];simp[pA]
def Qs(b:Bk)(m g:Nat)(a:Bool):Blk:=⟨76,6,false,[b.V++[.mp m,.mp g,wb a]]⟩
theorem vd(b:Bk)(m g:Nat)(a:Bool):Qs b m g a=⟨76,6,false,[[.sl 3 (b.zf.map w9.V),.sl 4 (b.holds.map vi.V),.sl 13 (b.zU.map Xp.V),.mp m,.mp g,wb a]]⟩:=rfl
def jg(l:List za)(s:za):Int:=if Yf s=true then(if s∈l then 7 else 0)else 3
def vk(l:List za)(s:za):List za:=if jg l s=0 then l++[s]else l
noncomputable abbrev Iw:Ctx:=zV prog [(112,hP (FS Yf))]
theorem zbu:Gd Iw:=zW mixed ⟨BL,trivial⟩
theorem VP:zg prog 66 (wD Iw f66):=kL zbu func66
theorem eU(b:Bk)(l:List za)(s:za)(hs:s.length<=zA)(i:Bool)(Y:Hp)(Z id m g:Nat)(j:Y id=some (Qs b m g i))(f:Y m=some (xk l)) :
  wD Iw f66 [.ref id 0 0,str s] Y Z=some (int (jg l s),qq Y m (some (xk (vk l s))),Z):=by
 unfold wD;rw[zd (by simp[f66])];refine jf rfl ?_;rw[vd]at j;have h:=EU s f;cases c:Yf s
 ·have a:jg l s=3:=by simp[jg,c]
  have d:qq Y m (some (xk (vk l s)))=Y:=RG _ _ _ (by rw[vk,a];exact f);simp[hs,c,a,d,f66]
 ·by_cases e:s∈l
  ·have a:jg l s=7:=by simp[jg,c,e]
   have d:qq Y m (some (xk (vk l s)))=Y:=RG _ _ _ (by rw[vk,a];exact f);rw[kp e]at h;simp[hs,c,a,d,j,h,f66]
  ·have a:jg l s=0:=by simp[jg,c,e]
   have d:vk l s=l++[s]:=by rw[vk,a];rfl
   have Y:=L8 s f e;rw[kr e]at h;simp[hs,c,a,d,j,h,Y,f66]
def vB(r:O)(l:List za)(m:Nat)(Y:Hp)(Z:Nat)(x:O)(Y':Hp)(Z':Nat):Prop:=x=r/\Z<=Z'/\Y' m=some (xk l)/\∀j,j<Z->j≠m->Y' j=Y j
def wz:za->List za->List w9->Int×List za
 |_,l,[]=>(0,l)
 |before,l,x::xs=>if jS x.name before=0 then(if jg l x.qp=0 then(if jG x.rest 0 100000000=true then wz x.name (vk l x.qp) xs else(1,vk l x.qp))else(jg l x.qp,vk l x.qp))else(jS x.name before,l)
noncomputable abbrev Th:Ctx:=zV prog [(65,hP (N1 fun a b=>int (jS a b))),(66,wD Iw f66),(67,hP (F3 jG))]
theorem zbv:Gd Th:=zW mixed ⟨Qg,VP,Z7,trivial⟩
theorem eV:zg prog 33 (wD Th f33):=kL zbv func33
theorem pB(b:Bk)(l:List za)(R:b.cb<=zA)(t:Bool)(y:Hp)(Z0 id m g:Nat)(hid:id<Z0)(S:m<Z0)(E:id≠m)(z:y id=some (Qs b m g t))(F:y m=some (xk l)) :
  ∃x Y' Z',wD Th f33 [.ref id 0 0] y Z0=some (x,Y',Z')/\vB (int (wz [] l b.zf).1) (wz [] l b.zf).2 m y Z0 x Y' Z':=by
 unfold wD;rw[zd (by simp[f33])];refine qF rfl ?_;have N:=qZ vR b.zf;have T:b.cb=yn w9.cb b.zf+yn vi.cb b.holds+yn Xp.cb b.zU:=rfl;unfold zA at R;have P:=z;rw[vd]at P;simp[P];refine zL (fun k σ Y Z=>σ 0=.ref id 0 0/\σ 12=.sl 3 (b.zf.map w9.V)/\σ 13=int b.zf.length/\σ 14=int k/\Z0<=Z/\(∀j,j<Z0->j≠m->Y j=y j)/\∃(c:za) (l':List za),σ 3=str c/\Y m=some (xk l')/\wz [] l b.zf=wz c l' (b.zf.drop k)) b.zf.length
  ⟨by simp,by simp,by simp,by simp,zl _,fun _ _ _=>rfl,[],l,by simp,F,by simp⟩ ?_
 rintro k σ Y Z hk ⟨A,n,o,p,G,h,c,l',C,H,e⟩;by_cases i:k<b.zf.length
 ·obtain⟨x,v⟩:=wZ (b.zf[k]);have I:=yD (f:=w9.cb) (zi i);rw[v]at I;have U:x.cb=1+x.name.length+x.qp.length:=rfl;rw[zc i,v]at e;simp only[wz]at e;have W:=qe k;have q:=fun Y Z=>aY (fun a b=>int (jS a b)) x.name c Y Z (by unfold zA;omega) (by simp)
  have Q:¬m=Z:=by omega
  have X:¬id=Z:=by omega
  have J:qq Y Z (some ⟨47,3,false,[x.V]⟩) id=some (Qs b m g t):=by rw[zz _ _ _ _ X,h id hid E];exact z
  have K:qq Y Z (some ⟨47,3,false,[x.V]⟩) m=some (xk l'):=by rw[zz _ _ _ _ Q];exact H
  have r:=eU b l' x.qp (by unfold zA;omega) t _ (Z+1) id m g J K;simp only[w9.V]at r;have s:¬Z=m:=by omega
  by_cases w:jS x.name c=0
  case neg=>rw[ze w]at e;have L:=vX w;simp[A,C,n,o,p,i,v,w9.V,q,L,f33,vB,e];exact⟨by omega,by rw[zz _ _ _ _ Q];exact H,fun j u d=>by rw[zz _ _ _ _ (by omega)];exact h j u d⟩
  rw[zd w]at e;by_cases B:jg l' x.qp=0
  case neg=>rw[ze B]at e;have M:=vX B;simp[A,C,n,o,p,i,v,w9.V,q,w,r,M,f33,vB,e];exact⟨by omega,fun j u d=>by rw[zz _ _ _ _ d,zz _ _ _ _ (by omega)];exact h j u d⟩
  rw[zd B]at e;cases D:jG x.rest 0 100000000
  ·rw[D,ze (by simp)]at e;simp[A,C,n,o,p,i,v,w9.V,q,w,r,B,D,s,f33,vB,e];exact⟨by omega,fun j u d=>by rw[zz _ _ _ _ d,zz _ _ _ _ (by omega)];exact h j u d⟩
  ·rw[D,zd rfl]at e;simp[A,C,n,o,p,i,v,w9.V,q,w,r,B,D,s,W];exact⟨by omega,by omega,fun j u d=>by rw[zz _ _ _ _ d,zz _ _ _ _ (by omega)];exact h j u d,vk l' x.qp,rfl,e⟩
 ·obtain rfl:k=b.zf.length:=by omega
  rw[zp]at e;simp only[wz]at e;simp[A,n,o,p,f33,vB,e];exact⟨G,H,h⟩
def leP(p:Option za)(s:za):Bool:=match p with
 |none=>false
 |some q=>Xh s q
noncomputable def Zd (L:List w9):Option za->List za->Int
 |_,[]=>0
 |p,s::l=>if(ZF (L.map w9.name) s).2=true then(if leP p s=true then 8 else Zd L (some s) l)else 9
noncomputable def cc (L:List w9) (x:vi):Int:=if jG x.buckets 1 100000=true then(if x.zf.length=0 then 9 else Zd L none x.zf)else 1
noncomputable def yq (L:List w9):za->List za->List vi->Int×List za
 |_,l,[]=>(0,l)
 |before,l,x::xs=>if jS x.name before=0 then(if jg l x.qp=0 then(if cc L x=0 then yq L x.name (vk l x.qp) xs else(cc L x,vk l x.qp))else(jg l x.qp,vk l x.qp))else(jS x.name before,l)
def Qz(l:List za)(k:Nat):Option za:=if k=0 then none else l[k-1]?
noncomputable abbrev Ti:Ctx:=zV prog [(65,hP (N1 fun a b=>int (jS a b))),(66,wD Iw f66),(67,hP (F3 jG)),(68,hP N4)]
theorem zbw:Gd Ti:=zW mixed ⟨Qg,VP,Z7,ba,trivial⟩
theorem lv:zg prog 34 (wD Ti f34):=kL zbw func34
theorem uI(b:Bk)(l:List za)(hb:b.cb<=zA)(I:Bool)(Q:Hp)(Z0 id m g:Nat)(hid:id<Z0)(hmd:m<Z0)(W:id≠m)(L:Q id=some (Qs b m g I))(hm0:Q m=some (xk l)) :
  ∃x Y' Z',wD Ti f34 [.ref id 0 0] Q Z0=some (x,Y',Z')/\vB (int (yq b.zf [] l b.holds).1) (yq b.zf [] l b.holds).2 m Q Z0 x Y' Z':=by
 unfold wD;rw[zd (by simp[f34])];refine qF rfl ?_;have hlen:=qZ Q1 b.holds;have hleL:=qZ vR b.zf;have hbc:b.cb=yn w9.cb b.zf+yn vi.cb b.holds+yn Xp.cb b.zU:=rfl;unfold zA at hb;have hc:=L;rw[vd]at hc;simp[hc];refine zL (fun k σ Y Z=>σ 0=.ref id 0 0/\σ 16=.sl 4 (b.holds.map vi.V)/\σ 17=int b.holds.length/\σ 18=int k/\Z0<=Z/\(∀j,j<Z0->j≠m->Y j=Q j)/\∃(d:za) (l':List za),σ 3=str d/\Y m=some (xk l')/\yq b.zf [] l b.holds=yq b.zf d l' (b.holds.drop k)) b.holds.length
  ⟨by simp,by simp,by simp,by simp,zl _,fun _ _ _=>rfl,[],l,by simp,hm0,by simp⟩ ?_
 rintro k σ Y Z hk ⟨y,e,n,o,X,c,d,l',R,H,r⟩;by_cases v:k<b.holds.length
 ·obtain⟨x,M⟩:=wZ (b.holds[k]);have hmx:=yD (f:=vi.cb) (zi v);rw[M]at hmx;have hxc:x.cb=1+x.name.length+x.qp.length+yn (fun s=>1+s.length) x.zf:=rfl;have PO:=qZ (f:=fun s:List UInt8=>1+s.length) (fun _=>by omega) x.zf;rw[zc v,M]at r;simp only[yq]at r;have hw:=qe k;have B:=fun Y Z=>aY (fun a b=>int (jS a b)) x.name d Y Z (by unfold zA;omega) (by simp)
  have nm:¬m=Z:=by omega
  have ni:¬id=Z:=by omega
  have t:qq Y Z (some ⟨49,4,false,[x.V]⟩) id=some (Qs b m g I):=by rw[zz _ _ _ _ ni,c id hid W];exact L
  have hmi:qq Y Z (some ⟨49,4,false,[x.V]⟩) m=some (xk l'):=by rw[zz _ _ _ _ nm];exact H
  have C:=eU b l' x.qp (by unfold zA;omega) I _ (Z+1) id m g t hmi;simp only[vi.V]at C;have z:¬Z=m:=by omega
  by_cases N:jS x.name d=0
  case neg=>rw[ze N]at r;have Pw:=vX N;simp[y,R,e,n,o,v,M,vi.V,B,Pw,f34,vB,r];exact⟨by omega,by rw[zz _ _ _ _ nm];exact H,fun j A p=>by rw[zz _ _ _ _ (by omega)];exact c j A p⟩
  rw[zd N]at r;by_cases S:jg l' x.qp=0
  case neg=>rw[ze S]at r;have c2':=vX S;simp[y,R,e,n,o,v,M,vi.V,B,N,C,c2',f34,vB,r];exact⟨by omega,fun j A p=>by rw[zz _ _ _ _ p,zz _ _ _ _ (by omega)];exact c j A p⟩
  rw[zd S]at r;cases T:jG x.buckets 1 100000
  ·have hf:cc b.zf x=1:=by unfold cc;rw[T,ze (by simp)]
   rw[hf,ze (by decide)]at r;simp[y,R,e,n,o,v,M,vi.V,B,N,C,S,T,z,f34,vB,r];exact⟨by omega,fun j A p=>by rw[zz _ _ _ _ p,zz _ _ _ _ (by omega)];exact c j A p⟩
  by_cases c4:x.zf.length=0
  ·have hf:cc b.zf x=9:=by unfold cc;rw[T,zd rfl,zd c4]
   rw[hf,ze (by decide)]at r;have u:(zy x.zf).length=0:=by simpa[zy]using c4
   simp[y,R,e,n,o,v,M,vi.V,u,B,N,C,S,T,z,f34,vB,r];exact⟨by omega,fun j A p=>by rw[zz _ _ _ _ p,zz _ _ _ _ (by omega)];exact c j A p⟩
  have hf:cc b.zf x=Zd b.zf none x.zf:=by unfold cc;rw[T,zd rfl,ze c4]
  rw[hf]at r;have c4':((x.zf.length:Int)==0)=false:=by rw[qQ];omega
  have u:(zy x.zf).length=x.zf.length:=by simp[zy]
  simp[y,R,e,n,o,v,M,vi.V,u,B,N,C,S,T,c4',z];obtain⟨P,hP⟩:=wZ Z;rw[hP];refine zL (fun i σ Y Z=>σ 0=.ref id 0 0/\σ 16=.sl 4 (b.holds.map vi.V)/\σ 17=int b.holds.length/\σ 18=int k/\σ 5=.ref P 0 0/\σ 47=.sl 1 (zy x.zf)/\σ 48=int x.zf.length/\σ 49=int i/\Z0<=P/\P<Z/\Y P=some ⟨49,4,false,[x.V]⟩/\(∀j,j<Z0->j≠m->Y j=Q j)/\Y m=some (xk (vk l' x.qp))/\Zd b.zf none x.zf=Zd b.zf (Qz x.zf i) (x.zf.drop i)) x.zf.length
   ⟨by simp[y],by simp[e],by simp[n],by simp[o],by simp,by simp,by simp,by simp,by omega,(by show P<P+1;omega),by simp[vi.V,show¬P=m by omega],fun j A p=>by simp only;rw[zz _ _ _ _ p,zz _ _ _ _ (by omega)];exact c j A p,by simp,by simp[Qz]⟩ ?_
  clear y R e n o X c H C t hmi B nm ni z hP σ Y Z;rintro i σ Y Z hi ⟨y,e,n,o,h5,E,F,G,hP,cB,D,c,H,w⟩;have t:Y id=some (Qs b m g I):=by rw[c id hid W];exact L
  rw[vd]at t;by_cases q:i<x.zf.length
  ·obtain⟨s,hs⟩:=wZ (x.zf[i]);have hms:=yD (f:=fun s:List UInt8=>1+s.length) (zi q);rw[hs]at hms;have hpn:Qz x.zf (i+1)=some s:=by simp[Qz,q,hs]
   rw[zc q,hs]at w;simp only[Zd]at w;have J:∀h:i<(zy x.zf).length,(zy x.zf)[i]=[str s]:=fun h=>by simp[zy,hs]
   have K:=fun Y Z=>a8 b.zf s Y Z (by unfold zA;omega)
   have hwi:=qe i;have u:i<(zy x.zf).length:=by simp[zy,q]
   cases U:(ZF (b.zf.map w9.name) s).2
   ·rw[U,ze (by simp)]at w;rw[w,ze (by decide)]at r;simp[y,h5,e,n,o,E,F,G,q,u,J,t,K,U,r,f34,vB];exact⟨by omega,H,c⟩
   rw[U,zd rfl]at w;by_cases k0:i=0
   ·subst k0;rw[show leP (Qz x.zf 0) s=false from rfl,ze (by simp)]at w;simp[y,h5,e,n,o,E,F,G,q,u,J,t,K,U,hwi];exact⟨by omega,hP,cB,D,c,H,by rw[w,show Qz x.zf 1=some s from hpn];simp⟩
   ·obtain⟨j,rfl⟩:∃j,i=j+1:=⟨i-1,by omega⟩;have A:j<x.zf.length:=by omega
    have hej:j<(zy x.zf).length:=by simp[zy,A]
    have hkj:∀h:j<(zy x.zf).length,(zy x.zf)[j]=[str x.zf[j]]:=fun h=>by simp[zy]
    have wj:i6.wrap ((j:Int)+1-1)=(j:Int):=by rw[wS (by omega) (by omega)];omega
    have wj':=wq (j:Int);have wk:=wq ((j:Int)+1+1);have j1:((j:Int)+1).toNat=j+1:=by omega
    have j2:0<(j:Int)+1:=by omega
    have j3:0<=(j:Int)+1:=by omega
    have j4:(j:Int)+1<x.zf.length:=by omega
    have hlp:leP (Qz x.zf (j+1)) s=Xh s x.zf[j]:=by simp[Qz,A,leP]
    rw[hlp]at w;have hle:(Op.bytesLess s x.zf[j]||s==x.zf[j])=Xh s x.zf[j]:=rfl;rw[vi.V]at D;cases d2:Xh s x.zf[j]
    ·rw[d2,ze (by simp)]at w;simp[y,h5,e,n,o,E,F,G,q,u,J,t,K,U,wj,wj',wk,j1,j2,j3,j4,D,hej,hkj,hle,d2,A];exact⟨by omega,hP,cB,rfl,c,H,by rw[w,hpn]⟩
    ·rw[d2,zd rfl]at w;rw[w,ze (by decide)]at r;simp[y,h5,e,n,o,E,F,G,q,u,J,t,K,U,wj,wj',wk,j1,j2,j3,j4,D,hej,hkj,hle,d2,A,r,f34,vB];exact⟨by omega,H,c⟩
  ·obtain rfl:i=x.zf.length:=by omega
   rw[zp]at w;simp only[Zd]at w;rw[w,zd rfl]at r;have hnP:¬P=m:=by omega
   rw[vi.V]at D;simp[y,h5,e,n,o,E,F,G,D,hw];exact⟨by omega,by omega,c,_,H,r⟩
 ·obtain rfl:k=b.holds.length:=by omega
  rw[zp]at r;simp only[yq]at r;simp[y,e,n,o,f34,vB,r];exact⟨X,H,c⟩
noncomputable abbrev Cnam:Ctx:=zV prog []
theorem zbx:AM.Good Cnam (fun g=>[115].contains g):=qC mixed trivial
theorem EV:zg prog 69 (wD Cnam f69):=kL zbx func69
theorem N6(b:Bk)(c:qO)(Y:Hp)(Z id m g:Nat)(hid:id<Z)(a:Y id=some (Qs b m g true)) :
  ∃Y',wD Cnam f69 [.ref id 0 0,.agg c.V] Y Z=some (wb true,Y',Z+2)/\∀j,j<Z->Y' j=Y j:=by
 unfold wD;rw[zd (by simp[f69])];refine⟨qq (qq Y Z (some ⟨70,1,false,[[.ref id 0 0]]⟩)) (Z+1) (some ⟨53,7,false,[c.V]⟩),?_,fun j e=>by rw[zz _ _ _ _ (by omega),zz _ _ _ _ (by omega)]⟩;refine jf rfl ?_;rw[vd]at a;have n1:¬id=Z:=by omega
 have d:¬id=Z+1:=by omega
 simp[we,a,n1,d,f69]
noncomputable def ZU (L:List w9) (a:za) (l:List za) (x:Xp):Int×List za:=
 if jS x.name a=0 then(if(ZF (L.map w9.name) x.wH).2=true then(if wy x.flag=true then(if x.cond.check=0 then(if jg l x.qp=0 then(if jn x.yF 20=0 then(yU x.zF,vk l x.qp)else(jn x.yF 20,vk l x.qp))else(jg l x.qp,vk l x.qp))else(x.cond.check,l))else(5,l))else(9,l))else(jS x.name a,l)
noncomputable abbrev Cexp:Ctx:=zV prog [(65,hP (N1 fun a b=>int (jS a b))),(68,hP N4),(29,hP (FS wy)),(26,GC fun c=>int c.check),(69,wD Cnam f69),(66,wD Iw f66),(70,hP (FRN (fun l n=>int (jn l n)) fun _ n=>1<=n/\n<=20)),(71,hP (FPh fun l=>int (yU l)))]
theorem zby:AM.Good Cexp (fun g=>[68].contains g):=qC mixed ⟨Qg,by simp,ba,fun _=>zu _ _,ZJ,by simp,YY,by simp,EV,by simp,VP,by simp,J3,by simp,eT,by simp,trivial⟩
theorem hV:zg prog 35 (wD Cexp f35):=kL zby func35
theorem pC(b:Bk)(l:List za)(d:za)(x:Xp)(W:b.cb<=zA)(K:x.cb<=zA)(F:Hp)(Z0 id m g:Nat)(hid:id<Z0)(X:m<Z0)(hne:id≠m)(B:F id=some (Qs b m g true))(p:F m=some (xk l)) :
  ∃T Y' Z',wD Cexp f35 [.ref id 0 0,.agg x.V,str d] F Z0=some (T,Y',Z')/\vB (int (ZU b.zf d l x).1) (ZU b.zf d l x).2 m F Z0 T Y' Z':=by
 unfold wD;rw[zd (by simp[f35])];refine qF rfl ?_;have U:=qZ vR b.zf;have hbc:b.cb=yn w9.cb b.zf+yn vi.cb b.holds+yn Xp.cb b.zU:=rfl;have hxc:x.cb=x.name.length+x.wH.length+x.flag.length+x.cond.cb+x.qp.length+x.yF.length+yn yz.cb x.zF:=rfl;unfold zA at W K;have H:¬m=Z0:=by omega
 have y:¬id=Z0:=by omega
 have f:=fun Y Z=>aY (fun a b=>int (jS a b)) x.name d Y Z (by unfold zA;omega) (by simp)
 have i:=fun Y Z=>a8 b.zf x.wH Y Z (by unfold zA;omega)
 have q:x.flag.length<=zA:=by unfold zA;omega
 have r:=fun Y Z=>vx (fun c=>int c.check) x.cond Y Z (by unfold zA;omega)
 have I:=fun Y Z=>eP (fun l n=>int (jn l n)) (fun _ n=>1<=n/\n<=20) x.yF 20 Y Z ⟨by omega,by omega⟩
 have L:=fun Y Z=>eS (fun l=>int (yU l)) x.zF Y Z (by unfold zA;omega)
 obtain⟨Y1,s,v⟩:=N6 b x.cond (qq F Z0 (some ⟨57,13,false,[x.V]⟩)) (Z0+1) id m g (by omega) (by rw[zz _ _ _ _ y];exact B);have M:Y1 id=some (Qs b m g true):=by rw[v id (by omega),zz _ _ _ _ y];exact B
 have N:Y1 m=some (xk l):=by rw[v m (by omega),zz _ _ _ _ H];exact p
 have w:Y1 Z0=some ⟨57,13,false,[x.V]⟩:=by rw[v Z0 (by omega)];simp
 have C:∀j,j<Z0->Y1 j=F j:=fun j t=>by rw[v j (by omega),zz _ _ _ _ (by omega)]
 have D:=eU b l x.qp (by unfold zA;omega) true Y1 (Z0+1+2) id m g M N;have z:¬Z0=m:=by omega
 have E:=B;rw[vd]at E;rw[qK]at s w;rw[we]at s;simp only[we]at r;rw[qK];by_cases h:jS x.name d=0
 case neg=>
  have k:ZU b.zf d l x=(jS x.name d,l):=by unfold ZU;rw[ze h]
  have P:=vX h;simp[f,P,k,f35,vB];exact⟨by rw[zz _ _ _ _ H];exact p,fun j t e=>by rw[zz _ _ _ _ (by omega)]⟩
 cases o:(ZF (b.zf.map w9.name) x.wH).2
 ·have k:ZU b.zf d l x=(9,l):=by unfold ZU;rw[zd h,o,ze (by simp)]
  simp[f,h,y,E,i,o,k,f35,vB];exact⟨by rw[zz _ _ _ _ H];exact p,fun j t e=>by rw[zz _ _ _ _ (by omega)]⟩
 cases u:wy x.flag
 ·have k:ZU b.zf d l x=(5,l):=by unfold ZU;rw[zd h,o,zd rfl,u,ze (by simp)]
  simp[f,h,y,E,i,o,q,u,k,f35,vB];exact⟨by rw[zz _ _ _ _ H];exact p,fun j t e=>by rw[zz _ _ _ _ (by omega)]⟩
 by_cases A:x.cond.check=0
 case neg=>
  have k:ZU b.zf d l x=(x.cond.check,l):=by unfold ZU;rw[zd h,o,zd rfl,u,zd rfl,ze A]
  have Q:=vX A;simp[f,h,y,E,i,o,q,u,r,Q,k,f35,vB];exact⟨by rw[zz _ _ _ _ H];exact p,fun j t e=>by rw[zz _ _ _ _ (by omega)]⟩
 by_cases G:jg l x.qp=0
 case neg=>
  have k:ZU b.zf d l x=(jg l x.qp,vk l x.qp):=by unfold ZU;rw[zd h,o,zd rfl,u,zd rfl,zd A,ze G]
  have R:=vX G;simp[f,h,y,E,i,o,q,u,r,A,s,w,D,R,k,f35,vB];exact⟨by omega,fun j t e=>by rw[zz _ _ _ _ e];exact C j t⟩
 by_cases J:jn x.yF 20=0
 case neg=>
  have k:ZU b.zf d l x=(jn x.yF 20,vk l x.qp):=by unfold ZU;rw[zd h,o,zd rfl,u,zd rfl,zd A,zd G,ze J]
  have S:=vX J;simp[f,h,y,E,i,o,q,u,r,A,s,w,z,D,G,I,S,k,f35,vB];exact⟨by omega,fun j t e=>by rw[zz _ _ _ _ e];exact C j t⟩
 ·have k:ZU b.zf d l x=(yU x.zF,vk l x.qp):=by unfold ZU;rw[zd h,o,zd rfl,u,zd rfl,zd A,zd G,zd J]
  simp[f,h,y,E,i,o,q,u,r,A,s,w,z,D,G,I,J,L,k,f35,vB];exact⟨by omega,fun j t e=>by rw[zz _ _ _ _ e];exact C j t⟩
end Go.Q
