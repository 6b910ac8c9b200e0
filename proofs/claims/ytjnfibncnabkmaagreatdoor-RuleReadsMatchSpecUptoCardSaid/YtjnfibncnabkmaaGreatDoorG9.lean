/- Lemmas. -/
import Derived.WalkKit
import Derived.Lib.TrimByte
import Derived.Shelf.SlSortCmp.WholeK
import Derived.Shelf.SlSortCmp.NoneTotal
import Derived.Test.YtjnfibncnabkmaaGreatDoorProg
import Derived.Lib.Replace
import Derived.Lib.CountLaws
import Derived.Lib.ItoaNum
import Derived.Lib.Repeat
import Derived.Lib.Join
import Derived.Maps.RangeRun
import Derived.Shelf.Strings.OnBuilder
import Derived.Shelf.Strings.Replace
import Derived.Shelf.Strings.Repeat
import Derived.Shelf.Strings.Trim
import Derived.Shelf.Strconv.Itoa3
import Derived.Shelf.Small.Wraps
import Derived.Ground.Names2Prog
import Derived.Test.YtjnfibncnabkmaaGreatDoorG8
set_option maxRecDepth 100000
set_option maxHeartbeats 4000000
open Go Proofs Proofs.YtjnfibncnabkmaaGreatDoor Proofs.Tryz RowKit AM SpanLaw Q Zz
namespace Go.AM
def bS(P:Program)(l:Je)(g:FuncId)(it:Qf):Ctx:=⟨P,lookup l,fun _=>[],fun _=>[],fun _=>false,fun _=>[],fun k=>if k=g then some it else none⟩
@[simp]theorem zgL(P:Program)(l:Je)(g:FuncId)(it:Qf):(bS P l g it).P=P:=rfl
@[simp]theorem zgM(P:Program)(l:Je)(k:FuncId)(it:Qf)(Y:Hp)(Z g:Nat)(x y xs:zb):jO (bS P l k it) Y Z (some (.fn (.func g) x y)) xs=(lookup l g).bind fun s=>s (x++xs++y) Y Z:=by unfold jO bS;simp only;cases lookup l g<;>rfl
@[simp]theorem O0(P:Program)(l:Je)(k:FuncId)(it:Qf)(i:Nat)(a:Array Oper)(d:Bool)(st:St)(K:Exit->St->Prop):Zl (bS P l k it) (.region i a d) st K=iV (bS P l k it) a a.toList st (Wr K):=ZZ _ i a d st K rfl rfl
theorem O1{P:Program}{l:Je}{q:List Nat}{k:FuncId}{it:Qf}(b:P.follows .mixedOrders=true)(h:Bx True P q l)(c:IX P k it):AM.Good (bS P l k it) (fun g=>q.contains g):=
 let g:=qx b h
 ⟨g.spec,g.quiet,g.mixed,(fun _ _ h=>by cases h),(fun j a h=>by
  have:(if j=k then some it else none)=some a:=h;split at this
  ·rename_i e;injection this with this
   subst this;subst e;exact c
  ·cases this)⟩
@[simp]theorem ziC(C:Ctx)(b:Code)(K:Exit->St->Prop)(st:St):asgK C b K .normal st=Zl C b st K:=rfl
@[simp]theorem ziD(I:Nat->Hp->Nat->Prop)(k:Nat)(M:Nat->O)(K:Exit->St->Prop)(st:St):rngK I k M K .normal st=I (k+1) st.Y st.Z:=rfl
@[simp]theorem ziE(I:Nat->Hp->Nat->Prop)(k:Nat)(M:Nat->O)(K:Exit->St->Prop)(st:St):rngK I k M K .ret st=K .ret ⟨M,st.Y,st.Z⟩:=rfl
theorem qZ{Y:Hp}{Z e s:Nat}{v:O}{xs:List zb}(h:qN Y Z e s v xs){j:Nat}{b:Blk}(a:Y j=some b)(c:b.arr=false):∀n,v≠.own j 0 n:=by
 rcases h with⟨rfl,_⟩|⟨id,f,rfl,d⟩
 ·intro n e;cases e
 ·intro n e;injection e with e
  subst e;rw[d]at a;injection a with a
  subst a;cases c
end Go.AM
namespace Go.Q
noncomputable def CC (t:za):O:=.wL [.sl 11 (qn (Qz t).1),int (Qz t).2]
theorem nn:zi prog 133 (kX C0 f133):=J3 jj func133
noncomputable abbrev Csq:Ctx:=qj prog [(133,kX C0 f133)]
theorem zdq:Gd Csq:=qQ mixed ⟨nn,trivial⟩
theorem FE:zi prog 88 (kX Csq f88):=J3 zdq func88
def UK(t sep:za)(Y:Hp)(Z:Nat):Hp:=qf (qf (qf Y Z (some ⟨9,1,false,[[str t]]⟩)) (Z+1) (some ⟨9,1,false,[[str sep]]⟩)) (Z+1+1) (some ⟨3,1,false,[[int 0]]⟩)
theorem uK(t sep:za)(Y:Hp)(Z:Nat):kX C0 f133 [str t,str sep,int 0] Y Z=some (.fn (.func 186) [] [.ref (Z+1) 0 0,.ref Z 0 0,.ref (Z+1+1) 0 0],UK t sep Y Z,Z+1+1+1):=by unfold kX;rw[zg (by simp[f133])];refine xK rfl ?_;simp[UK,f133]
theorem O5(t sep:za)(Y:Hp)(Z:Nat):kX Csq f88 [str t,str sep] Y Z=some (.fn (.func 186) [] [.ref (Z+1) 0 0,.ref Z 0 0,.ref (Z+1+1) 0 0],UK t sep Y Z,Z+1+1+1):=by
 have a:=fun Y Z=>uK t sep Y Z
 unfold kX;rw[zg (by simp[f88])];refine xK rfl ?_;simp[a,f88]
def JV(Y:Hp)(Z:Nat)(v:O)(m:List wG):Prop:=v=.sl 11 (qn m)\/(v=.nil/\m=[])\/∃id,id<Z/\v=.own id 0 (qn m).length/\Y id=some ⟨115,11,true,qn m⟩
theorem JV.frz{Y:Hp}{Z:Nat}{v:O}{m:List wG}(h:JV Y Z v m):∃y Y1,zO Y v=some (y,Y1)/\(Sh.s 11 jA).fix y=.sl 11 (qn m)/\(∀j,(∀n,v≠.own j 0 n)->Y1 j=Y j)/\∀j b,Y1 j=some b->Y j=some b:=by
 rcases h with rfl|⟨rfl,rfl⟩|⟨id,f,rfl,c⟩
 ·exact⟨_,Y,rfl,Km m,fun _ _=>rfl,fun _ _ h=>h⟩
 ·exact⟨_,Y,rfl,rfl,fun _ _=>rfl,fun _ _ h=>h⟩
 ·refine⟨.sl 11 (qn m),qf Y id none,by simp[c],Km m,fun j d=>w5 _ _ _ _ fun e=>d _ (by subst e;rfl),fun j b a=>?_⟩;by_cases e:j=id
  ·subst e;rw[wR]at a;cases a
  ·rwa [zc _ _ _ _ e]at a
theorem JV.Ji{Y a:Hp}{Z b:Nat}{v:O}{m:List wG}(h:JV Y Z v m)(f:Z<=b)(c:∀id,id<Z->(∀n,v=.own id 0 n->a id=Y id)):JV a b v m:=by
 rcases h with rfl|⟨rfl,rfl⟩|⟨id,d,rfl,e⟩
 ·exact .inl rfl
 ·exact .inr (.inl ⟨rfl,rfl⟩)
 ·exact .inr (.inr ⟨id,by omega,rfl,by rw[c id d _ rfl];exact e⟩)
theorem JV.len{Y:Hp}{Z:Nat}{v:O}{m:List wG}(h:JV Y Z v m):JF prog 76 v=some (int m.length):=by rcases h with rfl|⟨rfl,rfl⟩|⟨id,a,rfl,b⟩<;>simp[qn]
theorem JV.box{Y:Hp}{Z:Nat}{v:O}{m:List wG}(h:JV Y Z v m){j:Nat}{b:Blk}(a:Y j=some b)(c:b.e≠115):∀n,v≠.own j 0 n:=by
 rcases h with rfl|⟨rfl,rfl⟩|⟨id,f,rfl,d⟩
 ·intro n e;cases e
 ·intro n e;cases e
 ·intro n e;injection e with e
  subst e;rw[d]at a;injection a with a
  subst a;exact c rfl
theorem JV.lt{Y:Hp}{Z:Nat}{v:O}{m:List wG}(h:JV Y Z v m){j n:Nat}(e:v=.own j 0 n):j<Z:=by
 rcases h with rfl|⟨rfl,rfl⟩|⟨id,a,rfl,b⟩
 ·cases e
 ·cases e
 ·injection e with e;omega
theorem UL(c:xG)(Y:Hp)(Z:Nat)(h:c.ok):qK [.g uu] (FCm JN) [.agg c.V] Y Z=some (JN c,Y,Z):=
 vL (show zH Y [.agg c.V]=some ([.agg c.V],Y) by simp[xG.V]) (by
  have d:(Sh.g uu).fix (.agg c.V)=.agg c.V:=by simp[xG.V]
  show FCm JN [(Sh.g uu).fix (.agg c.V)]=_;rw[d];exact qX (V:=fun v:xG=>[O.agg v.V]) (a:=c) (fun a b e=>by simp only[zq,qh]at e;injection e with e;exact Ll e) h) (.inr (by simp[xG.V]))
theorem CD(f:Bool->Bool->Bool)(g:Nat)(E:(f=and/\g=93)\/(f=or/\g=94)){Y:Hp}{Z:Nat}{v w:O}{a b:List wG}(F:JV Y Z v a)(G:JV Y Z w b)(h:∀id n k,v=.own id 0 n->w≠.own id 0 k)(A:jU a)(B:jU b) :
  ∃x i l,vD [.s 11 jA,.s 11 jA] Cx [v,w,.fn (.func g) [] []] Y Z=some (x,i,l)/\JV i l x (kF f a b)/\Z<=l/\(∀j,j<Z->(∀n,v≠.own j 0 n)->(∀n,w≠.own j 0 n)->i j=Y j)/\(∀n j,x=.own j 0 n->Z<=j)/\∀s es,x≠.sl s es:=by
 obtain⟨y,Y1,H,I,m,_⟩:=F.frz;have o:JV Y1 Z w b:=G.Ji (zk _) fun id _ n e=>m id fun J K=>h id J n K e
 obtain⟨z,Y2,L,N,C,_⟩:=o.frz;have d:zH Y [v,w,.fn (.func g) [] []]=some ([y,z,.fn (.func g) [] []],Y2):=by simp only[zH,H,L];rfl
 have D:Cx (cX [.s 11 jA,.s 11 jA] (yR [] [y,z,.fn (.func g) [] []]))=some (Wy f a b):=by
  show Cx [(Sh.s 11 jA).fix y,(Sh.s 11 jA).fix z,.fn (.func g) [] []]=_;rw[I,N];rcases E with⟨rfl,rfl⟩|⟨rfl,rfl⟩
  ·have:=qX (V:=fun a:List wG×List wG=>[O.sl 11 (qn a.1),.sl 11 (qn a.2),.fn (.func 93) [] []]) (pre:=fun a=>jU a.1/\jU a.2) (out:=fun a=>Wy and a.1 a.2) (a:=(a,b)) (Hw _) ⟨A,B⟩;unfold Cx;rw[this]
  ·have:=qX (V:=fun a:List wG×List wG=>[O.sl 11 (qn a.1),.sl 11 (qn a.2),.fn (.func 94) [] []]) (pre:=fun a=>jU a.1/\jU a.2) (out:=fun a=>Wy or a.1 a.2) (a:=(a,b)) (Hw _) ⟨A,B⟩;have p:qW (α:=List wG×List wG) (fun a=>[O.sl 11 (qn a.1),.sl 11 (qn a.2),.fn (.func 93) [] []]) (fun a=>jU a.1/\jU a.2) (fun a=>Wy and a.1 a.2) [O.sl 11 (qn a),.sl 11 (qn b),.fn (.func 94) [] []]=none:=by
    cases P:qW (α:=List wG×List wG) (fun a=>[O.sl 11 (qn a.1),.sl 11 (qn a.2),.fn (.func 93) [] []]) (fun a=>jU a.1/\jU a.2) (fun a=>Wy and a.1 a.2) [O.sl 11 (qn a),.sl 11 (qn b),.fn (.func 94) [] []]with
    |none=>rfl
    |some r=>obtain⟨_,e,_⟩:=zL P;simp at e
   unfold Cx;rw[p];exact this
 unfold vD jL;by_cases q:kF f a b=[]
 ·have c:=D;unfold Wy at c;rw[zg q]at c;simp only[d,c];exact⟨_,_,_,rfl,.inr (.inl ⟨rfl,q⟩),zk _,fun j _ t u=>(C j u).trans (m j t),fun n j e=>(by cases e),fun s es e=>(by cases e)⟩
 ·have c:=D;unfold Wy at c;rw[zf q]at c;simp only[d,c];exact⟨_,_,_,rfl,.inr (.inr ⟨Z,by omega,rfl,by simp⟩),by omega,fun j Q t u=>by rw[w5 _ _ _ _ (by omega)];exact(C j u).trans (m j t),fun n j e=>(by injection e with e;omega),fun s es e=>(by cases e)⟩
noncomputable abbrev Crrg:Ctx:=bS prog [(88,kX Csq f88),(89,zn false [] (aF ux)),(90,qK [] (YO bO)),(91,qK [.g uu] (FCm JN)),(92,vD [.s 11 jA,.s 11 jA] Cx),(95,qK [.g jA] (FSt idS))] 186 dA
theorem zdr:Gd Crrg:=O1 mixed ⟨FE,by simp,dh,by simp,Kf,by simp,iA,by simp,pE,by simp,dy,by simp,trivial⟩ FD
theorem np(t:za)(ht:t.length+1<=qg):∃r0,zG Crrg f69 [str t]=some r0/\wW r0 (CC t):=by
 refine y6 (sh:=.s 11 jA) rfl ?_;by_cases U:(400:Int)<t.length
 ·have hv:Qz t=([],2):=by unfold Qz;rw[zg U]
  simp[U,CC,hv,qn,qy,f69]
 have hsq:=fun Y Z=>O5 t [124,124] Y Z
 obtain⟨a,u⟩:=wM (qt t [124,124]);have hpl:∀p∈a,p.length<=400:=fun p Y=>by have:=vV (by rw[u];exact Y);omega
 have hpn:a.length<=401:=by have:=xP (s:=t) (sep:=[124,124]) (by simp);rw[u]at this;omega
 have b:Qz t=match oU a with
  |none=>([],10)
  |some ls=>match dz ls []with
   |none=>([],1)
   |some o=>if(100:Int)<o.length then([],2)else(o,0):=by unfold Qz;rw[zf U,u]<;>rfl
 simp[U,hsq];refine IW (p:=23) (xs:=a.map str) rfl (by simp;exact⟨rfl,rfl⟩) (it:=dA) rfl (by simp[dA,UK,u];exact⟨⟨by decide,by omega⟩,rfl⟩) (fun k Y Z=>∃(v:O) (done:List (List xG)),6<=Z/\Y 0=some ⟨76,1,false,[[.nil]]⟩/\Y 1=some ⟨26,1,false,[[int 0]]⟩/\Y 2=some ⟨93,1,false,[[v]]⟩ /\
   qN Y Z 97 1 v (done.map fun l=>[.sl 11 (ZB l)])/\done.length=k/\oU a=(oU (a.drop k)).map (done++·)) ?_ ?_ ?_
 ·exact⟨.nil,[],by simp,by simp,by simp,by simp,.inl ⟨rfl,rfl⟩,rfl,by rw[ZK];cases oU a<;>rfl⟩
 ·rintro k Y Z hk ⟨v,done,z,f,d,b2,C,hdk,he⟩;have hk':k<a.length:=by simpa using hk
  have hpk:(a.map str)[k]=str a[k]:=by simp
  have hpkl:=hpl a[k] (zw hk');have halt:=fun Y Z=>Zd ux a[k] Y Z (by unfold qg;omega)
  simp only[ux]at halt;rw[hpk];rw[zl hk']at he;simp only[oU]at he;cases D:(QN a[k]).2
  ·rw[D]at he;simp only[zm,zQ,xF]at he;rw[he]at b;have n0:¬0=Z:=by omega
   have n1:¬1=Z:=by omega
   simp[halt,D,f,d,CC,b,qn,qy,f69]
  ·rw[D]at he;simp only[zK]at he;have sZ:=qN.ji (P:=prog) (t:=93) (c:=[.sl 11 (ZB (QN a[k]).1)]) C el93 sz97 by97 ze97 rfl (by omega) (by simp[hdk];unfold maxLen;omega) (by simp[hdk];omega);have k0:=fun Y'=>yr C Y' 0 (qZ C f rfl)
   have k1:=fun Y'=>yr C Y' 1 (qZ C d rfl)
   have k2:=fun Y'=>yr C Y' 2 (qZ C b2 rfl)
   have n0:¬0=Z:=by omega
   have n1:¬1=Z:=by omega
   have n2:¬2=Z:=by omega
   have n3:¬1=Z+1:=by omega
   have n4:¬2=Z+1:=by omega
   have n5:¬Z+1=2:=by omega
   simp[halt,D,f,d,b2,sZ,k0,k1,k2,n0,n1,n2,n3,n4,n5,zs,zF,zr];refine⟨by omega,by rw[w5 _ _ _ _ (by omega),k1,w5 _ _ _ _ (by omega)];exact d,done++[(QN a[k]).1],.inr ⟨Z+1,by omega,by simp,by rw[w5 _ _ _ _ (by omega)];simp⟩,by simp[hdk],?_⟩;rw[he];cases oU (a.drop (k+1))<;>simp
 ·rintro Y Z ⟨v,done,z,f,d,b2,C,hdk,he⟩;rw[yj]at hdk;rw[yj,zA]at he;simp only[oU,zE,jf]at he;obtain⟨zhm,hdl⟩:=CB a done 400 hpl he;rw[he]at b;simp only at b;have hlen:=C.len el93;rw[yj]at hlen;have hdn:done.length<=401:=by omega
  obtain⟨r,L⟩:=wM (done.map (fun l=>[O.sl 11 (ZB l)]));rw[L]at C;have hrl:r.length=done.length:=by rw[<-L];simp
  simp[b2,hlen];refine ql (fun i M Y Z=>M 2=.ref 0 0 0/\M 3=.ref 1 0 0/\M 35=v/\M 36=int done.length/\M 37=int i/\6<=Z/\Y 0=some ⟨76,1,false,[[.nil]]⟩/\Y 1=some ⟨26,1,false,[[int 0]]⟩ /\
    qN Y Z 97 1 v r/\∃o,JV Y Z (M 8) o/\(∀s es,M 8≠.sl s es)/\jI o/\o.length<=i*500/\dz done []=dz (done.drop i) o) done.length
   ⟨by simp,by simp,by simp,by simp,by simp,z,f,d,C,[],.inr (.inl ⟨by simp,rfl⟩),by simp,(by intro s hs;cases hs),by simp,by simp⟩ ?_
  clear z f d b2 C hlen Y Z;rintro i M Y Z hi ⟨N,Q,H,A,B,z,f,d,C,o,K,R,hgo,hol,hj⟩;by_cases hlt:i<done.length
  ·obtain⟨idA,I,rfl,E⟩:=C.at_ (by omega);obtain⟨l,hl⟩:=wM (done[i]);have hri:∀h:i<r.length,r[i]=[O.sl 11 (ZB l)]:=fun h=>by
    have:r[i]?=some [O.sl 11 (ZB l)]:=by rw[<-L,qD,zo hlt,hl];rfl
    rw[zo h]at this;injection this
   obtain⟨hgl,hll⟩:=zhm l (by rw[<-hl];exact zw hlt);rw[zl hlt,hl]at hj;simp only[dz]at hj;have hev:∀(Y:Hp) (Z:Nat),qK [] (YO bO) [] Y Z=some (.sl 11 (qn [yt q8]),Y,Z):=fun Y Z=>Q1 _ Y Z
   have hwi:=wv i;have hel:(ZB l).length=l.length:=by simp[ZB]
   simp[N,Q,H,A,B,hlt,hrl,E,hri,hev,hel];refine ql (fun k M Y Z=>M 2=.ref 0 0 0/\M 3=.ref 1 0 0/\M 35=.own idA 0 r.length/\M 36=int done.length/\M 37=int i/\6<=Z/\Y 0=some ⟨76,1,false,[[.nil]]⟩/\Y 1=some ⟨26,1,false,[[int 0]]⟩ /\
     qN Y Z 97 1 (.own idA 0 r.length) r/\JV Y Z (M 8) o/\(∀s es,M 8≠.sl s es)/\M 42=.sl 11 (ZB l)/\M 43=int l.length/\M 44=int k/\∃m,JV Y Z (M 11) m/\jI m/\m.length<=k+1/\(∀id n n',M 8=.own id 0 n->M 11≠.own id 0 n')/\VA l [yt q8]=VA (l.drop k) m) l.length
    ⟨by simp[N],by simp[Q],by simp[H,hrl],by simp[A],by simp[B],z,f,d,C,by simpa using K,by simpa using R,by simp,by simp,by simp,[yt q8],.inl (by simp),(Q3 vQ).2,by simp,by simp,by simp⟩ ?_
   clear N Q H A B z f d C K R hi E I M Y Z;rintro k M Y Z hk ⟨N,Q,H,A,B,z,f,d,C,K,R,h42,h43,h44,m,hM,hgm,hml,sZ,y⟩;by_cases W:k<l.length
   ·obtain⟨c,hc⟩:=wM (l[k]);have hcg:c.vY:=hgl c (by rw[<-hc];exact zw W);obtain⟨hs1,hs2⟩:=ab hcg;have J:∀h:k<(ZB l).length,(ZB l)[k]=c.V:=fun h=>by simp[ZB,hc]
    have M7:=fun Y Z=>UL c Y Z hcg.ok
    have hwk:=wv k;rw[zl W,hc]at y;simp only[VA]at y;have n0:¬0=Z:=by omega
    have n1:¬1=Z:=by omega
    cases D:(vy c).2
    ·rw[D]at y;simp only[zm,zQ]at y;rw[y]at hj;simp only at hj;rw[hj]at b;simp only at b;simp only[JN,xG.V]at M7 J;simp[N,Q,H,A,B,h42,h43,h44,W,hel,J,M7,D,f,d,n0,n1,CC,b,qn,qy,f69]
    ·rw[D]at y;simp only[zK]at y;have hM':JV (qf Y Z (some ⟨105,11,false,[c.V]⟩)) (Z+1) (M 11) m:=hM.Ji (by omega) fun id hid n e=>w5 _ _ _ _ (by omega)
     obtain⟨x,Y',Z',F,hX,hnx',hfr,X,hxs⟩:=CD and 93 (.inl ⟨rfl,rfl⟩) hM' (.inl rfl:JV _ _ (.sl 11 (qn (vy c).1)) (vy c).1) (fun id n k e e2=>by cases e2) (hgm.small (by unfold qg;omega)) (jI.small hs2 (by unfold qg;omega));have G:∀j,j<Z->(∀n,M 11≠.own j 0 n)->Y' j=Y j:=fun j hj q=>by rw[hfr j (by omega) q (fun n e=>by cases e),w5 _ _ _ _ (by omega)]
     have hlm:=Kl and m (vy c).1;obtain⟨idA2,I,S,E⟩:=C.at_ (by omega);injection S with S
     subst S;simp only[JN,xG.V]at M7 J F;simp[N,Q,H,A,B,h42,h43,h44,W,hel,J,M7,D,F,hwk];exact⟨by omega,by omega,by rw[G 0 (by omega) (hM.box f (by decide))];exact f,by rw[G 1 (by omega) (hM.box d (by decide))];exact d,.inr ⟨idA,by omega,rfl,by rw[G idA I (hM.box E (by simp))];exact E⟩,K.Ji (by omega) (fun id hid n e=>G id hid fun n'=>sZ id n n' e),R,_,hX,vW and hgm hs2,by omega,fun id n n' e e2=>by have:=K.lt e;have:=X _ _ e2;omega,y⟩
   ·obtain rfl:k=l.length:=by omega
    rw[zA]at y;simp only[VA]at y;rw[y]at hj;simp only at hj;obtain⟨x,Y',Z',F,hX,hnx',hfr,X,hxs⟩:=CD or 94 (.inr ⟨rfl,rfl⟩) K hM sZ (hgo.small (by unfold qg;omega)) (hgm.small (by unfold qg;omega));have hlm:=Kl or o m;obtain⟨idA2,I,S,E⟩:=C.at_ (by omega);injection S with S
    subst S;simp[N,Q,H,A,B,h42,h43,h44,F,hwi];exact⟨by omega,hrl,by omega,by rw[hfr 0 (by omega) (K.box f (by decide)) (hM.box f (by decide))];exact f,by rw[hfr 1 (by omega) (K.box d (by decide)) (hM.box d (by decide))];exact d,.inr ⟨idA,by omega,by rw[hrl],by rw[hfr idA I (K.box E (by simp)) (hM.box E (by simp))];exact E⟩,_,hX,hxs,vW or hgo hgm,by omega,hj⟩
  ·obtain rfl:i=done.length:=by omega
   rw[zA]at hj;simp only[dz]at hj;rw[hj]at b;simp only at b;have T:=K.len;by_cases h100:(100:Int)<o.length
   ·rw[zg h100]at b;simp[N,Q,A,B,T,h100,f,d,CC,b,qn,qy,f69]
   rw[zf h100]at b;simp[N,Q,A,B,T,h100];obtain⟨w,hw8⟩:=wM (M 8);rw[hw8]at K R;refine ql (fun j M Y Z=>M 2=.ref 0 0 0/\M 3=.ref 1 0 0/\M 8=w/\M 66=w/\M 67=int o.length/\M 68=int j/\6<=Z/\Y 0=some ⟨76,1,false,[[.nil]]⟩/\Y 1=some ⟨26,1,false,[[int 0]]⟩/\JV Y Z w o) o.length
    ⟨by simp[N],by simp[Q],by simp[hw8],by simp[hw8],by simp,by simp,z,f,d,K⟩ ?_
   clear N Q H A B z f d C K hi hw8 M Y Z T;rintro j M Y Z hjl ⟨N,Q,h8,h66,h67,h68,z,f,d,K⟩;by_cases hltj:j<o.length
   ·have hwj:=wv j;rcases K with rfl|⟨rfl,rfl⟩|⟨id,hid,rfl,hb⟩
    ·exact absurd rfl (R _ _)
    ·simp at hltj
    ·obtain⟨s,hs⟩:=wM (o[j]);have hgs:=hgo s (by rw[<-hs];exact zw hltj);have hel:(qn o).length=o.length:=by simp[qn]
     have J:∀h:j<(qn o).length,(qn o)[j]=s.V:=fun h=>by simp[qn,hs]
     have hset:(qn o).set j s.V=qn o:=by
      have h':j<(qn o).length:=by omega
      rw[<-J h'];exact List.set_getElem_self h'
     have hcp:∀Y Z,qK [.g jA] (FSt idS) [.agg s.V] Y Z=some (.agg s.V,Y,Z):=fun Y Z=>OY idS s (.agg s.V) Y Z ⟨hgs.1.small,hgs.2.small⟩ (by simp[wG.V,Cut.V]) (by simp[wG.V,Cut.V]) (by simp[wG.V,Cut.V])
     have m1:¬id=Z:=by omega
     simp only[wG.V,Cut.V,qU,xE]at J hcp hset;have i0:¬0=id:=fun e=>by rw[<-e]at hb;rw[hb]at f;simp at f
     have i1:¬1=id:=fun e=>by rw[<-e]at hb;rw[hb]at d;simp at d
     have n0:¬0=Z:=by omega
     have n1:¬1=Z:=by omega
     simp[N,Q,h8,h66,h67,h68,hltj,hel,hb,J,hcp,m1,hwj,hset];exact⟨by omega,by omega,by simp[i0,n0,f],by simp[i1,n1,d],.inr (.inr ⟨id,by omega,by rw[hel],by simp⟩)⟩
   ·obtain rfl:j=o.length:=by omega
    rcases K with rfl|⟨rfl,rfl⟩|⟨id,hid,rfl,hb⟩
    ·exact absurd rfl (R _ _)
    ·simp[N,Q,h8,h66,h67,h68,f,d,CC,b,qy,qn,f69]
    ·have i0:¬id=0:=fun e=>by rw[e]at hb;rw[hb]at f;simp at f
     have i1:¬id=1:=fun e=>by rw[e]at hb;rw[hb]at d;simp at d
     have hfx:=Km o;simp only[Sh.oR,O.sl.injEq,true_and]at hfx;simp[N,Q,h8,h66,h67,h68,f,d,hb,i0,i1,CC,b,qy,hfx,f69]
theorem iE:zi prog 69 (zn false [] (aF CC)):=
 Js (fn:=f69) zdr (wc func69) false [] _ fun args r h w S vs a=>by obtain⟨l,rfl,Y,rfl⟩:=zL h;obtain⟨r0,b,c⟩:=np l Y;exact⟨_,r0,a,by simp[f69],b,c⟩
theorem _root_.Go.AM.qN.put{Y:Hp}{Z e s j:Nat}{v:O}{xs:List zb}(h:qN Y Z e s v xs)(a:∀n,v≠.own j 0 n)(b:Option Blk):qN (qf Y j b) Z e s v xs:=
 h.same (zk _) fun id n e=>w5 _ _ _ _ (by rintro rfl;exact a n e)
theorem ae{Y:Hp}{Z:Nat}{v:O}{b:za}(g:qN Y Z 5 1 v (b.map Eo))(c:UInt8)(h:b.length<1000000000000):∃Y2,jF prog (qf Y Z (some ⟨5,1,true,[Eo c]⟩)) (Z+1) 157 157 v (.own Z 0 1)=some (.own (Z+1) 0 (b.length+1),Y2,Z+2)/\qN Y2 (Z+2) 5 1 (.own (Z+1) 0 (b.length+1)) ((b++[c]).map Eo)/\∀j,j<Z->(∀n,v≠.own j 0 n)->Y2 j=Y j:=by
 have a:=g.ji (P:=prog) (t:=157) (c:=Eo c) zgq sz5 by5 ze5 rfl (by omega) (by simp[maxLen];omega) (by simp;omega);have d:=qN.after (Y:=Y) (Z:=Z) (e:=5) (s:=1) (v:=v) (xs:=b.map Eo) (c:=Eo c) (tmp:=some ⟨5,1,true,[Eo c]⟩);rw[yj]at a;refine⟨_,a,?_,fun j i f=>?_⟩
 ·rw[kq];simpa using d
 ·rw[w5 _ _ _ _ (by omega),yr g _ j f,w5 _ _ _ _ (by omega)]
theorem Hy{s:za}{st:Jst}(h:st.p<=s.length):st.p<=(WQ s st).2.p/\(WQ s st).2.p<=s.length:=by
 have a:∀(k n:Nat) (st:Jst),st.p<s.length->st.p<=(eB s k n st).2.p/\(eB s k n st).2.p<=s.length:=by
  intro k
  induction k with
  |zero=>intro n st h;simp only[eB,Jst.qH];omega
  |succ k e=>
   intro n st h;rw[eB];split
   ·rename_i d hd;obtain⟨c,b,_⟩:=yO.1 hd;have:=(zj.1 b).1;have:=e (n*16+d) st.qH this;simp only[Jst.qH]at this⊢;omega
   ·simp only[Zs,Jst.qH];omega
 unfold WQ;split
 ·rename_i i;simp only[Jst.qH];omega
 ·split
  ·simp only[Zs];omega
  ·rename_i b f;have g:st.p<s.length:=by refine vG fun j=>f (.inl (by omega))
   have:=a 4 0 st g;split
   ·exact this
   ·simp only;split
    ·rw[Zs];exact this
    ·exact this
theorem FF{s:za}:∀(k:Nat) (b:za) (st:Jst),st.p<=s.length->st.p<=(AZ s k b st).2.p/\(AZ s k b st).2.p<=s.length/\(AZ s k b st).1.length<=b.length+((AZ s k b st).2.p-st.p)
 | 0,b,st,h=>by simp only[AZ];exact⟨zk _,h,by simp⟩
 |k+1,b,st,h=>by
  rw[AZ];split
  ·exact⟨zk _,h,by simp⟩
  ·split
   ·simp only[Zs];exact⟨zk _,h,by simp⟩
   ·rename_i f d;have e:st.p<s.length:=by refine vG fun g=>d (.inl (by omega))
    split
    ·simp only[Jst.qH];exact⟨by omega,by omega,Nat.le_add_right _ _⟩
    ·split
     ·have c:=Hy (s:=s) (st:=st.qH) (by simp only[Jst.qH];omega);have a:=FF (s:=s) k (b++[(WQ s st.qH).1]) (WQ s st.qH).2 c.2;simp only[Jst.qH,w7,zem]at c a⊢;omega
     ·have a:=FF (s:=s) k (b++[jq s st]) st.qH (by simp only[Jst.qH];omega);simp only[Jst.qH,w7,zem]at a⊢;omega
theorem dB{s:za}{st:Jst}(h:st.p<=s.length):st.p<=(jt s st).2.p/\(jt s st).2.p<=s.length/\(jt s st).1.length<=(jt s st).2.p-st.p:=by
 have a:=K1 (s:=s) 34 h;unfold jt;split
 ·have:=FF (s:=s) (s.length+1) [] (QK s st 34).2 a.2;simp only[ze,zh]at this;omega
 ·exact⟨a.1,a.2,by simp⟩
noncomputable abbrev Ctj:Ctx:=qj prog [(112,Xf),(111,Xg),(174,Od),(175,OS)]
theorem zds:AM.Good Ctj (fun g=>[111].contains g):=qx mixed ⟨xL,by simp,xM,fun _=>ym _ _,X7,by simp,Fw,by simp,trivial⟩
noncomputable abbrev UM:AM.Spec:=mJ aU (fun _ _ _=>True) (fun s st _=>(jt s st).2) (fun s st _=>str (jt s st).1)
theorem nq{s:za}{st:Jst}{Y:Hp}{id Z:Nat}(a:Y id=some (wH s st))(hs:s.length<=1048576)(b:st.p<=s.length):UM [.ref id 0 0] Y Z=some (str (jt s st).1,qf Y id (some (wH s (jt s st).2)),Z):=ZN y5 (fun _=>rfl) () a hs b trivial
def VB(s:za)(st:Jst):Nat:=if st.e=0 then s.length-st.p+1 else 0
def TxI(s:za)(c:Jst)(n:Nat)(st:St):Prop:=st.M 0=.ref 0 0 0/\0<st.Z/\∃b a k,qN st.Y st.Z 5 1 (st.M 3) (b.map Eo)/\st.Y 0=some (wH s a)/\a.p<=s.length/\b.length<=a.p/\VB s a=n/\n<=k/\AZ s k b a=jt s c
theorem TxI.congr{s:za}{b:Jst}{n:Nat}{M a:Nat->O}{Y:Hp}{Z:Nat}(h:TxI s b n ⟨M,Y,Z⟩)(c:a 0=M 0)(d:a 3=M 3):TxI s b n ⟨a,Y,Z⟩:=by unfold TxI at h⊢;simp only[c,d];exact h
theorem gK:zi prog 114 UM:=
 ya (C:=Ctj) func114 (by kernel_rfl) rfl TJ _ fun cs az cs' r h=>by
  obtain⟨s,st,⟨⟩,rfl,rfl,hs,Y,_,rfl,rfl⟩:=Qp h;refine⟨by simp[aU,f114],?_⟩;clear h;have l:=zds;have T:Od [.ref 0 0 0,.v (.int .u8 34)] (zZ TJ (zN s st)) 1=some (yh (QK s st 34).1,qf (zZ TJ (zN s st)) 0 (some (wH s (QK s st 34).2)),1):=Xh 34 rfl hs Y;refine Wp.cut l (fun M Y Z=>M 0=.ref 0 0 0/\Y=zZ TJ (zN s st)/\Z=1) (by kernel_rfl) (by simp[aU]) ?_;rintro M _ _ ⟨f,rfl,rfl⟩;have P:=K1 (s:=s) 34 Y;cases t:(QK s st 34).1
  ·have i:jt s st=([],(QK s st 34).2):=by rw[jt,t];rfl
   rw[t]at T;refine Wp.seq (Wp.of l (by kernel_rfl) ?_);simp[f,T,i,f114];exact qR rfl (by simp)
  have i:AZ s (s.length+1) [] (QK s st 34).2=jt s st:=by rw[jt,t];rfl
  rw[t]at T;obtain⟨a,J⟩:=wM ((QK s st 34).2);rw[J]at T i P;refine Wp.cut l (fun d Y Z=>d 0=.ref 0 0 0/\Y 0=some (wH s a)/\Z=1) (by kernel_rfl) (by simp[f,T]) ?_;clear T f t J M;rintro M Y1 _ ⟨f,t,rfl⟩;refine Wp.cut l (fun d Y Z=>TxI s st (VB s a) ⟨d,Y,Z⟩) (by kernel_rfl) ?_ ?_
  ·simp[f];refine⟨by simp[f],by simp,[],a,s.length+1,.inl ⟨by simp,rfl⟩,t,P.2,by simp,rfl,?_,i⟩;unfold VB;split<;>omega
  clear f t M Y1 i P;rintro M Y1 Z hI;refine Wp.seq (Wp.block (Wp.loop (TxI s st) _ hI ?_));clear hI M Y1 Z a;rintro n ⟨M,Y1,Z⟩ ⟨f,F,b,a,k,E,t,Q,oQ,hn,hnk,i⟩;simp only at f F E t;have m:=qZ E t rfl;by_cases K:a.e=0
  case neg=>
   have ht2:jt s st=([],a):=by
    rw[<-i];cases k with
    |zero=>rfl
    |succ k=>rw[AZ,zg K]
   have g:=t;simp only[zz,zN,zd,ze,zh,Nat.reduceAdd]at g;refine Wp.seq (Wp.of l (by kernel_rfl) ?_);simp[f,g,K,Zw K];refine Wp.of l (by kernel_rfl) ?_;rw[ht2];simp[f114];exact qR rfl t
  have zhn:s.length-a.p+1=n:=by rw[<-hn,VB,zg K]
  obtain⟨k,rfl⟩:∃k',k=k'+1:=⟨k-1,by omega⟩;obtain⟨c,U⟩:=wM (jq s a);have g1:=ZO (Z:=Z) t hs Q;rw[U]at g1;have g:=t;simp only[zz,zN,zd,ze,zh,Nat.reduceAdd]at g;refine Wp.cut l (fun d G H=>d 0=.ref 0 0 0/\d 3=M 3/\G=Y1/\H=Z) (by kernel_rfl) (by simp[f,g,K]) ?_;rintro u Y1 Z ⟨e0,w,rfl,rfl⟩;rw[<-w]at E m;clear f w M;refine Wp.block ?_;refine Wp.cut l (fun d G H=>d 0=.ref 0 0 0/\d 3=u 3/\d 4=Zu c/\G=Y1/\H=Z) (by kernel_rfl) (by simp[e0,g1,Zu]) ?_;rintro M Y1 Z ⟨f,w,B,rfl,rfl⟩;rw[<-w]at E m;clear e0 w u;refine Wp.block ?_;rw[AZ,zf (by simpa using K)]at i;simp only[Zu]at B;have c8:=BW c;have W:(c<32)↔c.toNat<32:=yM;have X:(126<c)↔126<c.toNat:=yM;have gf:=vT (Z:=Z) a.p 10 t hs Q (by omega);have o:s.length<=a.p\/jq s a<32\/126<jq s a->TxI s st (VB s (a.fail s.length a.p 10)) ⟨M,qf Y1 0 (some (wH s (a.fail s.length a.p 10))),Z⟩/\VB s (a.fail s.length a.p 10)<n:=fun h=>by
   rw[zg h]at i;have hl:VB s (a.fail s.length a.p 10)=0:=by simp[VB,Jst.fail,K]
   refine⟨⟨f,F,b,a.fail s.length a.p 10,0,E.put m _,by simp,by rw[Zs];exact Q,by rw[Zs];exact oQ,rfl,by omega,?_⟩,by omega⟩;rw[<-i];rfl
  by_cases L:s.length<=a.p
  ·obtain⟨hT,y⟩:=o (.inl L);refine Wp.of l (by kernel_rfl) ?_;simp[f,B,g,L,gf];exact⟨_,y,hT.congr (by simp) (by simp)⟩
  have s1':¬(s.length:Int)<=a.p:=by omega
  by_cases s2:c<32
  ·obtain⟨hT,y⟩:=o (.inr (.inl (by rw[U];exact s2)));have z:(c.toNat:Int)<32:=by have:=W.1 s2;omega
   refine Wp.of l (by kernel_rfl) ?_;simp[f,B,g,L,z,gf];exact⟨_,y,hT.congr (by simp) (by simp)⟩
  have z:¬(c.toNat:Int)<32:=by have h2:¬c.toNat<32:=fun h=>s2 (W.2 h);omega
  by_cases s3:126<c
  ·obtain⟨hT,y⟩:=o (.inr (.inr (by rw[U];exact s3)));have D:(126:Int)<c.toNat:=by have:=X.1 s3;omega
   refine Wp.of l (by kernel_rfl) ?_;simp[f,B,g,L,z,D,gf];exact⟨_,y,hT.congr (by simp) (by simp)⟩
  have D:¬(126:Int)<c.toNat:=by have h2:¬126<c.toNat:=fun h=>s3 (X.2 h);omega
  rw[zf (by rw[U];simp[L,s2,s3]),U]at i;clear o;have hw:=wj ((a.p:Int)+1);by_cases c1:c=34
  ·subst c1;rw[zg rfl]at i;rw[<-i];refine Wp.cut l (fun d G H=>d 0=.ref 0 0 0/\d 3=M 3/\d 4=.v (.int .u8 34)/\d 26=yh false/\G=Y1/\H=Z) (by kernel_rfl) (by simp[f,B,g,L,z,D]) ?_;clear f B;rintro u Y1 Z ⟨f,w,B,SN,rfl,rfl⟩;rw[<-w]at E m;clear w M;refine Wp.cond (b:=false) (by simp[AM.get,SN]) ?_;simp only[zm,zQ];refine Wp.cut l (fun d G H=>d 0=.ref 0 0 0/\d 3=u 3/\d 51=yh true/\G=Y1/\H=Z) (by kernel_rfl) (by simp[f,B]) ?_;clear f B SN;rintro M Y1 Z ⟨f,w,h51,rfl,rfl⟩;rw[<-w]at E m;clear w u;refine Wp.cond (b:=true) (by simp[AM.get,h51]) ?_;simp only[zK];refine Wp.cut l (fun d G H=>d 3=M 3/\G=qf Y1 0 (some (wH s a.qH))/\H=Z) (by kernel_rfl) (by simp[f,g,hw,zz,zN,Jst.qH]) ?_;clear f h51;rintro u _ _ ⟨w,rfl,rfl⟩;have hO2:=E.put m (some (wH s a.qH));rw[<-w]at hO2;refine Wp.seq (Wp.region ?_);show Jd True Ctj _ _ (List.range' 0 1++(1::(List.range' 2 1++[]))) _ _;refine Jd.pZ l 0 1 (by decide) (by decide) ?_;simp;refine Jd.zch (q:=u 3) (s:=b) rfl (by decide) (by simp[AM.get]) hO2.view zbN un5 un9 ?_;refine Jd.pZ l 2 1 (by decide) (by decide) ?_;simp;refine Jd.nil ?_;simp only[mc,ZQ];refine Wp.of l (by kernel_rfl) ?_;simp[f114];exact qR rfl (by simp)
  have c1':((c.toNat:Int)==34)=false:=WW 34 c1;rw[zf c1]at i;by_cases c2:c=92
  ·subst c2;rw[zg rfl]at i;have hb1:qf Y1 0 (some (wH s a.qH)) 0=some (wH s a.qH):=by simp
   have hal:a.qH.p<=s.length:=by simp only[Jst.qH];omega
   have ge:=Lt (id:=0) (Z:=Z) hb1 hs hal;have I:=Hy (s:=s) hal;obtain⟨x,A,hx⟩:∃x A,WQ s a.qH=(x,A):=⟨_,_,rfl⟩;rw[hx]at ge i I;simp only at ge i I;obtain⟨Y2,a1,O2,f2⟩:=ae (E.put m (some (wH s A))) x (by omega);have R:Y2 0=some (wH s A):=by rw[f2 0 F m];simp
   rw[qV]at ge;simp only[zz,zN,Jst.qH,Eo,Zu,zd,ze,zh,Nat.reduceAdd,yk,qu]at ge a1;refine Wp.of l (by kernel_rfl) ?_;simp[f,B,g,L,z,D,zs,zF,zr,ge,a1,hw];simp only[Jst.qH]at I;have S:VB s A<n:=by unfold VB;split<;>omega
   exact⟨_,S,by simp[f],by simp,b++[x],A,k,by simpa using O2,R,I.2,by simp;omega,rfl,by omega,i⟩
  have c2':((c.toNat:Int)==92)=false:=WW 92 c2;rw[zf c2]at i;obtain⟨Y2,a1,O2,f2⟩:=ae E c (by omega);have R:Y2 0=some (wH s a):=by rw[f2 0 F m];exact t
  have N:=R;simp only[zz,zN,zd,ze,zh,Nat.reduceAdd]at N;simp only[Eo]at a1;have y:a.p<s.length:=by omega
  have S:VB s a.qH<n:=by simp only[VB,Jst.qH,K,zK];omega
  refine Wp.of l (by kernel_rfl) ?_;simp[f,B,g,L,z,D,c1',c2',zs,zF,zr,a1,N,hw];have O3:=O2.put (j:=0) (fun n e=>by injection e with e;omega) (some (wH s a.qH));simp only[zz,zN,Jst.qH,zd,ze,zh,Nat.reduceAdd,yk,qu]at O3;exact⟨_,S,by simp[f],by simp,b++[c],a.qH,k,by simpa using O3,by simp[zz,zN,Jst.qH],by simp only[Jst.qH];omega,by simp[Jst.qH];omega,rfl,by omega,i⟩
inductive Cnd where
 |mk (kind:Int) (attr:List UInt8) (op:Int) (ki:List Val) (pat name:List UInt8) (args:List Cnd)
namespace Cnd
def kind:Cnd->Int|.mk k _ _ _ _ _ _=>k
def attr:Cnd->za|.mk _ a _ _ _ _ _=>a
def op:Cnd->Int|.mk _ _ o _ _ _ _=>o
def ki:Cnd->List Val|.mk _ _ _ v _ _ _=>v
def pat:Cnd->za|.mk _ _ _ _ p _ _=>p
def name:Cnd->za|.mk _ _ _ _ _ n _=>n
def args:Cnd->List Cnd|.mk _ _ _ _ _ _ l=>l
end Cnd
theorem Cnd.ind{P:Cnd->Prop}(h:∀k a o v p n l,(∀x∈l,P x)->P (.mk k a o v p n l))(c:Cnd):P c:=
 Cnd.rec (motive_1:=P) (motive_2:=fun l=>∀x∈l,P x) (fun k a o v p n l b=>h k a o v p n l b) (by simp)
  (fun x l e b y d=>by
   rcases zv.1 d with rfl|d
   ·exact e
   ·exact b y d) c
mutual
def Cnd.V:Cnd->zb
 | .mk k a o v p n l=>[int k,str a,int o,.sl 5 (v.map Val.V),str p,str n,.sl 7 (AU l)]
def AU:List Cnd->List zb
 |[]=>[]
 |c::l=>c.V::AU l
end
theorem nr:∀l:List Cnd,AU l=l.map Cnd.V
 |[]=>rfl
 |c::l=>by simp[AU,nr l]
theorem qv(c:Cnd):c.V=[int c.kind,str c.attr,int c.op,.sl 5 (c.ki.map Val.V),str c.pat,str c.name,.sl 7 (c.args.map Cnd.V)]:=by
 cases c with
 |mk k a o v p n l=>simp[Cnd.V,nr,Cnd.kind,Cnd.attr,Cnd.op,Cnd.ki,Cnd.pat,Cnd.name,Cnd.args]
@[simp]theorem zb0(c:Cnd):c.V.length=7:=by rw[qv];rfl
@[simp]theorem FG(c:Cnd):c.V.all O.ye=true:=by rw[qv];rfl
@[simp]theorem zb1(c:Cnd):(∀x,x∈c.V->O.ye x=true)=True:=by have:=FG c;rw[qB]at this;exact eq_true this
@[simp]theorem zfo(c:Cnd):c.V.take 7=c.V:=qi (by simp)
@[simp]theorem ziF(c:Cnd)(h:0<c.V.length):c.V[0]=int c.kind:=by simp[qv c]
@[simp]theorem ziG(c:Cnd)(h:1<c.V.length):c.V[1]=str c.attr:=by simp[qv c]
@[simp]theorem ziH(c:Cnd)(h:2<c.V.length):c.V[2]=int c.op:=by simp[qv c]
@[simp]theorem ziI(c:Cnd)(h:3<c.V.length):c.V[3]=.sl 5 (c.ki.map Val.V):=by simp[qv c]
@[simp]theorem ziJ(c:Cnd)(h:4<c.V.length):c.V[4]=str c.pat:=by simp[qv c]
@[simp]theorem ziK(c:Cnd)(h:5<c.V.length):c.V[5]=str c.name:=by simp[qv c]
@[simp]theorem ziL(c:Cnd)(h:6<c.V.length):c.V[6]=.sl 7 (c.args.map Cnd.V):=by simp[qv c]
theorem O6{a b:List Val}(h:a.map Val.V=b.map Val.V):a=b:=Yc (fun _ _=>xq) h
theorem dC:∀{a b:Cnd},a.V=b.V->a=b:=by
 intro a
 induction a using Cnd.ind with
 |h k a o v p n l f=>
  intro b e;cases b with
  |mk k' s o' t u w l'=>
   simp only[qv,Cnd.kind,Cnd.attr,Cnd.op,Cnd.ki,Cnd.pat,Cnd.name,Cnd.args,zq,qh]at e;obtain⟨g,i,j,c,m,q,d⟩:=e;obtain rfl:=qA g;obtain rfl:=yp i;obtain rfl:=qA j;injection c with _ c
   obtain rfl:=O6 c;obtain rfl:=yp m;obtain rfl:=yp q;injection d with _ d;rw[YF (fun x r y=>f x r) d]
mutual
def Cnd.cb:Cnd->Nat
 | .mk _ a _ v p n l=>1+a.length+kh v+p.length+n.length+eD l
def eD:List Cnd->Nat
 |[]=>0
 |c::l=>c.cb+eD l
end
theorem Jw(c:Cnd):c.cb=1+c.attr.length+kh c.ki+c.pat.length+c.name.length+eD c.args:=by cases c;rfl
theorem FH(c:Cnd):0<c.cb:=by rw[Jw];omega
theorem dD:∀{l:List Cnd} {x:Cnd},x∈l->x.cb<=eD l
 |y::l,x,h=>by
  simp only[eD];rcases zv.1 h with rfl|h
  ·omega
  ·have:=dD h;omega
theorem Vb:∀l:List Cnd,l.length<=eD l
 |[]=>by simp[eD]
 |c::l=>by have:=Vb l;have:=FH c;simp only[eD,zd];omega
mutual
def Cnd.parts:Cnd->Nat
 | .mk _ _ _ _ _ _ l=>1+yV l
def yV:List Cnd->Nat
 |[]=>0
 |c::l=>c.parts+yV l
end
mutual
def Cnd.levels:Cnd->Nat
 | .mk _ _ _ _ _ _ l=>je l+1
def je:List Cnd->Nat
 |[]=>0
 |c::l=>max c.levels (je l)
end
theorem Yr(c:Cnd):c.parts=1+yV c.args:=by cases c;rfl
theorem bT(c:Cnd):c.levels=je c.args+1:=by cases c;rfl
theorem FK(l:List Cnd)(h:∀x∈l,x.parts<=x.cb):yV l<=eD l:=by
 induction l with
 |nil=>simp[yV]
 |cons v l a=>have:=h v (by simp);have:=a fun x b=>h x (by simp[b]);simp only[yV,eD];omega
theorem LA(c:Cnd):c.parts<=c.cb:=by
 induction c using Cnd.ind with
 |h k a o v p n l b=>have:=FK l b;rw[Yr,Jw];simp only[Cnd.args];omega
theorem CE(l:List Cnd)(h:∀x∈l,x.levels<=x.parts):je l<=yV l:=by
 induction l with
 |nil=>simp[je]
 |cons v l a=>have:=h v (by simp);have:=a fun x b=>h x (by simp[b]);simp only[yV,je];omega
theorem FL(c:Cnd):c.levels<=c.parts:=by
 induction c using Cnd.ind with
 |h k a o v p n l b=>have:=CE l b;rw[Yr,bT];simp only[Cnd.args];omega
theorem bj(a b:List Cnd):yV (a++b)=yV a+yV b:=by
 induction a with
 |nil=>simp[yV]
 |cons v a c=>simp only[qU,yV,c];omega
theorem nt(a b:List Cnd):je (a++b)=max (je a) (je b):=by
 induction a with
 |nil=>simp[je]
 |cons v a c=>simp only[qU,je,c];omega
theorem zgN{l:List Cnd}{k:Nat}(h:k<l.length):yV (l.take (k+1))=yV (l.take k)+l[k].parts/\je (l.take (k+1))=max (je (l.take k)) l[k].levels:=by rw[qE h,bj,nt];simp[yV,je]
theorem sf(l:List Cnd)(k:Nat):yV (l.take k)<=yV l:=by have:=bj (l.take k) (l.drop k);rw[zel]at this;omega
noncomputable def FC (out:Cnd->O) (n:Nat):zb->Option O:=qW (α:=Cnd) (fun c=>[.agg c.V]) (fun c=>c.cb<=qg/\c.cb<=n) out
theorem zgO(out:Cnd->O)(n:Nat)(c:Cnd)(h:c.cb<=qg/\c.cb<=n):FC out n [.agg c.V]=some (out c):=
 qX (V:=fun c:Cnd=>[.agg c.V]) (a:=c) (fun a b e=>by simp only[zq,qh,O.agg.injEq]at e;exact dC e) h
@[simp]theorem LB(Y:Hp)(c:Cnd):qm Y c.V=some (c.V,Y):=by rw[qv];simp
theorem Xu(Y:Hp)(c:Cnd):zO Y (.agg c.V)=some (.agg c.V,Y):=by rw[qv];simp
theorem nu(c:Cnd):O.noOwn (.agg c.V)=true:=by rw[qv];simp
theorem ln(out:Cnd->O)(n:Nat)(c:Cnd)(Y:Hp)(Z:Nat)(h:c.cb<=qg/\c.cb<=n):zn false [] (FC out n) [.agg c.V] Y Z=some (out c,Y,Z):=
 jm (Y1:=Y) (show zH Y [.agg c.V]=some ([.agg c.V],Y) by simp only[zH,Xu]) (zgO out n c h) (.inr (by simp only[wZ,nu,er,zi9]))
theorem Vc{out:Cnd->O}{n:Nat}{args:zb}{r:O}(h:FC out n args=some r):∃c:Cnd,args=[.agg c.V]/\(c.cb<=qg/\c.cb<=n)/\r=out c:=zL h
theorem fw(c:Cnd):0<c.parts:=by rw[Yr];omega
theorem bU:∀{l:List Cnd} {x:Cnd},x∈l->x.parts<=yV l
 |y::l,x,h=>by
  simp only[yV];rcases zv.1 h with rfl|h
  ·omega
  ·have:=bU h;omega
theorem bV:∀l:List Cnd,l.length<=yV l
 |[]=>by simp
 |c::l=>by have:=bV l;have:=fw c;simp only[yV,zd];omega
noncomputable def FCp (out:Cnd->O) (n:Nat):zb->Option O:=qW (α:=Cnd) (fun c=>[.agg c.V]) (fun c=>c.parts<=qg/\c.parts<=n) out
theorem O7(out:Cnd->O)(n:Nat)(c:Cnd)(h:c.parts<=qg/\c.parts<=n):FCp out n [.agg c.V]=some (out c):=
 qX (V:=fun c:Cnd=>[.agg c.V]) (a:=c) (fun a b e=>by simp only[zq,qh,O.agg.injEq]at e;exact dC e) h
theorem O8(out:Cnd->O)(n:Nat)(c:Cnd)(Y:Hp)(Z:Nat)(h:c.parts<=qg/\c.parts<=n):zn false [] (FCp out n) [.agg c.V] Y Z=some (out c,Y,Z):=
 jm (Y1:=Y) (show zH Y [.agg c.V]=some ([.agg c.V],Y) by simp only[zH,Xu]) (O7 out n c h) (.inr (by simp only[wZ,nu,er,zi9]))
theorem sg{dr:Prop}{P:Program}{f:FuncId}{a:Bool}{b:List Nat}{F c:zb->Option O}(h:∀args r,F args=some r->c args=some r)(hs:wO dr P f (zn a b c)):wO dr P f (zn a b F):=
 ⟨hs.1,fun args Y Z r d g e=>hs.2 args Y Z r d g (by
  unfold zn at e⊢;split at e
  ·split at e
   ·rename_i i;simp only[h _ _ i];exact e
   ·cases e
  ·cases e)⟩
theorem O9(out:Cnd->O)(n:Nat):∀args r,FC out n args=some r->FCp out qg args=some r:=fun args r h=>by obtain⟨c,rfl,⟨a,_⟩,rfl⟩:=zL h;have:=LA c;exact O7 out qg c ⟨by omega,by omega⟩
theorem Hz{out:Cnd->O}{f:FuncId}(a:∃fn,prog.funcs[f]?=some fn/\(fn.name== "runtime.NumGoroutine")=false/\fn.body.isNone=false):zi prog f (zn false [] (FC out 0)):=by
 refine⟨a,fun args Y Z r d e h=>?_⟩;unfold zn at h;split at h
 ·split at h
  ·rename_i r0 b;obtain⟨c,_,g,_⟩:=Vc b;have:=FH c;omega
  ·cases h
 ·cases h
noncomputable abbrev GC (out:Cnd->O):AM.Spec:=zn false [] (FC out qg)
theorem Wg(out:Cnd->O)(c:Cnd)(Y:Hp)(Z:Nat)(h:c.cb<=qg):GC out [.agg c.V] Y Z=some (out c,Y,Z):=ln out qg c Y Z ⟨h,h⟩
def YR(op:Int):Bool:=v7 op 2 6||op==12
def xR(op:Int):Bool:=v7 op 7 11
def jY(op:Int):Bool:=v7 op 3 6
noncomputable abbrev Cwi:Ctx:=qj prog [(42,zn false [] (F3 v7))]
theorem FM:AM.Good Cwi (fun g=>[42].contains g):=qx mixed ⟨Qm,fun _=>zt _ _,trivial⟩
def oV(f:Int->Bool):zb->Option O
 |[.v (.int .i64 a)]=>some (yh (f a))
 |_=>none
theorem af{f:Int->Bool}{args:zb}{r:O}(h:oV f args=some r):∃a,args=[int a]/\r=yh (f a):=by
 unfold oV at h;split at h
 ·injection h with h;exact⟨_,rfl,h.symm⟩
 ·cases h
@[simp]theorem zgP(f:Int->Bool)(a:Int)(Y:Hp)(Z:Nat):zn false [] (oV f) [.v (.int .i64 a)] Y Z=some (yh (f a),Y,Z):=jm rfl rfl (.inl rfl)
theorem CF:zi prog 67 (zn false [] (oV YR)):=
 y3 (fn:=f67) FM (wc func67) false [] _ fun args r h=>by obtain⟨a,rfl,rfl⟩:=af h;exact⟨by simp[f67],_,zu rfl (by simp[YR,f67]),q9 _⟩
theorem Xv:zi prog 38 (zn false [] (oV xR)):=
 y3 (fn:=f38) FM (wc func38) false [] _ fun args r h=>by obtain⟨a,rfl,rfl⟩:=af h;exact⟨by simp[f38],_,zu rfl (by simp[xR,f38]),q9 _⟩
theorem Xw:zi prog 40 (zn false [] (oV jY)):=
 y3 (fn:=f40) FM (wc func40) false [] _ fun args r h=>by obtain⟨a,rfl,rfl⟩:=af h;exact⟨by simp[f40],_,zu rfl (by simp[jY,f40]),q9 _⟩
noncomputable abbrev Cms (n:Nat):Ctx:=qj prog [(23,zn false [] (FCp (fun c=>.wL [int c.parts,int c.levels]) n))]
theorem uL(n:Nat)(c:Cnd)(h:c.parts<=qg/\c.parts<=n+1):zG (Cms n) f23 [.agg c.V]=some (.wL [int c.parts,int c.levels]):=by
 have q:=Yr c;have f:=bT c;have r:=FL c;have s:=bV c.args;obtain⟨t,x⟩:=h;unfold qg at t;refine zu rfl ?_;simp;refine ql (fun k M Y Z=>M 9=.sl 7 (c.args.map Cnd.V)/\M 10=int c.args.length/\M 11=int k/\M 2=int ((1+yV (c.args.take k):Nat):Int)/\M 3=int (je (c.args.take k))) c.args.length
  ⟨by simp,by simp,by simp,by simp[yV],by simp[je]⟩ ?_
 rintro k M Y Z y ⟨l,d,e,g,i⟩;by_cases a:k<c.args.length
 ·obtain⟨m,u⟩:=zgN a;have z:=bU (zw a);have v:=wv k;have o:=sf c.args k;have j:=sf c.args (k+1);have b:=fun Y Z=>O8 (fun c=>.wL [int c.parts,int c.levels]) n c.args[k] Y Z ⟨by unfold qg;omega,by omega⟩
  have p:IntKind.i64.wrap (((1+yV (c.args.take k):Nat):Int)+c.args[k].parts)=((1+yV (c.args.take (k+1)):Nat):Int):=by rw[wU (by omega) (by omega),m];omega
  have w:(if(je (c.args.take k))<c.args[k].levels then(c.args[k].levels:Int)else je (c.args.take k))=(je (c.args.take (k+1)):Int):=by rw[u];split<;>omega
  simp[g,i,l,d,e,a,b,v];exact⟨by omega,by rw[wU (by omega) (by omega),m];omega,w⟩
 ·obtain rfl:k=c.args.length:=by omega
  rw[we]at g i;have p:IntKind.i64.wrap ((je c.args:Int)+1)=(c.levels:Int):=by rw[wU (by omega) (by omega),f];omega
  simp[g,i,l,d,e,p,yx,f23];omega
theorem nv:∀n,zi prog 23 (zn false [] (FCp (fun c=>.wL [int c.parts,int c.levels]) n)):=by
 intro n
 induction n with
 |zero=>
  exact Kk ⟨_,func23,by kernel_rfl,by kernel_rfl⟩ fun args r h=>by obtain⟨c,_,⟨_,e⟩,_⟩:=zL h;have:=fw c;omega
 |succ n a=>have b:Gd (Cms n):=qQ mixed ⟨a,trivial⟩;exact VG b func23 false [] fun c d=>⟨z8 (zk 1) (by decide),_,uL n c d,q9 _⟩
theorem pF(n:Nat):zi prog 23 (zn false [] (FC (fun c=>.wL [int c.parts,int c.levels]) n)):=sg (O9 _ n) (nv qg)
def w1F(c:Cnd):Bool:=!(c.kind==4)&&(!c.attr.isEmpty||c.op != 0||decide (0<c.ki.length)||!c.pat.isEmpty)
def w2F(c:Cnd):Bool:=c.kind != 5&&!c.name.isEmpty
def w3F(c:Cnd):Bool:=!v7 c.kind 1 3&&decide (0<c.args.length)
def w4F(c:Cnd):Bool:=c.kind==4&&!YR c.op&&decide (0<c.ki.length)
def w5F(c:Cnd):Bool:=c.kind==4&&!xR c.op&&!c.pat.isEmpty
def w6F(c:Cnd):Bool:=c.kind==3&&(c.args.length:Int) != 1
def w7F(c:Cnd):Bool:=c.kind==4&&jY c.op&&(c.ki.length:Int) != 1
def ZD(c:Cnd):Bool:=w1F c||w2F c||w3F c||w4F c||w5F c||w6F c||w7F c
noncomputable abbrev Cfo:Ctx:=qj prog [(42,zn false [] (F3 v7)),(67,zn false [] (oV YR)),(38,zn false [] (oV xR)),(40,zn false [] (oV jY))]
theorem zdt:AM.Good Cfo (fun g=>[42,67,38,40].contains g):=qx mixed ⟨Qm,fun _=>zt _ _,CF,fun _=>zt _ _,Xv,fun _=>zt _ _,Xw,fun _=>zt _ _,trivial⟩
@[simp]theorem zgQ:kY Cfo 67:=jo (by rfl) (zt _ _)
@[simp]theorem zgR:kY Cfo 38:=jo (by rfl) (zt _ _)
@[simp]theorem zgS:kY Cfo 40:=jo (by rfl) (zt _ _)
theorem nw(c:Cnd)(h:c.cb<=qg):zG Cfo f43 [.agg c.V]=some (int (if ZD c=true then 3 else 0)):=by
 refine zu rfl ?_;have a:(!(c.kind==4)&&(!c.attr.isEmpty||c.op != 0||decide (0<c.ki.length)||!c.pat.isEmpty))=w1F c:=rfl;have d:(c.kind != 5&&!c.name.isEmpty)=w2F c:=rfl;have f:(!v7 c.kind 1 3&&decide (0<c.args.length))=w3F c:=rfl;have i:(c.kind==4&&!YR c.op&&decide (0<c.ki.length))=w4F c:=rfl;have k:(c.kind==4&&!xR c.op&&!c.pat.isEmpty)=w5F c:=rfl;have m:(c.kind==3&&(c.args.length:Int) != 1)=w6F c:=rfl;have o:(c.kind==4&&jY c.op&&(c.ki.length:Int) != 1)=w7F c:=rfl;cases b:w1F c
 case true=>simp[a,b,ZD,f43]
 cases e:w2F c
 case true=>simp[a,b,d,e,ZD,f43]
 cases g:w3F c
 case true=>simp[a,b,d,e,f,g,ZD,f43]
 cases j:w4F c
 case true=>simp[a,b,d,e,f,g,i,j,ZD,f43]
 cases l:w5F c
 case true=>simp[a,b,d,e,f,g,i,j,k,l,ZD,f43]
 cases n:w6F c
 case true=>simp[a,b,d,e,f,g,i,j,k,l,m,n,ZD,f43]
 cases p:w7F c
 case true=>simp[a,b,d,e,f,g,i,j,k,l,m,n,o,p,ZD,f43]
 simp[a,b,d,e,f,g,i,j,k,l,m,n,o,p,ZD,f43]
theorem iF:zi prog 43 (GC fun c=>int (if ZD c=true then 3 else 0)):=
 y3 (fn:=f43) zdt (wc func43) false [] _ fun args r h=>by obtain⟨c,rfl,a,rfl⟩:=Vc h;exact⟨by simp[f43],_,nw c a.1,q9 _⟩
noncomputable def bW (p:Option Val) (v:Val):Bool:=match p with
 |none=>false
 |some p=>decide (0<=qG p v)
def CG(op:Int)(v:Val):Bool:=v.kind==0||jY op&&v.kind != 2
noncomputable def aI (op:Int):Option Val->List Val->Int
 |_,[]=>0
 |p,v::l=>if v.check=0 then(if CG op v=true then 6 else if bW p v=true then 8 else aI op (some v) l)else v.check
noncomputable def Qa (op:Int) (l:List Val):Int:=if(100:Int)<l.length then 2 else aI op none l
def QR(l:List Val)(k:Nat):Option Val:=if k=0 then none else l[k-1]?
noncomputable def FIv (f:Int->List Val->O):zb->Option O:=qW (α:=Int×List Val) (fun a=>[int a.1,.sl 5 (a.2.map Val.V)]) (fun a=>kh a.2<=qg) (fun a=>f a.1 a.2)
theorem Pb(f:Int->List Val->O)(op:Int)(l:List Val)(Y:Hp)(Z:Nat)(h:kh l<=qg):zn false [] (FIv f) [int op,.sl 5 (l.map Val.V)] Y Z=some (f op l,Y,Z):=
 iX (op,l) _ _ (by simp) (fun x y e=>by obtain⟨c,d⟩:=x;obtain⟨g,i⟩:=y;simp only[zq,qh]at e;obtain⟨b,a⟩:=e;injection a with _ a;rw[qA b,fj a]) h (.inr (by simp))
noncomputable abbrev Ccv2:Ctx:=qj prog [(68,GV fun v=>int v.check),(40,zn false [] (oV jY)),(64,zn false [] (OJ qg))]
theorem UN:AM.Good Ccv2 (fun g=>[40,64].contains g):=qx mixed ⟨BL,by simp,Xw,fun _=>zt _ _,YP qg,fun _=>zt _ _,trivial⟩
@[simp]theorem zfp:kY Ccv2 40:=jo (by rfl) (zt _ _)
theorem fx(op:Int)(l:List Val)(h:kh l<=qg):zG Ccv2 f45 [int op,.sl 5 (l.map Val.V)]=some (int (Qa op l)):=by
 have A:=yT l;unfold qg at h;refine zu rfl ?_;by_cases c:(100:Int)<l.length
 ·have x:Qa op l=2:=by unfold Qa;rw[zg c]
  simp[c,x,f45]
 have x:Qa op l=aI op none l:=by unfold Qa;rw[zf c]
 rw[x];simp[c];refine ql (fun k M Y Z=>M 0=int op/\M 1=.sl 5 (l.map Val.V)/\M 11=.sl 5 (l.map Val.V)/\M 12=int l.length/\M 13=int k/\aI op none l=aI op (QR l k) (l.drop k)) l.length
  ⟨by simp,by simp,by simp,by simp,by simp,by simp[QR]⟩ ?_
 rintro k M Y Z L ⟨p,q,d,e,f,a⟩;by_cases b:k<l.length
 ·have N:=jZ (zw b);have B:=wv k;have i:=fun Y Z=>Jr (fun v=>int v.check) l[k] Y Z (by unfold qg;omega)
  rw[zl b]at a;simp only[aI]at a;have r:QR l (k+1)=some l[k]:=by simp[QR,b]
  have m:(l[k].kind==0||jY op&&l[k].kind != 2)=CG op l[k]:=rfl;by_cases n:l[k].check=0
  case neg=>rw[zf n]at a;have y:=VF n;simp[p,q,d,e,f,b,i,y,a,f45]
  rw[zg n]at a;cases g:CG op l[k]
  case true=>rw[g,zg rfl]at a;simp[p,q,d,e,f,b,i,n,m,g,a,f45]
  rw[g,zf (by simp)]at a;by_cases H:k=0
  ·subst H;have I:bW (QR l 0) l[0]=false:=rfl;rw[I,zf (by simp)]at a;simp[p,q,d,e,f,b,i,n,m,g,B];exact⟨by omega,by rw[a,show QR l 1=some l[0]from r];simp⟩
  ·obtain⟨j,rfl⟩:∃j,k=j+1:=⟨k-1,by omega⟩;have u:j<l.length:=by omega
   have J:=jZ (zw u);have C:IntKind.i64.wrap ((j:Int)+1-1)=(j:Int):=by rw[wU (by omega) (by omega)];omega
   have s:=wj (j:Int);have D:((j:Int)+1).toNat=j+1:=by omega
   have E:0<(j:Int)+1:=by omega
   have F:0<=(j:Int)+1:=by omega
   have G:(j:Int)+1<l.length:=by omega
   have t:=fun Y Z=>Qv qg l[j] l[j+1] Y Z ⟨by unfold qg;omega,by unfold qg;omega,by unfold qg;omega⟩
   have z:bW (QR l (j+1)) l[j+1]=decide (0<=qG l[j] l[j+1]):=by simp[QR,u,bW]
   rw[z]at a;by_cases w:0<=qG l[j] l[j+1]
   ·have o:decide (0<=qG l[j] l[j+1])=true:=by simpa using w
    rw[zg o]at a;simp[p,q,d,e,f,b,u,i,n,m,g,B,C,s,D,E,F,G,t,w,a,f45]
   ·have o:¬decide (0<=qG l[j] l[j+1])=true:=by simpa using w
    rw[zf o]at a;have K:=wj ((j:Int)+1+1);simp[p,q,d,e,f,b,u,i,n,m,g,K,C,s,D,E,F,G,t,w];exact⟨by omega,by rw[a,r]⟩
 ·obtain rfl:k=l.length:=by omega
  rw[zA]at a;simp only[aI]at a;simp[p,q,d,e,f,a,f45]
theorem dE:zi prog 45 (zn false [] (FIv fun op l=>int (Qa op l))):=
 VG UN func45 false [] fun⟨op,l⟩ a=>⟨by simp[f45],_,fx op l a,q9 _⟩
noncomputable def Jg (op:Int) (s:za):Int:=if(500:Int)<s.length then 2 else if wX 32 126 s=true then(if op=11 then(Qz s).2 else 0)else 1
noncomputable def FIs (f:Int->za->O):zb->Option O:=qW (α:=Int×za) (fun a=>[int a.1,str a.2]) (fun a=>a.2.length<=qg) (fun a=>f a.1 a.2)
theorem Pc(f:Int->za->O)(op:Int)(s:za)(Y:Hp)(Z:Nat)(h:s.length<=qg):zn false [] (FIs f) [int op,str s] Y Z=some (f op s,Y,Z):=
 iX (op,s) _ _ rfl (fun x y e=>by obtain⟨a,b⟩:=x;obtain⟨c,d⟩:=y;simp only[zq,qh]at e;rw[qA e.1,yp e.2]) h (.inr (by simp))
noncomputable abbrev Cpt:Ctx:=qj prog [(69,zn false [] (aF CC))]
theorem zdu:Gd Cpt:=qQ mixed ⟨iE,trivial⟩
theorem dF(op:Int)(s:za)(h:s.length<=qg):zG Cpt f46 [int op,str s]=some (int (Jg op s)):=by
 unfold qg at h;refine zu rfl ?_;by_cases a:(500:Int)<s.length
 ·have b:Jg op s=2:=by unfold Jg;rw[zg a]
  simp[a,b,f46]
 have i:=fun Y Z=>Zd CC s Y Z (by unfold qg;omega)
 simp only[CC]at i;have b:Jg op s=if wX 32 126 s=true then(if op=11 then(Qz s).2 else 0)else 1:=by unfold Jg;rw[zf a]
 simp[a];refine ql (fun k M Y Z=>M 0=int op/\M 1=str s/\M 12=int s.length/\M 13=int k/\wX 32 126 s=wX 32 126 (s.drop k)) s.length ⟨by simp,by simp,by simp,by simp,by simp⟩ ?_;rintro k M Y Z q ⟨l,m,c,d,g⟩;by_cases e:k<s.length
 ·have p:=wv k;rw[Yd e]at g;have o:=eP 32 126 s[k];simp only[qu]at o;cases n:pr 32 126 s[k]
  ·have g:wX 32 126 s=false:=by rw[g,n];rfl
   rw[g,zf (by simp)]at b;simp[l,m,c,d,e,b,o,n,f46]
  ·simp[l,m,c,d,e,o,n,p];exact⟨e,by rw[g,n];rfl⟩
 ·obtain rfl:k=s.length:=by omega
  have g:wX 32 126 s=true:=by rw[g,zA];rfl
  rw[g,zg rfl]at b;by_cases f:op=11
  ·rw[zg f]at b;subst f;simp[l,m,c,d,i,b,f46]
  ·rw[zf f]at b;have j:=jl f;simp[l,m,c,d,j,b,f46]
theorem bX:zi prog 46 (zn false [] (FIs fun op s=>int (Jg op s))):=
 VG zdu func46 false [] fun⟨op,s⟩ a=>⟨by simp[f46],_,dF op s a,q9 _⟩
def gL(c:Cnd):Bool:=!v7 c.kind 1 5
def Pd(c:Cnd):Bool:=c.kind==4&&!v7 c.op 1 12
def bm(c:Cnd):Bool:=(c.kind==4&&!y4 c.attr)||(c.kind==5&&!y4 c.name)
def FN(c:Cnd):Bool:=c.kind==4&&xR c.op
noncomputable def vM (c:Cnd):Int:=if(gL c||Pd c)=true then 4 else if ZD c=true then 3 else if bm c=true then 5 else if Qa c.op c.ki=0 then(if FN c=true then Jg c.op c.pat else 0)else Qa c.op c.ki
mutual
noncomputable def Cnd.fault:Cnd->Int
 | .mk k a o v p n l=>if vM (.mk k a o v p n l)=0 then xY l else vM (.mk k a o v p n l)
noncomputable def xY:List Cnd->Int
 |[]=>0
 |c::l=>if c.fault=0 then xY l else c.fault
end
theorem sj(c:Cnd):c.fault=if vM c=0 then xY c.args else vM c:=by cases c;simp only[Cnd.fault];rfl
theorem Xx{l:List Cnd}{k:Nat}(h:k<l.length):xY (l.drop k)=if l[k].fault=0 then xY (l.drop (k+1))else l[k].fault:=by rw[zl h,xY]
noncomputable abbrev Pe (n:Nat):Ctx:=qj prog [(24,zn false [] (FC (fun c=>int c.fault) n)),(42,zn false [] (F3 v7)),(43,GC fun c=>int (if ZD c=true then 3 else 0)),(44,zn false [] (FS y4)),
 (45,zn false [] (FIv fun op l=>int (Qa op l))),(38,zn false [] (oV xR)),(46,zn false [] (FIs fun op s=>int (Jg op s)))]
@[simp]theorem zfq(n:Nat):kY (Pe n) 42:=jo (by rfl) (zt _ _)
@[simp]theorem zfr(n:Nat):kY (Pe n) 44:=jo (by rfl) (zt _ _)
@[simp]theorem zfs(n:Nat):kY (Pe n) 38:=jo (by rfl) (zt _ _)
theorem iG(n:Nat)(c:Cnd)(h:c.cb<=qg/\c.cb<=n+1):zG (Pe n) f24 [.agg c.V]=some (int c.fault):=by
 have N:=Jw c;have P:=Vb c.args;obtain⟨L,S⟩:=h;have x:=sj c;have i:=fun Y Z=>Wg (fun c=>int (if ZD c=true then 3 else 0)) c Y Z L
 have r:=fun Y Z=>Pb (fun op l=>int (Qa op l)) c.op c.ki Y Z (by omega)
 have D:=fun Y Z=>Pc (fun op s=>int (Jg op s)) c.op c.pat Y Z (by omega)
 have j:c.attr.length<=qg:=by omega
 have m:c.name.length<=qg:=by omega
 unfold qg at L;refine zu rfl ?_;have v:(!v7 c.kind 1 5)=gL c:=rfl;have y:(c.kind==4&&!v7 c.op 1 12)=Pd c:=rfl;have E:((c.kind==4&&!y4 c.attr)||(c.kind==5&&!y4 c.name))=bm c:=rfl;have H:(c.kind==4&&xR c.op)=FN c:=rfl;cases q:gL c
 case true=>simp[v,q,x,vM,f24]
 cases t:Pd c
 case true=>simp[v,q,y,t,x,vM,f24]
 cases w:ZD c
 case true=>simp[v,q,y,t,i,w,x,vM,f24]
 cases z:bm c
 case true=>simp[v,q,y,t,i,w,j,m,E,z,x,vM,f24]
 by_cases A:Qa c.op c.ki=0
 case neg=>have I:=VF A;simp[v,q,y,t,i,w,j,m,E,z,r,A,I,x,vM,f24]
 have o:∀(C:vM c=0),c.fault=xY c.args:=fun C=>by rw[x,zg C]
 cases F:FN c
 case false=>
  have C:vM c=0:=by simp[vM,q,t,w,z,A,F]
  have p:=o C;simp[v,q,y,t,i,w,j,m,E,z,r,A,H,F];refine ql (fun k M Y Z=>M 73=.sl 7 (c.args.map Cnd.V)/\M 74=int c.args.length/\M 75=int k/\xY c.args=xY (c.args.drop k)) c.args.length ⟨by simp,by simp,by simp,by simp⟩ ?_;rintro k M Y Z Q ⟨e,f,g,b⟩;by_cases d:k<c.args.length
  ·have R:=dD (zw d);have J:=wv k;have a:=fun Y Z=>ln (fun c=>int c.fault) n c.args[k] Y Z ⟨by unfold qg;omega,by omega⟩
   rw[Xx d]at b;by_cases u:c.args[k].fault=0
   ·rw[zg u]at b;simp[e,f,g,d,a,u,J];exact⟨by omega,b⟩
   ·rw[zf u]at b;have B:=VF u;simp[e,f,g,d,a,B,p,b,f24]
  ·obtain rfl:k=c.args.length:=by omega
   rw[zA]at b;have b:xY c.args=0:=by rw[b];rfl
   simp[e,f,g,p,b,f24]
 case true=>
  by_cases G:Jg c.op c.pat=0
  case neg=>have K:=VF G;simp[v,q,y,t,i,w,j,m,E,z,r,A,H,F,D,G,K,x,vM,f24]
  have C:vM c=0:=by simp[vM,q,t,w,z,A,F,G]
  have p:=o C;simp[v,q,y,t,i,w,j,m,E,z,r,A,H,F,D,G];refine ql (fun k M Y Z=>M 73=.sl 7 (c.args.map Cnd.V)/\M 74=int c.args.length/\M 75=int k/\xY c.args=xY (c.args.drop k)) c.args.length ⟨by simp,by simp,by simp,by simp⟩ ?_;rintro k M Y Z Q ⟨e,f,g,b⟩;by_cases d:k<c.args.length
  ·have R:=dD (zw d);have J:=wv k;have a:=fun Y Z=>ln (fun c=>int c.fault) n c.args[k] Y Z ⟨by unfold qg;omega,by omega⟩
   rw[Xx d]at b;by_cases u:c.args[k].fault=0
   ·rw[zg u]at b;simp[e,f,g,d,a,u,J];exact⟨by omega,b⟩
   ·rw[zf u]at b;have B:=VF u;simp[e,f,g,d,a,B,p,b,f24]
  ·obtain rfl:k=c.args.length:=by omega
   rw[zA]at b;have b:xY c.args=0:=by rw[b];rfl
   simp[e,f,g,p,b,f24]
theorem fy:∀n,zi prog 24 (zn false [] (FC (fun c=>int c.fault) n)):=by
 intro n
 induction n with
 |zero=>exact Hz ⟨_,func24,by kernel_rfl,by kernel_rfl⟩
 |succ n a=>
  have b:AM.Good (Pe n) (fun g=>[42,44,38].contains g):=qx mixed ⟨a,by simp,Qm,fun _=>zt _ _,iF,by simp,cT,fun _=>zt _ _,dE,by simp,Xv,fun _=>zt _ _,bX,by simp,trivial⟩;exact y3 (fn:=f24) b (wc func24) false [] _ fun args r h=>by obtain⟨c,rfl,d,rfl⟩:=Vc h;exact⟨z8 (zk 1) (by decide),_,iG n c d,q9 _⟩
noncomputable def Cnd.check (c:Cnd):Int:=if(decide ((200:Int)<c.parts)||decide ((20:Int)<c.levels))=true then 2 else c.fault
noncomputable abbrev Ccch:Ctx:=qj prog [(24,GC fun c=>int c.fault),(23,GC fun c=>.wL [int c.parts,int c.levels])]
theorem uM:zi prog 10 (GC fun c=>int c.check):=
 y3 (fn:=f10) (qQ mixed ⟨fy qg,pF qg,trivial⟩:AM.Good Ccch _) (wc func10) false [] _ fun args r h=>by
  obtain⟨c,rfl,a,rfl⟩:=Vc h;have b:=fun Y Z=>Wg (fun c=>int c.fault) c Y Z a.1
  have d:=fun Y Z=>Wg (fun c=>.wL [int c.parts,int c.levels]) c Y Z a.1
  refine⟨by simp[f10],_,zu rfl ?_,q9 _⟩;cases e:(decide ((200:Int)<c.parts)||decide ((20:Int)<c.levels))
  ·simp[b,d,e,f10,Cnd.check]
  ·simp[b,d,e,f10,Cnd.check]
structure XS (v:Val) (o3 o4:O) (Y:Hp) (Z:Nat):Prop where
 b0:Y 0=some ⟨43,5,false,[[int v.kind,int v.n,str v.s,o3,o4]]⟩
 b1:Y 1=some ⟨43,5,false,[[int 0,int 0,.v (.string ⟨#[]⟩),.nil,.nil]]⟩
 s3:qN Y Z 43 5 o3 (v.items.map Val.V)
 s4:qN Y Z 53 6 o4 (v.fields.map wN)
 d3:∀id m,id<2->o3≠.own id 0 m
 d4:∀id m,id<2->o4≠.own id 0 m
 d:∀id m m',o3=.own id 0 m->o4≠.own id 0 m'
 SC:2<=Z
structure Ctxt where
 key:List UInt8
 attrs:List (List UInt8×Val)
end Go.Q
namespace Go.AM
def Pf(st:List Int):Nat:=st.count 0
structure Kept (st st':List Int):Prop where
 len:st'.length=st.length
 wh:Pf st'<=Pf st
 black:∀j:Nat,st[j]?=some 2->st'[j]?=some 2
 grey:∀j:Nat,st'[j]?=some 1↔st[j]?=some 1
 ki:(∀v∈st,v=0\/v=1\/v=2)->∀v∈st',v=0\/v=1\/v=2
inductive Wayn (E:Nat->Nat->Prop):Nat->Nat->Prop
 |one {a b:Nat}:E a b->Wayn E a b
 |tail {a b c:Nat}:Wayn E a b->E b c->Wayn E a c
structure Bfs {α:Type} (next:α->List α) (start out queue:List α):Prop where
 nodup:out.Nodup
 strt:∀a∈start,a∈out\/a∈queue
 step:∀a∈out,∀b∈next a,b∈out\/b∈queue
 only:∀(Q:α->Prop),(∀a∈start,Q a)->(∀a b,Q a->b∈next a->Q b)->(∀a∈out,Q a)/\∀a∈queue,Q a
inductive From {α:Type} (next:α->List α) (start:List α):α->Prop
 |here {a:α}:a∈start->From next start a
 |there {a b:α}:From next start a->b∈next a->From next start b
end Go.AM
namespace Go.Q
structure A5 where
 name:List UInt8
 ins:List (List UInt8)
 outs:List (List UInt8)
 cond:Cnd
def A5.V(s:A5):zb:=[str s.name,.sl 1 (qJ s.ins),.sl 1 (qJ s.outs)]++s.cond.V
theorem HA(s:A5):s.V=[str s.name,.sl 1 (qJ s.ins),.sl 1 (qJ s.outs),int s.cond.kind,str s.cond.attr,int s.cond.op,.sl 5 (s.cond.ki.map Val.V),str s.cond.pat,str s.cond.name,.sl 7 (s.cond.args.map Cnd.V)]:=by unfold A5.V;rw[qv];rfl
@[simp]theorem zib(s:A5):s.V.length=10:=by rw[HA];rfl
@[simp]theorem zgT(s:A5):s.V.drop 3=s.cond.V:=rfl
@[simp]theorem zi6(s:A5)(h:0<s.V.length):s.V[0]=str s.name:=rfl
@[simp]theorem zi7(s:A5)(h:1<s.V.length):s.V[1]=.sl 1 (qJ s.ins):=rfl
@[simp]theorem zi8(s:A5)(h:2<s.V.length):s.V[2]=.sl 1 (qJ s.outs):=rfl
@[simp]theorem zft(s:A5):s.V.all O.ye=true:=by rw[HA];rfl
mutual
def Cnd.names:Cnd->List za
 | .mk k _ _ _ _ n l=>(if k=5 then[n]else[])++SR l
def SR:List Cnd->List za
 |[]=>[]
 |c::l=>c.names++SR l
end
noncomputable def idxG (l:List A5) (n:za):Nat:=(bsN (l.map A5.name) n).1
noncomputable def zgU (l:List A5) (n:za):Bool:=(bsN (l.map A5.name) n).2
noncomputable def zgV (l:List A5) (i:Nat):List Nat:=match l[i]? with
 |some s=>s.cond.names.map (idxG l)
 |none=>[]
def zb2:Option za->List za->Int
 |_,[]=>0
 |p,k::l=>if zcN k=true then(if mx p k=true then 8 else zb2 (some k) l)else 3
def HB(l:List za):Int:=if(1000:Int)<l.length then 2 else zb2 none l
noncomputable def segF (s:A5):Int:=if HB s.ins=0 then(if HB s.outs=0 then(if(s.ins.any fun k=>s.outs.contains k)=true then 7 else s.cond.check)else HB s.outs)else HB s.ins
structure zjd (l:List A5):Prop where
 len:l.length<=100
 up:UpN (l.map A5.name)
 right:∀s∈l,y4 s.name=true/\segF s=0
 known:∀s∈l,∀n∈s.cond.names,zgU l n=true
 acyc:∀i:Nat,¬Wayn (fun a b=>b∈zgV l a) i i
mutual
def Cnd.SS(pZ:za->Bool)(b:Cnd->Bool):Cnd->Bool
 | .mk k a o v p n l=>if k=1 then allM pZ b l else if k=2 then anyM pZ b l else if k=3 then !(zho pZ b l)else if k=5 then pZ n else b (.mk k a o v p n l)
def allM(pZ:za->Bool)(a:Cnd->Bool):List Cnd->Bool
 |[]=>true
 |c::l=>c.SS pZ a&&allM pZ a l
def anyM(pZ:za->Bool)(a:Cnd->Bool):List Cnd->Bool
 |[]=>false
 |c::l=>c.SS pZ a||anyM pZ a l
def zho(pZ:za->Bool)(a:Cnd->Bool):List Cnd->Bool
 |[]=>false
 |c::_=>c.SS pZ a
end
@[simp]theorem zic(s:wG):s.V.length=11:=rfl
end Go.Q
namespace Go.LikeLaw
inductive Lk:List UInt8->List UInt8->Prop
 |nil:Lk [] []
 |SU {t p:List UInt8}:Lk t p->Lk t (42::p)
 |SV {c:UInt8} {t p:List UInt8}:Lk t (42::p)->Lk (c::t) (42::p)
 |one {c q:UInt8} {t p:List UInt8}:q≠42->(q=63\/q=c)->Lk t p->Lk (c::t) (q::p)
theorem El{t p:za}:Lk t (42::p)↔∃a b,t=a++b/\Lk b p:=by
 constructor
 ·intro h;generalize d:(42::p:za)=q at h
  induction h with
  |nil=>cases d
  |SU h _=>cases d;exact⟨[],_,rfl,h⟩
  | @SV c t i h e=>obtain⟨a,b,rfl,g⟩:=e d;exact⟨c::a,b,rfl,g⟩
  |one f _ _=>cases d;exact absurd rfl f
 ·rintro⟨a,b,rfl,h⟩
  induction a with
  |nil=>exact .SU h
  |cons c a e=>exact .SV e
theorem HC{c q:UInt8}{t p:za}(a:q≠42):Lk (c::t) (q::p)↔(q=63\/q=c)/\Lk t p:=by
 constructor
 ·intro h;cases h with
  |SU=>exact absurd rfl a
  |SV=>exact absurd rfl a
  |one _ b d=>exact⟨b,d⟩
 ·rintro⟨b,d⟩;exact .one a b d
theorem CH{q:UInt8}{p:za}(a:q≠42):¬Lk [] (q::p):=by intro h;cases h;exact a rfl
theorem split{k:za}:∀{g t:za},Lk t (g++k)->∃d e,t=d++e/\Lk d g/\Lk e k
 |[],t,h=>⟨[],t,rfl,.nil,h⟩
 |q::g,t,h=>by
  by_cases f:q=42
  ·subst f;obtain⟨a,b,rfl,l⟩:=El.1 h;obtain⟨d,e,rfl,i,j⟩:=split l;exact⟨a++d,e,by simp,El.2 ⟨a,d,rfl,i⟩,j⟩
  ·cases t with
   |nil=>exact absurd h (CH f)
   |cons c t=>obtain⟨a,b⟩:=(HC f).1 h;obtain⟨d,e,rfl,i,j⟩:=split b;exact⟨c::d,e,rfl,.one f a i,j⟩
theorem pZ{s:za}(hs:∀q∈s,q≠42){p:za}:∀{t:za},Lk t (s++p)->s.length<=t.length/\Lk (t.drop s.length) p:=by
 induction s with
 |nil=>intro t h;exact⟨by simp,h⟩
 |cons q s d=>
  intro t h;have a:q≠42:=hs q (by simp);cases t with
  |nil=>exact absurd h (CH a)
  |cons c t=>obtain⟨_,b⟩:=(HC a).1 h;obtain⟨g,e⟩:=d (fun x f=>hs x (by simp[f])) b;exact⟨by simp;omega,by simpa using e⟩
structure Inv (t p:List UInt8) (star:Int) (fr i k:Nat):Prop where
 hi:i<=t.length
 hk:k<=p.length
 none_:star<0->star=-1/\(Lk t p↔Lk (t.drop i) (p.drop k))
 some_:0<=star->∃s,p.drop (star.toNat+1)=s++p.drop k/\star.toNat+1+s.length=k/\fr+s.length=i/\(∀q∈s,q≠42) /\
  (∀r,Lk (t.drop i) r->Lk (t.drop fr) (s++r))/\(Lk t p↔∃f,fr<=f/\f<=t.length/\Lk (t.drop f) (p.drop (star.toNat+1)))
end Go.LikeLaw
namespace Go.Q
open Go.RowKit Go.AM Go.LikeLaw
structure LInv (t p:List UInt8) (star:Int) (fr i k:Nat):Prop extends LikeLaw.Inv t p star fr i k where
 s0:-1<=star
 s1:star<k
 f1:fr<=i
end Go.Q
namespace Go.Q
theorem ny{α d:Type}(f:d->α)(c:α->α->Int):∀a b:List d,yl c (a.map f) (b.map f)=yl (fun x y=>c (f x) (f y)) a b
 |[],[]=>rfl
 |[],_::_=>rfl
 |_::_,[]=>rfl
 |x::a,y::b=>by simp only[wK,yl,ny f c a b]
def LC(v:Val):Int:=if v.kind=1\/v.kind=2 then v.n else 0
def LD(v:Val):za:=if v.kind=3 then v.s else[]
def CI(v:Val):List Val:=if v.kind=4 then v.items else[]
def CJ(v:Val):List (za×Val):=if v.kind=5 then v.fields else[]
theorem FO(a b:Val):qG a b=xD (fun x y=>wI x.kind y.kind) (xD (fun x y=>wI (LC x) (LC y)) (xD (fun x y=>yW (LD x) (LD y)) (xD (fun x y=>yl qG (CI x) (CI y)) fun x y=>yl jN (CJ x) (CJ y)))) a b:=by
 rw[xk];unfold xD;by_cases i:a.kind=b.kind
 ·have j:wI a.kind b.kind=0:=by rw[i];exact ZX.refl _
  have s:wI 0 0=0:=ZX.refl _;have n:yW [] []=0:=kL.refl _;have k:yl qG [] []=0:=rfl;have g:yl jN [] []=0:=rfl;rw[zg i,zg j];unfold LC LD CI CJ;dsimp only;by_cases o:b.kind=1\/b.kind=2
  ·have t:¬b.kind=3:=by omega
   have l:¬b.kind=4:=by omega
   have e:¬b.kind=5:=by omega
   have m:a.kind=1\/a.kind=2:=by omega
   have f:¬a.kind=3:=by omega
   have d:¬a.kind=4:=by omega
   have c:¬a.kind=5:=by omega
   simp only[zg o,zf t,zf l,zf e,zg m,zf f,zf d,zf c,n,k,g,zK];split
   ·rename_i h;exact h
   ·rfl
  ·have m:¬(a.kind=1\/a.kind=2):=by omega
   simp only[zf o,zf m,s,zK];by_cases p:b.kind=3
   ·have l:¬b.kind=4:=by omega
    have e:¬b.kind=5:=by omega
    have f:a.kind=3:=by omega
    have d:¬a.kind=4:=by omega
    have c:¬a.kind=5:=by omega
    simp only[zg p,zf l,zf e,zg f,zf d,zf c,k,g,zK];split
    ·rename_i h;exact h
    ·rfl
   ·have f:¬a.kind=3:=by omega
    simp only[zf p,zf f,n,zK];by_cases q:b.kind=4
    ·have e:¬b.kind=5:=by omega
     have d:a.kind=4:=by omega
     have c:¬a.kind=5:=by omega
     simp only[zg q,zf e,zg d,zf c,g];split
     ·rename_i h;exact h
     ·rfl
    ·have d:¬a.kind=4:=by omega
     simp only[zf q,zf d,k,zK];by_cases r:b.kind=5
     ·have c:a.kind=5:=by omega
      simp only[zg r,zg c]
     ·have c:¬a.kind=5:=by omega
      simp only[zf r,zf c,g]
 ·have j:¬wI a.kind b.kind=0:=by unfold wI;split<;>(try split)<;>omega
  rw[zf i,zf j]
abbrev Xy(n:Nat):={v:Val // v.vb<=n}
def FQ(n:Nat)(v:Xy (n+1)):List (Xy n):=(CI v.1).attach.map fun x=>⟨x.1,by
 have a:=x.2;unfold CI at a;split at a
 ·have b:=jZ a;have c:=kv v.1;have d:=v.2;omega
 ·cases a⟩
def FR(n:Nat)(v:Xy (n+1)):List (za×Xy n):=(CJ v.1).attach.map fun x=>(x.1.1,⟨x.1.2,by
 have a:=x.2;unfold CJ at a;split at a
 ·have b:=Zb a;have c:=kv v.1;have d:=v.2;omega
 ·cases a⟩)
theorem CK(n:Nat)(v:Xy (n+1)):(FQ n v).map (·.1)=CI v.1:=by unfold FQ;rw[List.map_map];exact List.attach_map_subtype_val _
theorem CL(n:Nat)(v:Xy (n+1)):(FR n v).map (fun x=>(x.1,x.2.1))=CJ v.1:=by unfold FR;rw[List.map_map];exact List.attach_map_subtype_val _
theorem FT(a b:za×Val):jN a b=xD (fun x y=>yW x.1 y.1) (fun x y=>qG x.2 y.2) a b:=by
 unfold jN xD KE;simp only[KE];split
 ·split
  ·rename_i c;rw[c]
  ·rfl
 ·rfl
theorem lp:∀n:Nat,TO fun a b:Xy n=>qG a.1 b.1
 | 0=>⟨fun x=>absurd x.2 (by have:=WO x.1;omega),fun x _=>absurd x.2 (by have:=WO x.1;omega),fun x _ _=>absurd x.2 (by have:=WO x.1;omega)⟩
 |n+1=>by
  have c:=lp n;have:(fun a b:Xy (n+1)=>qG a.1 b.1)=xD (fun x y=>wI x.1.kind y.1.kind) (xD (fun x y=>wI (LC x.1) (LC y.1)) (xD (fun x y=>yW (LD x.1) (LD y.1)) (xD (fun x y=>yl (fun p q:Xy n=>qG p.1 q.1) (FQ n x) (FQ n y)) fun x y=>yl (xD (fun p q:za×Xy n=>yW p.1 q.1) fun p q=>qG p.2.1 q.2.1) (FR n x) (FR n y)))):=by
   funext a b;rw[FO];unfold xD;have d:yl qG (CI a.1) (CI b.1)=yl (fun p q:Xy n=>qG p.1 q.1) (FQ n a) (FQ n b):=by rw[<-CK n a,<-CK n b,ny]
   have e:yl jN (CJ a.1) (CJ b.1)=yl (fun x y:za×Xy n=>if yW x.1 y.1=0 then qG x.2.1 y.2.1 else yW x.1 y.1) (FR n a) (FR n b):=by rw[<-CL n a,<-CL n b,ny];congr 1;funext x y;exact FT _ _
   simp only[d,e]
  rw[this];exact TO.lex (ZX.pull fun x:Xy (n+1)=>x.1.kind) (TO.lex (ZX.pull fun x:Xy (n+1)=>LC x.1) (TO.lex (kL.pull fun x:Xy (n+1)=>LD x.1) (TO.lex ((lh c).pull (FQ n)) ((lh (TO.lex (kL.pull fun p:List UInt8×Xy n=>p.1) (c.pull fun p:List UInt8×Xy n=>p.2))).pull (FR n)))))
theorem JW:TO qG where
 refl x:=(lp x.vb).refl ⟨x,zk _⟩
 flip x y:=(lp (x.vb+y.vb)).flip ⟨x,by omega⟩ ⟨y,by omega⟩
 tr x y z:=(lp (x.vb+y.vb+z.vb)).tr ⟨x,by omega⟩ ⟨y,by omega⟩ ⟨z,by omega⟩
def UO(l:List Val):Prop:=l.Pairwise fun a b=>qG a b<0
end Go.Q
namespace Go.Proofs
open Go.Shelf
def Tryz.MS:Go.Shelf.Ren:=⟨fun|6=>63|15=>81|14=>80|28=>126|29=>127|20=>118|21=>119|22=>120|23=>121|24=>122|25=>123|26=>124|27=>125|46=>180|47=>181|48=>182|49=>183|50=>184|57=>228|n=>n,fun|22=>22|24=>43|25=>40|3=>3|39=>88|0=>0|53=>131|55=>133|4=>4|46=>125|45=>124|50=>67|5=>5|9=>9|66=>183|70=>187|76=>225|77=>47|n=>n,fun|n=>n⟩
theorem Tryz.zcj:Go.Proofs.SlLaysF0.n6 prog Tryz.MS:={
 mixed:=by kernel_rfl
 f6:=⟨f63.name,by decide,func63.trans (zp some (by kernel_rfl))⟩
 f14:=⟨f80.name,by decide,func80.trans (zp some (by kernel_rfl))⟩
 f15:=func81.trans (zp some (by kernel_rfl))
 f20:=⟨f118.name,by decide,func118.trans (zp some (by kernel_rfl))⟩
 f21:=⟨f119.name,by decide,func119.trans (zp some (by kernel_rfl))⟩
 f22:=⟨f120.name,by decide,func120.trans (zp some (by kernel_rfl))⟩
 f23:=⟨f121.name,by decide,func121.trans (zp some (by kernel_rfl))⟩
 f24:=⟨f122.name,by decide,func122.trans (zp some (by kernel_rfl))⟩
 f25:=⟨f123.name,by decide,func123.trans (zp some (by kernel_rfl))⟩
 f26:=⟨f124.name,by decide,func124.trans (zp some (by kernel_rfl))⟩
 f27:=⟨f125.name,by decide,func125.trans (zp some (by kernel_rfl))⟩
 f28:=func126.trans (zp some (by kernel_rfl))
 f29:=func127.trans (zp some (by kernel_rfl))
 f46:=⟨f180.name,by decide,func180.trans (zp some (by kernel_rfl))⟩
 f47:=func181.trans (zp some (by kernel_rfl))
 f48:=func182.trans (zp some (by kernel_rfl))
 f49:=⟨f183.name,by decide,func183.trans (zp some (by kernel_rfl))⟩
 f50:=⟨f184.name,by decide,func184.trans (zp some (by kernel_rfl))⟩
 f57:=⟨f228.name,by decide,func228.trans (zp some (by kernel_rfl))⟩
 t0:=underlying0
 a0:=isAgg0
 z0:=sizeOf0
 v0:=zeroValue0
 t3:=underlying3
 a3:=isAgg3
 z3:=sizeOf3
 v3:=zeroValue3
 t4:=underlying4
 a4:=isAgg4
 z4:=sizeOf4
 v4:=zeroValue4
 t5:=underlying5
 a5:=isAgg5
 z5:=sizeOf5
 v5:=zeroValue5
 t9:=underlying9
 a9:=isAgg9
 z9:=sizeOf9
 v9:=zeroValue9
 t22:=underlying22
 a22:=isAgg22
 z22:=sizeOf22
 v22:=zeroValue22
 t25:=underlying40
 a25:=isAgg40
 z25:=sizeOf40
 v25:=zeroValue40
 t39:=underlying88
 a39:=isAgg88
 z39:=sizeOf88
 v39:=zeroValue88
 t45:=underlying124
 a45:=isAgg124
 z45:=sizeOf124
 v45:=zeroValue124
 t46:=underlying125
 a46:=isAgg125
 z46:=sizeOf125
 v46:=zeroValue125
 t50:=underlying67
 a50:=isAgg67
 z50:=sizeOf67
 v50:=zeroValue67
 t53:=underlying131
 a53:=isAgg131
 z53:=sizeOf131
 v53:=zeroValue131
 t55:=underlying133
 a55:=isAgg133
 z55:=sizeOf133
 v55:=zeroValue133
 t66:=underlying183
 a66:=isAgg183
 z66:=sizeOf183
 v66:=zeroValue183
 t70:=underlying187
 a70:=isAgg187
 z70:=sizeOf187
 v70:=zeroValue187
 t76:=underlying225
 a76:=isAgg225
 z76:=sizeOf225
 v76:=zeroValue225
 t77:=underlying47
 a77:=isAgg47
 z77:=sizeOf47
 v77:=zeroValue47}
theorem Tryz.SX:tJ prog 63 5:=⟨fun _ _ V e f h i g blk off cap d w j a k b c=>AnyQ.slices_SortFunc_eq Tryz.zcj 5 isAgg43 sizeOf43 V e f h i g #[] blk off cap d w j a k b c,
 fun p cap l w=>AnyF.slices_SortFunc_none Tryz.zcj p cap l w⟩
def Tryz.MT:Go.Shelf.Ren:=⟨fun|6=>177|15=>81|14=>227|28=>126|29=>127|20=>272|21=>273|22=>274|23=>275|24=>276|25=>277|26=>278|27=>279|46=>304|47=>181|48=>182|49=>305|50=>306|57=>321|n=>n,fun|22=>41|24=>53|25=>91|3=>3|39=>88|0=>0|53=>131|55=>133|4=>4|46=>125|45=>124|50=>67|5=>5|9=>9|66=>183|70=>187|76=>225|77=>47|n=>n,fun|n=>n⟩
theorem Tryz.zck:Go.Proofs.SlLaysF0.n6 prog Tryz.MT:={
 mixed:=by kernel_rfl
 f6:=⟨f177.name,by decide,func177.trans (zp some (by kernel_rfl))⟩
 f14:=⟨f227.name,by decide,func227.trans (zp some (by kernel_rfl))⟩
 f15:=func81.trans (zp some (by kernel_rfl))
 f20:=⟨f272.name,by decide,func272.trans (zp some (by kernel_rfl))⟩
 f21:=⟨f273.name,by decide,func273.trans (zp some (by kernel_rfl))⟩
 f22:=⟨f274.name,by decide,func274.trans (zp some (by kernel_rfl))⟩
 f23:=⟨f275.name,by decide,func275.trans (zp some (by kernel_rfl))⟩
 f24:=⟨f276.name,by decide,func276.trans (zp some (by kernel_rfl))⟩
 f25:=⟨f277.name,by decide,func277.trans (zp some (by kernel_rfl))⟩
 f26:=⟨f278.name,by decide,func278.trans (zp some (by kernel_rfl))⟩
 f27:=⟨f279.name,by decide,func279.trans (zp some (by kernel_rfl))⟩
 f28:=func126.trans (zp some (by kernel_rfl))
 f29:=func127.trans (zp some (by kernel_rfl))
 f46:=⟨f304.name,by decide,func304.trans (zp some (by kernel_rfl))⟩
 f47:=func181.trans (zp some (by kernel_rfl))
 f48:=func182.trans (zp some (by kernel_rfl))
 f49:=⟨f305.name,by decide,func305.trans (zp some (by kernel_rfl))⟩
 f50:=⟨f306.name,by decide,func306.trans (zp some (by kernel_rfl))⟩
 f57:=⟨f321.name,by decide,func321.trans (zp some (by kernel_rfl))⟩
 t0:=underlying0
 a0:=isAgg0
 z0:=sizeOf0
 v0:=zeroValue0
 t3:=underlying3
 a3:=isAgg3
 z3:=sizeOf3
 v3:=zeroValue3
 t4:=underlying4
 a4:=isAgg4
 z4:=sizeOf4
 v4:=zeroValue4
 t5:=underlying5
 a5:=isAgg5
 z5:=sizeOf5
 v5:=zeroValue5
 t9:=underlying9
 a9:=isAgg9
 z9:=sizeOf9
 v9:=zeroValue9
 t22:=underlying41
 a22:=isAgg41
 z22:=sizeOf41
 v22:=zeroValue41
 t25:=underlying91
 a25:=isAgg91
 z25:=sizeOf91
 v25:=zeroValue91
 t39:=underlying88
 a39:=isAgg88
 z39:=sizeOf88
 v39:=zeroValue88
 t45:=underlying124
 a45:=isAgg124
 z45:=sizeOf124
 v45:=zeroValue124
 t46:=underlying125
 a46:=isAgg125
 z46:=sizeOf125
 v46:=zeroValue125
 t50:=underlying67
 a50:=isAgg67
 z50:=sizeOf67
 v50:=zeroValue67
 t53:=underlying131
 a53:=isAgg131
 z53:=sizeOf131
 v53:=zeroValue131
 t55:=underlying133
 a55:=isAgg133
 z55:=sizeOf133
 v55:=zeroValue133
 t66:=underlying183
 a66:=isAgg183
 z66:=sizeOf183
 v66:=zeroValue183
 t70:=underlying187
 a70:=isAgg187
 z70:=sizeOf187
 v70:=zeroValue187
 t76:=underlying225
 a76:=isAgg225
 z76:=sizeOf225
 v76:=zeroValue225
 t77:=underlying47
 a77:=isAgg47
 z77:=sizeOf47
 v77:=zeroValue47}
theorem Tryz.SY:tJ prog 177 6:=⟨fun _ _ V e f h i g blk off cap d w j a k b c=>AnyQ.slices_SortFunc_eq Tryz.zck 6 isAgg53 sizeOf53 V e f h i g #[] blk off cap d w j a k b c,
 fun p cap l w=>AnyF.slices_SortFunc_none Tryz.zck p cap l w⟩
end Go.Proofs
namespace Go.SpanLaw
abbrev Sp:=Int×Int
def zb3:Int->List Sp->Prop
 |_,[]=>True
 |lo,s::l=>lo<s.1/\s.1<s.2/\zb3 s.2 l
def mem(l:List Sp)(k:Int):Prop:=∃s∈l,s.1<=k/\k<s.2
def skip(x:Int):List Sp->List Sp
 |[]=>[]
 |b::l=>if b.2<=x then skip x l else b::l
def Below(a:Int)(l:List Sp):Prop:=∀s∈l,s.2<=a
structure zje (op:Int->Prop) (at_:Int) (out:List Sp):Prop where
 canon:zb3 (-1) out
 below:Below at_ out
 holds:∀k,mem out k↔0<=k/\k<at_/\op k
end Go.SpanLaw
namespace Go.Q
end Go.Q
namespace Go.Proofs
open Go.Shelf
end Go.Proofs
namespace Go.Q
theorem dG{α d:Type}{f:α->d}:∀{l:List α} {m:List d},m.Perm (l.map f)->∃l':List α,l'.Perm l/\m=l'.map f:=by
 have e:∀{m n:List d},m.Perm n->∀l:List α,n=l.map f->∃l':List α,l'.Perm l/\m=l'.map f:=by
  intro m n h
  induction h with
  |nil=>intro l c;exact⟨l,.refl _,c⟩
  |cons x _ o=>
   intro l c;cases l with
   |nil=>cases c
   |cons a l=>simp only[wK,zq]at c;obtain⟨l',g,i⟩:=o l c.2;exact⟨a::l',g.cons a,by rw[wK,c.1,i]⟩
  |swap x y r=>
   intro l c
   match l,c with
   |a::b::l,c=>simp only[wK,zq]at c;exact⟨b::a::l,.swap _ _ _,by rw[wK,wK,c.1,c.2.1,c.2.2]⟩
  |trans _ _ j k=>intro l c;obtain⟨p,g,i⟩:=k l c;obtain⟨l2,q,s⟩:=j p i;exact⟨l2,q.trans g,s⟩
 intro l m h;exact e h l rfl
end Go.Q
namespace Go.PrLaw
open Go
def escB:za->za
 |[]=>[]
 |c::l=>if(c==34||c==92)=true then 92::c::escB l else c::escB l
def quoB(s:za):za:=34::(escB s++[34])
def UP(r:Nat):za:=Lib.trimRightB ((Lib.decDigits (1000+r)).drop 1) 48
def zgW(n:Int):za:=(if n<0 then[45]else[])++(Lib.decDigits (n.natAbs/1000)++if n.natAbs % 1000=0 then[]else 46::UP (n.natAbs % 1000))
end Go.PrLaw
namespace Go.Q
open Go.RowKit Go.AM Go.PrLaw
mutual
def Val.show:Val->za
 | .mk k n s a b=>if k=0 then[110,117,108,108]else if k=1 then(if n=1 then[116,114,117,101]else[102,97,108,115,101])else if k=2 then zgW n else if k=3 then quoB s else
  if k=4 then 91::(Lib.join (SZ a) [44]++[93])else 123::(Lib.join (S3 b) [44]++[125])
def SZ:List Val->List za
 |[]=>[]
 |v::l=>v.show::SZ l
def S3:List (za×Val)->List za
 |[]=>[]
 |(a,v)::l=>(quoB a++(58::v.show))::S3 l
end
inductive VOk:Val->Prop
 |mk {k n:Int} {s:List UInt8} {is:List Val} {fs:List (List UInt8×Val)}:0<=k->k<=5->(k=2->-1000000000000000<n/\n<1000000000000000)->(∀x∈is,VOk x)->(∀f∈fs,VOk f.2)->VOk (.mk k n s is fs)
section
variable{s:za}{p i:Nat}{e:Int}{c:UInt8}{l:za}
end
section
variable{s:za}{i:Nat}{l:za}
end
section
variable{s:za}{i:Nat}{l:za}
end
section
variable{s:za}{i:Nat}{l:za}{f:Jst->Val×Jst}
end
def UpF(l:List (za×Val)):Prop:=l.Pairwise fun a b=>Op.bytesLess a.1 b.1=true
end Go.Q
namespace Go.Q
theorem lq{α:Type}{r:α->α->Prop}(e:∀x,¬r x x)(f:∀x y,r x y->¬r y x):∀{a b:List α},a.Perm b->a.Pairwise r->b.Pairwise (fun x y=>¬r y x)->b=a
 |[],b,Y,_,_=>List.Perm.eq_nil Y.symm
 |x::a,b,Y,c,d=>by
  cases b with
  |nil=>simpa using Y.length_eq
  |cons y b=>
   rw[wB]at c d;have g:y=x:=by
    rcases zv.1 (Y.symm.subset (List.mem_cons_self (a:=y) (l:=b)))with h|h
    ·exact h
    ·have i:=c.1 y h;rcases zv.1 (Y.subset (List.mem_cons_self (a:=x) (l:=a)))with h4|h4
     ·exact h4.symm
     ·exact absurd i (d.1 x h4)
   subst g;rw[lq e f (List.Perm.cons_inv Y) c.2 d.2]
open Classical in
noncomputable def UQ (x y:zb):Int:=if h:∃p:Val×Val,x=p.1.V/\y=p.2.V then qG h.choose.1 h.choose.2 else 0
theorem dH(a b:Val):UQ a.V b.V=qG a b:=by have h:∃p:Val×Val,a.V=p.1.V/\b.V=p.2.V:=⟨(a,b),rfl,rfl⟩;rw[UQ,dif_pos h,<-xq h.choose_spec.1,<-xq h.choose_spec.2]
def UR(x:zb):Prop:=∃a:Val,x=a.V/\a.vb<=qg
theorem US:Hc prog 64 5 UQ UR:=
 ⟨fun args w=>enters_of func64 (by kernel_rfl) rfl args w,_,YP qg,fun x y _ _ d e=>by obtain⟨a,rfl,c⟩:=d;obtain⟨b,rfl,f⟩:=e;rw[dH];exact Qv qg a b _ _ ⟨c,c,f⟩⟩
theorem CM:zi prog 63 (J4 5 64 UQ UR):=
 V4 (by omega) ⟨_,func63,by decide,by kernel_rfl⟩ Tryz.SX US
theorem HD(l:List Val):Y9 UQ (l.map Val.V) where
 irrefl x hx:=by obtain⟨s,hs,rfl⟩:=qq.1 hx;rw[dH,JW.refl];omega
 trans x hx y f z g d e:=by obtain⟨a,h,rfl⟩:=qq.1 hx;obtain⟨b,i,rfl⟩:=qq.1 f;obtain⟨c,j,rfl⟩:=qq.1 g;rw[dH]at d e⊢;exact JW.trans d e
 ntrans x hx y f z g d e:=by obtain⟨a,h,rfl⟩:=qq.1 hx;obtain⟨b,i,rfl⟩:=qq.1 f;obtain⟨c,j,rfl⟩:=qq.1 g;rw[dH]at d e⊢;exact JW.ntrans d e
theorem sk(l:List Val):∃m:List Val,Zv UQ (l.map Val.V)=m.map Val.V/\m.Perm l/\m.Pairwise (fun a b=>¬qG b a<0):=by
 obtain⟨m,f,d⟩:=dG (YD (HD l));refine⟨m,d,f,?_⟩;have e:=KT (HD l);rw[d,Ih]at e;refine e.imp_of_mem fun{a b} g h c=>?_
 rw[dH]at c;omega
noncomputable def vE (l:List Val):List Val:=(sk l).choose
theorem QA(l:List Val):Zv UQ (l.map Val.V)=(vE l).map Val.V/\(vE l).Perm l/\(vE l).Pairwise (fun a b=>¬qG b a<0):=(sk l).choose_spec
theorem CN{a b:List Val}(h:a.Perm b):kh a=kh b:=by
 induction h with
 |nil=>rfl
 |cons x _ c=>simp only[kh,c]
 |swap x y l=>simp only[kh];omega
 |trans _ _ d e=>rw[d,e]
theorem FU{l:List Val}(r:kh l<=qg){Y:Hp}{Z:Nat}{v:O}(g:qN Y Z 43 5 v (l.map Val.V)) :
  ∃b,J4 5 64 UQ UR [v,.fn (.func 64) [] []] Y Z=some (.wL [],b,Z)/\qN b Z 43 5 v ((vE l).map Val.V)/\∀id,(∀n,v≠.own id 0 n)->b id=Y id:=by
 have a:=(QA l).1;have h:=yT l;rcases g with⟨rfl,i⟩|⟨id,hid,rfl,e⟩
 ·refine⟨Y,rfl,.inl ⟨rfl,?_⟩,fun _ _=>rfl⟩;rw[<-a,i];rfl
 ·by_cases f:l=[]
  ·subst f;have:vE []=[]:=by
    have:((vE []).map Val.V)=[]:=by rw[<-a];rfl
    simpa using this
   rw[this];exact⟨Y,rfl,.inr ⟨id,hid,rfl,e⟩,fun _ _=>rfl⟩
  ·have c:¬(l.map Val.V).length=0:=by simpa using f
   have d:((vE l).map Val.V).length=(l.map Val.V).length:=by rw[<-a,KU (HD l)]
   have k:qg=268435456:=rfl;refine⟨qf Y id (some ⟨43,5,true,(vE l).map Val.V⟩),?_,.inr ⟨id,hid,by rw[d],by simp⟩,fun j m=>zc _ _ _ _ (by rintro rfl;exact m _ rfl)⟩;show(if(l.map Val.V).length=0 then _ else _)=_;rw[zf c,e];simp only;have o:((l.map Val.V).drop 0).take (l.map Val.V).length=l.map Val.V:=by rw[ZK,we]
   have p:(l.map Val.V).drop (0+(l.map Val.V).length)=[]:=by rw[zh,zA]
   rw[o,p,zg ⟨rfl,rfl,rfl,by simp,by simp;omega,HD l,fun x q=>by obtain⟨s,hs,rfl⟩:=qq.1 q;exact⟨s,rfl,by have:=jZ hs;omega⟩⟩,a]
   simp
noncomputable def FFd (out:za×Val->za×Val->O):zb->Option O:=qW (α:=(za×Val)×(za×Val)) (fun a=>[.agg (wN a.1),.agg (wN a.2)]) (fun _=>True) (fun a=>out a.1 a.2)
theorem Pg(out:za×Val->za×Val->O)(a b:za×Val)(Y:Hp)(Z:Nat):zn false [] (FFd out) [.agg (wN a),.agg (wN b)] Y Z=some (out a b,Y,Z):=
 iX (a,b) _ _ (by simp[zH,zO,qm,qp]) (fun x y e=>by
  obtain⟨f,g⟩:=x;obtain⟨h,i⟩:=y;simp only[zq,qh,O.agg.injEq]at e;rw[Yp (a:=f) (b:=h) (by simp[wN,e]),Yp (a:=g) (b:=i) (by simp[wN,e])]) trivial (.inr (by have c:=Ym a.2;have d:=Ym b.2;simp only[O.noOwn]at c d;simp only[wZ,er,O.noOwn,kV,O.kI,Zp,c,d,Jc]))
noncomputable def UT (x y:zb):Int:=match(x[0]?:Option O),(y[0]?:Option O)with
 |some (O.v (.string a)),some (O.v (.string b))=>yW a.data.toList b.data.toList
 |_,_=>0
theorem dI(a b:za×Val):UT (wN a) (wN b)=yW a.1 b.1:=by simp[UT,wN]
noncomputable abbrev Ccg1:Ctx:=qj prog [(82,zn false [] (M1 yW))]
theorem UU:AM.Good Ccg1 (fun g=>[82].contains g):=qx mixed ⟨Ze,fun _=>zt _ _,trivial⟩
theorem UW{out:za×Val->za×Val->O}{args:zb}{r:O}(h:FFd out args=some r):∃a b,args=[.agg (wN a),.agg (wN b)]/\r=out a b:=by obtain⟨⟨a,b⟩,rfl,_,rfl⟩:=zL h;exact⟨a,b,rfl,rfl⟩
theorem FW:zi prog 178 (zn false [] (FFd fun a b=>int (yW a.1 b.1))):=
 y3 (fn:=f178) UU (wc func178) false [] _ fun args r h=>by obtain⟨a,b,rfl,rfl⟩:=UW h;exact⟨z8 (zk 2) (by decide),_,zu rfl (by simp[wN,f178]),q9 _⟩
def UX(x:zb):Prop:=∃a:za×Val,x=wN a
theorem UY:Hc prog 178 6 UT UX:=
 ⟨fun args w=>enters_of func178 (by kernel_rfl) rfl args w,_,FW,fun x y _ _ c d=>by obtain⟨a,rfl⟩:=c;obtain⟨b,rfl⟩:=d;rw[dI];exact Pg _ a b _ _⟩
theorem CO:zi prog 177 (J4 6 178 UT UX):=
 V4 (by omega) ⟨_,func177,by decide,by kernel_rfl⟩ Tryz.SY UY
theorem HE(l:List (za×Val)):Y9 UT (l.map wN) where
 irrefl x hx:=by obtain⟨s,hs,rfl⟩:=qq.1 hx;rw[dI,kL.refl];omega
 trans x hx y f z g d e:=by obtain⟨a,h,rfl⟩:=qq.1 hx;obtain⟨b,i,rfl⟩:=qq.1 f;obtain⟨c,j,rfl⟩:=qq.1 g;rw[dI]at d e⊢;exact kL.trans d e
 ntrans x hx y f z g d e:=by obtain⟨a,h,rfl⟩:=qq.1 hx;obtain⟨b,i,rfl⟩:=qq.1 f;obtain⟨c,j,rfl⟩:=qq.1 g;rw[dI]at d e⊢;exact kL.ntrans d e
theorem sn(l:List (za×Val)):∃m:List (za×Val),Zv UT (l.map wN)=m.map wN/\m.Perm l/\m.Pairwise (fun a b=>¬yW b.1 a.1<0):=by
 obtain⟨m,f,d⟩:=dG (YD (HE l));refine⟨m,d,f,?_⟩;have e:=KT (HE l);rw[d,Ih]at e;refine e.imp_of_mem fun{a b} g h c=>?_
 rw[dI]at c;omega
noncomputable def zy (l:List (za×Val)):List (za×Val):=(sn l).choose
theorem vX(l:List (za×Val)):Zv UT (l.map wN)=(zy l).map wN/\(zy l).Perm l/\(zy l).Pairwise (fun a b=>¬yW b.1 a.1<0):=(sn l).choose_spec
theorem nA{l:List (za×Val)}(h:UpF l):zy l=l:=
 lq (r:=fun a b=>yW a.1 b.1<0) (fun x d=>by rw[kL.refl]at d;omega) (fun x y e f=>by have:=kL.trans e f;rw[kL.refl]at this;omega) (vX l).2.1.symm (h.imp fun{a b} c=>(K8 a.1 b.1).2 c) (vX l).2.2
theorem CP{a b:List (za×Val)}(h:a.Perm b):QJ a=QJ b:=by
 induction h with
 |nil=>rfl
 |cons x _ c=>obtain⟨x,y⟩:=x;simp only[QJ,c]
 |swap x y l=>obtain⟨x,f⟩:=x;obtain⟨y,g⟩:=y;simp only[QJ];omega
 |trans _ _ d e=>rw[d,e]
theorem FY{l:List (za×Val)}(q:l.length<=qg){Y:Hp}{Z:Nat}{v:O}(g:qN Y Z 53 6 v (l.map wN)) :
  ∃b,J4 6 178 UT UX [v,.fn (.func 178) [] []] Y Z=some (.wL [],b,Z)/\qN b Z 53 6 v ((zy l).map wN)/\∀id,(∀n,v≠.own id 0 n)->b id=Y id:=by
 have a:=(vX l).1;rcases g with⟨rfl,h⟩|⟨id,hid,rfl,e⟩
 ·refine⟨Y,rfl,.inl ⟨rfl,?_⟩,fun _ _=>rfl⟩;rw[<-a,h];rfl
 ·by_cases f:l=[]
  ·subst f;have:zy []=[]:=by
    have:((zy []).map wN)=[]:=by rw[<-a];rfl
    simpa using this
   rw[this];exact⟨Y,rfl,.inr ⟨id,hid,rfl,e⟩,fun _ _=>rfl⟩
  ·have c:¬(l.map wN).length=0:=by simpa using f
   have d:((zy l).map wN).length=(l.map wN).length:=by rw[<-a,KU (HE l)]
   have i:qg=268435456:=rfl;refine⟨qf Y id (some ⟨53,6,true,(zy l).map wN⟩),?_,.inr ⟨id,hid,by rw[d],by simp⟩,fun j k=>zc _ _ _ _ (by rintro rfl;exact k _ rfl)⟩;show(if(l.map wN).length=0 then _ else _)=_;rw[zf c,e];simp only;have m:((l.map wN).drop 0).take (l.map wN).length=l.map wN:=by rw[ZK,we]
   have o:(l.map wN).drop (0+(l.map wN).length)=[]:=by rw[zh,zA]
   rw[m,o,zg ⟨rfl,rfl,rfl,by simp,by simp;omega,HE l,fun x p=>by obtain⟨s,hs,rfl⟩:=qq.1 p;exact⟨s,rfl⟩⟩,a]
   simp
end Go.Q
namespace Go.AM
variable{dr:Prop}
structure Hid (n1 i m:Nat) (g:List (List O)×Option (List O)) (w:World) (S:Nat->Prop) (G:Nat->GI) (Y:Hp) (Z:Nat):Prop where
 li:i<Z
 lm:m<Z
 s1:(G i).s=1
 new:n1<=(G i).g
 ai:VO S G Y (G i).g
 am:VO S G Y (G m).g
 obj:∃(en:Array MapEntry) (clock:Nat) (seen:Array Nat),w.heap[(G m).g]?=some (.map en clock)/\Stamped en clock/\w.heap[(G i).g]?=some (.mapIter (some (G m).g) clock seen clock) /\
  g.1.length=(leftOf en seen).toList.length/\(∀(j:Nat) (c:List O) (e:MapEntry),g.1[j]?=some c->(leftOf en seen).toList[j]?=some e->eE w S c e) /\
  ∀c,g.2=some c->∃e zhp,e∈en.toList/\seen=Array.push zhp e.born/\eE w S c e
abbrev GS:=List zb×Option zb
section
variable{C:Ctx}{pf:FuncId->Bool}{N i m:Nat}
def WpG(dr:Prop)(C:Ctx)(N i m:Nat)(c:Code)(st:St)(g:GS)(K:Exit->St->GS->Prop):Prop:=
 ∀(d:World) (j L:Nat->Prop) (k:Nat) (l:Nat->GI) (f:Nat) (a:Act) (w:World) (Q:Exit->Act->World->Prop) (S:Nat->Prop) (G:Nat->GI),f<=d.heap.size->QH dr C.P d j L N k l f st S G a w->Hid d.heap.size i m g w S G st.Y st.Z ->
  (∀e b n o h p q,K e b n->QH dr C.P d j L N k l f b p q o h->Hid d.heap.size i m n h p q b.Y b.Z->Q e o h)->c.wpIn Fence.wide 0 C.P Q a w
def Ph(dr:Prop)(C:Ctx)(N i m:Nat)(y:Code)(K:Exit->St->GS->Prop)(e:Exit)(st:St)(g:GS):Prop:=match e with
 | .normal=>WpG dr C N i m y st g K
 |e=>K e st g
@[simp]theorem zid(y:Code)(K:Exit->St->GS->Prop)(st:St)(g:GS):Ph dr C N i m y K .normal st g=WpG dr C N i m y st g K:=rfl
@[simp]theorem zie(y:Code)(K:Exit->St->GS->Prop)(st:St)(g:GS):Ph dr C N i m y K .ret st g=K .ret st g:=rfl
@[simp]theorem zif(y:Code)(K:Exit->St->GS->Prop)(j:Nat)(st:St)(g:GS):Ph dr C N i m y K (.exit j) st g=K (.exit j) st g:=rfl
def FZ(id:Nat)(K:Exit->St->GS->Prop)(e:Exit)(st:St)(g:GS):Prop:=match e with
 | .exit j=>if j=id then K .normal st g else K (.exit j) st g
 |e=>K e st g
@[simp]theorem zgX(id:Nat)(K:Exit->St->GS->Prop)(st:St)(g:GS):FZ id K .normal st g=K .normal st g:=rfl
@[simp]theorem zgY(id:Nat)(K:Exit->St->GS->Prop)(st:St)(g:GS):FZ id K .ret st g=K .ret st g:=rfl
@[simp]theorem zgZ(id j:Nat)(K:Exit->St->GS->Prop)(st:St)(g:GS):FZ id K (.exit j) st g=if j=id then K .normal st g else K (.exit j) st g:=rfl
def F0(I:Nat->St->GS->Prop)(n:Nat)(K:Exit->St->GS->Prop)(e:Exit)(st:St)(g:GS):Prop:=match e with
 | .normal=>∃k,k<n/\I k st g
 |e=>K e st g
@[simp]theorem zg0(I:Nat->St->GS->Prop)(n:Nat)(K:Exit->St->GS->Prop)(st:St)(g:GS):F0 I n K .normal st g=∃k,k<n/\I k st g:=rfl
@[simp]theorem zg1(I:Nat->St->GS->Prop)(n:Nat)(K:Exit->St->GS->Prop)(st:St)(g:GS):F0 I n K .ret st g=K .ret st g:=rfl
@[simp]theorem zg2(I:Nat->St->GS->Prop)(n j:Nat)(K:Exit->St->GS->Prop)(st:St)(g:GS):F0 I n K (.exit j) st g=K (.exit j) st g:=rfl
def Wh(a:Array Oper):Nat->Array Bool->List (List Nat)
 | 0,_=>[[]]
 |f+1,b=>if(Region.ready .any a b).isEmpty=true then[[]]else(Region.ready .any a b).flatMap fun i=>(Wh a f (b.setIfInBounds i true)).map (i::·)
theorem sq(ops:Array Oper):∀(f t:Nat) (ls:Array Bool),Region.linearise.go .any ops f t ls []∈Wh ops f ls
 | 0,t,ls=>by simp[Region.linearise.go,Wh]
 |f+1,t,ls=>by
  simp only[Region.linearise.go];change (match(Region.ready .any ops ls)[t % (Region.ready .any ops ls).length]? with
   |some i=>Region.linearise.go .any ops f (t/(Region.ready .any ops ls).length) (ls.setIfInBounds i true) [i]
   |none=>[].reverse)∈Wh ops (f+1) ls
  unfold Wh;cases hi:(Region.ready .any ops ls)[t % (Region.ready .any ops ls).length]? with
  |none=>
   have hnil:Region.ready .any ops ls=[]:=by
    cases hr:Region.ready .any ops ls with
    |nil=>rfl
    |cons x xs=>rw[hr]at hi;have hlt:t % (x::xs).length<(x::xs).length:=zji _ (by simp);simp at hi;simp at hlt;omega
   rw[hnil];simp
  |some i=>
   have hm:=zT hi;rw[zf (by intro he;rw[List.isEmpty_iff]at he;rw[he]at hm;cases hm)]
   simp only[];rw[linearise_go_acc,List.reverse_singleton,List.singleton_append];exact List.mem_flatMap.2 ⟨i,hm,qq.2 ⟨_,sq ops f _ _,rfl⟩⟩
theorem Wp.aD(hm:C.P.follows .mixedOrders=true){id:Nat}{ops:Array Oper}{st:St}{K:Exit->St->Prop}(h:∀l∈Wh ops ops.size (Array.replicate ops.size false),Jd dr C N ops l st (Wr K)):Wp dr C N (.region id ops true) st K:=
 fun w0 S0 L Z0 G0 n0 a w Q _ hs hQ=>wpIn_region_draw fun t=>by rw[hm];exact h _ (by simp only[Region.schedule,Bool.true_or,zK,Region.linearise];exact sq ops _ _ _) w0 S0 L Z0 G0 n0 a _ Q hs.drew fun st' a' w' hk hs'=>hQ .normal st' a' w' hk hs'
theorem Jd.ord(c:jH dr C pf){a:Array Oper}(l:List Nat){st:St}{K:St->Prop}(e:l.map (fun i=>a[i]?)=(l.filterMap fun i=>a[i]?).map some)(hd:a.toList.all (fun o=>match o.dst with|some d=>decide (d<N)|none=>true)=true)(h:iV C a (l.filterMap fun i=>a[i]?) st K):Jd dr C N a l st K:=by
 rw[<-jf l];refine Jd.pre c e (qB.2 fun o f=>qB.1 hd o ?_) ?_
 ·obtain⟨i,_,g⟩:=List.mem_filterMap.1 f;exact Array.mem_toList_iff.2 (hK g)
 ·obtain⟨b,j,k⟩:=h;exact⟨b,j,Jd.nil k⟩
end
end Go.AM
namespace Go.Q
theorem dJ{Y:Hp}{Z:Nat}{v:O}{l:List Val}(f:qN Y Z 43 5 v (l.map Val.V))(x:Val)(g:l.length<100000000000):∃Y2,jF prog (qf Y Z (some ⟨43,5,true,[x.V]⟩)) (Z+1) 22 22 v (.own Z 0 1)=some (.own (Z+1) 0 (l.length+1),Y2,Z+2)/\qN Y2 (Z+2) 43 5 (.own (Z+1) 0 (l.length+1)) ((l++[x]).map Val.V)/\∀j,j<Z->(∀n,v≠.own j 0 n)->Y2 j=Y j:=by
 have a:=f.ji (P:=prog) (t:=22) (c:=x.V) N0 BB T2 N1 (by simp) (by omega) (by simp[maxLen];omega) (by simp;omega);have b:=qN.after (Y:=Y) (Z:=Z) (e:=43) (s:=5) (v:=v) (xs:=l.map Val.V) (c:=x.V) (tmp:=some ⟨43,5,true,[x.V]⟩);rw[yj]at a;refine⟨_,a,?_,fun j h d=>?_⟩
 ·rw[kq];simpa using b
 ·rw[w5 _ _ _ _ (by omega),yr f _ j d,w5 _ _ _ _ (by omega)]
theorem _root_.Go.AM.qN.cell{Y:Hp}{Z e s:Nat}{v:O}{xs:List zb}(h:qN Y Z e s v xs):v.ye=true:=by rcases h with⟨rfl,_⟩|⟨_,_,rfl,_⟩<;>rfl
theorem nB{cs:zb}{Y:Hp}{Z:Nat}{v:O}{l:List Val}(b:qN Y Z 43 5 v (l.map Val.V))(a:Y 0=some (zz TJ cs))(k:Int)(c:Nat):ig TJ cs (.agg (Val.mk k 0 [] l []).V) (.agg [int k,int 0,str [],v,.nil]) Y c:=by
 have d:=qZ b a rfl;rcases b with⟨rfl,f⟩|⟨id,hid,rfl,g⟩
 ·have:l=[]:=by simpa using f
  subst this;exact qc rfl a kD rfl
 ·have h:AM.freeze Y (.agg [int k,int 0,str [],.own id 0 (l.map Val.V).length,.nil])=some (.agg [int k,int 0,str [],.sl 5 (l.map Val.V),.nil],qf Y id none):=by simp[AM.freeze,zO,qm,qp,g];exact qi (by simp)
  refine qc h ?_ kD ?_
  ·rw[zc _ _ _ _ (fun e=>d _ (by rw[<-e]))];exact a
  ·simp[o7,KQ,I0,wD,Val.kind,Val.n,Val.s,Val.items,Val.fields]
theorem CQ{cs:zb}{Y:Hp}{Z:Nat}{v:O}{l:List (za×Val)}(b:qN Y Z 53 6 v (l.map wN))(a:Y 0=some (zz TJ cs))(k:Int)(c:Nat):ig TJ cs (.agg (Val.mk k 0 [] [] l).V) (.agg [int k,int 0,str [],.nil,v]) Y c:=by
 have d:=qZ b a rfl;rcases b with⟨rfl,f⟩|⟨id,hid,rfl,g⟩
 ·have:l=[]:=by simpa using f
  subst this;exact qc rfl a kD rfl
 ·have h:AM.freeze Y (.agg [int k,int 0,str [],.nil,.own id 0 (l.map wN).length])=some (.agg [int k,int 0,str [],.nil,.sl 6 (l.map wN)],qf Y id none):=by simp[AM.freeze,zO,qm,qp,g];exact qi (by simp)
  refine qc h ?_ kD ?_
  ·rw[zc _ _ _ _ (fun e=>d _ (by rw[<-e]))];exact a
  ·simp[o7,KQ,I0,wD,Val.kind,Val.n,Val.s,Val.items,Val.fields]
noncomputable abbrev Xz (s:za) (k:Nat) (st:Jst):Val×Jst:=J8 zy s k st
noncomputable def iH (k:Nat):AM.Spec:=mJ aU (fun s st _=>s.length-st.p<k) (fun s st _=>(Xz s k st).2) (fun s st _=>.agg (Xz s k st).1.V)
theorem fA{k:Nat}{s:za}{st:Jst}{Y:Hp}{id Z:Nat}(a:Y id=some (wH s st))(hs:s.length<=1048576)(b:st.p<=s.length)(c:s.length-st.p<k):iH k [.ref id 0 0] Y Z=some (.agg (Xz s k st).1.V,qf Y id (some (wH s (Xz s k st).2)),Z):=ZN y5 (fun _=>rfl) () a hs b c
noncomputable def lisS (k:Nat):AM.Spec:=mJ aU (fun s st _=>jq s st=91/\s.length-st.p<=k) (fun s st _=>(Zy s (Xz s k) st).2) (fun s st _=>.agg (Val.mk 4 0 [] (Zy s (Xz s k) st).1 []).V)
theorem LF{k:Nat}{s:za}{st:Jst}{Y:Hp}{id Z:Nat}(a:Y id=some (wH s st))(hs:s.length<=1048576)(b:st.p<=s.length)(c:jq s st=91)(d:s.length-st.p<=k):lisS k [.ref id 0 0] Y Z=some (.agg (Val.mk 4 0 [] (Zy s (Xz s k) st).1 []).V,qf Y id (some (wH s (Zy s (Xz s k) st).2)),Z):=ZN y5 (fun _=>rfl) () a hs b ⟨c,d⟩
noncomputable def objS (k:Nat):AM.Spec:=mJ aU (fun s st _=>jq s st=123/\s.length-st.p<=k) (fun s st _=>(YJ s (Xz s k) st).2) (fun s st _=>.agg (Val.mk 5 0 [] [] (zy (YJ s (Xz s k) st).1)).V)
theorem LG{k:Nat}{s:za}{st:Jst}{Y:Hp}{id Z:Nat}(a:Y id=some (wH s st))(hs:s.length<=1048576)(b:st.p<=s.length)(c:jq s st=123)(d:s.length-st.p<=k):objS k [.ref id 0 0] Y Z=some (.agg (Val.mk 5 0 [] [] (zy (YJ s (Xz s k) st).1)).V,qf Y id (some (wH s (YJ s (Xz s k) st).2)),Z):=ZN y5 (fun _=>rfl) () a hs b ⟨c,d⟩
def CR(s:za)(f:Jst->Val×Jst):Prop:=∀st,st.p<=s.length->st.p<=(f st).2.p/\(f st).2.p<=s.length/\(f st).1.vb<=(f st).2.p-st.p+1
theorem WA(l:List Val)(x:Val):kh (l++[x])=kh l+x.vb:=by
 induction l with
 |nil=>simp[kh]
 |cons y l a=>simp only[qU,kh,a];omega
theorem CS(l:List (za×Val))(x:za×Val):QJ (l++[x])=QJ l+(x.1.length+x.2.vb):=by
 induction l with
 |nil=>simp[QJ]
 |cons y l a=>obtain⟨b,c⟩:=y;simp only[qU,QJ,a];omega
theorem Pj{s:za}{f:Jst->Val×Jst}(a:CR s f):∀(k:Nat) (l:List Val) (st:Jst),st.p<=s.length->st.p<=(Er s f k l st).2.p/\(Er s f k l st).2.p<=s.length/\kh (Er s f k l st).1<=kh l+((Er s f k l st).2.p-st.p)+1
 | 0,l,st,h=>by simp only[Er];exact⟨zk _,h,by omega⟩
 |k+1,l,st,h=>by
  rw[Er];split
  ·exact⟨zk _,h,by simp only;omega⟩
  ·obtain⟨j,d,m⟩:=a st h;obtain⟨n,e,_⟩:=xN (s:=s) (st:=(f st).2) d;simp only;split
   ·rename_i g;have o:=Ww g.2 (by decide);obtain⟨i,b,_⟩:=xN (s:=s) (st:=(Qe s (f st).2).qH) (by simp only[Jst.qH];omega);have c:=Pj a k (l++[(f st).1]) _ b;rw[WA]at c;simp only[Jst.qH]at i b c⊢;omega
   ·have:=K1 (s:=s) 93 e;rw[WA];simp only;omega
theorem Pk{s:za}{f:Jst->Val×Jst}(b:CR s f){st:Jst}(h:st.p<s.length):st.p+1<=(Zy s f st).2.p/\(Zy s f st).2.p<=s.length/\kh (Zy s f st).1<=(Zy s f st).2.p-st.p:=by
 obtain⟨c,a,_⟩:=xN (s:=s) (st:=st.qH) (by simp only[Jst.qH];omega);simp only[Jst.qH]at c a;unfold Zy;simp only;split
 ·rename_i d;have e:=Ww d (by decide);simp only[Jst.qH]at e⊢;simp only[kh];omega
 ·have:=Pj b (s.length+1) [] (Qe s st.qH) a;simp only[Jst.qH,kh]at this⊢;omega
theorem UZ{s:za}{st:Jst}(h:st.p<s.length)(c:jq s st=45\/jg (jq s st)=true):st.p<=(aE s st).2.p/\(aE s st).2.p<=s.length:=by
 have a:st.p<=(if jq s st=45 then st.qH else st).p/\(if jq s st=45 then st.qH else st).p<=s.length:=by
  split
  ·simp only[Jst.qH];omega
  ·omega
 have b:=Hn (s:=s) a.2;have d:=BZ (s:=s) ((Xd s (if jq s st=45 then st.qH else st)).1*1000) b.2.1;simp only[aE];omega
theorem uN{s:za}:∀(w:za) (st:Jst),st.p<=s.length->st.p<=(Ep s w st).p/\(Ep s w st).p<=s.length
 |[],st,h=>⟨zk _,h⟩
 |c::w,st,h=>by
  have a:=K1 (s:=s) c h;rw[Ep];split
  ·have:=uN w (QK s st c).2 a.2;omega
  ·exact a
theorem CT{s:za}{st:Jst}(seen:List za)(h:st.p<=s.length):st.p<=(bF s seen st).p/\(bF s seen st).p<=s.length/\(jt s st).1.length<=(bF s seen st).p-st.p:=by
 have c:=dB (s:=s) h;have d:(Wu s seen st).p=(jt s st).2.p:=by
  unfold Wu;split
  ·rw[Zs]
  ·rfl
 obtain⟨e,a,_⟩:=xN (s:=s) (st:=Wu s seen st) (by omega);have b:=K1 (s:=s) 58 a;obtain⟨f,g,_⟩:=xN (s:=s) (st:=(QK s (Qe s (Wu s seen st)) 58).2) b.2;unfold bF;omega
theorem Pl{s:za}{f:Jst->Val×Jst}(c:CR s f):∀(k:Nat) (seen:List za) (l:List (za×Val)) (st:Jst),st.p<=s.length->st.p<=(Es s f k seen l st).2.p/\(Es s f k seen l st).2.p<=s.length/\QJ (Es s f k seen l st).1<=QJ l+((Es s f k seen l st).2.p-st.p)+1
 | 0,seen,l,st,h=>by simp only[Es];exact⟨zk _,h,by omega⟩
 |k+1,seen,l,st,h=>by
  have a:=CT (s:=s) seen h;rw[Es];split
  ·exact⟨zk _,h,by simp only;omega⟩
  ·simp only;split
   ·exact⟨a.1,a.2.1,by simp only;omega⟩
   ·obtain⟨m,g,n⟩:=c _ a.2.1;obtain⟨o,i,_⟩:=xN (s:=s) (st:=(f (bF s seen st)).2) g;split
    ·rename_i b;have q:=Ww b.2 (by decide);obtain⟨j,d,_⟩:=xN (s:=s) (st:=(Qe s (f (bF s seen st)).2).qH) (by simp only[Jst.qH];omega);have e:=Pl c k (seen++[(jt s st).1]) (l++[((jt s st).1,(f (bF s seen st)).1)]) _ d;rw[CS]at e;simp only[Jst.qH]at j d e⊢;omega
    ·have:=K1 (s:=s) 125 i;rw[CS];simp only;omega
theorem U0{s:za}{f:Jst->Val×Jst}(b:CR s f){st:Jst}(h:st.p<s.length):st.p+1<=(YJ s f st).2.p/\(YJ s f st).2.p<=s.length/\QJ (YJ s f st).1<=(YJ s f st).2.p-st.p:=by
 obtain⟨c,a,_⟩:=xN (s:=s) (st:=st.qH) (by simp only[Jst.qH];omega);simp only[Jst.qH]at c a;unfold YJ;simp only;split
 ·rename_i d;have e:=Ww d (by decide);simp only[Jst.qH]at e⊢;simp only[QJ];omega
 ·have:=Pl b (s.length+1) [] [] (Qe s st.qH) a;simp only[Jst.qH,QJ]at this⊢;omega
theorem lr(s:za):∀k,CR s (Xz s k)
 | 0=>fun st h=>by simp only[Xz,J8];exact⟨zk _,h,by rw[kv];simp[zV,Val.s,Val.items,Val.fields,kh,QJ]⟩
 |k+1=>fun st h=>by
  have g:=lr s k;have d:zV.vb=1:=by rw[kv];simp[zV,Val.s,Val.items,Val.fields,kh,QJ]
  have c:∀a b:Int,(Val.mk a b [] [] []).vb=1:=fun a b=>by rw[kv];simp[Val.s,Val.items,Val.fields,kh,QJ]
  unfold Xz;rw[J8];split
  ·simp only[Zs,d];omega
  rename_i i;have e:st.p<s.length:=by omega
  split
  ·have:=uN (s:=s) [110,117,108,108] st h;simp only[d];omega
  split
  ·have:=uN (s:=s) [116,114,117,101] st h;simp only[c];omega
  split
  ·have:=uN (s:=s) [102,97,108,115,101] st h;simp only[c];omega
  split
  ·have:=dB (s:=s) h;rw[kv];simp only[Val.s,Val.items,Val.fields,kh,QJ];omega
  split
  ·have:=Pk (f:=J8 zy s k) g e;rw[kv];simp only[Val.s,Val.items,Val.fields,QJ,ze];omega
  split
  ·have:=U0 (f:=J8 zy s k) g e;have l:=CP (vX (YJ s (J8 zy s k) st).1).2.1;rw[kv];simp only[Val.s,Val.items,Val.fields,kh,ze];omega
  split
  ·rename_i j;have:=UZ e j;simp only[aE,pd]at this⊢;rw[c];omega
  ·simp only[Zs,d];omega
noncomputable abbrev Clj (k:Nat):Ctx:=qj prog [(176,blS),(111,Xg),(174,Od),(79,iH k)]
theorem zdv{k:Nat}(h:zi prog 79 (iH k)):AM.Good (Clj k) (fun g=>[111].contains g):=qx mixed ⟨rO,by simp,xM,fun _=>ym _ _,X7,by simp,h,by simp,trivial⟩
def LiI(s:za)(k:Nat)(b:Jst)(n:Nat)(st:St):Prop:=st.M 0=.ref 0 0 0/\st.M 2=.ref 1 0 0/\st.M 3=.ref 2 0 0/\2<st.Z/\st.Y 1=some jC/\∃v l a j,qN st.Y st.Z 43 5 v (l.map Val.V)/\st.Y 2=some ⟨43,5,false,[[int 4,int 0,str [],v,.nil]]⟩/\st.Y 0=some (wH s a)/\b.p+1<=a.p/\a.p<=s.length/\l.length<=a.p/\s.length-a.p+1=n/\n<=j/\Er s (Xz s k) j l a=Zy s (Xz s k) b
abbrev vx(k:Int)(v w:O):Blk:=⟨43,5,false,[[int k,int 0,str [],v,w]]⟩
def LiQ(s:za)(a:Nat->O)(b:Jst)(c:Hp)(Z m:Nat)(Y2:Hp)(st:St):Prop:=st.M 0=.ref 0 0 0/\st.M 2=.ref 1 0 0/\st.M 3=.ref 2 0 0/\st.Z=Z+2/\st.Y=qf Y2 2 (some (vx 4 (.own (Z+1) 0 m) .nil))
theorem F1{k:Nat}(h:zi prog 79 (iH k)):zi prog 115 (lisS k):=
 ya (C:=Clj k) func115 (by kernel_rfl) rfl TJ _ fun cs az cs' r hF=>by
  obtain⟨s,st,⟨⟩,rfl,rfl,hs,Y,⟨h91,hkk⟩,rfl,rfl⟩:=Qp hF;refine⟨by simp[aU,f115],?_⟩;clear hF;have A:=zdv h;have hl0:=Ww h91 (by decide);have hw0:=wj ((st.p:Int)+1);obtain⟨b,m⟩:=wM (Qe s st.qH);have R:st.qH.p<=s.length:=by simp only[Jst.qH];omega
  have D:=xN (s:=s) R;rw[m]at D;simp only[Jst.qH]at D;refine Wp.cut A (fun M Y Z=>M 0=.ref 0 0 0/\M 2=.ref 1 0 0/\Y 0=some (wH s st)/\Y 1=some jC/\Z=2) (by kernel_rfl) (by simp[aU,zZ,zz,zN,jC,zc]) ?_;rintro M Y1 _ ⟨i,o,q,N,rfl⟩;refine Wp.cut A (fun c Y Z=>c 0=.ref 0 0 0/\c 2=.ref 1 0 0/\c 3=.ref 2 0 0/\Y 0=some (wH s st)/\Y 1=some jC/\Y 2=some (vx 4 .nil .nil)/\Z=3) (by kernel_rfl) (by simp[i,o,q,N,zc,zI,qe]) ?_;clear i o q N M Y1;rintro M Y1 _ ⟨i,o,B,q,N,E,rfl⟩;refine Wp.cut A (fun c Y Z=>c 0=.ref 0 0 0/\c 2=.ref 1 0 0/\c 3=.ref 2 0 0/\Y 0=some (wH s st.qH)/\Y 1=some jC/\Y 2=some (vx 4 .nil .nil)/\Z=3) (by kernel_rfl) ?_ ?_
  ·simp only[zz,zN,zd,ze,zh,Nat.reduceAdd]at q⊢;simp[i,o,B,q,N,E,hw0,Jst.qH,zc]
  clear i o B q N E M Y1;rintro M Y1 _ ⟨i,o,B,q,N,E,rfl⟩;have g1:=Wv (id:=0) (Z:=3) q hs R;rw[m]at g1;have hb1:qf Y1 0 (some (wH s b)) 0=some (wH s b):=by simp
  have g2:=ZO (Z:=3) hb1 hs D.2.1;by_cases F:jq s b=93
  ·have hl1:=Ww F (by decide);have hw1:=wj ((b.p:Int)+1);have hr:Zy s (Xz s k) st=([],b.qH):=by simp only[Zy,m,zg F]
   rw[F]at g2;rw[hr];simp only[zz,zN,zd,ze,zh,Nat.reduceAdd]at g1 g2 q;refine Wp.seq (Wp.of A (by kernel_rfl) ?_);simp only[jC]at N;simp[i,o,B,g1,g2,N,E,hw1,zc,f115];exact qc rfl (by simp[zc,zz,zN,Jst.qH]) kD rfl
  have hne:(((jq s b).toNat:Int)==93)=false:=WW 93 F;have hr:Er s (Xz s k) (s.length+1) [] b=Zy s (Xz s k) st:=by simp only[Zy,m,zf F]
  refine Wp.cut A (fun c Y Z=>LiI s k st (s.length-b.p+1) ⟨c,Y,Z⟩) (by kernel_rfl) ?_ ?_
  ·simp[i,g1,g2,hne];exact⟨by simp[i],by simp[o],by simp[B],by simp,by simp[zc,N],.nil,[],b,s.length+1,.inl ⟨rfl,rfl⟩,by simp[zc,E],by simp,D.1,D.2.1,by simp,rfl,by omega,hr⟩
  clear i o B q hb1 N E g1 g2 M Y1;rintro M Y1 Z hI;refine Wp.seq (Wp.block (Wp.loop (LiI s k st) _ hI ?_));clear hI F hne hr D m M Y1 Z b;rintro n ⟨M,Y1,Z⟩ ⟨i,o,B,hnx,I,v,l,b,j,S,E,q,hge,hpl,hll,hn,hnj,H⟩;simp only at i o B hnx I S E q;have X:=qZ S q rfl;have t:=qZ S I rfl;have T:=qZ S E rfl;obtain⟨j,rfl⟩:∃j',j=j'+1:=⟨j-1,by omega⟩;rw[Er]at H;have P:=q;simp only[zz,zN,zd,ze,zh,Nat.reduceAdd]at P;by_cases he:b.e=0
  case neg=>rw[zg he]at H;refine Wp.seq (Wp.of A (by kernel_rfl) ?_);simp[i,P,he,Zw he];refine Wp.of A (by kernel_rfl) ?_;rw[<-H];have d:=I;simp only[jC]at d;simp[o,B,E,d,S.cell,f115];exact nB (S.put t (some (vx 4 v .nil))) (by rw[zc _ _ _ _ (by decide)];exact q) 4 _
  rw[zf (by simpa using he)]at H;obtain⟨x,u,hx⟩:∃x u,Xz s k b=(x,u):=⟨_,_,rfl⟩;have Q:=lr s k b hpl;rw[hx]at H Q;simp only at H Q;have g:=fA (k:=k) (id:=0) (Z:=Z) q hs hpl (by omega);rw[hx]at g;simp only at g;obtain⟨Y2,a1,O2,f2⟩:=dJ (S.put X (some (wH s u))) x (by omega);have b0:Y2 0=some (wH s u):=by rw[f2 0 (by omega) X];simp
  have b1:Y2 1=some jC:=by rw[f2 1 (by omega) t,zc _ _ _ _ (by decide)];exact I
  have b2:Y2 2=some (vx 4 v .nil):=by rw[f2 2 (by omega) T,zc _ _ _ _ (by decide)];exact E
  refine Wp.cut A (fun c Y' Z'=>c 0=.ref 0 0 0/\c 2=.ref 1 0 0/\c 3=.ref 2 0 0/\Y'=Y1/\Z'=Z) (by kernel_rfl) (by simp[i,o,B,P,he]) ?_;clear i o B M;rintro M Y1 Z ⟨i,o,B,rfl,rfl⟩;refine Wp.block ?_;refine Wp.seq (Wp.mono (K:=fun e st=>e=.normal/\LiQ s M u Y1 Z (l.length+1) Y2 st) ?_ ?_)
  ·refine Wp.aD mixed ?_;rw[show Wh _ _ _=[[0,1,2,3,4,5,6,7],[0,2,1,3,4,5,6,7],[0,2,3,1,4,5,6,7],[0,2,3,4,1,5,6,7],[2,0,1,3,4,5,6,7],[2,0,3,1,4,5,6,7],[2,0,3,4,1,5,6,7],[2,3,0,1,4,5,6,7],[2,3,0,4,1,5,6,7],[2,3,4,0,1,5,6,7]]from by kernel_rfl];intro lst hl;simp only[zv,wu,or_false]at hl;have n2:(2:Nat)≠Z:=by omega
   have n0:¬(0:Nat)=Z:=by omega
   rcases hl with rfl|rfl|rfl|rfl|rfl|rfl|rfl|rfl|rfl|rfl
   all_goals
    refine Jd.ord A _ (by kernel_rfl) (by decide) ?_;simp[i,o,B,E,g,a1,b2,n2,n0,zc,zs,zF,zr,LiQ]
  rintro e ⟨σ1,f,y⟩ ⟨rfl,e0,e2,e3,AR,G⟩;simp only at e0 e2 e3 AR G;simp only[ZQ];have d0:f 0=some (wH s u):=by rw[G,zc _ _ _ _ (by decide)];exact b0
  have d1:f 1=some jC:=by rw[G,zc _ _ _ _ (by decide)];exact b1
  have d2:f 2=some (vx 4 (.own (Z+1) 0 (l.length+1)) .nil):=by rw[G];simp
  have O3:qN f y 43 5 (.own (Z+1) 0 (l.length+1)) ((l++[x]).map Val.V):=by rw[G,AR];exact O2.put (fun n e=>by injection e with e;omega) _
  have S5:2<y:=by omega
  clear i o B S E q P I X t T g a1 O2 f2 b0 b1 b2 G M Y1 Y2 v;obtain⟨w,hw⟩:=wM (O.own (Z+1) 0 (l.length+1));rw[hw]at d2 O3;clear hw;obtain⟨bl1,bl2,bl3,_⟩:=xN (s:=s) (st:=u) Q.2.1;obtain⟨a,hst2⟩:=wM (Qe s u);have g3:=Wv (id:=0) (Z:=y) d0 hs Q.2.1;rw[hst2]at g3 H bl1 bl2 bl3;have d0':qf f 0 (some (wH s a)) 0=some (wH s a):=by simp
  have g4:=ZO (Z:=y) d0' hs bl2;have U:=qZ O3 d0 rfl;have t:=qZ O3 d1 rfl;have hvv:=d2;have d:=d1;simp only[jC]at d;have g5:Od [.ref 0 0 0,.v (.int .u8 93)] (qf f 0 (some (wH s a))) y=some (yh (QK s a 93).1,qf (qf f 0 (some (wH s a))) 0 (some (wH s (QK s a 93).2)),y):=Xh 93 d0' hs bl2;rw[qV]at g5;by_cases hcm:a.e=0/\jq s a=44
  ·obtain⟨z,J⟩:=hcm;rw[zg ⟨z,J⟩]at H;have hl2:=Ww J (by decide);have hw2:=wj ((a.p:Int)+1);rw[J]at g4;have L:a.qH.p<=s.length:=by simp only[Jst.qH];omega
   have d0'':qf f 0 (some (wH s a.qH)) 0=some (wH s a.qH):=by simp
   have g6:=Wv (id:=0) (Z:=y) d0'' hs L;rw[qV]at g6;obtain⟨k1,k2,_⟩:=xN (s:=s) (st:=a.qH) L;obtain⟨st3,hst3⟩:=wM (Qe s a.qH);rw[hst3]at g6 H k1 k2;simp only[Jst.qH]at k1;simp only[zz,zN,Jst.qH,zd,ze,zh,Nat.reduceAdd,yk,qu,z]at g3 g4 g6;refine Wp.of A (by kernel_rfl) ?_;simp[e0,g3,g4,g6,hw2];have O4:=O3.put U (some (wH s st3));simp only[zz,zN,zd,ze,zh,Nat.reduceAdd]at O4;exact⟨s.length-st3.p+1,by omega,by simp[e0],by simp[e2],by simp[e3],S5,by simp[zc,d1],w,l++[x],st3,j,by simpa using O4,by simp[zc,d2],by simp[zz,zN],by omega,k2,by simp;omega,rfl,by omega,H⟩
  rw[zf hcm]at H;rw[<-H];have W:∀Y Z,Y=qf f 0 (some (wH s (QK s a 93).2))->ig TJ (zN s (QK s a 93).2) (.agg (Val.mk 4 0 [] (l++[x]) []).V) (.agg [int 4,int 0,str [],w,.nil]) (qf Y 1 (some (vx 4 w .nil))) Z:=fun Y Z e=>by subst e;have O4:=(O3.put U (some (wH s (QK s a 93).2))).put t (some (vx 4 w .nil));exact nB O4 (by rw[zc _ _ _ _ (by decide)];simp) 4 Z
  by_cases z:a.e=0
  ·have J:¬jq s a=44:=fun h=>hcm ⟨z,h⟩
   have hne4:(((jq s a).toNat:Int)==44)=false:=WW 44 J;simp only[zz,zN,Jst.qH,zd,ze,zh,Nat.reduceAdd,yk,qu,z]at g3 g4 g5;refine Wp.of A (by kernel_rfl) ?_;simp[e0,g3,g4,g5,hne4];refine Wp.of A (by kernel_rfl) ?_;simp[e2,e3,d2,d,O3.cell,zc,f115];exact W _ _ rfl
  ·simp only[zz,zN,Jst.qH,zd,ze,zh,Nat.reduceAdd,yk,qu]at g3 g4 g5;refine Wp.of A (by kernel_rfl) ?_;simp[e0,g3,g4,g5,z,Zw z];refine Wp.of A (by kernel_rfl) ?_;simp[e2,e3,d2,d,O3.cell,zc,f115];exact W _ _ rfl
section
variable{s:za}
def jE(a:Jst)(b:Rst):Prop:=match b.b with
 |none=>a.e=0/\a.p=b.p
 |some (k,x)=>a.e=x/\x≠0/\a.i=k
theorem jE.Zm{a:Jst}{b:Rst}(h:jE a b)(c:b.b=none):a.e=0/\a.p=b.p:=by unfold jE at h;rw[c]at h;exact h
theorem jE.XX{a:Jst}{b:Rst}{k:Nat}{x:Int}(h:jE a b)(c:b.b=some (k,x)):a.e=x/\x≠0/\a.i=k:=by unfold jE at h;rw[c]at h;exact h
theorem jE.Is{a:Jst}{b:Rst}(c:b.b=none)(d:a.e=0)(Y:a.p=b.p):jE a b:=by unfold jE;rw[c];exact⟨d,Y⟩
theorem jE.fail{a:Jst}{b:Rst}(h:jE a b){k:Nat}{x:Int}(c:k<=s.length)(d:x≠0):jE (a.fail s.length k x) (b.fail k x):=by
 obtain⟨p,e⟩:=b;cases e with
 |none=>have:=h.Zm rfl;unfold Jst.fail;rw[zg this.1];exact⟨rfl,d,zcf c⟩
 |some q=>obtain⟨k',f⟩:=q;have:=h.XX rfl;unfold Jst.fail;rw[zf (by rw[this.1];exact this.2.1)];exact this
theorem jE.bl{a:Jst}{b:Rst}(h:jE a b):jE (Qe s a) (kO s b):=by
 obtain⟨p,c⟩:=b;cases c with
 |none=>have:=h.Zm rfl;refine⟨this.1,?_⟩;simp only[Qe,Jst.go,this.2];rfl
 |some q=>obtain⟨k',d⟩:=q;exact h.XX rfl
theorem YS{a:Jst}{b:Rst}(h:jE a b)(c:b.b=none):ka s b=jq s a:=by unfold ka jq;rw[c,(h.Zm c).2]
theorem jE.qH{a:Jst}{b:Rst}(h:jE a b):jE a.qH b.qH:=by
 obtain⟨p,c⟩:=b;cases c with
 |none=>have:=h.Zm rfl;exact⟨this.1,by simp only[Jst.qH,Rst.qH,this.2]⟩
 |some q=>obtain⟨k',d⟩:=q;exact h.XX rfl
theorem Pm{st:Jst}{c:UInt8}(a:c≠0):s[st.p]?=some c↔jq s st=c:=by
 unfold jq;cases h:s[st.p]? with
 |none=>simp;exact fun e=>a e.symm
 |some x=>simp
theorem jE.S6{a:Jst}{b:Rst}(h:jE a b){c:UInt8}(g:c≠0)(Y:b.p<=s.length):jE (QK s a c).2 (Ja s b c)/\((QK s a c).1=true↔(Ja s b c).b=none):=by
 unfold QK Ja;cases d:b.b with
 |none=>
  have l:=h.Zm d;rw[YS h d];by_cases f:jq s a=c
  ·rw[zg ⟨l.1,(Pm g).2 f⟩,zg f];exact⟨h.qH,⟨fun _=>d,fun _=>rfl⟩⟩
  ·rw[zf (fun e=>f ((Pm g).1 e.2)),zf f,l.2];refine⟨h.fail Y (by decide),⟨(fun e=>by cases e),fun e=>?_⟩⟩;unfold Rst.fail at e;rw[d]at e;cases e
 |some q=>
  obtain⟨k,x⟩:=q;have hs:=h.XX d;have m:¬(0:UInt8)=c:=fun e=>g e.symm
  have i:ka s b=0:=by unfold ka;rw[d]
  rw[i,zf m,zf (fun e=>hs.2.1 (hs.1.symm.trans e.1))];have n:b.fail b.p 10=b:=by unfold Rst.fail;rw[d]
  have j:a.fail s.length a.p 10=a:=by unfold Jst.fail;rw[zf (by rw[hs.1];exact hs.2.1)]
  simp only[n,j];exact⟨h,⟨(fun e=>by cases e),fun e=>by rw[d]at e;cases e⟩⟩
def WS(n:Nat)(w:za):Nat:=w.foldl (fun n c=>n*10+(c.toNat-48)) n
theorem Pn(most:Nat):∀(l:za) (n m:Nat) (st:Jst),m<=most ->
  (m+(l.takeWhile jg).length<=most->mD s most l n m st=(WS n (l.takeWhile jg),m+(l.takeWhile jg).length,if m+(l.takeWhile jg).length=0 then st.fail s.length st.p 10 else st.go (l.takeWhile jg).length)) /\
  (most<m+(l.takeWhile jg).length->(mD s most l n m st).2.2=(st.go (most-m)).fail s.length (st.p+(most-m)) 10)
 |[],n,m,st,b=>by refine⟨fun _=>?_,fun h=>by simp at h<;>omega⟩;simp only[mD,List.takeWhile_nil,ze,Zi,WS,List.foldl_nil,Jst.go]<;>rfl
 |c::l,n,m,st,b=>by
  rw[mD,yQ];cases i:jg c
  ·simp only[zm,zQ,ze,Zi,WS,List.foldl_nil,Jst.go];exact⟨fun _=>trivial,fun h=>by omega⟩
  ·simp only[zK,zd];by_cases a:m=most
   ·subst a;simp only[zK,Nat.sub_self,Zi,Jst.go];exact⟨fun h=>by omega,fun _=>trivial⟩
   ·rw[zf a];obtain⟨d,e⟩:=Pn most l (n*10+(c.toNat-48)) (m+1) st.qH (by omega);refine⟨fun h=>?_,fun h=>?_⟩
    ·rw[d (by omega),zf (by omega),zf (by omega)];refine Sw rfl (Sw (by simp only;omega) ?_);simp only[Jst.go,Jst.qH,Jst.mk.injEq,qh];omega
    ·rw[e (by omega)];have f:st.qH.go (most-(m+1))=st.go (most-m):=by simp only[Jst.go,Jst.qH,Jst.mk.injEq,qh];omega
     have g:st.qH.p+(most-(m+1))=st.p+(most-m):=by simp only[Jst.qH];omega
     rw[f,g]
theorem jE.dg{a:Jst}{b:Rst}(h:jE a b)(Y:b.p<=s.length)(d:b.b=none){most:Nat}(n:0<most):jE (cx s most a).2.2 (fo s b most).2/\((fo s b most).2.b=none->(cx s most a).1=WS 0 (fo s b most).1/\(cx s most a).2.1=(fo s b most).1.length/\(fo s b most).1≠[]/\(fo s b most).1.length<=most):=by
 have c:=h.Zm d;have k:A1 s b=(s.drop a.p).takeWhile jg:=by unfold A1;rw[d,c.2]
 have l:=Fv (s:=s) Y;obtain⟨g,i⟩:=Pn (s:=s) most (s.drop a.p) 0 0 a (jb _);rw[<-k]at g i;simp only[zh,Nat.sub_zero]at g i;unfold cx fo;by_cases j:most<(A1 s b).length
 ·rw[zg j,i j];have hs:jE (a.go most) ⟨b.p+most,b.b⟩:=.Is d c.1 (by simp only[Jst.go,c.2]);refine⟨by rw[c.2];exact hs.fail (by omega) (by decide),fun e=>?_⟩;simp only[Rst.fail,d]at e;cases e
 ·rw[zf j,g (by omega)];by_cases f:A1 s b=[]
  ·rw[zg f,f];simp only[ze,zK];refine⟨by rw[c.2];exact h.fail Y (by decide),fun e=>?_⟩;simp only[Rst.fail,d]at e;cases e
  ·have m:¬(A1 s b).length=0:=by simpa using f
   rw[zf f,zf m];exact⟨.Is d c.1 (by simp only[Jst.go,c.2]),fun _=>⟨rfl,rfl,f,by simp only;omega⟩⟩
end
end Go.Q
namespace Go.Proofs
open Go.Shelf
def Tryz.hV:Go.Shelf.Ren:=⟨fun|105=>158|212=>206|99=>49|165=>207|166=>208|170=>209|169=>210|263=>254|264=>255|206=>70|240=>256|241=>257|276=>297|277=>298|n=>n,fun|9=>9|3=>3|4=>4|20=>20|0=>0|46=>88|109=>207|5=>5|72=>211|76=>163|51=>131|146=>244|53=>133|148=>246|70=>209|37=>157|75=>162|127=>248|164=>279|80=>45|n=>n,fun|n=>n⟩
theorem Tryz.zbv:Go.Proofs.Lays.n105 prog Tryz.hV:={
 mixed:=by kernel_rfl
 f99:=func49.trans (zp some (by kernel_rfl))
 f105:=func158.trans (zp some (by kernel_rfl))
 f165:=func207.trans (zp some (by kernel_rfl))
 f166:=func208.trans (zp some (by kernel_rfl))
 f169:=func210.trans (zp some (by kernel_rfl))
 f170:=func209.trans (zp some (by kernel_rfl))
 f206:=func70.trans (zp some (by kernel_rfl))
 f212:=func206.trans (zp some (by kernel_rfl))
 f240:=func256.trans (zp some (by kernel_rfl))
 f241:=func257.trans (zp some (by kernel_rfl))
 f263:=func254.trans (zp some (by kernel_rfl))
 f264:=func255.trans (zp some (by kernel_rfl))
 f276:=func297.trans (zp some (by kernel_rfl))
 f277:=func298.trans (zp some (by kernel_rfl))
 t0:=underlying0
 a0:=isAgg0
 z0:=sizeOf0
 v0:=zeroValue0
 t3:=underlying3
 a3:=isAgg3
 z3:=sizeOf3
 v3:=zeroValue3
 t4:=underlying4
 a4:=isAgg4
 z4:=sizeOf4
 v4:=zeroValue4
 t5:=underlying5
 a5:=isAgg5
 z5:=sizeOf5
 v5:=zeroValue5
 t9:=underlying9
 a9:=isAgg9
 z9:=sizeOf9
 v9:=zeroValue9
 t20:=underlying20
 a20:=isAgg20
 z20:=sizeOf20
 v20:=zeroValue20
 t37:=underlying157
 a37:=isAgg157
 z37:=sizeOf157
 v37:=zeroValue157
 t46:=underlying88
 a46:=isAgg88
 z46:=sizeOf88
 v46:=zeroValue88
 t51:=underlying131
 a51:=isAgg131
 z51:=sizeOf131
 v51:=zeroValue131
 t53:=underlying133
 a53:=isAgg133
 z53:=sizeOf133
 v53:=zeroValue133
 t70:=underlying209
 a70:=isAgg209
 z70:=sizeOf209
 v70:=zeroValue209
 t72:=underlying211
 a72:=isAgg211
 z72:=sizeOf211
 v72:=zeroValue211
 t75:=underlying162
 a75:=isAgg162
 z75:=sizeOf162
 v75:=zeroValue162
 t76:=underlying163
 a76:=isAgg163
 z76:=sizeOf163
 v76:=zeroValue163
 t109:=underlying207
 a109:=isAgg207
 z109:=sizeOf207
 v109:=zeroValue207
 t127:=underlying248
 a127:=isAgg248
 z127:=sizeOf248
 v127:=zeroValue248
 t146:=underlying244
 a146:=isAgg244
 z146:=sizeOf244
 v146:=zeroValue244
 t148:=underlying246
 a148:=isAgg246
 z148:=sizeOf246
 v148:=zeroValue246
 t164:=underlying279
 a164:=isAgg279
 z164:=sizeOf279
 v164:=zeroValue279}
theorem Tryz.ew:Builder.Extra prog Tryz.hV:={
 sizeBuilder:=by kernel_rfl
 liesBuilder:=by kernel_rfl
 t5:=underlying5
 a5:=isAgg5
 z5:=sizeOf5
 v5:=zeroValue5
 infoByte:=by kernel_rfl
 cellsByte:=by kernel_rfl
 sizeByte:=by kernel_rfl
 neB5:=by decide}
end Go.Proofs
namespace Go.Q
open Go.RowKit Go.AM Go.PrLaw
theorem CU{w a:World}(h:Below w.heap.size w a):Fr False w (fun _=>False) a:=⟨h.os,h.tape,h.output,h.size,fun e=>e.elim,fun k b _=>h.block k b⟩
noncomputable def FRt:zb->Option O:=qW (α:=UInt8×Int) (fun a=>[str [a.1],int a.2]) (fun a=>0<=a.2/\a.2<=1000) (fun a=>str (Lib.repeatL [a.1] a.2.toNat))
theorem U1(c:UInt8)(n:Int)(Y:Hp)(Z:Nat)(h:0<=n)(b:n<=1000):zn false [] FRt [str [c],int n] Y Z=some (str (Lib.repeatL [c] n.toNat),Y,Z):=
 iX (c,n) _ _ rfl (fun x y e=>by obtain⟨d,f⟩:=x;obtain⟨g,i⟩:=y;simp only[zq,qh]at e;have a:=yp e.1;injection a with a;rw[a,qA e.2]) ⟨h,b⟩ (.inl rfl)
theorem uO:wO False prog 158 (zn false [] FRt):=
 j5 ⟨_,func158,by kernel_rfl,by kernel_rfl⟩ fun xs r h=>by
  obtain⟨⟨c,n⟩,rfl,⟨b,d⟩,rfl⟩:=zL h;simp only at b d;refine⟨[.string ⟨#[c]⟩,.int .i64 n],rfl,by simp[lit],rfl,.string ⟨(Lib.repeatL [c] n.toNat).toArray⟩,fun w S=>.v rfl,fun w S j=>?_⟩;have f:((n.toNat:Nat):Int)=n:=by omega
  have a:=Any.strings_Repeat Tryz.zbv Tryz.ew ⟨#[c]⟩ n.toNat w (by omega) (by simp[ByteArray.size];omega);rw[f]at a;refine a.mono fun e k g=>?_
  obtain⟨rfl,i⟩:=g;exact⟨rfl,CU i⟩
end Go.Q
