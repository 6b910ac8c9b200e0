/- Lemmas. -/
import Derived.Test.YtnbicamkimignaaGreatDoorG16
set_option maxRecDepth 100000
set_option maxHeartbeats 4000000
open Go Proofs Proofs.YtnbicamkimignaaGreatDoor Proofs.Tryz RowKit AM SpanLaw Q Zz
open Go.IntKind renaming i64→i6
namespace Go.AM
def cg(P:Program)(l:Jg)(g:FuncId)(it:Qq):Ctx:=⟨P,lookup l,fun _=>[],fun _=>[],fun _=>false,fun _=>[],fun k=>if k=g then some it else none⟩
@[simp]theorem zhw(P:Program)(l:Jg)(g:FuncId)(it:Qq):(cg P l g it).P=P:=rfl
@[simp]theorem zhx(P:Program)(l:Jg)(k:FuncId)(it:Qq)(Y:Hp)(Z g:Nat)(x y xs:zc):jQ (cg P l k it) Y Z (some (.fn (.func g) x y)) xs=(lookup l g).bind fun s=>s (x++xs++y) Y Z:=by unfold jQ cg;simp only;cases lookup l g<;>rfl
@[simp]theorem PU(P:Program)(l:Jg)(k:FuncId)(it:Qq)(i:Nat)(a:Array Oper)(d:Bool)(b:St)(K:Exit→St→Prop):Zf (cg P l k it) (.region i a d) b K=sq (cg P l k it) a a.toList b (Jr K):=Q6 _ i a d b K rfl rfl
theorem PW{P:Program}{l:Jg}{q:List Nat}{k:FuncId}{it:Qq}(b:P.follows .mixedOrders=true)(h:Ct True P q l)(c:LW P k it):AM.Good (cg P l k it) (fun g=>q.contains g):=
 let g:=zI b h
 ⟨g.spec,g.quiet,g.mixed,(fun _ _ h=>by cases h),(fun j a h=>by
  have:(if j=k then some it else none)=some a:=h;split at this
  ·rename_i e;injection this with this
   subst this;subst e;exact c
  ·cases this)⟩
@[simp]theorem zke(C:Ctx)(b:Code)(K:Exit→St→Prop)(a:St):asgK C b K .normal a=Zf C b a K:=rfl
@[simp]theorem zkf(I:Nat→Hp→Nat→Prop)(k:Nat)(b:Nat→O)(K:Exit→St→Prop)(a:St):rngK I k b K .normal a=I (k+1) a.Y a.Z:=rfl
@[simp]theorem zkg(I:Nat→Hp→Nat→Prop)(k:Nat)(b:Nat→O)(K:Exit→St→Prop)(a:St):rngK I k b K .ret a=K .ret ⟨b,a.Y,a.Z⟩:=rfl
theorem YY{Y:Hp}{Z e s:Nat}{v:O}{xs:List zc}(h:q6 Y Z e s v xs){j:Nat}{b:jz}(a:Y j=some b)(c:b.arr=false):∀n,v≠.own j 0 n:=by
 rcases h with⟨rfl,_⟩|⟨id,f,rfl,d⟩
 ·intro n e;cases e
 ·intro n e;injection e with e
  subst e;rw[d]at a;injection a with a
  subst a;cases c
end Go.AM
namespace Go.Q
noncomputable def Dj (t:za):O:=.yb [.sl 11 (qz (QJ t).1),int (QJ t).2]
theorem nB:zg prog 227 (wP C0 f227):=wZ (code:=_) w8 ⟨func227,by kernel_rfl,rfl,by kernel_rfl⟩
noncomputable abbrev Csq:Ctx:=qb prog [(227,wP C0 f227)]
theorem zd5:AM.Good Csq (fun g=>([]:List Nat).contains g):=zI mixed ⟨nB,by simp,trivial⟩
theorem GL:zg prog 208 (wP Csq f208):=wZ (code:=_) zd5 ⟨func208,by kernel_rfl,rfl,by kernel_rfl⟩
def Tq(t sep:za)(Y:Hp)(Z:Nat):Hp:=qZ (qZ (qZ Y Z (some ⟨9,1,false,[[str t]]⟩)) (Z+1) (some ⟨9,1,false,[[str sep]]⟩)) (Z+1+1) (some ⟨3,1,false,[[int 0]]⟩)
theorem Ar(t sep:za)(Y:Hp)(Z:Nat):wP C0 f227 [str t,str sep,int 0] Y Z=some (.fn (.func 258) [] [.ref (Z+1) 0 0,.ref Z 0 0,.ref (Z+1+1) 0 0],Tq t sep Y Z,Z+1+1+1):=by unfold wP;rw[zf (by simp[f227])];refine kU rfl ?_;simp[Tq,f227]
theorem PX(t sep:za)(Y:Hp)(Z:Nat):wP Csq f208 [str t,str sep] Y Z=some (.fn (.func 258) [] [.ref (Z+1) 0 0,.ref Z 0 0,.ref (Z+1+1) 0 0],Tq t sep Y Z,Z+1+1+1):=by
 have a:=fun Y Z=>Ar t sep Y Z
 unfold wP;rw[zf (by simp[f208])];refine kU rfl ?_;simp[a,f208]
def Kc(Y:Hp)(Z:Nat)(v:O)(m:List wR):Prop:=v=.sl 11 (qz m)∨(v=.nil∧m=[])∨∃id,id<Z∧v=.own id 0 (qz m).length∧Y id=some ⟨239,11,true,qz m⟩
theorem Kc.frz{Y:Hp}{Z:Nat}{v:O}{m:List wR}(h:Kc Y Z v m):∃y Y1,qf Y v=some (y,Y1)∧(Sh.s 11 jM).fix y=.sl 11 (qz m)∧(∀j,(∀n,v≠.own j 0 n)→Y1 j=Y j)∧∀j b,Y1 j=some b→Y j=some b:=by
 rcases h with rfl|⟨rfl,rfl⟩|⟨id,f,rfl,c⟩
 ·exact⟨_,Y,rfl,KC m,fun _ _=>rfl,fun _ _ h=>h⟩
 ·exact⟨_,Y,rfl,rfl,fun _ _=>rfl,fun _ _ h=>h⟩
 ·refine⟨.sl 11 (qz m),qZ Y id none,by simp[c],KC m,fun j d=>zw _ _ _ _ fun e=>d _ (by subst e;rfl),fun j b a=>?_⟩;by_cases e:j=id
  ·subst e;rw[w9]at a;cases a
  ·rwa [qY _ _ _ _ e]at a
theorem Kc.ZC{Y Y':Hp}{Z a:Nat}{v:O}{m:List wR}(h:Kc Y Z v m)(e:Z≤a)(b:∀id,id<Z→(∀n,v=.own id 0 n→Y' id=Y id)):Kc Y' a v m:=by
 rcases h with rfl|⟨rfl,rfl⟩|⟨id,c,rfl,d⟩
 ·exact .inl rfl
 ·exact .inr (.inl ⟨rfl,rfl⟩)
 ·exact .inr (.inr ⟨id,by omega,rfl,by rw[b id c _ rfl];exact d⟩)
theorem Kc.len{Y:Hp}{Z:Nat}{v:O}{m:List wR}(h:Kc Y Z v m):Qr prog 209 v=some (int m.length):=by rcases h with rfl|⟨rfl,rfl⟩|⟨id,a,rfl,b⟩<;>simp[qz]
theorem Kc.box{Y:Hp}{Z:Nat}{v:O}{m:List wR}(h:Kc Y Z v m){j:Nat}{b:jz}(a:Y j=some b)(c:b.e≠239):∀n,v≠.own j 0 n:=by
 rcases h with rfl|⟨rfl,rfl⟩|⟨id,f,rfl,d⟩
 ·intro n e;cases e
 ·intro n e;cases e
 ·intro n e;injection e with e
  subst e;rw[d]at a;injection a with a
  subst a;exact c rfl
theorem Kc.lt{Y:Hp}{Z:Nat}{v:O}{m:List wR}(h:Kc Y Z v m){j n:Nat}(e:v=.own j 0 n):j<Z:=by
 rcases h with rfl|⟨rfl,rfl⟩|⟨id,a,rfl,b⟩
 ·cases e
 ·cases e
 ·injection e with e;omega
theorem zad(c:Zg)(Y:Hp)(Z:Nat)(h:c.ok):qh [.g Aj] (FCm JY) [.agg c.V] Y Z=some (JY c,Y,Z):=
 ju (show zA Y [.agg c.V]=some ([.agg c.V],Y) by simp[Zg.V]) (by
  have d:(Sh.g Aj).fix (.agg c.V)=.agg c.V:=by simp[Zg.V]
  show FCm JY [(Sh.g Aj).fix (.agg c.V)]=_;rw[d];exact zJ (V:=fun v:Zg=>[O.agg v.V]) (a:=c) (fun a b e=>by simp only[zh,zK]at e;injection e with e;exact Mh e) h) (.inr (by simp[Zg.V]))
theorem Dk(f:Bool→Bool→Bool)(g:Nat)(D:(f=and∧g=213)∨(f=or∧g=214)){Y:Hp}{Z:Nat}{v w:O}{a b:List wR}(E:Kc Y Z v a)(F:Kc Y Z w b)(h:∀id n k,v=.own id 0 n→w≠.own id 0 k)(u:kg a)(A:kg b) :
  ∃x Y' i,v8 [.s 11 jM,.s 11 jM] De [v,w,.fn (.func g) [] []] Y Z=some (x,Y',i)∧Kc Y' i x (vj f a b)∧Z≤i∧(∀j,j<Z→(∀n,v≠.own j 0 n)→(∀n,w≠.own j 0 n)→Y' j=Y j)∧(∀n j,x=.own j 0 n→Z≤j)∧∀s es,x≠.sl s es:=by
 obtain⟨y,Y1,G,H,l,_⟩:=E.frz;have m:Kc Y1 Z w b:=F.ZC (ze _) fun id _ n e=>l id fun I J=>h id I n J e
 obtain⟨z,Y2,K,L,B,_⟩:=m.frz;have d:zA Y [v,w,.fn (.func g) [] []]=some ([y,z,.fn (.func g) [] []],Y2):=by simp only[zA,G,K];rfl
 have C:De (YR [.s 11 jM,.s 11 jM] (yf [] [y,z,.fn (.func g) [] []]))=some (WE f a b):=by
  show De [(Sh.s 11 jM).fix y,(Sh.s 11 jM).fix z,.fn (.func g) [] []]=_;rw[H,L];rcases D with⟨rfl,rfl⟩|⟨rfl,rfl⟩
  ·have:=zJ (V:=fun a:List wR×List wR=>[O.sl 11 (qz a.1),.sl 11 (qz a.2),.fn (.func 213) [] []]) (pre:=fun a=>kg a.1∧kg a.2) (out:=fun a=>WE and a.1 a.2) (a:=(a,b)) (IF _) ⟨u,A⟩;unfold De;rw[this]
  ·have:=zJ (V:=fun a:List wR×List wR=>[O.sl 11 (qz a.1),.sl 11 (qz a.2),.fn (.func 214) [] []]) (pre:=fun a=>kg a.1∧kg a.2) (out:=fun a=>WE or a.1 a.2) (a:=(a,b)) (IF _) ⟨u,A⟩;have o:qv (α:=List wR×List wR) (fun a=>[O.sl 11 (qz a.1),.sl 11 (qz a.2),.fn (.func 213) [] []]) (fun a=>kg a.1∧kg a.2) (fun a=>WE and a.1 a.2) [O.sl 11 (qz a),.sl 11 (qz b),.fn (.func 214) [] []]=none:=by
    cases M:qv (α:=List wR×List wR) (fun a=>[O.sl 11 (qz a.1),.sl 11 (qz a.2),.fn (.func 213) [] []]) (fun a=>kg a.1∧kg a.2) (fun a=>WE and a.1 a.2) [O.sl 11 (qz a),.sl 11 (qz b),.fn (.func 214) [] []]with
    |none=>rfl
    |some r=>obtain⟨_,e,_⟩:=zr M;simp at e
   unfold De;rw[o];exact this
 unfold v8 yO;by_cases p:vj f a b=[]
 ·have c:=C;unfold WE at c;rw[zf p]at c;simp only[d,c];exact⟨_,_,_,rfl,.inr (.inl ⟨rfl,p⟩),ze _,fun j _ q t=>(B j t).trans (l j q),fun n j e=>(by cases e),fun s es e=>(by cases e)⟩
 ·have c:=C;unfold WE at c;rw[zj p]at c;simp only[d,c];exact⟨_,_,_,rfl,.inr (.inr ⟨Z,by omega,rfl,by simp⟩),by omega,fun j N q t=>by rw[zw _ _ _ _ (by omega)];exact(B j t).trans (l j q),fun n j e=>(by injection e with e;omega),fun s es e=>(by cases e)⟩
noncomputable abbrev Crrg:Ctx:=cg prog [(208,wP Csq f208),(209,zi false [] (aO Am)),(210,qh [] (YU cd)),(211,qh [.g Aj] (FCm JY)),(212,v8 [.s 11 jM,.s 11 jM] De),(215,qh [.g jM] (FSt idS))] 258 dI
theorem zd6:AM.Good Crrg (fun g=>([]:List Nat).contains g):=PW mixed ⟨GL,by simp,dy,by simp,Kv,by simp,iV,by simp,pY,by simp,dG,by simp,trivial⟩ GK
theorem nC(t:za)(ht:t.length+1≤zG):∃r0,zz Crrg f195 [str t]=some r0∧qM r0 (Dj t):=by
 refine y8 (sh:=.s 11 jM) rfl ?_;by_cases S:(400:Int)<t.length
 ·have hv:QJ t=([],2):=by unfold QJ;rw[zf S]
  simp[S,Dj,hv,qz,qL,f195]
 have hsq:=fun Y Z=>PX t [124,124] Y Z
 obtain⟨parts,r⟩:∃parts,qC t [124,124]=parts:=⟨_,rfl⟩;have hpl:∀p∈parts,p.length≤400:=fun p Y=>by have:=xt (by rw[r];exact Y);omega
 have hpn:parts.length≤401:=by have:=Zm (s:=t) (sep:=[124,124]) (by simp);rw[r]at this;omega
 have a:QJ t=match pE parts with
  |none=>([],10)
  |some ls=>match dH ls []with
   |none=>([],1)
   |some o=>if(100:Int)<o.length then([],2)else(o,0):=by unfold QJ;rw[zj S,r]<;>rfl
 simp[S,hsq];refine LV (p:=23) (xs:=parts.map str) rfl (by simp;exact⟨rfl,rfl⟩) (it:=dI) rfl (by simp[dI,Tq,r];exact⟨⟨by decide,by omega⟩,rfl⟩) (fun k Y Z=>∃(v:O) (done:List (List Zg)),6≤Z∧Y 0=some ⟨209,1,false,[[.nil]]⟩∧Y 1=some ⟨35,1,false,[[int 0]]⟩∧Y 2=some ⟨217,1,false,[[v]]⟩ ∧
   q6 Y Z 221 1 v (done.map fun l=>[.sl 11 (ZO l)])∧done.length=k∧pE parts=(pE (parts.drop k)).map (done++·)) ?_ ?_ ?_
 ·exact⟨.nil,[],by simp,by simp,by simp,by simp,.inl ⟨rfl,rfl⟩,rfl,by rw[yj];cases pE parts<;>rfl⟩
 ·rintro k Y Z hk ⟨v,done,y,f,d,b2,B,hdk,X⟩;have hk':k<parts.length:=by simpa using hk
  have hpk:(parts.map str)[k]=str parts[k]:=by simp
  have hpkl:=hpl parts[k] (zm hk');have halt:=fun Y Z=>Zy Am parts[k] Y Z (by unfold zG;omega)
  simp only[Am]at halt;rw[hpk];rw[zd hk']at X;simp only[pE]at X;cases C:(QU parts[k]).2
  ·rw[C]at X;simp only[zU,wK,vU]at X;rw[X]at a;have n0:¬0=Z:=by omega
   have n1:¬1=Z:=by omega
   simp[halt,C,f,d,Dj,a,qz,qL,f195]
  ·rw[C]at X;simp only[wi]at X;have BZ:=q6.yx (P:=prog) (t:=217) (c:=[.sl 11 (ZO (QU parts[k]).1)]) B zcD zg9 zha zhb rfl (by omega) (by simp[hdk];unfold maxLen;omega) (by simp[hdk];omega);have k0:=fun Y'=>yt B Y' 0 (YY B f rfl)
   have k1:=fun Y'=>yt B Y' 1 (YY B d rfl)
   have k2:=fun Y'=>yt B Y' 2 (YY B b2 rfl)
   have n0:¬0=Z:=by omega
   have n1:¬1=Z:=by omega
   have n2:¬2=Z:=by omega
   have n3:¬1=Z+1:=by omega
   have n4:¬2=Z+1:=by omega
   have n5:¬Z+1=2:=by omega
   simp[halt,C,f,d,b2,BZ,k0,k1,k2,n0,n1,n2,n3,n4,n5,zv,zN,zy];refine⟨by omega,by rw[zw _ _ _ _ (by omega),k1,zw _ _ _ _ (by omega)];exact d,done++[(QU parts[k]).1],.inr ⟨Z+1,by omega,by simp,by rw[zw _ _ _ _ (by omega)];simp⟩,by simp[hdk],?_⟩;rw[X];cases pE (parts.drop (k+1))<;>simp
 ·rintro Y Z ⟨v,done,y,f,d,b2,B,hdk,X⟩;rw[qO]at hdk;rw[qO,zl]at X;simp only[pE,zH,yh]at X;obtain⟨zh7,hdl⟩:=Di parts done 400 hpl X;rw[X]at a;simp only at a;have hlen:=B.len zcD;rw[qO]at hlen;have hdn:done.length≤401:=by omega
  obtain⟨rows,K⟩:∃rows,done.map (fun l=>[O.sl 11 (ZO l)])=rows:=⟨_,rfl⟩;rw[K]at B;have hrl:rows.length=done.length:=by rw[←K];simp
  simp[b2,hlen];refine zQ (fun i b Y Z=>b 2=.ref 0 0 0∧b 3=.ref 1 0 0∧b 35=v∧b 36=int done.length∧b 37=int i∧6≤Z∧Y 0=some ⟨209,1,false,[[.nil]]⟩∧Y 1=some ⟨35,1,false,[[int 0]]⟩ ∧
    q6 Y Z 221 1 v rows∧∃o,Kc Y Z (b 8) o∧(∀s es,b 8≠.sl s es)∧jU o∧o.length≤i*500∧dH done []=dH (done.drop i) o) done.length
   ⟨by simp,by simp,by simp,by simp,by simp,y,f,d,B,[],.inr (.inl ⟨by simp,rfl⟩),by simp,(by intro s hs;cases hs),by simp,by simp⟩ ?_
  clear y f d b2 B hlen Y Z;rintro i b Y Z hi ⟨L,M,G,z,A,y,f,d,B,o,J,N,hgo,hol,hj⟩;by_cases hlt:i<done.length
  ·obtain⟨idA,H,rfl,D⟩:=B.at_ (by omega);obtain⟨l,hl⟩:∃l,done[i]=l:=⟨_,rfl⟩;have hri:∀h:i<rows.length,rows[i]=[O.sl 11 (ZO l)]:=fun h=>by
    have:rows[i]?=some [O.sl 11 (ZO l)]:=by rw[←K,wy,zu hlt,hl];rfl
    rw[zu h]at this;injection this
   obtain⟨hgl,hll⟩:=zh7 l (by rw[←hl];exact zm hlt);rw[zd hlt,hl]at hj;simp only[dH]at hj;have hev:∀(Y:Hp) (Z:Nat),qh [] (YU cd) [] Y Z=some (.sl 11 (qz [yw wA]),Y,Z):=fun Y Z=>We _ Y Z
   have hwi:i6.wrap ((i:Int)+1)=(i:Int)+1:=zn (by omega) (by omega);have hel:(ZO l).length=l.length:=by simp[ZO]
   simp[L,M,G,z,A,hlt,hrl,D,hri,hev,hel];refine zQ (fun k b Y Z=>b 2=.ref 0 0 0∧b 3=.ref 1 0 0∧b 35=.own idA 0 rows.length∧b 36=int done.length∧b 37=int i∧6≤Z∧Y 0=some ⟨209,1,false,[[.nil]]⟩∧Y 1=some ⟨35,1,false,[[int 0]]⟩ ∧
     q6 Y Z 221 1 (.own idA 0 rows.length) rows∧Kc Y Z (b 8) o∧(∀s es,b 8≠.sl s es)∧b 42=.sl 11 (ZO l)∧b 43=int l.length∧b 44=int k∧∃m,Kc Y Z (b 11) m∧jU m∧m.length≤k+1∧(∀id n n',b 8=.own id 0 n→b 11≠.own id 0 n')∧VZ l [yw wA]=VZ (l.drop k) m) l.length
    ⟨by simp[L],by simp[M],by simp[G,hrl],by simp[z],by simp[A],y,f,d,B,by simpa using J,by simpa using N,by simp,by simp,by simp,[yw wA],.inl (by simp),(Wg xm).2,by simp,by simp,by simp⟩ ?_
   clear L M G z A y f d B J N hi D H b Y Z;rintro k b Y Z hk ⟨L,M,G,z,A,y,f,d,B,J,N,h42,h43,h44,m,hM,hgm,hml,BZ,u⟩;by_cases T:k<l.length
   ·obtain⟨c,hc⟩:∃c,l[k]=c:=⟨_,rfl⟩;have hcg:c.xz:=hgl c (by rw[←hc];exact zm T);obtain⟨hs1,hs2⟩:=ax hcg;have I:∀h:k<(ZO l).length,(ZO l)[k]=c.V:=fun h=>by simp[ZO,hc]
    have Lp:=fun Y Z=>zad c Y Z hcg.ok
    have hwk:i6.wrap ((k:Int)+1)=(k:Int)+1:=zn (by omega) (by omega);rw[zd T,hc]at u;simp only[VZ]at u;have n0:¬0=Z:=by omega
    have n1:¬1=Z:=by omega
    cases C:(vW c).2
    ·rw[C]at u;simp only[zU,wK]at u;rw[u]at hj;simp only at hj;rw[hj]at a;simp only at a;simp only[JY,Zg.V]at Lp I;simp[L,M,G,z,A,h42,h43,h44,T,hel,I,Lp,C,f,d,n0,n1,Dj,a,qz,qL,f195]
    ·rw[C]at u;simp only[wi]at u;have hM':Kc (qZ Y Z (some ⟨229,11,false,[c.V]⟩)) (Z+1) (b 11) m:=hM.ZC (by omega) fun id hid n e=>zw _ _ _ _ (by omega)
     obtain⟨x,Y',Z',E,hX,TK,N6,U,hxs⟩:=Dk and 213 (.inl ⟨rfl,rfl⟩) hM' (.inl rfl:Kc _ _ (.sl 11 (qz (vW c).1)) (vW c).1) (fun id n k e e2=>by cases e2) (hgm.small (by unfold zG;omega)) (jU.small hs2 (by unfold zG;omega));have F:∀j,j<Z→(∀n,b 11≠.own j 0 n)→Y' j=Y j:=fun j hj q=>by rw[N6 j (by omega) q (fun n e=>by cases e),zw _ _ _ _ (by omega)]
     have hlm:=KB and m (vW c).1;obtain⟨idA2,H,Q,D⟩:=B.at_ (by omega);injection Q with Q
     subst Q;simp only[JY,Zg.V]at Lp I E;simp[L,M,G,z,A,h42,h43,h44,T,hel,I,Lp,C,E,hwk];exact⟨by omega,by omega,by rw[F 0 (by omega) (hM.box f (by decide))];exact f,by rw[F 1 (by omega) (hM.box d (by decide))];exact d,.inr ⟨idA,by omega,rfl,by rw[F idA H (hM.box D (by simp))];exact D⟩,J.ZC (by omega) (fun id hid n e=>F id hid fun n'=>BZ id n n' e),N,_,hX,xu and hgm hs2,by omega,fun id n n' e e2=>by have:=J.lt e;have:=U _ _ e2;omega,u⟩
   ·obtain rfl:k=l.length:=by omega
    rw[zl]at u;simp only[VZ]at u;rw[u]at hj;simp only at hj;obtain⟨x,Y',Z',E,hX,TK,N6,U,hxs⟩:=Dk or 214 (.inr ⟨rfl,rfl⟩) J hM BZ (hgo.small (by unfold zG;omega)) (hgm.small (by unfold zG;omega));have hlm:=KB or o m;obtain⟨idA2,H,Q,D⟩:=B.at_ (by omega);injection Q with Q
    subst Q;simp[L,M,G,z,A,h42,h43,h44,E,hwi];exact⟨by omega,hrl,by omega,by rw[N6 0 (by omega) (J.box f (by decide)) (hM.box f (by decide))];exact f,by rw[N6 1 (by omega) (J.box d (by decide)) (hM.box d (by decide))];exact d,.inr ⟨idA,by omega,by rw[hrl],by rw[N6 idA H (J.box D (by simp)) (hM.box D (by simp))];exact D⟩,_,hX,hxs,xu or hgo hgm,by omega,hj⟩
  ·obtain rfl:i=done.length:=by omega
   rw[zl]at hj;simp only[dH]at hj;rw[hj]at a;simp only at a;have R:=J.len;by_cases W:(100:Int)<o.length
   ·rw[zf W]at a;simp[L,M,z,A,R,W,f,d,Dj,a,qz,qL,f195]
   rw[zj W]at a;simp[L,M,z,A,R,W];obtain⟨w,hw8⟩:∃w,b 8=w:=⟨_,rfl⟩;rw[hw8]at J N;refine zQ (fun j b Y Z=>b 2=.ref 0 0 0∧b 3=.ref 1 0 0∧b 8=w∧b 66=w∧b 67=int o.length∧b 68=int j∧6≤Z∧Y 0=some ⟨209,1,false,[[.nil]]⟩∧Y 1=some ⟨35,1,false,[[int 0]]⟩∧Kc Y Z w o) o.length
    ⟨by simp[L],by simp[M],by simp[hw8],by simp[hw8],by simp,by simp,y,f,d,J⟩ ?_
   clear L M G z A y f d B J hi hw8 b Y Z R;rintro j b Y Z hjl ⟨L,M,h8,h66,h67,h68,y,f,d,J⟩;by_cases hltj:j<o.length
   ·have hwj:i6.wrap ((j:Int)+1)=(j:Int)+1:=zn (by omega) (by omega);rcases J with rfl|⟨rfl,rfl⟩|⟨id,hid,rfl,hb⟩
    ·exact absurd rfl (N _ _)
    ·simp at hltj
    ·obtain⟨s,hs⟩:∃s,o[j]=s:=⟨_,rfl⟩;have hgs:=hgo s (by rw[←hs];exact zm hltj);have hel:(qz o).length=o.length:=by simp[qz]
     have I:∀h:j<(qz o).length,(qz o)[j]=s.V:=fun h=>by simp[qz,hs]
     have hset:(qz o).set j s.V=qz o:=by
      have h':j<(qz o).length:=by omega
      rw[←I h'];exact List.set_getElem_self h'
     have hcp:∀Y Z,qh [.g jM] (FSt idS) [.agg s.V] Y Z=some (.agg s.V,Y,Z):=fun Y Z=>PS idS s (.agg s.V) Y Z ⟨hgs.1.small,hgs.2.small⟩ (by simp[wR.V,Cut.V]) (by simp[wR.V,Cut.V]) (by simp[wR.V,Cut.V])
     have m1:¬id=Z:=by omega
     simp only[wR.V,Cut.V,q9,wN]at I hcp hset;have i0:¬0=id:=fun e=>by rw[←e]at hb;rw[hb]at f;simp at f
     have i1:¬1=id:=fun e=>by rw[←e]at hb;rw[hb]at d;simp at d
     have n0:¬0=Z:=by omega
     have n1:¬1=Z:=by omega
     simp[L,M,h8,h66,h67,h68,hltj,hel,hb,I,hcp,m1,hwj,hset];exact⟨by omega,by omega,by simp[i0,n0,f],by simp[i1,n1,d],.inr (.inr ⟨id,by omega,by rw[hel],by simp⟩)⟩
   ·obtain rfl:j=o.length:=by omega
    rcases J with rfl|⟨rfl,rfl⟩|⟨id,hid,rfl,hb⟩
    ·exact absurd rfl (N _ _)
    ·simp[L,M,h8,h66,h67,h68,f,d,Dj,a,qL,qz,f195]
    ·have i0:¬id=0:=fun e=>by rw[e]at hb;rw[hb]at f;simp at f
     have i1:¬id=1:=fun e=>by rw[e]at hb;rw[hb]at d;simp at d
     have hfx:=KC o;simp only[Sh.eT,O.sl.injEq,ab]at hfx;simp[L,M,h8,h66,h67,h68,f,d,hb,i0,i1,Dj,a,qL,hfx,f195]
theorem iX:zg prog 195 (zi false [] (aO Dj)):=
 jD (fn:=f195) zd6 ⟨_,func195,by kernel_rfl,rfl,by kernel_rfl⟩ false [] _ fun args r h w S vs a=>by obtain⟨l,rfl,Y,rfl⟩:=zr h;obtain⟨b,c,d⟩:=nC l Y;exact⟨_,b,a,by simp[f195],c,d⟩
def JA(op:Int):Bool:=jg op 2 6||op==12
def Yb(op:Int):Bool:=jg op 7 11
def xf(op:Int):Bool:=jg op 3 6
noncomputable abbrev Cwi:Ctx:=qb prog [(159,zi false [] (F3 jg))]
theorem GM:AM.Good Cwi (fun g=>[159].contains g):=zI mixed ⟨Qz,fun _=>zt _ _,trivial⟩
def fK(f:Int→Bool):zc→Option O
 |[.v (.int .i64 a)]=>some (wq (f a))
 |_=>none
theorem JB{f:Int→Bool}{args:zc}{r:O}(h:fK f args=some r):∃a,args=[int a]∧r=wq (f a):=by
 unfold fK at h;split at h
 ·injection h with h;exact⟨_,rfl,h.symm⟩
 ·cases h
@[simp]theorem zhy(f:Int→Bool)(a:Int)(Y:Hp)(Z:Nat):zi false [] (fK f) [.v (.int .i64 a)] Y Z=some (wq (f a),Y,Z):=qe rfl rfl (.inl rfl)
theorem Dl:zg prog 191 (zi false [] (fK JA)):=
 qq (fn:=f191) GM ⟨_,func191,by kernel_rfl,rfl,by kernel_rfl⟩ false [] _ fun args r h=>by obtain⟨a,rfl,rfl⟩:=JB h;exact⟨by simp[f191],_,zo rfl (by simp[JA,f191]),qm _⟩
theorem gS:zg prog 182 (zi false [] (fK Yb)):=
 qq (fn:=f182) GM ⟨_,func182,by kernel_rfl,rfl,by kernel_rfl⟩ false [] _ fun args r h=>by obtain⟨a,rfl,rfl⟩:=JB h;exact⟨by simp[f182],_,zo rfl (by simp[Yb,f182]),qm _⟩
theorem gT:zg prog 192 (zi false [] (fK xf)):=
 qq (fn:=f192) GM ⟨_,func192,by kernel_rfl,rfl,by kernel_rfl⟩ false [] _ fun args r h=>by obtain⟨a,rfl,rfl⟩:=JB h;exact⟨by simp[f192],_,zo rfl (by simp[xf,f192]),qm _⟩
noncomputable abbrev Cms (n:Nat):Ctx:=qb prog [(161,zi false [] (FC (fun c=>.yb [int c.parts,int c.levels]) n))]
theorem As(n:Nat)(c:wV)(h:c.cb≤zG∧c.cb≤n+1):zz (Cms n) f161 [.agg c.V]=some (.yb [int c.parts,int c.levels]):=by
 have r:=fh c;have s:=al c;have t:=VX c;have g:=bX c;have u:=Gj c;have v:=Zk c.args;obtain⟨w,C⟩:=h;unfold zG at w;refine zo rfl ?_;simp;refine zQ (fun k d Y Z=>d 9=.sl 7 (c.args.map wV.V)∧d 10=int c.args.length∧d 11=int k∧d 2=int ((1+jm (c.args.take k):Nat):Int)∧d 3=int (jf (c.args.take k))) c.args.length
  ⟨by simp,by simp,by simp,by simp[jm],by simp[jf]⟩ ?_
 rintro k d Y Z D ⟨m,e,f,i,j⟩;by_cases a:k<c.args.length
 ·obtain⟨o,y⟩:=zhn a;have E:=Yr (zm a);have z:i6.wrap ((k:Int)+1)=(k:Int)+1:=zn (by omega) (by omega);have p:=sG c.args k;have l:=sG c.args (k+1);have A:=bY c.args fun x F=>fh x
  have b:=fun Y Z=>Vc (fun c=>.yb [int c.parts,int c.levels]) n c.args[k] Y Z ⟨by unfold zG;omega,by omega⟩
  have q:i6.wrap (((1+jm (c.args.take k):Nat):Int)+c.args[k].parts)=((1+jm (c.args.take (k+1)):Nat):Int):=by rw[zn (by omega) (by omega),o];omega
  have B:(if(jf (c.args.take k))<c.args[k].levels then(c.args[k].levels:Int)else jf (c.args.take k))=(jf (c.args.take (k+1)):Int):=by rw[y];split<;>omega
  simp[i,j,m,e,f,a,b,z];exact⟨by omega,by rw[zn (by omega) (by omega),o];omega,B⟩
 ·obtain rfl:k=c.args.length:=by omega
  rw[yk]at i j;have q:i6.wrap ((jf c.args:Int)+1)=(c.levels:Int):=by rw[zn (by omega) (by omega),g];omega
  simp[i,j,m,e,f,q,wH,f161];omega
theorem pZ:∀n,zg prog 161 (zi false [] (FC (fun c=>.yb [int c.parts,int c.levels]) n)):=by
 intro n
 induction n with
 |zero=>exact lE ⟨_,func161,by kernel_rfl,by kernel_rfl⟩
 |succ n a=>
  have b:AM.Good (Cms n) (fun g=>([]:List Nat).contains g):=zI mixed ⟨a,by simp,trivial⟩;exact qq (fn:=f161) b ⟨_,func161,by kernel_rfl,rfl,by kernel_rfl⟩ false [] _ fun args r h=>by obtain⟨c,rfl,d,rfl⟩:=WX h;exact⟨zC (ze 1) (by decide),_,As n c d,qm _⟩
def w1F(c:wV):Bool:=!(c.kind==4)&&(!c.attr.isEmpty||c.op != 0||decide (0<c.yY.length)||!c.pat.isEmpty)
def w2F(c:wV):Bool:=c.kind != 5&&!c.name.isEmpty
def w3F(c:wV):Bool:=!jg c.kind 1 3&&decide (0<c.args.length)
def w4F(c:wV):Bool:=c.kind==4&&!JA c.op&&decide (0<c.yY.length)
def w5F(c:wV):Bool:=c.kind==4&&!Yb c.op&&!c.pat.isEmpty
def w6F(c:wV):Bool:=c.kind==3&&(c.args.length:Int) != 1
def w7F(c:wV):Bool:=c.kind==4&&xf c.op&&(c.yY.length:Int) != 1
def ZQ(c:wV):Bool:=w1F c||w2F c||w3F c||w4F c||w5F c||w6F c||w7F c
noncomputable abbrev Cfo:Ctx:=qb prog [(159,zi false [] (F3 jg)),(191,zi false [] (fK JA)),(182,zi false [] (fK Yb)),(192,zi false [] (fK xf))]
theorem zd7:AM.Good Cfo (fun g=>[159,191,182,192].contains g):=zI mixed ⟨Qz,fun _=>zt _ _,Dl,fun _=>zt _ _,gS,fun _=>zt _ _,gT,fun _=>zt _ _,trivial⟩
@[simp]theorem zhz:yB Cfo 191:=wC (by rfl) (zt _ _)
@[simp]theorem zhA:yB Cfo 182:=wC (by rfl) (zt _ _)
@[simp]theorem zhB:yB Cfo 192:=wC (by rfl) (zt _ _)
theorem nD(c:wV)(h:c.cb≤zG):zz Cfo f180 [.agg c.V]=some (int (if ZQ c=true then 3 else 0)):=by
 refine zo rfl ?_;have a:(!(c.kind==4)&&(!c.attr.isEmpty||c.op != 0||decide (0<c.yY.length)||!c.pat.isEmpty))=w1F c:=rfl;have d:(c.kind != 5&&!c.name.isEmpty)=w2F c:=rfl;have f:(!jg c.kind 1 3&&decide (0<c.args.length))=w3F c:=rfl;have i:(c.kind==4&&!JA c.op&&decide (0<c.yY.length))=w4F c:=rfl;have k:(c.kind==4&&!Yb c.op&&!c.pat.isEmpty)=w5F c:=rfl;have m:(c.kind==3&&(c.args.length:Int) != 1)=w6F c:=rfl;have o:(c.kind==4&&xf c.op&&(c.yY.length:Int) != 1)=w7F c:=rfl;cases b:w1F c
 case true=>simp[a,b,ZQ,f180]
 cases e:w2F c
 case true=>simp[a,b,d,e,ZQ,f180]
 cases g:w3F c
 case true=>simp[a,b,d,e,f,g,ZQ,f180]
 cases j:w4F c
 case true=>simp[a,b,d,e,f,g,i,j,ZQ,f180]
 cases l:w5F c
 case true=>simp[a,b,d,e,f,g,i,j,k,l,ZQ,f180]
 cases n:w6F c
 case true=>simp[a,b,d,e,f,g,i,j,k,l,m,n,ZQ,f180]
 cases p:w7F c
 case true=>simp[a,b,d,e,f,g,i,j,k,l,m,n,o,p,ZQ,f180]
 simp[a,b,d,e,f,g,i,j,k,l,m,n,o,p,ZQ,f180]
theorem iY:zg prog 180 (GC fun c=>int (if ZQ c=true then 3 else 0)):=
 qq (fn:=f180) zd7 ⟨_,func180,by kernel_rfl,rfl,by kernel_rfl⟩ false [] _ fun args r h=>by obtain⟨c,rfl,a,rfl⟩:=WX h;exact⟨by simp[f180],_,nD c a.1,qm _⟩
noncomputable def ch (p:Option qE) (v:qE):Bool:=match p with
 |none=>false
 |some p=>decide (0≤yl p v)
def Dm(op:Int)(v:qE):Bool:=v.kind==0||xf op&&v.kind != 2
noncomputable def aQ (op:Int):Option qE→List qE→Int
 |_,[]=>0
 |p,v::l=>if v.check=0 then(if Dm op v=true then 6 else if ch p v=true then 8 else aQ op (some v) l)else v.check
noncomputable def ZE (op:Int) (l:List qE):Int:=if(100:Int)<l.length then 2 else aQ op none l
def QX(l:List qE)(k:Nat):Option qE:=if k=0 then none else l[k-1]?
noncomputable def FIv (f:Int→List qE→O):zc→Option O:=qv (α:=Int×List qE) (fun a=>[int a.1,.sl 5 (a.2.map qE.V)]) (fun a=>Jf a.2≤zG) (fun a=>f a.1 a.2)
theorem PY(f:Int→List qE→O)(op:Int)(l:List qE)(Y:Hp)(Z:Nat)(h:Jf l≤zG):zi false [] (FIv f) [int op,.sl 5 (l.map qE.V)] Y Z=some (f op l,Y,Z):=
 qe (Y1:=Y) (show zA Y [int op,.sl 5 (l.map qE.V)]=some ([int op,.sl 5 (l.map qE.V)],Y) by simp) (zJ (V:=fun a:Int×List qE=>[int a.1,.sl 5 (a.2.map qE.V)]) (a:=(op,l)) (fun x y e=>by obtain⟨d,g⟩:=x;obtain⟨i,j⟩:=y;simp only[zh,zK]at e;obtain⟨c,b⟩:=e;injection b with _ b;rw[qn c,Ku b]) h) (.inr (by simp))
noncomputable abbrev Ccv2:Ctx:=qb prog [(193,GV fun v=>int v.check),(192,zi false [] (fK xf)),(194,zi false [] (UT zG))]
theorem zae:AM.Good Ccv2 (fun g=>[192,194].contains g):=zI mixed ⟨CF,by simp,gT,fun _=>zt _ _,nn zG,fun _=>zt _ _,trivial⟩
@[simp]theorem zf4:yB Ccv2 192:=wC (by rfl) (zt _ _)
theorem fL(op:Int)(l:List qE)(h:Jf l≤zG):zz Ccv2 f181 [int op,.sl 5 (l.map qE.V)]=some (int (ZE op l)):=by
 have B:=jk l;unfold zG at h;refine zo rfl ?_;by_cases c:(100:Int)<l.length
 ·have y:ZE op l=2:=by unfold ZE;rw[zf c]
  simp[c,y,f181]
 have y:ZE op l=aQ op none l:=by unfold ZE;rw[zj c]
 rw[y];simp[c];refine zQ (fun k p Y Z=>p 0=int op∧p 1=.sl 5 (l.map qE.V)∧p 11=.sl 5 (l.map qE.V)∧p 12=int l.length∧p 13=int k∧aQ op none l=aQ op (QX l k) (l.drop k)) l.length
  ⟨by simp,by simp,by simp,by simp,by simp,by simp[QX]⟩ ?_
 rintro k p Y Z L ⟨q,r,d,e,f,a⟩;by_cases b:k<l.length
 ·have M:=kP (zm b);have C:i6.wrap ((k:Int)+1)=(k:Int)+1:=zn (by omega) (by omega);have i:=fun Y Z=>Jt (fun v=>int v.check) l[k] Y Z (by unfold zG;omega)
  rw[zd b]at a;simp only[aQ]at a;have s:QX l (k+1)=some l[k]:=by simp[QX,b]
  have m:(l[k].kind==0||xf op&&l[k].kind != 2)=Dm op l[k]:=rfl;by_cases n:l[k].check=0
  case neg=>
   rw[zj n]at a;have z:(l[k].check != 0)=true:=by simpa using n
   simp[q,r,d,e,f,b,i,z,a,f181]
  rw[zf n]at a;cases g:Dm op l[k]
  case true=>rw[g,zf rfl]at a;simp[q,r,d,e,f,b,i,n,m,g,a,f181]
  rw[g,zj (by simp)]at a;by_cases I:k=0
  ·subst I;have Y0:ch (QX l 0) l[0]=false:=rfl;rw[Y0,zj (by simp)]at a;simp[q,r,d,e,f,b,i,n,m,g,C];exact⟨by omega,by rw[a,show QX l 1=some l[0]from s];simp⟩
  ·obtain⟨j,rfl⟩:∃j,k=j+1:=⟨k-1,by omega⟩;have w:j<l.length:=by omega
   have J:=kP (zm w);have D:i6.wrap ((j:Int)+1-1)=(j:Int):=by rw[zn (by omega) (by omega)];omega
   have t:i6.wrap (j:Int)=(j:Int):=zn (by omega) (by omega);have E:((j:Int)+1).toNat=j+1:=by omega
   have F:0<(j:Int)+1:=by omega
   have G:0≤(j:Int)+1:=by omega
   have H:(j:Int)+1<l.length:=by omega
   have u:=fun Y Z=>Kr zG l[j] l[j+1] Y Z ⟨by unfold zG;omega,by unfold zG;omega,by unfold zG;omega⟩
   have A:ch (QX l (j+1)) l[j+1]=decide (0≤yl l[j] l[j+1]):=by simp[QX,w,ch]
   rw[A]at a;by_cases x:0≤yl l[j] l[j+1]
   ·have o:decide (0≤yl l[j] l[j+1])=true:=by simpa using x
    rw[zf o]at a;simp[q,r,d,e,f,b,w,i,n,m,g,C,D,t,E,F,G,H,u,x,a,f181]
   ·have o:¬decide (0≤yl l[j] l[j+1])=true:=by simpa using x
    rw[zj o]at a;have K:i6.wrap ((j:Int)+1+1)=(j:Int)+1+1:=zn (by omega) (by omega);simp[q,r,d,e,f,b,w,i,n,m,g,K,D,t,E,F,G,H,u,x];exact⟨by omega,by rw[a,s]⟩
 ·obtain rfl:k=l.length:=by omega
  rw[zl]at a;simp only[aQ]at a;simp[q,r,d,e,f,a,f181]
theorem dJ:zg prog 181 (zi false [] (FIv fun op l=>int (ZE op l))):=
 qq (fn:=f181) zae ⟨_,func181,by kernel_rfl,rfl,by kernel_rfl⟩ false [] _ fun args r h=>by obtain⟨⟨op,l⟩,rfl,a,rfl⟩:=zr h;exact⟨by simp[f181],_,fL op l a,qm _⟩
noncomputable def Yv (op:Int) (s:za):Int:=if(500:Int)<s.length then 2 else if wG 32 126 s=true then(if op=11 then(QJ s).2 else 0)else 1
noncomputable def FIs (f:Int→za→O):zc→Option O:=qv (α:=Int×za) (fun a=>[int a.1,str a.2]) (fun a=>a.2.length≤zG) (fun a=>f a.1 a.2)
theorem PZ(f:Int→za→O)(op:Int)(s:za)(Y:Hp)(Z:Nat)(h:s.length≤zG):zi false [] (FIs f) [int op,str s] Y Z=some (f op s,Y,Z):=
 qe rfl (zJ (V:=fun a:Int×za=>[int a.1,str a.2]) (a:=(op,s)) (fun x y e=>by obtain⟨b,c⟩:=x;obtain⟨d,g⟩:=y;simp only[zh,zK]at e;rw[qn e.1,wx e.2]) h) (.inr (by simp))
noncomputable abbrev Cpt:Ctx:=qb prog [(195,zi false [] (aO Dj))]
theorem zd8:AM.Good Cpt (fun g=>([]:List Nat).contains g):=zI mixed ⟨iX,by simp,trivial⟩
theorem dK(op:Int)(s:za)(h:s.length≤zG):zz Cpt f183 [int op,str s]=some (int (Yv op s)):=by
 unfold zG at h;refine zo rfl ?_;by_cases a:(500:Int)<s.length
 ·have b:Yv op s=2:=by unfold Yv;rw[zf a]
  simp[a,b,f183]
 have i:=fun Y Z=>Zy Dj s Y Z (by unfold zG;omega)
 simp only[Dj]at i;have b:Yv op s=if wG 32 126 s=true then(if op=11 then(QJ s).2 else 0)else 1:=by unfold Yv;rw[zj a]
 simp[a];refine zQ (fun k j Y Z=>j 0=int op∧j 1=str s∧j 12=int s.length∧j 13=int k∧wG 32 126 s=wG 32 126 (s.drop k)) s.length ⟨by simp,by simp,by simp,by simp,by simp⟩ ?_;rintro k j Y Z r ⟨m,n,c,d,g⟩;by_cases e:k<s.length
 ·have q:i6.wrap ((k:Int)+1)=(k:Int)+1:=zn (by omega) (by omega);rw[Zw e]at g;have p:=Xn 32 126 s[k];simp only[ZX]at p;cases o:pr 32 126 s[k]
  ·have g:wG 32 126 s=false:=by rw[g,o];rfl
   rw[g,zj (by simp)]at b;simp[m,n,c,d,e,b,p,o,f183]
  ·simp[m,n,c,d,e,p,o,q];exact⟨e,by rw[g,o];rfl⟩
 ·obtain rfl:k=s.length:=by omega
  have g:wG 32 126 s=true:=by rw[g,zl];rfl
  rw[g,zf rfl]at b;by_cases f:op=11
  ·rw[zf f]at b;subst f;simp[m,n,c,d,i,b,f183]
  ·rw[zj f]at b;have l:(op==11)=false:=by simpa using f
   simp[m,n,c,d,l,b,f183]
theorem cj:zg prog 183 (zi false [] (FIs fun op s=>int (Yv op s))):=
 qq (fn:=f183) zd8 ⟨_,func183,by kernel_rfl,rfl,by kernel_rfl⟩ false [] _ fun args r h=>by obtain⟨⟨op,s⟩,rfl,a,rfl⟩:=zr h;exact⟨by simp[f183],_,dK op s a,qm _⟩
def gU(c:wV):Bool:=!jg c.kind 1 5
def P0(c:wV):Bool:=c.kind==4&&!jg c.op 1 12
def bw(c:wV):Bool:=(c.kind==4&&!yn c.attr)||(c.kind==5&&!yn c.name)
def GN(c:wV):Bool:=c.kind==4&&Yb c.op
noncomputable def xg (c:wV):Int:=if(gU c||P0 c)=true then 4 else if ZQ c=true then 3 else if bw c=true then 5 else if ZE c.op c.yY=0 then(if GN c=true then Yv c.op c.pat else 0)else ZE c.op c.yY
mutual
noncomputable def wV.fault:wV→Int
 | .mk k a o v p n l=>if xg (.mk k a o v p n l)=0 then Zt l else xg (.mk k a o v p n l)
noncomputable def Zt:List wV→Int
 |[]=>0
 |c::l=>if c.fault=0 then Zt l else c.fault
end
theorem sY(c:wV):c.fault=if xg c=0 then Zt c.args else xg c:=by cases c;simp only[wV.fault];rfl
theorem XA{l:List wV}{k:Nat}(h:k<l.length):Zt (l.drop k)=if l[k].fault=0 then Zt (l.drop (k+1))else l[k].fault:=by rw[zd h,Zt]
noncomputable abbrev P1 (n:Nat):Ctx:=qb prog [(162,zi false [] (FC (fun c=>int c.fault) n)),(159,zi false [] (F3 jg)),(180,GC fun c=>int (if ZQ c=true then 3 else 0)),(123,zi false [] (FS yn)),
 (181,zi false [] (FIv fun op l=>int (ZE op l))),(182,zi false [] (fK Yb)),(183,zi false [] (FIs fun op s=>int (Yv op s)))]
@[simp]theorem zf5(n:Nat):yB (P1 n) 159:=wC (by rfl) (zt _ _)
@[simp]theorem zf6(n:Nat):yB (P1 n) 123:=wC (by rfl) (zt _ _)
@[simp]theorem zf7(n:Nat):yB (P1 n) 182:=wC (by rfl) (zt _ _)
theorem iZ(n:Nat)(c:wV)(h:c.cb≤zG∧c.cb≤n+1):zz (P1 n) f162 [.agg c.V]=some (int c.fault):=by
 have N:=VX c;have P:=Zk c.args;obtain⟨M,S⟩:=h;have y:=sY c;have i:=fun Y Z=>Wu (fun c=>int (if ZQ c=true then 3 else 0)) c Y Z M
 have r:=fun Y Z=>PY (fun op l=>int (ZE op l)) c.op c.yY Y Z (by omega)
 have E:=fun Y Z=>PZ (fun op s=>int (Yv op s)) c.op c.pat Y Z (by omega)
 have j:c.attr.length≤zG:=by omega
 have m:c.name.length≤zG:=by omega
 unfold zG at M;refine zo rfl ?_;have w:(!jg c.kind 1 5)=gU c:=rfl;have z:(c.kind==4&&!jg c.op 1 12)=P0 c:=rfl;have F:((c.kind==4&&!yn c.attr)||(c.kind==5&&!yn c.name))=bw c:=rfl;have I:(c.kind==4&&Yb c.op)=GN c:=rfl;cases q:gU c
 case true=>simp[w,q,y,xg,f162]
 cases t:P0 c
 case true=>simp[w,q,z,t,y,xg,f162]
 cases x:ZQ c
 case true=>simp[w,q,z,t,i,x,y,xg,f162]
 cases A:bw c
 case true=>simp[w,q,z,t,i,x,j,m,F,A,y,xg,f162]
 by_cases B:ZE c.op c.yY=0
 case neg=>
  have J:(ZE c.op c.yY != 0)=true:=by simpa using B
  simp[w,q,z,t,i,x,j,m,F,A,r,B,J,y,xg,f162]
 have o:∀(D:xg c=0),c.fault=Zt c.args:=fun D=>by rw[y,zf D]
 cases G:GN c
 case false=>
  have D:xg c=0:=by simp[xg,q,t,x,A,B,G]
  have p:=o D;simp[w,q,z,t,i,x,j,m,F,A,r,B,I,G];refine zQ (fun k u Y Z=>u 73=.sl 7 (c.args.map wV.V)∧u 74=int c.args.length∧u 75=int k∧Zt c.args=Zt (c.args.drop k)) c.args.length ⟨by simp,by simp,by simp,by simp⟩ ?_;rintro k u Y Z Q ⟨e,f,g,b⟩;by_cases d:k<c.args.length
  ·have R:=Yr (zm d);have K:i6.wrap ((k:Int)+1)=(k:Int)+1:=zn (by omega) (by omega);have a:=fun Y Z=>Vc (fun c=>int c.fault) n c.args[k] Y Z ⟨by unfold zG;omega,by omega⟩
   rw[XA d]at b;by_cases v:c.args[k].fault=0
   ·rw[zf v]at b;simp[e,f,g,d,a,v,K];exact⟨by omega,b⟩
   ·rw[zj v]at b;have C:(c.args[k].fault != 0)=true:=by simpa using v
    simp[e,f,g,d,a,C,p,b,f162]
  ·obtain rfl:k=c.args.length:=by omega
   rw[zl]at b;have b:Zt c.args=0:=by rw[b];rfl
   simp[e,f,g,p,b,f162]
 case true=>
  by_cases H:Yv c.op c.pat=0
  case neg=>
   have L:(Yv c.op c.pat != 0)=true:=by simpa using H
   simp[w,q,z,t,i,x,j,m,F,A,r,B,I,G,E,H,L,y,xg,f162]
  have D:xg c=0:=by simp[xg,q,t,x,A,B,G,H]
  have p:=o D;simp[w,q,z,t,i,x,j,m,F,A,r,B,I,G,E,H];refine zQ (fun k u Y Z=>u 73=.sl 7 (c.args.map wV.V)∧u 74=int c.args.length∧u 75=int k∧Zt c.args=Zt (c.args.drop k)) c.args.length ⟨by simp,by simp,by simp,by simp⟩ ?_;rintro k u Y Z Q ⟨e,f,g,b⟩;by_cases d:k<c.args.length
  ·have R:=Yr (zm d);have K:i6.wrap ((k:Int)+1)=(k:Int)+1:=zn (by omega) (by omega);have a:=fun Y Z=>Vc (fun c=>int c.fault) n c.args[k] Y Z ⟨by unfold zG;omega,by omega⟩
   rw[XA d]at b;by_cases v:c.args[k].fault=0
   ·rw[zf v]at b;simp[e,f,g,d,a,v,K];exact⟨by omega,b⟩
   ·rw[zj v]at b;have C:(c.args[k].fault != 0)=true:=by simpa using v
    simp[e,f,g,d,a,C,p,b,f162]
  ·obtain rfl:k=c.args.length:=by omega
   rw[zl]at b;have b:Zt c.args=0:=by rw[b];rfl
   simp[e,f,g,p,b,f162]
theorem fM:∀n,zg prog 162 (zi false [] (FC (fun c=>int c.fault) n)):=by
 intro n
 induction n with
 |zero=>exact lE ⟨_,func162,by kernel_rfl,by kernel_rfl⟩
 |succ n a=>
  have b:AM.Good (P1 n) (fun g=>[159,123,182].contains g):=zI mixed ⟨a,by simp,Qz,fun _=>zt _ _,iY,by simp,Yo,fun _=>zt _ _,dJ,by simp,gS,fun _=>zt _ _,cj,by simp,trivial⟩;exact qq (fn:=f162) b ⟨_,func162,by kernel_rfl,rfl,by kernel_rfl⟩ false [] _ fun args r h=>by obtain⟨c,rfl,d,rfl⟩:=WX h;exact⟨zC (ze 1) (by decide),_,iZ n c d,qm _⟩
noncomputable def wV.check (c:wV):Int:=if(decide ((200:Int)<c.parts)||decide ((20:Int)<c.levels))=true then 2 else c.fault
noncomputable abbrev Ccch:Ctx:=qb prog [(162,GC fun c=>int c.fault),(161,GC fun c=>.yb [int c.parts,int c.levels])]
theorem Au:zg prog 124 (GC fun c=>int c.check):=
 qq (fn:=f124) (zI (q:=[]) mixed ⟨fM zG,by simp,pZ zG,by simp,trivial⟩:AM.Good Ccch _) ⟨_,func124,by kernel_rfl,rfl,by kernel_rfl⟩ false [] _ fun args r h=>by
  obtain⟨c,rfl,a,rfl⟩:=WX h;have b:=fun Y Z=>Wu (fun c=>int c.fault) c Y Z a.1
  have d:=fun Y Z=>Wu (fun c=>.yb [int c.parts,int c.levels]) c Y Z a.1
  refine⟨by simp[f124],_,zo rfl ?_,qm _⟩;cases e:(decide ((200:Int)<c.parts)||decide ((20:Int)<c.levels))
  ·simp[b,d,e,f124,wV.check]
  ·simp[b,d,e,f124,wV.check]
end Go.Q
namespace Go.SpanLaw
abbrev Sp:=Int×Int
def zlN:Int→List Sp→Prop
 |_,[]=>True
 |lo,s::l=>lo<s.1∧s.1<s.2∧zlN s.2 l
def mem(l:List Sp)(k:Int):Prop:=∃s∈l,s.1≤k∧k<s.2
theorem Vs(k:Int):¬mem [] k:=by simp[mem]
theorem mem_cons(s:Sp)(l:List Sp)(k:Int):mem (s::l) k↔(s.1≤k∧k<s.2)∨mem l k:=by simp[mem]
theorem Vt(f t k:Int):mem [(f,t)] k↔f≤k∧k<t:=by simp[mem]
theorem mem_append(l m:List Sp)(k:Int):mem (l++m) k↔mem l k∨mem m k:=by simp[mem,or_and_right,exists_or]
theorem Zz:∀{lo:Int} {l:List Sp},zlN lo l→∀{k:Int},mem l k→lo<k
 |_,[],_,k,h=>absurd h (Vs k)
 |lo,s::l,a,k,h=>by
  rcases(mem_cons s l k).1 h with h|h
  ·have:=a.1;omega
  ·have:=Zz a.2.2 h;have:=a.1;have:=a.2.1;omega
theorem nE{lo a:Int}{l:List Sp}(h:zlN lo l)(b:a≤lo):zlN a l:=by
 cases l with
 |nil=>trivial
 |cons s l=>exact⟨by have:=h.1;omega,h.2⟩
theorem dL:∀{lo:Int} {l m:List Sp},zlN lo l→zlN lo m→(∀k,mem l k↔mem m k)→l=m
 |_,[],[],_,_,_=>rfl
 |_,[],s::m,_,c,h=>by exfalso;have:=(h s.1).2 ((mem_cons s m s.1).2 (.inl ⟨jb _,c.2.1⟩));exact Vs _ this
 |_,s::l,[],d,_,h=>by exfalso;have:=(h s.1).1 ((mem_cons s l s.1).2 (.inl ⟨jb _,d.2.1⟩));exact Vs _ this
 |lo,s::l,r::m,d,c,h=>by
  have low:∀{x:Sp} {q:List Sp},zlN lo (x::q)→∀{k},mem (x::q) k→x.1≤k:=fun{x q} i {k} e=>by
   rcases(mem_cons x q k).1 e with g|g
   ·exact g.1
   ·have:=Zz i.2.2 g;have:=i.2.1;omega
  have j:s.1=r.1:=by have a:=low c ((h s.1).1 ((mem_cons s l s.1).2 (.inl ⟨jb _,d.2.1⟩)));have b:=low d ((h r.1).2 ((mem_cons r m r.1).2 (.inl ⟨jb _,c.2.1⟩)));omega
  have high:∀{x:Sp} {q:List Sp},zlN lo (x::q)→¬mem (x::q) x.2:=fun{x q} i e=>by
   rcases(mem_cons x q x.2).1 e with g|g
   ·omega
   ·have:=Zz i.2.2 g;omega
  have n:s.2=r.2:=by
   rcases Int.lt_trichotomy s.2 r.2 with g|g|g
   ·exact absurd ((h s.2).2 ((mem_cons r m s.2).2 (.inl ⟨by have:=d.2.1;omega,g⟩))) (high d)
   ·exact g
   ·exact absurd ((h r.2).1 ((mem_cons s l r.2).2 (.inl ⟨by have:=c.2.1;omega,g⟩))) (high c)
  have o:s=r:=Th j n;subst o;rw[dL d.2.2 c.2.2 fun k=>?_];have e:=h k;rw[mem_cons,mem_cons]at e;constructor
  ·intro g;have:=Zz d.2.2 g;rcases e.1 (.inr g)with f|f
   ·omega
   ·exact f
  ·intro g;have:=Zz c.2.2 g;rcases e.2 (.inr g)with f|f
   ·omega
   ·exact f
def GO:Sp→List Sp→List Sp
 |c,[]=>[c]
 |c,s::l=>if s.1≤c.2 then GO (c.1,max c.2 s.2) l else c::GO s l
def WH:List Sp→List Sp
 |[]=>[]
 |s::l=>GO s l
def J1:Int→List Sp→Prop
 |_,[]=>True
 |lo,s::l=>lo≤s.1∧s.1<s.2∧J1 s.1 l
theorem sZ{lo a:Int}{l:List Sp}(h:J1 lo l)(b:a≤lo):J1 a l:=by
 cases l with
 |nil=>trivial
 |cons s l=>exact⟨by have:=h.1;omega,h.2⟩
theorem fN:∀{lo:Int} {c:Sp} {l:List Sp},lo<c.1→c.1<c.2→J1 c.1 l→zlN lo (GO c l)
 |lo,c,[],a,d,_=>⟨a,d,trivial⟩
 |lo,c,s::l,a,d,b=>by
  unfold GO;split
  ·exact fN a (by show c.1<max c.2 s.2;omega) (sZ b.2.2 b.1)
  ·exact⟨a,d,fN (by omega) b.2.1 b.2.2⟩
theorem Av:∀{c:Sp} {l:List Sp},c.1<c.2→J1 c.1 l→∀k,mem (GO c l) k↔(c.1≤k∧k<c.2)∨mem l k
 |c,[],_,_,k=>by simp[GO,mem]
 |c,s::l,d,a,k=>by
  unfold GO;split
  ·rw[Av (c:=(c.1,max c.2 s.2)) (by show c.1<max c.2 s.2;omega) (sZ a.2.2 a.1) k,mem_cons];have:=a.1;have:=a.2.1;show(c.1≤k∧k<max c.2 s.2)∨mem l k↔_;constructor
   ·rintro (h|h)
    ·by_cases b:k<c.2
     ·exact .inl ⟨h.1,b⟩
     ·exact .inr (.inl ⟨by omega,by omega⟩)
    ·exact .inr (.inr h)
   ·rintro (h|h|h)
    ·exact .inl ⟨h.1,by omega⟩
    ·exact .inl ⟨by omega,by omega⟩
    ·exact .inr h
  ·rw[mem_cons,Av a.2.1 a.2.2 k,mem_cons]
theorem nF{lo:Int}{l:List Sp}(h:J1 (lo+1) l):zlN lo (WH l):=by
 cases l with
 |nil=>trivial
 |cons s l=>exact fN (by have:=h.1;omega) h.2.1 h.2.2
theorem Dn{lo:Int}{l:List Sp}(h:J1 lo l)(k:Int):mem (WH l) k↔mem l k:=by
 cases l with
 |nil=>exact Iff.rfl
 |cons s l=>rw[mem_cons];exact Av h.2.1 h.2.2 k
def xZ(a c:Int):List Sp→List Sp
 |[]=>if a<c then[(a,c)]else[]
 |b::l=>if b.1<c then(if a<b.1 then(a,b.1)::xZ (max a b.2) c l else xZ (max a b.2) c l)else if a<c then[(a,c)]else[]
def skip(x:Int):List Sp→List Sp
 |[]=>[]
 |b::l=>if b.2≤x then skip x l else b::l
def vY:List Sp→List Sp→List Sp
 |[],_=>[]
 |s::a,b=>xZ s.1 s.2 (skip s.1 b)++vY a (skip s.1 b)
theorem YZ:∀{lo x:Int} {b:List Sp},zlN lo b→zlN lo (skip x b)
 |_,_,[],_=>trivial
 |lo,x,s::b,h=>by
  unfold skip;split
  ·exact YZ (nE h.2.2 (by have:=h.1;have:=h.2.1;omega))
  ·exact h
theorem Dp:∀{x:Int} {b:List Sp} {k:Int},x≤k→(mem (skip x b) k↔mem b k)
 |_,[],_,_=>Iff.rfl
 |x,s::b,k,h=>by
  unfold skip;split
  ·rw[Dp h,mem_cons];constructor
   ·exact .inr
   ·rintro (g|g)
    ·omega
    ·exact g
  ·exact Iff.rfl
theorem zl2:∀{lo f t:Int} {b:List Sp} {k:Int},zlN lo b→(mem (xZ f t b) k↔f≤k∧k<t∧¬mem b k)
 |_,f,t,[],k,_=>by
  unfold xZ;split
  ·simp[mem]
  ·simp[mem];omega
 |lo,f,t,s::b,k,h=>by
  have hs:=h.2.1;have c:mem b k→s.2<k:=fun g=>Zz h.2.2 g
  have a:=@zl2 s.2 (max f s.2) t b k h.2.2;have d:f≤max f s.2:=Int.le_max_left _ _;have e:s.2≤max f s.2:=Int.le_max_right _ _;have i:max f s.2=f∨max f s.2=s.2:=by omega
  rw[mem_cons];unfold xZ;generalize max f s.2=m at a d e i⊢;split
  ·split
   ·rw[mem_cons,a];show(f≤k∧k<s.1)∨_↔_;by_cases g:mem b k
    ·have:=c g;simp only[g,not_true_eq_false,and_false,or_true,or_false,iff_false];omega
    ·simp only[g,not_false_eq_true,zK,or_false];omega
   ·rw[a];by_cases g:mem b k
    ·simp only[g,not_true_eq_false,and_false,or_true]
    ·simp only[g,not_false_eq_true,zK,or_false];omega
  ·split
   ·rw[Vt];by_cases g:mem b k
    ·have:=c g;simp only[g,or_true,not_true_eq_false,and_false,iff_false];omega
    ·simp only[g,or_false];omega
   ·constructor
    ·intro g;exact absurd g (Vs k)
    ·intro g;omega
def Below(a:Int)(l:List Sp):Prop:=∀s∈l,s.2≤a
theorem dM:∀{lo a:Int} {l m:List Sp},zlN lo l→lo≤a→Below a l→zlN a m→zlN lo (l++m)
 |_,_,[],m,_,d,_,b=>nE b d
 |lo,a,s::l,m,c,d,e,b=>⟨c.1,c.2.1,dM c.2.2 (e s (by simp)) (fun x f=>e x (by simp[f])) b⟩
theorem XB:∀{lo a f t:Int} {b:List Sp},zlN a b→lo<f→zlN lo (xZ f t b)∧Below t (xZ f t b)
 |lo,_,f,t,[],_,c=>by
  unfold xZ;split
  ·rename_i h;exact⟨⟨c,h,trivial⟩,fun s hs=>by simp at hs;subst hs;exact jb _⟩
  ·exact⟨trivial,fun s hs=>by cases hs⟩
 |lo,a,f,t,s::b,h,c=>by
  have hs:=h.2.1;unfold xZ;split
  ·rename_i j;split
   ·rename_i e;obtain⟨g,i⟩:=@XB s.1 s.2 (max f s.2) t b h.2.2 (by omega);exact⟨⟨c,e,g⟩,fun x d=>by
     rcases zL.1 d with rfl|d
     ·show s.1≤t;omega
     ·exact i x d⟩
   ·exact@XB lo s.2 (max f s.2) t b h.2.2 (by omega)
  ·split
   ·rename_i h;exact⟨⟨c,h,trivial⟩,fun s hs=>by simp at hs;subst hs;exact jb _⟩
   ·exact⟨trivial,fun s hs=>by cases hs⟩
theorem dN:∀{lo c:Int} {a b:List Sp} {k:Int},zlN lo a→zlN c b→(mem (vY a b) k↔mem a k∧¬mem b k)
 |_,_,[],b,k,_,_=>by simp[vY,mem]
 |lo,c,s::a,b,k,d,f=>by
  have hs:=d.2.1;rw[vY,mem_append,zl2 (YZ f),dN d.2.2 (YZ f),mem_cons];have i:mem a k→s.2<k:=fun g=>Zz d.2.2 g
  by_cases g:s.1≤k
  ·rw[Dp g];by_cases e:mem a k<;>by_cases j:mem b k<;>simp[e,j]
  ·have e:¬mem a k:=fun h=>by have:=i h;omega
   simp only[e,or_false,false_and];constructor
   ·intro h;omega
   ·intro h;omega
theorem Vu:∀{lo c:Int} {a b:List Sp},zlN lo a→zlN c b→zlN lo (vY a b)
 |_,_,[],_,_,_=>trivial
 |lo,c,s::a,b,d,e=>by have hs:=d.2.1;obtain⟨f,g⟩:=XB (lo:=lo) (t:=s.2) (YZ (x:=s.1) e) d.1;exact dM f (by have:=d.1;omega) g (Vu d.2.2 (YZ e))
def vF(at_:Int):Int→List Sp→Int
 |out,[]=>out
 |out,s::l=>vF at_ (if at_<s.2 then min (if at_<s.1 then min out s.1 else out) s.2 else(if at_<s.1 then min out s.1 else out)) l
theorem KF(at_:Int):∀(l:List Sp) (out:Int),vF at_ out l≤out
 |[],_=>jb _
 |s::l,out=>by refine Int.le_trans (KF at_ l _) ?_;split<;>split<;>omega
theorem XD{at_:Int}:∀{l:List Sp} {out:Int},at_<out→at_<vF at_ out l
 |[],_,h=>h
 |s::l,out,h=>by refine XD (l:=l) ?_;split<;>split<;>omega
theorem fO{at_:Int}:∀{l:List Sp} {out:Int} {s:Sp},s∈l→(at_<s.1→vF at_ out l≤s.1)∧(at_<s.2→vF at_ out l≤s.2)
 |r::l,out,s,hs=>by
  rcases zL.1 hs with rfl|hs
  ·have h:=KF at_ l (if at_<s.2 then min (if at_<s.1 then min out s.1 else out) s.2 else(if at_<s.1 then min out s.1 else out));constructor
   ·intro g;refine Int.le_trans h ?_;simp only[g,wi];split<;>omega
   ·intro g;refine Int.le_trans h ?_;simp only[g,wi];split<;>omega
  ·exact fO (l:=l) hs
theorem Vv{at_ out k:Int}{l:List Sp}(e:at_≤k)(f:k<vF at_ out l):mem l k↔mem l at_:=by
 constructor
 ·rintro⟨s,hs,b,a⟩;obtain⟨c,_⟩:=fO (at_:=at_) (out:=out) hs;refine⟨s,hs,?_,by omega⟩;exact Int.not_lt.1 fun h=>by have:=c h;omega
 ·rintro⟨s,hs,b,a⟩;obtain⟨_,d⟩:=fO (at_:=at_) (out:=out) hs;have:=d a;exact⟨s,hs,by omega,by omega⟩
def eU(l:List Sp)(f t:Int):List Sp:=match l.getLast? with
 |some s=>if s.2=f then l.dropLast++[(s.1,t)]else l++[(f,t)]
 |none=>[(f,t)]
structure KV (op:Int→Prop) (at_:Int) (out:List Sp):Prop where
 canon:zlN (-1) out
 below:Below at_ out
 holds:∀k,mem out k↔0≤k∧k<at_∧op k
theorem zl3:∀{lo:Int} {l:List Sp} {s:Sp} {t:Int},zlN lo (l++[s])→s.2≤t→zlN lo (l++[(s.1,t)])
 |lo,[],s,t,h,a=>⟨h.1,by have:=h.2.1;show s.1<t;omega,trivial⟩
 |lo,r::l,s,t,h,a=>⟨h.1,h.2.1,zl3 h.2.2 a⟩
theorem nG:∀{lo:Int} {l:List Sp} {f t:Int},zlN lo l→lo<f→(∀s∈l,s.2<f)→f<t→zlN lo (l++[(f,t)])
 |lo,[],f,t,_,b,_,a=>⟨b,a,trivial⟩
 |lo,r::l,f,t,h,b,c,a=>⟨h.1,h.2.1,nG h.2.2 (c r (by simp)) (fun s hs=>c s (by simp[hs])) a⟩
theorem cQ:∀{lo:Int} {l:List Sp} {s:Sp},zlN lo (l++[s])→∀x∈l,x.2<s.2
 |lo,r::l,s,h,x,a=>by
  rcases zL.1 a with rfl|a
  ·have b:mem (l++[s]) (s.2-1):=(mem_append _ _ _).2 (.inr ⟨s,by simp,by have:=zeR h.2.2;omega,by omega⟩);have:=Zz h.2.2 b;omega
  ·exact cQ h.2.2 x a
where
 zeR:∀{lo:Int} {l:List Sp} {s:Sp},zlN lo (l++[s])→s.1<s.2
 |_,[],_,h=>h.2.1
 |_,_::_,_,h=>zeR h.2.2
theorem nH(op:Int→Prop):KV op 0 []:=⟨trivial,fun s hs=>absurd hs (by simp),fun k=>by simp only[Vs,false_iff];omega⟩
theorem nI{op:Int→Prop}{at_ a:Int}{out:List Sp}(h:KV op at_ out)(b:at_<a)(hs:∀k,at_≤k→k<a→(op k↔op at_))(c:¬op at_):KV op a out:=
 ⟨h.canon,fun s hs=>by have:=h.below s hs;omega,fun k=>by
  rw[h.holds k];constructor
  ·intro g;exact⟨g.1,by omega,g.2.2⟩
  ·intro g;refine⟨g.1,Int.not_le.1 fun d=>?_,g.2.2⟩;exact c ((hs k d g.2.1).1 g.2.2)⟩
theorem zl4{op:Int→Prop}{at_ b:Int}{out:List Sp}(p:0≤at_)(h:KV op at_ out)(c:at_<b)(hs:∀k,at_≤k→k<b→(op k↔op at_))(m:op at_):KV op b (eU out at_ b):=by
 have f:∀k,(0≤k∧k<b∧op k)↔mem out k∨(at_≤k∧k<b):=fun k=>by
  rw[h.holds k];constructor
  ·intro g;by_cases i:k<at_
   ·exact .inl ⟨g.1,i,g.2.2⟩
   ·exact .inr ⟨by omega,g.2.1⟩
  ·rintro (g|g)
   ·exact⟨g.1,by omega,g.2.2⟩
   ·exact⟨by omega,g.2,(hs k g.1 g.2).2 m⟩
 unfold eU;split
 ·rename_i s j;obtain⟨l,rfl⟩:∃l,out=l++[s]:=by have:=List.getLast?_eq_some_iff.1 j;exact this
  have d:=h.canon;have q:=h.below s (by simp);split
  ·rename_i n;rw[List.dropLast_concat];refine⟨zl3 d (by omega),fun x a=>?_,fun k=>?_⟩
   ·rcases qP.1 a with a|a
    ·have:=h.below x (by simp[a]);omega
    ·simp at a;subst a;exact jb _
   ·rw[f k,mem_append,mem_append,Vt,or_assoc];have o:=cQ.zeR d;have e:mem [s] k↔s.1≤k∧k<s.2:=Vt s.1 s.2 k;rw[e];constructor
    ·rintro (g|g)
     ·exact .inl g
     ·by_cases i:k<s.2
      ·exact .inr (.inl ⟨g.1,i⟩)
      ·exact .inr (.inr ⟨by omega,g.2⟩)
    ·rintro (g|g|g)
     ·exact .inl g
     ·exact .inr ⟨g.1,by omega⟩
     ·exact .inr ⟨by omega,g.2⟩
  ·rename_i n;refine⟨nG d (by omega) (fun x a=>?_) c,fun x a=>?_,fun k=>?_⟩
   ·rcases qP.1 a with a|a
    ·have:=cQ d x a;omega
    ·simp at a;subst a;omega
   ·rcases qP.1 a with a|a
    ·have:=h.below x a;omega
    ·simp at a;subst a;exact jb _
   ·rw[f k,mem_append,Vt]
 ·rename_i j;obtain rfl:out=[]:=List.getLast?_eq_none_iff.1 j;refine⟨⟨by show -1<at_;omega,c,trivial⟩,fun x a=>?_,fun k=>?_⟩
  ·simp at a;subst a;exact jb _
  ·rw[f k,Vt];constructor
   ·exact .inr
   ·rintro (g|g)
    ·exact absurd g (Vs k)
    ·exact g
def wM:List Sp→Int
 |[]=>0
 |s::l=>(s.2-s.1)+wM l
end Go.SpanLaw
