/- Lemmas. -/
import Derived.Test.YtfanbcfchamfjaaGreatDoorG13
set_option maxRecDepth 100000
set_option maxHeartbeats 4000000
open Go Proofs Proofs.YtfanbcfchamfjaaGreatDoor Proofs.Tryz RowKit AM SpanLaw Q Zz
namespace Go.Q
theorem pJ{id:Nat}{Y Y':Hp}{Z Z':Nat}{cur:za}(B:pS TB UB id Y Z cur)(i:Z<=Z')(a:∀j b,j<Z->Y j=some b->(b.e≠9\/b.arr=false)->Y' j=some b):pS TB UB id Y' Z' cur:=by
 obtain⟨hid,B⟩:=B;refine⟨by omega,?_⟩;rcases B with⟨rfl,c⟩|⟨m,g,d,h,c,f⟩
 ·exact .inl ⟨rfl,a id _ hid c (.inr rfl)⟩
 ·exact .inr ⟨m,g,by omega,h,a id _ hid c (.inr rfl),a m _ d f (.inl (by show UB≠9;decide))⟩
def Cl(b:Bk)(x:Xp)(id a:Nat)(cur:za)(st:St):Prop:=BA b id cur st/\st.σ 15=.ref a 0 0/\a<st.Z/\a≠id/\st.Y a=some ⟨58,13,false,[x.V]⟩
def mN:za:=[32,32,97,114,109,115]
def TxAr(b:Bk)(x:Xp)(id c:Nat)(cur:za)(a:Nat->O)(n:Nat)(st:St):Prop:=∃k,k+n=x.ja.length/\Cl b x id c cur st/\st.σ 115=.sl 3 (x.ja.map kc)/\st.σ 116=int x.ja.length/\st.σ 117=int k/\qR st.Y st.Z 9 1 (st.σ 18) (zA (mN::(x.ja.take k).map Q2))/\st.σ 84=a 84/\st.σ 85=a 85/\st.σ 86=a 86
theorem BB{α a:Type}(f:α->a)(l:List α){k:Nat}(h:k<l.length):(l.take (k+1)).map f=(l.take k).map f++[f l[k]]:=by rw[qb h,yZ];rfl
theorem txAr(b:Bk)(x:Xp)(F:cD x)(hal:x.ja.length<=zD){id v:Nat}{σ:Nat->O}{Y:Hp}{Z:Nat}{cur:za}(hI:Cl b x id v cur ⟨σ,Y,Z⟩)(d:σ 115=.sl 3 (x.ja.map kc))(c:σ 116=int x.ja.length)(a:σ 117=int 0)(i:qR Y Z 9 1 (σ 18) (zA [mN])) :
  Wp False Jp Tryz.f4.ntmps ((Vt 8 Qg).getD .skip) ⟨σ,Y,Z⟩ (fun e f=>e=.normal/\Cl b x id v cur f/\qR f.Y f.Z 9 1 (f.σ 18) (zA (XL x))/\f.σ 84=σ 84/\f.σ 85=σ 85/\f.σ 86=σ 86):=by
 have u:=vQ;have nc:zD=268435456:=rfl;refine Wp.block (Wp.loop (TxAr b x id v cur σ) x.ja.length ⟨0,by simp,hI,d,c,a,by rw[jq];exact i,rfl,rfl,rfl⟩ ?_);generalize σ=σ0;clear hI d c a i Y Z;rintro n ⟨σ,Y,Z⟩ ⟨k,hkn,⟨⟨G,H,I,D,l,hid,E⟩,m,w,y,o⟩,d,c,a,i,p,q,s⟩;simp only at G H I D m d c a p q s l E w o i;by_cases h:k<x.ja.length
 case neg=>
  obtain rfl:k=x.ja.length:=by omega
  refine Wp.cut u (fun σ' Y' Z'=>zI σ 118 (q6 false)=σ'/\Y=Y'/\Z=Z') (by simp[c,a]) ?_;rintro _ _ _ ⟨rfl,rfl,rfl⟩;refine Wp.seq (Wp.of u ?_);rw[wq]at i;simp;exact⟨⟨⟨by simp[G],by simp[H],by simp[I],by simp[D],l,hid,E⟩,by simp[m],w,y,o⟩,i,p,q,s⟩
 obtain⟨r,J⟩:=yb (x.ja[k]);have K:r∈x.ja:=by rw[<-J];exact zo h
 refine Wp.cut u (fun σ' Y' Z'=>zI σ 118 (q6 true)=σ'/\Y=Y'/\Z=Z') (by simp[c,a,h]) ?_;rintro _ _ _ ⟨rfl,rfl,rfl⟩;refine Wp.cut u (fun σ' Y' Z'=>zI σ 118 (q6 true)=σ'/\Y=Y'/\Z=Z') (by simp) ?_;rintro _ _ _ ⟨rfl,rfl,rfl⟩;refine Wp.seq (Wp.block ?_);refine Wp.cut u (fun σ' Y' Z'=>σ' 1=.ref 0 0 0/\σ' 5=σ 5/\σ' 6=σ 6/\σ' 7=σ 7/\σ' 15=σ 15/\σ' 18=σ 18/\σ' 84=σ 84/\σ' 85=σ 85/\σ' 86=σ 86/\σ' 115=σ 115/\σ' 116=σ 116/\σ' 117=σ 117/\σ' 20=.ref Z 0 0/\zI Y Z (some ⟨61,3,false,[kc r]⟩)=Y'/\Z+1=Z') (by simp[G,d,a,h,J,kc]) ?_;rintro L _ _ ⟨g1,g5,g6,g7,M,N,P,Q,R,z,A,B,S,rfl,rfl⟩;have T:qR (zI Y Z (some ⟨61,3,false,[kc r]⟩)) (Z+1) 9 1 (L 18) (zA (mN::(x.ja.take k).map Q2)):=by rw[N];exact i.more _
 refine zgF r (g7.trans D) S (by omega) (by simp) (F.ja r K) T (by have:=List.length_take_le k x.ja;simp only[ze,wx];omega) ?_;intro σ2 Y2 U g W X t;simp only[jW,w5];have hw:=q8 k;have C:=(g 117 (by decide) (by decide)).trans (B.trans a);have hB2:=pJ (E.kO (Y':=zI Y Z (some ⟨61,3,false,[kc r]⟩)) (Z':=Z+1) (by omega) (fun j hj=>by rw[zc _ _ _ _ (by omega)])) X t;refine Wp.of u ?_;simp[C,hw];refine⟨n-1,by omega,k+1,by omega,⟨⟨?_,?_,?_,?_,?_,hid,hB2⟩,?_,(by show v<U;omega),y,?_⟩,?_,?_,by simp,?_,?_,?_,?_⟩
 ·simp[g 1 (by decide) (by decide),g1]
 ·simp[g 5 (by decide) (by decide),g5,H]
 ·simp[g 6 (by decide) (by decide),g6,I]
 ·simp[g 7 (by decide) (by decide),g7,D]
 ·exact t 0 _ (by omega) (by rw[zc _ _ _ _ (by have:=E.1;omega)];exact l) (.inr rfl)
 ·simp[g 15 (by decide) (by decide),M,m]
 ·exact t v _ (by omega) (by rw[zc _ _ _ _ (by omega)];exact o) (.inr rfl)
 ·simp[g 115 (by decide) (by decide),z,d]
 ·simp[g 116 (by decide) (by decide),A,c]
 ·rw[BB Q2 x.ja h,J];simpa using W
 ·simp[g 84 (by decide) (by decide),P,p]
 ·simp[g 85 (by decide) (by decide),Q,q]
 ·simp[g 86 (by decide) (by decide),R,s]
def TxSp(b:Bk)(x:Xp)(p:yk)(id c:Nat)(cur:za)(a:Nat->O)(n:Nat)(st:St):Prop:=∃k,k+n=p.qw.length/\Cl b x id c cur st/\st.σ 151=.sl 2 (p.qw.map ki)/\st.σ 152=int p.qw.length/\st.σ 153=int k/\qR st.Y st.Z 9 1 (st.σ 23) (zA ([32,32,97,116]::wi p.at_::(p.qw.take k).map Qc))/\st.σ 84=a 84/\st.σ 85=a 85/\st.σ 86=a 86/\st.σ 139=a 139/\st.σ 140=a 140/\st.σ 141=a 141
theorem txSp(b:Bk)(x:Xp)(p:yk)(N:∀s∈p.qw,0<=s.1/\s.1<=4000000000/\0<=s.2/\s.2<=4000000000)(hal:p.qw.length<=zD){id B:Nat}{σ:Nat->O}{Y:Hp}{Z:Nat}{cur:za}(hI:Cl b x id B cur ⟨σ,Y,Z⟩)(f:σ 151=.sl 2 (p.qw.map ki))(c:σ 152=int p.qw.length)(a:σ 153=int 0)(o:qR Y Z 9 1 (σ 23) (zA [[32,32,97,116],wi p.at_])) :
  Wp False Jp Tryz.f4.ntmps ((Vt 12 Qg).getD .skip) ⟨σ,Y,Z⟩ (fun e d=>e=.normal/\Cl b x id B cur d/\qR d.Y d.Z 9 1 (d.σ 23) (zA (DS p))/\d.σ 84=σ 84/\d.σ 85=σ 85/\d.σ 86=σ 86/\d.σ 139=σ 139/\d.σ 140=σ 140/\d.σ 141=σ 141):=by
 have A:=vQ;have nc:zD=268435456:=rfl;refine Wp.block (Wp.loop (TxSp b x p id B cur σ) p.qw.length ⟨0,by simp,hI,f,c,a,by rw[jq];exact o,rfl,rfl,rfl,rfl,rfl,rfl⟩ ?_);generalize σ=σ0;clear hI f c a o Y Z;rintro n ⟨σ,Y,Z⟩ ⟨k,hkn,⟨⟨P,Q,R,L,q,hid,M⟩,t,C,D,u⟩,f,c,a,o,v,w,y,h,i,l⟩;simp only at P Q R L t f c a v w y h i l q M C u o;by_cases m:k<p.qw.length
 case neg=>
  obtain rfl:k=p.qw.length:=by omega
  refine Wp.cut A (fun σ' Y' Z'=>zI σ 154 (q6 false)=σ'/\Y=Y'/\Z=Z') (by simp[c,a]) ?_;rintro _ _ _ ⟨rfl,rfl,rfl⟩;refine Wp.seq (Wp.of A ?_);rw[wq]at o;simp;exact⟨⟨⟨by simp[P],by simp[Q],by simp[R],by simp[L],q,hid,M⟩,by simp[t],C,D,u⟩,o,v,w,y,h,i,l⟩
 obtain⟨r,S⟩:=yb (p.qw[k]);have T:r∈p.qw:=by rw[<-S];exact zo m
 refine Wp.cut A (fun σ' Y' Z'=>zI σ 154 (q6 true)=σ'/\Y=Y'/\Z=Z') (by simp[c,a,m]) ?_;rintro _ _ _ ⟨rfl,rfl,rfl⟩;refine Wp.cut A (fun σ' Y' Z'=>zI σ 154 (q6 true)=σ'/\Y=Y'/\Z=Z') (by simp) ?_;rintro _ _ _ ⟨rfl,rfl,rfl⟩;refine Wp.seq (Wp.block ?_);refine Wp.cut A (fun σ' Y' Z'=>σ' 1=.ref 0 0 0/\σ' 5=σ 5/\σ' 6=σ 6/\σ' 7=σ 7/\σ' 15=σ 15/\σ' 23=σ 23/\σ' 84=σ 84/\σ' 85=σ 85/\σ' 86=σ 86/\σ' 139=σ 139/\σ' 140=σ 140/\σ' 141=σ 141/\σ' 151=σ 151/\σ' 152=σ 152/\σ' 153=σ 153/\σ' 25=.ref Z 0 0/\zI Y Z (some ⟨66,2,false,[ki r]⟩)=Y'/\Z+1=Z') (by simp[P,f,a,m,S,ki]) ?_;rintro U _ _ ⟨g1,g5,g6,g7,W,X,g84,g85,g86,E,F,G,H,I,J,g25,rfl,rfl⟩;have hO2:qR (zI Y Z (some ⟨66,2,false,[ki r]⟩)) (Z+1) 9 1 (U 23) (zA ([32,32,97,116]::wi p.at_::(p.qw.take k).map Qc)):=by rw[X];exact o.more _
 refine zgG r (g7.trans L) g25 (by omega) (by simp) (N r T) hO2 (by have:=List.length_take_le k p.qw;simp only[ze,wx];omega) ?_;intro σ2 Y2 Xm g hO3 hnx z;simp only[jW,w5];have hw:=q8 k;have K:=(g 153 (by decide) (by decide)).trans (J.trans a);have hB2:=pJ (M.kO (Y':=zI Y Z (some ⟨66,2,false,[ki r]⟩)) (Z':=Z+1) (by omega) (fun j hj=>by rw[zc _ _ _ _ (by omega)])) hnx z;refine Wp.of A ?_;simp[K,hw];refine⟨n-1,by omega,k+1,by omega,⟨⟨?_,?_,?_,?_,?_,hid,hB2⟩,?_,(by show B<Xm;omega),D,?_⟩,?_,?_,by simp,?_,?_,?_,?_,?_,?_,?_⟩
 ·simp[g 1 (by decide) (by decide),g1]
 ·simp[g 5 (by decide) (by decide),g5,Q]
 ·simp[g 6 (by decide) (by decide),g6,R]
 ·simp[g 7 (by decide) (by decide),g7,L]
 ·exact z 0 _ (by omega) (by rw[zc _ _ _ _ (by have:=M.1;omega)];exact q) (.inr rfl)
 ·simp[g 15 (by decide) (by decide),W,t]
 ·exact z B _ (by omega) (by rw[zc _ _ _ _ (by omega)];exact u) (.inr rfl)
 ·simp[g 151 (by decide) (by decide),H,f]
 ·simp[g 152 (by decide) (by decide),I,c]
 ·rw[BB Qc p.qw m,S];simpa using hO3
 ·simp[g 84 (by decide) (by decide),g84,v]
 ·simp[g 85 (by decide) (by decide),g85,w]
 ·simp[g 86 (by decide) (by decide),g86,y]
 ·simp[g 139 (by decide) (by decide),E,h]
 ·simp[g 140 (by decide) (by decide),F,i]
 ·simp[g 141 (by decide) (by decide),G,l]
def TxPh(b:Bk)(x:Xp)(id c:Nat)(cur:za)(a:Nat->O)(n:Nat)(st:St):Prop:=∃k,k+n=x.zQ.length/\Cl b x id c (cur++(x.zQ.take k).flatMap bZ) st/\st.σ 139=.sl 2 (x.zQ.map yk.V)/\st.σ 140=int x.zQ.length/\st.σ 141=int k/\st.σ 84=a 84/\st.σ 85=a 85/\st.σ 86=a 86
theorem txPh(b:Bk)(x:Xp)(N:cD x)(P:x.zQ.length<=zD/\∀p∈x.zQ,p.qw.length<=zD){id r:Nat}{σ:Nat->O}{Y:Hp}{Z:Nat}{cur:za}(hI:Cl b x id r cur ⟨σ,Y,Z⟩)(g:σ 139=.sl 2 (x.zQ.map yk.V))(f:σ 140=int x.zQ.length)(d:σ 141=int 0)(hlen:cur.length+(x.zQ.flatMap bZ).length<=140737488355328) :
  Wp False Jp Tryz.f4.ntmps ((Vt 10 Qg).getD .skip) ⟨σ,Y,Z⟩ (fun e a=>e=.normal/\Cl b x id r (cur++x.zQ.flatMap bZ) a/\a.σ 84=σ 84/\a.σ 85=σ 85/\a.σ 86=σ 86):=by
 have s:=vQ;have nc:zD=268435456:=rfl;refine Wp.block (Wp.loop (TxPh b x id r cur σ) x.zQ.length ⟨0,by simp,by simpa using hI,g,f,d,rfl,rfl,rfl⟩ ?_);generalize σ=σ0;clear hI g f d Y Z;rintro n ⟨σ,Y,Z⟩ ⟨k,hkn,⟨⟨h1,h5,h6,Q,F,hid,R⟩,G,H,t,I⟩,g,f,d,J,L,M⟩;simp only at h1 h5 h6 Q G g f d J L M F R H I;by_cases o:k<x.zQ.length
 case neg=>
  obtain rfl:k=x.zQ.length:=by omega
  refine Wp.cut s (fun σ' Y' Z'=>zI σ 142 (q6 false)=σ'/\Y=Y'/\Z=Z') (by simp[f,d]) ?_;rintro _ _ _ ⟨rfl,rfl,rfl⟩;refine Wp.seq (Wp.of s ?_);rw[wq]at R;simp;exact⟨⟨⟨by simp[h1],by simp[h5],by simp[h6],by simp[Q],F,hid,R⟩,by simp[G],H,t,I⟩,J,L,M⟩
 obtain⟨p,Y'⟩:=yb (x.zQ[k]);have u:p∈x.zQ:=by rw[<-Y'];exact zo o
 have hat:=N.phs p u;have S:=cw bZ x.zQ o;rw[Y']at S;refine Wp.cut s (fun σ' Y' Z'=>zI σ 142 (q6 true)=σ'/\Y=Y'/\Z=Z') (by simp[f,d,o]) ?_;rintro _ _ _ ⟨rfl,rfl,rfl⟩;refine Wp.cut s (fun σ' Y' Z'=>zI σ 142 (q6 true)=σ'/\Y=Y'/\Z=Z') (by simp) ?_;rintro _ _ _ ⟨rfl,rfl,rfl⟩;refine Wp.seq (Wp.block ?_);refine Wp.cut s (fun σ' Y' Z'=>σ' 1=.ref 0 0 0/\σ' 5=σ 5/\σ' 6=σ 6/\σ' 7=σ 7/\σ' 15=σ 15/\σ' 84=σ 84/\σ' 85=σ 85/\σ' 86=σ 86/\σ' 139=σ 139/\σ' 140=σ 140/\σ' 141=σ 141/\σ' 22=.ref Z 0 0/\zI Y Z (some ⟨64,2,false,[p.V]⟩)=Y'/\Z+1=Z') (by simp[h1,g,d,o,Y',yk.V]) ?_;rintro c _ _ ⟨g1,g5,g6,g7,v,w,y,z,i,l,m,A,rfl,rfl⟩;have q7:=g7.trans Q;have hit:=fun Y Z=>Z7 p.at_ Y Z hat.1 (by omega)
 have bp:zI Y Z (some ⟨64,2,false,[p.V]⟩) Z=some ⟨64,2,false,[[int p.at_,.sl 2 (p.qw.map ki)]]⟩:=by simp[yk.V]
 refine Wp.cut s (fun σ' Y' Z'=>σ' 1=.ref 0 0 0/\σ' 5=σ 5/\σ' 6=σ 6/\σ' 7=σ 7/\σ' 15=σ 15/\σ' 84=σ 84/\σ' 85=σ 85/\σ' 86=σ 86/\σ' 139=σ 139/\σ' 140=σ 140/\σ' 141=σ 141/\σ' 22=.ref Z 0 0/\σ' 23=.own (Z+1) 0 2/\zI (zI Y Z (some ⟨64,2,false,[p.V]⟩)) (Z+1) (some ⟨9,1,true,zA [[32,32,97,116],wi p.at_]⟩)=Y'/\Z+2=Z') (by simp[g1,g5,g6,q7,Q,v,w,y,z,i,l,m,A,bp,yk.V,hit,wi,zy,zR,zw,zA]) ?_;clear g1 g5 g6 g7 v w y z i l m A q7 bp c;rintro c _ _ ⟨g1,g5,g6,g7,v,w,y,z,i,l,m,A,g23,rfl,rfl⟩;obtain⟨h,B⟩:=yb (zI (zI Y Z (some ⟨64,2,false,[p.V]⟩)) (Z+1) (some ⟨9,1,true,zA [[32,32,97,116],wi p.at_]⟩));rw[B];have bp:h Z=some ⟨64,2,false,[[int p.at_,.sl 2 (p.qw.map ki)]]⟩:=by rw[<-B,zc _ _ _ _ (by omega)];simp[yk.V]
 have q:∀j,j<Z->h j=Y j:=fun j hj=>by rw[<-B,zc _ _ _ _ (by omega),zc _ _ _ _ (by omega)]
 have hO:qR h (Z+2) 9 1 (c 23) (zA [[32,32,97,116],wi p.at_]):=.inr ⟨Z+1,by omega,by rw[g23];simp[zA],by rw[<-B];simp⟩;refine Wp.seq (Wp.mono (K:=fun e a=>e=.normal/\Cl b x id r (cur++(x.zQ.take k).flatMap bZ) a/\qR a.Y a.Z 9 1 (a.σ 23) (zA (DS p))/\a.σ 84=σ 84/\a.σ 85=σ 85/\a.σ 86=σ 86/\a.σ 139=σ 139/\a.σ 140=σ 140/\a.σ 141=σ 141) ?_ ?_)
 ·refine Wp.cut s (fun σ' Y' Z'=>σ' 1=.ref 0 0 0/\σ' 5=c 5/\σ' 6=c 6/\σ' 7=c 7/\σ' 15=c 15/\σ' 23=c 23/\σ' 84=c 84/\σ' 85=c 85/\σ' 86=c 86/\σ' 139=c 139/\σ' 140=c 140/\σ' 141=c 141/\σ' 151=.sl 2 (p.qw.map ki)/\σ' 152=int p.qw.length/\σ' 153=int 0/\h=Y'/\Z+2=Z') (by simp[A,bp,g1]) ?_;rintro σ2 _ _ ⟨k1,k5,k6,k7,k15,k23,k84,k85,k86,T,U,W,X,k152,k153,rfl,rfl⟩;have hX:Cl b x id r (cur++(x.zQ.take k).flatMap bZ) ⟨σ2,h,Z+2⟩:=⟨⟨k1,(k5.trans g5).trans h5,(k6.trans g6).trans h6,(k7.trans g7).trans Q,by show h 0=_;rw[q 0 (by have:=R.1;omega)];exact F,hid,R.kO (Z':=Z+2) (by omega) q⟩,(k15.trans v).trans G,(by show r<Z+2;omega),t,by show h r=_;rw[q r H];exact I⟩;refine Wp.mono (txSp b x p (N.spn p u) (P.2 p u) hX X k152 k153 (by rw[k23];exact hO)) ?_;rintro e a ⟨rfl,hX',hO',a84,a85,a86,a139,a140,a141⟩;exact⟨rfl,hX',hO',(a84.trans k84).trans w,(a85.trans k85).trans y,(a86.trans k86).trans z,(a139.trans T).trans i,(a140.trans U).trans l,(a141.trans W).trans m⟩
 rintro e ⟨σ3,hp3,nx3⟩ ⟨rfl,⟨⟨m1,m5,m6,m7,mb0,_,mB⟩,m15,mjn,_,mbx⟩,mO,m84,m85,m86,C,D,E⟩;simp only at m1 m5 m6 m7 mb0 mB m15 mjn mbx mO m84 m85 m86 C D E;simp only[w5];have hpl2:=P.2 p u;obtain⟨hp4,nx4,e1,e2,e3,e4⟩:=W0 mB mO (by unfold DS;simp;omega) (by rw[zt];show _+(bZ p).length<=_;omega);refine Wp.mono (K:=fun e a=>e=.normal/\a=⟨zI (zI (zI σ3 171 (.fn (.func 8) [] [.ref id 0 0])) 172 (σ3 23)) 173 (.qZ []),hp4,nx4⟩) (Wp.of s (by simp[m6,e1])) ?_;rintro e a ⟨rfl,rfl⟩;simp only[jW,w5];have hw:=q8 k;have q141:=E.trans d;refine Wp.of s ?_;simp[q141,hw];refine⟨n-1,by omega,k+1,by omega,⟨⟨by simp[m1],by simp[m5],by simp[m6],by simp[m7],?_,hid,?_⟩,by simp[m15],(by show r<nx4;omega),t,?_⟩,by simp[C,g],by simp[D,f],by simp,by simp[m84,J],by simp[m85,L],by simp[m86,M]⟩
 ·exact e4 0 _ (by have:=mB.1;omega) (fun e=>hid e.symm) mb0 (by show 26≠UB;decide)
 ·rw[Jt bZ x.zQ o,Y'];exact e2
 ·exact e4 r _ mjn t mbx (by show 58≠UB;decide)
theorem cx{b:Bk}{x:Xp}{id l:Nat}{cur ln:za}{σ σ':Nat->O}{Y hp3:Hp}{Z nx3:Nat}(h:Cl b x id l cur ⟨σ,Y,Z⟩)(r:pS TB UB id hp3 nx3 (cur++ln))(w:Z<=nx3)(a:∀j b,j<Z->j≠id->Y j=some b->b.e≠UB->hp3 j=some b)
  (s:σ' 1=σ 1) (t:σ' 5=σ 5) (u:σ' 6=σ 6) (v:σ' 7=σ 7) (m:σ' 15=σ 15):Cl b x id l (cur++ln) ⟨σ',hp3,nx3⟩:=by
 obtain⟨⟨n,o,p,q,c,hid,d⟩,f,g,i,k⟩:=h;simp only at n o p q c d f g k;exact⟨⟨s.trans n,t.trans o,u.trans p,v.trans q,a 0 _ (by have:=d.1;omega) (fun e=>hid e.symm) c (by show 26≠UB;decide),hid,r⟩,m.trans f,(by show l<nx3;omega),i,a l _ g i k (by show 58≠UB;decide)⟩
theorem Po{Y hp3:Hp}{Z id:Nat}{o:Option Blk}(c:∀j b,j<Z+1->j≠id->zI Y Z o j=some b->b.e≠UB->hp3 j=some b):∀j b,j<Z->j≠id->Y j=some b->b.e≠UB->hp3 j=some b:=fun j b g a d f=>c j b (by omega) a (by rw[zc _ _ _ _ (by omega)];exact d) f
def TxE(b:Bk)(id:Nat)(cur:za)(n:Nat)(st:St):Prop:=∃k,k+n=b.wP.length/\(∀y∈b.wP.take k,(vY y.cond).2=0)/\BA b id (cur++(b.wP.take k).flatMap su) st/\st.σ 84=.sl 13 (b.wP.map Xp.V)/\st.σ 85=int b.wP.length/\st.σ 86=int k
theorem UO{b:Bk}(a:b.cb<=zD){x:Xp}(c:x∈b.wP):x.cond.cb<=zD/\x.ja.length<=zD/\x.zQ.length<=zD/\∀p∈x.zQ,p.qw.length<=zD:=by have d:x.cb<=jh Xp.cb b.wP:=jO c;have e:x.cb=x.name.length+x.w9.length+x.flag.length+x.cond.cb+x.we.length+x.ja.length+jh yk.cb x.zQ:=rfl;have f:=yD bY x.zQ;unfold Bk.cb at a;refine⟨by omega,by omega,by omega,fun p Y=>?_⟩;have g:p.cb<=jh yk.cb x.zQ:=jO Y;have h:p.cb=1+p.qw.length:=rfl;omega
theorem UP{b:Bk}(a:yT b=0):b.wP.length<=100:=by
 unfold yT at a;split at a
 ·exact absurd a (by simp)
 ·rename_i c;omega
set_option maxHeartbeats 8000000 in
theorem txE(b:Bk)(hb:b.cb<=zD)(c0:yT b=0){id:Nat}{σ:Nat->O}{Y:Hp}{Z:Nat}{cur:za}{K:Exit->St->Prop}(hI:BA b id cur ⟨σ,Y,Z⟩)(w:σ 84=.sl 13 (b.wP.map Xp.V))(s:σ 85=int b.wP.length)(l:σ 86=int 0)(hlen:cur.length+(b.wP.flatMap su).length<=140737488355328)
  (hOk:nN b.wP=false->∀d,BA b id (cur++b.wP.flatMap su) d->K .normal d) (hBad:nN b.wP=true->∀d,d.σ 2=str []->d.σ 3=int 2->K .ret d) :
  Wp False Jp Tryz.f4.ntmps ((Vt 6 Qg).getD .skip) ⟨σ,Y,Z⟩ K:=by
 have z:=vQ;have nc:zD=268435456:=rfl;have hnum:=(fX c0).2.2;have hel:=UP c0;refine Wp.block (Wp.loop (TxE b id cur) b.wP.length ⟨0,by simp,by simp,by simpa using hI,w,s,l⟩ ?_);clear hI w s l σ Y Z;rintro n ⟨σ,Y,Z⟩ ⟨k,hkn,I,⟨h1,h5,h6,h7,hb0,hid,hB⟩,w,s,l⟩;simp only at h1 h5 h6 h7 w s l hb0 hB;by_cases B:k<b.wP.length
 case neg=>
  obtain rfl:k=b.wP.length:=by omega
  refine Wp.cut z (fun σ' Y' Z'=>zI σ 87 (q6 false)=σ'/\Y=Y'/\Z=Z') (by simp[s,l]) ?_;rintro _ _ _ ⟨rfl,rfl,rfl⟩;refine Wp.seq (Wp.of z ?_);rw[wq]at hB I;have ht:nN b.wP=false:=by unfold nN;rw[List.any_eq_false];intro y hy;simp[I y hy]
  simp;exact hOk ht _ ⟨by simp[h1],by simp[h5],by simp[h6],by simp[h7],hb0,hid,hB⟩
 obtain⟨x,hx⟩:=yb (b.wP[k]);have hxm:x∈b.wP:=by rw[<-hx];exact zo B
 have hxn:=hnum x hxm;obtain⟨l1,l2,l3,l4⟩:=UO hb hxm;have hpre:=cw su b.wP B;rw[hx]at hpre;have hxb:(su x).length=(xpH x).length+((xpI x).length+((aL (XL x)).length+(x.zQ.flatMap bZ).length)):=by unfold su;rw[zt,zt,zt]
 refine Wp.cut z (fun σ' Y' Z'=>zI σ 87 (q6 true)=σ'/\Y=Y'/\Z=Z') (by simp[s,l,B]) ?_;rintro _ _ _ ⟨rfl,rfl,rfl⟩;refine Wp.cut z (fun σ' Y' Z'=>zI σ 87 (q6 true)=σ'/\Y=Y'/\Z=Z') (by simp) ?_;rintro _ _ _ ⟨rfl,rfl,rfl⟩;refine Wp.seq (Wp.block ?_);refine Wp.cut z (fun σ' Y' Z'=>σ' 1=.ref 0 0 0/\σ' 5=σ 5/\σ' 6=σ 6/\σ' 7=σ 7/\σ' 84=σ 84/\σ' 85=σ 85/\σ' 86=σ 86/\σ' 15=.ref Z 0 0/\zI Y Z (some ⟨58,13,false,[x.V]⟩)=Y'/\Z+1=Z') (by simp[h1,w,l,B,hx,yy]) ?_;rintro a _ _ ⟨g1,g5,g6,g7,g84,g85,g86,R,rfl,rfl⟩;obtain⟨t,S⟩:=yb (zI Y Z (some ⟨58,13,false,[x.V]⟩));rw[S];have hX:Cl b x id Z (cur++(b.wP.take k).flatMap su) ⟨a,t,Z+1⟩:=⟨⟨g1,g5.trans h5,g6.trans h6,g7.trans h7,by show t 0=_;rw[<-S,zc _ _ _ _ (by have:=hB.1;omega)];exact hb0,hid,hB.kO (Z':=Z+1) (by omega) (fun j hj=>by show t j=_;rw[<-S,zc _ _ _ _ (by omega)])⟩,R,(by show Z<Z+1;omega),by have:=hB.1;omega,by show t Z=_;rw[<-S];simp⟩;have bx:t Z=some ⟨58,13,false,[x.V]⟩:=hX.2.2.2.2;simp only[yy]at bx;have gk:∀Y Z,GC lE [.agg x.cond.V] Y Z=some (.qZ [str (vY x.cond).1,int (vY x.cond).2],Y,Z):=fun Y Z=>J0 lE x.cond Y Z l1
 simp only[qH]at gk;have hnn:Z<Z+1:=by omega
 generalize Z+1=C at *;have w1:a 1=.ref 0 0 0:=g1;have w6:=g6.trans h6;have w84:=g84.trans w;have w85:=g85.trans s;have w86:=g86.trans l;clear g1 g5 g6 g7 g84 g85 g86 h1 h5 h6 h7 w s l;refine Wp.cut z (fun σ' Y' Z'=>σ' 1=a 1/\σ' 5=a 5/\σ' 6=a 6/\σ' 7=a 7/\σ' 15=a 15/\σ' 84=a 84/\σ' 85=a 85/\σ' 86=a 86/\σ' 16=str (vY x.cond).1/\σ' 17=int (vY x.cond).2/\t=Y'/\C=Z') (by simp[R,bx,gk]) ?_;rintro f _ _ ⟨T,U,W,X,m,o,p,q,u,k17,rfl,rfl⟩;obtain⟨pe,hpe⟩:=yb ((vY x.cond).2);rw[hpe]at k17;by_cases A:pe=0
 case neg=>
  refine Wp.seq (Wp.of z ?_);have hne:=Xo A;simp[k17,hne];refine hBad ?_ _ ?_ ?_
  ·unfold nN;rw[List.any_eq_true];exact⟨x,hxm,by rw[hpe];simpa using A⟩
  ·simp
  ·simp
 refine Wp.cut z (fun σ' Y' Z'=>σ' 1=a 1/\σ' 5=a 5/\σ' 6=a 6/\σ' 7=a 7/\σ' 15=a 15/\σ' 84=a 84/\σ' 85=a 85/\σ' 86=a 86/\σ' 16=str (vY x.cond).1/\t=Y'/\C=Z') (by simp[k17,A,T,U,W,X,m,o,p,q,u]) ?_;clear T U W X m o p q u k17 f;rintro f _ _ ⟨T,U,W,X,m,o,p,q,u,rfl,rfl⟩;have hB1:=hX.1.2.2.2.2.2.2;simp only at hB1;obtain⟨hpB,J,e1,e2,e3,e4⟩:=W0 (hB1.kO (Y':=zI t C (some ⟨9,1,true,zA [QJ,x.name,x.w9,x.flag,x.we]⟩)) (Z':=C+1) (by omega) (fun j hj=>by rw[zc _ _ _ _ (by omega)])) (v:=.own C 0 5) (xs:=[QJ,x.name,x.w9,x.flag,x.we]) (e:=9) (.inr ⟨C,by omega,rfl,by simp⟩) (by simp) (by rw[zt];show _+(xpH x).length<=_;omega);have c6:=W.trans w6;have c15:=m.trans R;simp only[zA,zG,ji,QJ]at e1;refine Wp.cut z (fun σ' Y' Z'=>σ' 1=a 1/\σ' 5=a 5/\σ' 6=a 6/\σ' 7=a 7/\σ' 15=a 15/\σ' 84=a 84/\σ' 85=a 85/\σ' 86=a 86/\σ' 16=str (vY x.cond).1/\hpB=Y'/\J=Z') (by simp[c6,c15,bx,e1,T,U,w6,X,R,o,p,q,u,zy,zR,zw]) ?_;have L:=fun σ'=>cx (σ':=σ') hX e2 (by omega) (Po e4)
 clear T U W X m o p q u e1 c6 c15 bx gk f;rintro f _ _ ⟨T,U,W,X,m,o,p,q,u,rfl,rfl⟩;have hXB:=L f T U W X m;clear L;have hB2:=hXB.1.2.2.2.2.2.2;simp only at hB2;obtain⟨hpC,g,f1,f2,f3,f4⟩:=W0 (hB2.kO (Y':=zI hpB J (some ⟨9,1,true,zA [[32,32,105,102],(vY x.cond).1]⟩)) (Z':=J+1) (by omega) (fun j hj=>by rw[zc _ _ _ _ (by omega)])) (v:=.own J 0 2) (xs:=[[32,32,105,102],(vY x.cond).1]) (e:=9) (.inr ⟨J,by omega,rfl,by simp⟩) (by simp) (by rw[zt,zt];show _+_+(xpH x).length+(xpI x).length<=_;omega);have c6:=W.trans w6;simp only[zA,zG,ji]at f1;refine Wp.cut z (fun σ' Y' Z'=>σ' 1=f 1/\σ' 5=f 5/\σ' 6=f 6/\σ' 7=f 7/\σ' 15=f 15/\σ' 84=f 84/\σ' 85=f 85/\σ' 86=f 86/\hpC=Y'/\g=Z') (by simp[c6,f1,T,U,w6,X,m,o,p,q,u,zy,zR,zw]) ?_;have L:=fun σ'=>cx (σ':=σ') hXB f2 (by omega) (Po f4)
 rintro r _ _ ⟨m1,m5,m6,m7,m15,m84,m85,m86,rfl,rfl⟩;have hXC:=L r m1 m5 m6 m7 m15;clear L f1;refine Wp.cut z (fun σ' Y' Z'=>σ' 1=r 1/\σ' 5=r 5/\σ' 6=r 6/\σ' 7=r 7/\σ' 15=r 15/\σ' 84=r 84/\σ' 85=r 85/\σ' 86=r 86/\σ' 18=.own g 0 1/\zI hpC g (some ⟨9,1,true,zA [mN]⟩)=Y'/\g+1=Z') (by simp[mN,zA,zy,zR,zw]) ?_;rintro c _ _ ⟨n1,n5,n6,n7,n15,n84,n85,n86,n18,rfl,rfl⟩;obtain⟨D,M⟩:=yb (zI hpC g (some ⟨9,1,true,zA [mN]⟩));rw[M];have hXD:Cl b x id Z (cur++(b.wP.take k).flatMap su++xpH x++xpI x) ⟨c,D,g+1⟩:=by have:=cx (σ':=c) (ln:=[]) (hp3:=D) (nx3:=g+1) hXC (by rw[wg];exact(hXC.1.2.2.2.2.2.2).kO (Z':=g+1) (by show g<=g+1;omega) (fun j hj=>by show D j=hpC j;rw[<-M,zc _ _ _ _ (by intro e;subst e;exact absurd hj (Nat.lt_irrefl _))])) (by omega) (fun j b hj _ hb _=>by rw[<-M,zc _ _ _ _ (by omega)];exact hb) n1 n5 n6 n7 n15;rw[wg]at this;exact this
 have hOD:qR D (g+1) 9 1 (c 18) (zA [mN]):=.inr ⟨g,by omega,by rw[n18];rfl,by rw[<-M];simp⟩;have z84:=(((n84.trans m84).trans o).trans w84);have z85:=(((n85.trans m85).trans p).trans w85);have z86:=(((n86.trans m86).trans q).trans w86);clear n1 n5 n6 n7 n15 n84 n85 n86 n18 m1 m5 m6 m7 m15 m84 m85 m86 T U W X m o p q u w1 w6 w84 w85 w86 hXC hXB hX hB1 hB2 M e2 e3 e4 f2 f3 f4 c6;generalize g+1=nxD at *;refine Wp.seq (Wp.mono (K:=fun e d=>e=.normal/\Cl b x id Z (cur++(b.wP.take k).flatMap su++xpH x++xpI x) d/\qR d.Y d.Z 9 1 (d.σ 18) (zA (XL x))/\d.σ 84=c 84/\d.σ 85=c 85/\d.σ 86=c 86) ?_ ?_)
 ·have bx:D Z=some ⟨58,13,false,[x.V]⟩:=hXD.2.2.2.2;have q15:c 15=.ref Z 0 0:=hXD.2.1;simp only[yy]at bx;refine Wp.cut z (fun σ' Y' Z'=>σ' 1=c 1/\σ' 5=c 5/\σ' 6=c 6/\σ' 7=c 7/\σ' 15=c 15/\σ' 84=c 84/\σ' 85=c 85/\σ' 86=c 86/\σ' 18=c 18/\σ' 115=.sl 3 (x.ja.map kc)/\σ' 116=int x.ja.length/\σ' 117=int 0/\D=Y'/\nxD=Z') (by simp[q15,bx]) ?_;rintro h _ _ ⟨r1,r5,r6,r7,E,F,G,H,r18,r115,r116,r117,rfl,rfl⟩;obtain⟨⟨a1,a5,a6,a7,a0,_,aB⟩,a15,ajn,aji,abx⟩:=hXD;refine Wp.mono (txAr b x hxn l2 (σ:=h) ⟨⟨r1.trans a1,r5.trans a5,r6.trans a6,r7.trans a7,a0,hid,aB⟩,E.trans a15,ajn,aji,abx⟩ r115 r116 r117 (by rw[r18];exact hOD)) ?_;rintro e d ⟨rfl,hX',hO',N,P,Q⟩;exact⟨rfl,hX',hO',N.trans F,P.trans G,Q.trans H⟩
 rintro e ⟨h,hpE,nxE⟩ ⟨rfl,hXE,hOE,N,P,Q⟩;simp only at hOE N P Q;simp only[w5];have aB:=hXE.1.2.2.2.2.2.2;have a6:h 6=.fn (.func 8) [] [.ref id 0 0]:=hXE.1.2.2.1;simp only at aB;obtain⟨hpF,nxF,i1,i2,i3,i4⟩:=W0 aB hOE (by unfold XL;simp;omega) (by rw[zt,zt,zt];omega);refine Wp.cut z (fun σ' Y' Z'=>σ' 1=h 1/\σ' 5=h 5/\σ' 6=h 6/\σ' 7=h 7/\σ' 15=h 15/\σ' 84=h 84/\σ' 85=h 85/\σ' 86=h 86/\hpF=Y'/\nxF=Z') (by simp[a6,i1]) ?_;rintro i _ _ ⟨r1,r5,r6,r7,E,F,G,H,rfl,rfl⟩;have hXF:=cx (σ':=i) hXE i2 i3 i4 r1 r5 r6 r7 E;have y84:=(F.trans N).trans z84;have y85:=(G.trans P).trans z85;have y86:=(H.trans Q).trans z86;clear r1 r5 r6 r7 E F G H N P Q z84 z85 z86 hXE hOE aB a6 i1 i2 i3 i4 hXD hOD;have bx:hpF Z=some ⟨58,13,false,[x.V]⟩:=hXF.2.2.2.2;have q15:i 15=.ref Z 0 0:=hXF.2.1;simp only[yy]at bx;refine Wp.cut z (fun σ' Y' Z'=>σ' 1=i 1/\σ' 5=i 5/\σ' 6=i 6/\σ' 7=i 7/\σ' 15=i 15/\σ' 84=i 84/\σ' 85=i 85/\σ' 86=i 86/\σ' 139=.sl 2 (x.zQ.map yk.V)/\σ' 140=int x.zQ.length/\σ' 141=int 0/\hpF=Y'/\nxF=Z') (by simp[q15,bx]) ?_;rintro σ7 _ _ ⟨r1,r5,r6,r7,E,F,G,H,r139,r140,r141,rfl,rfl⟩;obtain⟨⟨a1,a5,a6,a7,a0,_,aB⟩,a15,ajn,aji,abx⟩:=hXF;refine Wp.mono (txPh b x hxn ⟨l3,l4⟩ (σ:=σ7) ⟨⟨r1.trans a1,r5.trans a5,r6.trans a6,r7.trans a7,a0,hid,aB⟩,E.trans a15,ajn,aji,abx⟩ r139 r140 r141 (by rw[zt,zt,zt,zt];omega)) ?_;rintro e ⟨σ8,hpG,nxG⟩ ⟨rfl,⟨⟨s1,s5,s6,s7,s0,_,sB⟩,_⟩,s84,s85,s86⟩;simp only at s1 s5 s6 s7 s0 sB s84 s85 s86;simp only[jW,w5];have hw:=q8 k;have q86:=(s86.trans H).trans y86;refine Wp.of z ?_;simp[q86,hw];refine⟨n-1,by omega,k+1,by omega,?_,⟨by simp[s1],by simp[s5],by simp[s6],by simp[s7],s0,hid,?_⟩,by simp[s84,F,y84],by simp[s85,G,y85],by simp⟩
 ·intro y hy;rw[qb B,wy,hx]at hy;rcases hy with hy|hy
  ·exact I y hy
  ·rw[yf.1 hy,hpe];exact A
 ·rw[Jt su b.wP B,hx,show su x=xpH x++(xpI x++(aL (XL x)++x.zQ.flatMap bZ))from rfl];simpa[z8]using sB
set_option maxHeartbeats 8000000 in
theorem Ew:jl False prog 4 (hP (FBk fun b=>.qZ [str (KE b).1,int (KE b).2])):=
 rC (C:=Jp) (fn:=Tryz.f4) (code:=_) func4 (by kernel_rfl) rfl false [] _ fun args r h=>by
  obtain⟨b,rfl,t,rfl⟩:=qc h;clear h;refine⟨by simp[Tryz.f4],?_⟩;have j:=vQ;have S:zD=268435456:=rfl;have z:=fun Y Z=>lN (fun b=>int (yT b)) b Y Z t
  refine Wp.cut j (fun σ Y Z=>σ 1=.ref 0 0 0/\Y 0=some ⟨26,3,false,[b.V]⟩/\Z=1) (by simp[Bk.V]) ?_;rintro σ Y _ ⟨d,a,rfl⟩;have c:=a;simp only[Bk.V]at z c;by_cases k:yT b=0
  case neg=>
   have A:=Xo k;have s:KE b=([],yT b):=by unfold KE;rw[zl k]
   refine Wp.seq (Wp.of j ?_);simp[d,c,z,A];rw[s];exact⟨_,rfl,qP _⟩
  refine Wp.cut j (fun σ Y Z=>σ 1=.ref 0 0 0/\Y 0=some ⟨26,3,false,[b.V]⟩/\Z=1) (by simp[d,c,z,k,Bk.V]) ?_;clear d a c σ Y;rintro σ Y _ ⟨d,a,rfl⟩;refine Wp.cut j (fun σ Y Z=>σ 1=.ref 0 0 0/\Y 0=some ⟨26,3,false,[b.V]⟩/\∃id,σ 5=.ref id 0 0/\id≠0/\pS TB UB id Y Z []) (by simp[d,a];exact⟨by omega,.inl ⟨rfl,by simp[Wo]⟩⟩) ?_;clear d a σ Y;rintro σ Y Z ⟨d,a,id,f,hid,g⟩;refine Wp.cut j (fun σ Y Z=>σ 1=.ref 0 0 0/\Y 0=some ⟨26,3,false,[b.V]⟩/\σ 5=.ref id 0 0/\σ 6=.fn (.func 8) [] [.ref id 0 0]/\pS TB UB id Y Z []) (by simp[d,a,f,g]) ?_;clear d a f g σ Y Z;rintro σ Y Z ⟨d,a,f,i,g⟩;refine Wp.cut j (fun σ Y Z=>BA b id [] ⟨σ,Y,Z⟩) (by simp[d,a,f,i,g,BA,hid]) ?_;clear d a f i g σ Y Z;rintro σ Y Z l;have X:=Tt k t;have hbe:(eF b).length=(b.zr.flatMap aq).length+((b.holds.flatMap KD).length+(b.wP.flatMap su).length):=by unfold eF;rw[zt,zt]
  refine Wp.seq (Wp.mono (K:=fun e o=>e=.normal/\BA b id ([]++b.zr.flatMap aq) o) ?_ ?_)
  ·obtain⟨d,f,i,m,a,_,g⟩:=l;have c:=a;simp only[Bk.V]at d f i m c g;refine Wp.cut j (fun σ' Y' Z'=>σ' 1=σ 1/\σ' 5=σ 5/\σ' 6=σ 6/\σ' 7=σ 7/\σ' 33=.sl 3 (b.zr.map yp.V)/\σ' 34=int b.zr.length/\σ' 35=int 0/\Y=Y'/\Z=Z') (by simp[d,c]) ?_;rintro σ' _ _ ⟨u,v,w,x,B,D,E,rfl,rfl⟩;exact txL b t k ⟨u.trans d,v.trans f,w.trans i,x.trans m,a,hid,g⟩ B D E (by show 0+_<=_;omega)
  clear l σ Y Z;rintro e ⟨σ,Y,Z⟩ ⟨rfl,l⟩;simp only[w5];refine Wp.seq (Wp.mono (K:=fun e o=>e=.normal/\BA b id ([]++b.zr.flatMap aq++b.holds.flatMap KD) o) ?_ ?_)
  ·obtain⟨d,f,i,m,a,_,g⟩:=l;have c:=a;simp only[Bk.V]at d f i m c g;refine Wp.cut j (fun σ' Y' Z'=>σ' 1=σ 1/\σ' 5=σ 5/\σ' 6=σ 6/\σ' 7=σ 7/\σ' 52=.sl 4 (b.holds.map y7.V)/\σ' 53=int b.holds.length/\σ' 54=int 0/\Y=Y'/\Z=Z') (by simp[d,c]) ?_;rintro σ' _ _ ⟨u,v,w,x,F,G,H,rfl,rfl⟩;exact txH b t k ⟨u.trans d,v.trans f,w.trans i,x.trans m,a,hid,g⟩ F G H (by rw[ye];omega)
  clear l σ Y Z;rintro e ⟨σ,Y,Z⟩ ⟨rfl,l⟩;simp only[w5];rw[ye]at l;obtain⟨d,f,i,m,a,_,g⟩:=l;have c:=a;simp only[Bk.V]at d f i m c g;refine Wp.seq ?_;refine Wp.cut j (fun σ' Y' Z'=>σ' 1=σ 1/\σ' 5=σ 5/\σ' 6=σ 6/\σ' 7=σ 7/\σ' 84=.sl 13 (b.wP.map Xp.V)/\σ' 85=int b.wP.length/\σ' 86=int 0/\Y=Y'/\Z=Z') (by simp[d,c]) ?_;rintro σ' _ _ ⟨u,v,w,x,I,J,L,rfl,rfl⟩;refine txE b t k (σ:=σ') ⟨u.trans d,v.trans f,w.trans i,x.trans m,a,hid,g⟩ I J L (by rw[zt];omega) ?_ ?_
  ·rintro p ⟨M,Y2,N⟩ ⟨m1,P,m6,m7,Q,_,y⟩;simp only at m1 P m6 m7 Q y;rw[z8,show b.zr.flatMap aq++(b.holds.flatMap KD++b.wP.flatMap su)=eF b from rfl]at y;simp only[w5];have n:=TL y;obtain⟨hp3,R⟩:=TM y;have s:KE b=if 500000<(eF b).length then([],2)else(eF b,0):=by unfold KE;rw[zj (by simpa using k),zj (by rw[p];decide)]
   refine Wp.of j ?_;by_cases T:500000<(eF b).length
   ·have q:(500000:Int)<(eF b).length:=by omega
    rw[s,zl T];simp[P,n,q,Tryz.f4];exact⟨_,rfl,qP _⟩
   ·have q:¬(500000:Int)<(eF b).length:=by omega
    rw[s,zj T];simp[P,n,q,R,Tryz.f4];exact⟨_,rfl,qP _⟩
  ·rintro p ⟨M,Y2,N⟩ U W;have s:KE b=([],2):=by unfold KE;rw[zj (by simpa using k),zl p]
   rw[s];simp only at U W;simp[U,W,Tryz.f4];exact⟨_,rfl,qP _⟩
end Go.Q
namespace Go.Q
open Classical in
noncomputable def jQ {α:Type} (a b:α):Bool:=decide (a=b)
open Classical in
theorem vM{α:Type}(a b:α):jQ a b=true↔a=b:=by unfold jQ;exact decide_eq_true_iff
theorem Qh{α:Type}(a:α):jQ a a=true:=(vM a a).2 rfl
theorem UQ{α g i:Type}{a b:α}{c d:g}{e f:i}(h:a=b↔c=d/\e=f):jQ a b=(jQ c d&&jQ e f):=by rw[wO,zn,vM,vM,vM];exact h
theorem UR(a b:za):jQ a b=(a==b):=by rw[wO,vM,w7]
theorem Pp{α:Type}(a b:α)(l m:List α):jQ (a::l) (b::m)=(jQ a b&&jQ l m):=UQ (by simp)
theorem YK{α:Type}{l m:List α}(h:l.length≠m.length):jQ l m=false:=by
 cases a:jQ l m
 ·rfl
 ·exact(h (jy List.length ((vM l m).1 a))).elim
theorem Q6{α:Type}{a b:List α}{k:Nat}(c:k<a.length)(d:k<b.length):jQ (a.drop k) (b.drop k)=(jQ a[k] b[k]&&jQ (a.drop (k+1)) (b.drop (k+1))):=by rw[zg c,zg d,Pp]
theorem US(a b:Val):jQ a b=((a.kind==b.kind)&&((a.n==b.n)&&((a.s==b.s)&&(jQ a.items b.items&&jQ a.fields b.fields)))):=by rw[wO];simp only[zn,vM,w7];cases a;cases b;simp[Val.kind,Val.n,Val.s,Val.items,Val.fields]
theorem UT(a b:za×Val):jQ a b=((a.1==b.1)&&jQ a.2 b.2):=by rw[wO];simp only[zn,vM,w7];obtain⟨c,d⟩:=a;obtain⟨e,f⟩:=b;simp
theorem UU(a b:Cnd):jQ a b=((a.kind==b.kind)&&((a.attr==b.attr)&&((a.op==b.op)&&((a.pat==b.pat)&&((a.name==b.name)&&(jQ a.jd b.jd&&jQ a.args b.args)))))):=by
 rw[wO];simp only[zn,vM,w7];cases a;cases b;simp only[Cnd.kind,Cnd.attr,Cnd.op,Cnd.pat,Cnd.name,Cnd.jd,Cnd.args,Cnd.mk.injEq];constructor
 ·rintro⟨c,d,e,f,g,h,i⟩;exact⟨c,d,e,g,h,f,i⟩
 ·rintro⟨c,d,e,f,g,h,i⟩;exact⟨c,d,e,h,f,g,i⟩
theorem UW(a b:yk):jQ a b=((a.at_==b.at_)&&jQ a.qw b.qw):=by rw[wO];simp only[zn,vM,w7];cases a;cases b;simp
theorem zdr(a b:Xp):jQ a b=((a.name==b.name)&&((a.w9==b.w9)&&((a.flag==b.flag)&&((a.we==b.we)&&(jQ a.cond b.cond&&(jQ a.ja b.ja&&jQ a.zQ b.zQ)))))):=by
 rw[wO];simp only[zn,vM,w7];cases a;cases b;simp only[Xp.mk.injEq];constructor
 ·rintro⟨c,d,e,f,g,h,i⟩;exact⟨c,d,e,g,f,h,i⟩
 ·rintro⟨c,d,e,f,g,h,i⟩;exact⟨c,d,e,g,f,h,i⟩
end Go.Q
namespace Go.Q
noncomputable def FRR2 (out:List Rg->List Rg->O) (pre:List Rg->List Rg->Prop):zb->Option O:=qt (α:=List Rg×List Rg) (fun a=>[.sl 3 (a.1.map kc),.sl 3 (a.2.map kc)]) (fun a=>pre a.1 a.2) (fun a=>out a.1 a.2)
theorem IB(out:List Rg->List Rg->O)(pre:List Rg->List Rg->Prop)(l m:List Rg)(Y:Hp)(Z:Nat)(h:pre l m):hP (FRR2 out pre) [.sl 3 (l.map kc),.sl 3 (m.map kc)] Y Z=some (out l m,Y,Z):=
 aK (l,m) _ _ rfl (fun a b e=>by obtain⟨c,d⟩:=a;obtain⟨f,g⟩:=b;simp only[zi,zF]at e;rw[J7 e.1,J7 e.2]) h (.inr rfl)
theorem IC{a b:List Rg}{k:Nat}(c:k<a.length)(d:k<b.length):decide (a.drop k=b.drop k)=(decide (a[k]=b[k])&&decide (a.drop (k+1)=b.drop (k+1))):=by rw[zg c,zg d,<-Bool.decide_and];congr 1;simp only[zi]
theorem zbh(x y z u v w:Int):Qq prog .neq 61 (.agg [int x,int y,int z]) (.agg [int u,int v,int w])=some (q6 (!(decide (x=u)&&(decide (y=v)&&decide (z=w))))):=by simp only[Qq,fl61,wS,qh,zY,gj];rfl
theorem UX{a b:Rg}:decide (a=b)=(decide (a.1=b.1)&&(decide (a.2.1=b.2.1)&&decide (a.2.2=b.2.2))):=by simp[Prod.ext_iff]
theorem sU(a b:List Rg)(r:a.length<=zD):zH C0 f32 [.sl 3 (a.map kc),.sl 3 (b.map kc)]=some (q6 (decide (a=b))):=by
 refine zs rfl ?_;unfold zD at r;by_cases j:a.length=b.length
 case neg=>
  have f:((a.length:Int) != (b.length:Int))=true:=by simp;omega
  have l:¬a=b:=fun e=>j (by rw[e])
  simp[f,l,f32]
 have f:((a.length:Int) != (b.length:Int))=false:=by simp[j]
 simp[f];refine qu (fun k σ Y Z=>σ 0=.sl 3 (a.map kc)/\σ 1=.sl 3 (b.map kc)/\σ 12=int a.length/\σ 13=int k/\decide (a=b)=decide (a.drop k=b.drop k)) a.length
  ⟨by simp,by simp,by simp,by simp,by simp⟩ ?_
 rintro k σ Y Z t ⟨m,n,g,h,i⟩;by_cases d:k<a.length
 ·have c:k<b.length:=by omega
  have s:=q8 k;rw[IC d c,UX]at i;by_cases o:a[k].1=b[k].1<;>by_cases p:a[k].2.1=b[k].2.1<;>by_cases q:a[k].2.2=b[k].2.2<;>simp only[o,p,q,zgY,zas,gj,vN,Bool.and_false,kV]at i
  ·simp[m,n,g,h,d,c,o,p,q,s,zbh];exact⟨d,by simpa using i⟩
  all_goals simp[m,n,g,h,d,c,o,p,q,i,zbh,f32]
 ·obtain rfl:k=a.length:=by omega
  rw[zp,j,zp]at i;simp[m,n,g,h,i,f32]
theorem nS:zh prog 32 (hP (FRR2 (fun a b=>q6 (decide (a=b))) fun a _=>a.length<=zD)):=
 Z3 ku func32 false [] fun⟨a,b⟩ c=>⟨zM (zk 2) (by decide),_,sU a b c,qP _⟩
noncomputable def ID (n:Nat):zb->Option O:=qt (α:=Val×Val) (fun a=>[.agg a.1.V,.agg a.2.V]) (fun a=>a.1.vb<=zD/\a.1.vb<=n/\a.2.vb<=zD) (fun a=>q6 (jQ a.1 a.2))
theorem pK(n:Nat)(a b:Val)(Y:Hp)(Z:Nat)(h:a.vb<=zD/\a.vb<=n/\b.vb<=zD):hP (ID n) [.agg a.V,.agg b.V] Y Z=some (q6 (jQ a b),Y,Z):=
 wL (Y1:=Y) (show zz Y [.agg a.V,.agg b.V]=some ([.agg a.V,.agg b.V],Y) by simp only[zz,QF])
  (qj (V:=fun a:Val×Val=>[.agg a.1.V,.agg a.2.V]) (a:=(a,b)) (fun x y e=>by obtain⟨c,d⟩:=x;obtain⟨f,g⟩:=y;simp only[zi,zF,O.agg.injEq]at e;rw[xN e.1,xN e.2]) h) (.inl rfl)
theorem UY{n:Nat}{a b:List Val}(h:(kz a<=zD/\kz a<=n)/\kz b<=zD):a.length<=zD:=by have:=kf a;omega
theorem UZ{n:Nat}{a b:List Val}(h:(kz a<=zD/\kz a<=n)/\kz b<=zD):b.length<=zD:=by have:=kf b;omega
theorem zds{n:Nat}{a b:List Val}(h:(kz a<=zD/\kz a<=n)/\kz b<=zD){x y:Val}(c:x∈a)(d:y∈b):x.vb<=zD/\x.vb<=n/\y.vb<=zD:=by have:=xh c;have:=xh d;omega
noncomputable abbrev Csv4 (n:Nat):Ctx:=qf prog [(51,hP (ID n))]
theorem U0(n:Nat)(a b:List (Val))(h:(kz a<=zD/\kz a<=n)/\kz b<=zD):zH (Csv4 n) f50 [.sl 5 (a.map Val.V),.sl 5 (b.map Val.V),.fn (.func 51) [] []]=some (q6 (jQ a b)):=by
 refine zs rfl ?_;have w:=UY h;have z:=UZ h;unfold zD at w z;by_cases l:a.length=b.length
 case neg=>
  have q:jQ a b=false:=YK l;have r:((a.length:Int)==b.length)=false:=qM.2 (by omega);have e:((a.length:Int) != b.length)=true:=by rw[bne,r];rfl
  simp[e,q,f50]
 have e:((a.length:Int) != b.length)=false:=by rw[l];simp
 simp[e];refine qu (fun k σ Y Z=>σ 0=.sl 5 (a.map Val.V)/\σ 1=.sl 5 (b.map Val.V)/\σ 2=.fn (.func 51) [] []/\σ 15=.sl 5 (a.map Val.V)/\σ 16=int a.length/\σ 17=int k/\jQ a b=jQ (a.drop k) (b.drop k)) a.length
  ⟨by simp,by simp,by simp,by simp,by simp[l],by simp,by simp⟩ ?_
 rintro k σ Y Z B ⟨s,t,u,f,g,i,j⟩;by_cases d:k<a.length
 ·have c:k<b.length:=by omega
  have A:=q8 k;obtain⟨x,m⟩:=yb (a[k]);obtain⟨y,o⟩:=yb (b[k]);have v:=fun Y Z=>pK n x y Y Z (by rw[<-m,<-o];exact zds h (zo d) (zo c))
  rw[Q6 d c,m,o]at j;cases p:jQ x y
  ·rw[p,kV]at j;simp[s,t,u,f,g,i,d,c,m,o,v,p,j,f50]
  ·rw[p,vN]at j;simp[s,t,u,f,g,i,d,c,m,o,v,p,A];exact⟨by omega,j⟩
 ·obtain rfl:k=a.length:=by omega
  rw[zp,l,zp,Qh]at j;simp[s,t,u,f,g,i,j,f50]
noncomputable def Lsv (n:Nat):zb->Option O:=qt (α:=List (Val)×List (Val)) (fun a=>[.sl 5 (a.1.map Val.V),.sl 5 (a.2.map Val.V),.fn (.func 51) [] []]) (fun p=>let a:=p.1;let b:=p.2;(kz a<=zD/\kz a<=n)/\kz b<=zD) (fun a=>q6 (jQ a.1 a.2))
theorem BC(n:Nat)(a b:List (Val))(Y:Hp)(Z:Nat)(h:(kz a<=zD/\kz a<=n)/\kz b<=zD):hP (Lsv n) [.sl 5 (a.map Val.V),.sl 5 (b.map Val.V),.fn (.func 51) [] []] Y Z=some (q6 (jQ a b),Y,Z):=
 wL (Y1:=Y) (by simp) (qj (V:=fun a:List (Val)×List (Val)=>[O.sl 5 (a.1.map Val.V),.sl 5 (a.2.map Val.V),.fn (.func 51) [] []]) (a:=(a,b)) (fun x y e=>by obtain⟨f,g⟩:=x;obtain⟨i,j⟩:=y;simp only[zi,zF]at e;obtain⟨c,d⟩:=e;injection c with _ c;injection d with _ d;rw[Jd c,Jd d]) h) (.inl rfl)
theorem BD(n:Nat)(hs:zh prog 51 (hP (ID n))):zh prog 50 (hP (Lsv n)):=
 Z3 (qD mixed ⟨hs,trivial⟩:AM.Good (Csv4 n) _) func50 false [] fun⟨a,b⟩ c=>⟨zM (zk 3) (by decide),_,U0 n a b c,qP _⟩
noncomputable def U1 (n:Nat):zb->Option O:=qt (α:=(za×Val)×(za×Val)) (fun a=>[.agg (wa a.1),.agg (wa a.2)]) (fun a=>(a.1.2.vb<=zD/\a.1.2.vb<=n/\a.2.2.vb<=zD)) (fun a=>q6 (jQ a.1 a.2))
theorem IE(n:Nat)(a b:za×Val)(Y:Hp)(Z:Nat)(h:a.2.vb<=zD/\a.2.vb<=n/\b.2.vb<=zD):hP (U1 n) [.agg (wa a),.agg (wa b)] Y Z=some (q6 (jQ a b),Y,Z):=
 wL (Y1:=Y) (show zz Y [.agg (wa a),.agg (wa b)]=some ([.agg (wa a),.agg (wa b)],Y) by simp[wa])
  (qj (V:=fun a:(za×Val)×(za×Val)=>[.agg (wa a.1),.agg (wa a.2)]) (a:=(a,b)) (fun x y e=>by
   obtain⟨d,f⟩:=x;obtain⟨g,i⟩:=y;have c:wa d=wa g/\wa f=wa i:=by simp only[zi,zF,O.agg.injEq]at e;exact⟨zi .. ▸ e.1,zi .. ▸ e.2⟩
   rw[QH c.1,QH c.2]) h) (.inl rfl)
theorem U2{n:Nat}{a b:List (za×Val)}(h:(ZU a<=zD/\ZU a<=n)/\ZU b<=zD):a.length<=zD:=by have:=xx a;omega
theorem U3{n:Nat}{a b:List (za×Val)}(h:(ZU a<=zD/\ZU a<=n)/\ZU b<=zD):b.length<=zD:=by have:=xx b;omega
theorem zdt{n:Nat}{a b:List (za×Val)}(h:(ZU a<=zD/\ZU a<=n)/\ZU b<=zD){x y:za×Val}(c:x∈a)(d:y∈b):x.2.vb<=zD/\x.2.vb<=n/\y.2.vb<=zD:=by have:=Wy c;have:=Wy d;omega
noncomputable abbrev Csf (n:Nat):Ctx:=qf prog [(88,hP (U1 n))]
theorem U4(n:Nat)(a b:List (za×Val))(h:(ZU a<=zD/\ZU a<=n)/\ZU b<=zD):zH (Csf n) f87 [.sl 6 (a.map wa),.sl 6 (b.map wa),.fn (.func 88) [] []]=some (q6 (jQ a b)):=by
 refine zs rfl ?_;have w:=U2 h;have z:=U3 h;unfold zD at w z;by_cases l:a.length=b.length
 case neg=>
  have q:jQ a b=false:=YK l;have r:((a.length:Int)==b.length)=false:=qM.2 (by omega);have e:((a.length:Int) != b.length)=true:=by rw[bne,r];rfl
  simp[e,q,f87]
 have e:((a.length:Int) != b.length)=false:=by rw[l];simp
 simp[e];refine qu (fun k σ Y Z=>σ 0=.sl 6 (a.map wa)/\σ 1=.sl 6 (b.map wa)/\σ 2=.fn (.func 88) [] []/\σ 15=.sl 6 (a.map wa)/\σ 16=int a.length/\σ 17=int k/\jQ a b=jQ (a.drop k) (b.drop k)) a.length
  ⟨by simp,by simp,by simp,by simp,by simp[l],by simp,by simp⟩ ?_
 rintro k σ Y Z B ⟨s,t,u,f,g,i,j⟩;by_cases d:k<a.length
 ·have c:k<b.length:=by omega
  have A:=q8 k;obtain⟨x,m⟩:=yb (a[k]);obtain⟨y,o⟩:=yb (b[k]);have v:=fun Y Z=>IE n x y Y Z (by rw[<-m,<-o];exact zdt h (zo d) (zo c))
  rw[Q6 d c,m,o]at j;cases p:jQ x y
  ·rw[p,kV]at j;simp[s,t,u,f,g,i,d,c,m,o,v,p,j,f87]
  ·rw[p,vN]at j;simp[s,t,u,f,g,i,d,c,m,o,v,p,A];exact⟨by omega,j⟩
 ·obtain rfl:k=a.length:=by omega
  rw[zp,l,zp,Qh]at j;simp[s,t,u,f,g,i,j,f87]
noncomputable def Lsf (n:Nat):zb->Option O:=qt (α:=List (za×Val)×List (za×Val)) (fun a=>[.sl 6 (a.1.map wa),.sl 6 (a.2.map wa),.fn (.func 88) [] []]) (fun p=>let a:=p.1;let b:=p.2;(ZU a<=zD/\ZU a<=n)/\ZU b<=zD) (fun a=>q6 (jQ a.1 a.2))
theorem Pq(n:Nat)(a b:List (za×Val))(Y:Hp)(Z:Nat)(h:(ZU a<=zD/\ZU a<=n)/\ZU b<=zD):hP (Lsf n) [.sl 6 (a.map wa),.sl 6 (b.map wa),.fn (.func 88) [] []] Y Z=some (q6 (jQ a b),Y,Z):=
 wL (Y1:=Y) (by simp) (qj (V:=fun a:List (za×Val)×List (za×Val)=>[O.sl 6 (a.1.map wa),.sl 6 (a.2.map wa),.fn (.func 88) [] []]) (a:=(a,b)) (fun x y e=>by obtain⟨f,g⟩:=x;obtain⟨i,j⟩:=y;simp only[zi,zF]at e;obtain⟨c,d⟩:=e;injection c with _ c;injection d with _ d;rw[VX c,VX d]) h) (.inl rfl)
theorem Pr(n:Nat)(hs:zh prog 88 (hP (U1 n))):zh prog 87 (hP (Lsf n)):=
 Z3 (qD mixed ⟨hs,trivial⟩:AM.Good (Csf n) _) func87 false [] fun⟨a,b⟩ c=>⟨zM (zk 3) (by decide),_,U4 n a b c,qP _⟩
noncomputable abbrev Csf1 (n:Nat):Ctx:=qf prog [(51,hP (ID n))]
@[simp]theorem qsf1(n:Nat):yH (Csf1 n) 51:=wD (by rfl) (zq _ _)
theorem mQ(n:Nat)(a b:za×Val)(h:a.2.vb<=zD/\a.2.vb<=n/\b.2.vb<=zD):zH (Csf1 n) f88 [.agg (wa a),.agg (wa b)]=some (q6 (jQ a b)):=by
 refine zs rfl ?_;have c:=fun Y Z=>pK n a.2 b.2 Y Z h
 simp[wa,c,UT,f88]
theorem fA(n:Nat)(hs:zh prog 51 (hP (ID n))):zh prog 88 (hP (U1 n)):=
 Z3 (qI (q:=[51]) mixed ⟨hs,fun _=>zq _ _,trivial⟩:AM.Good (Csf1 n) _) func88 false [] fun⟨a,b⟩ c=>⟨zM (zk 2) (by decide),_,mQ n a b c,qP _⟩
abbrev qsv1:List Nat:=[50,87]
noncomputable abbrev U5 (n:Nat):Ctx:=qf prog [(50,hP (Lsv n)),(87,hP (Lsf n))]
@[simp]theorem ziM(n:Nat):yH (U5 n) 50:=wD (by rfl) (zq _ _)
@[simp]theorem ziN(n:Nat):yH (U5 n) 87:=wD (by rfl) (zq _ _)
theorem mR(n:Nat)(a b:Val)(h:a.vb<=zD/\a.vb<=n+1/\b.vb<=zD):zH (U5 n) f51 [.agg a.V,.agg b.V]=some (q6 (jQ a b)):=by
 refine zs rfl ?_;have e:=ZN a;have f:=ZN b;have c:=fun Y Z=>BC n a.items b.items Y Z (by omega)
 have d:=fun Y Z=>Pq n a.fields b.fields Y Z (by omega)
 simp[c,d,US,BJ,f51]
theorem fB:∀n,zh prog 51 (hP (ID n)):=by
 intro n
 induction n with
 |zero=>
  exact VW ⟨_,func51,by kernel_rfl,by kernel_rfl⟩ fun args r h=>by obtain⟨⟨a,b⟩,rfl,c,rfl⟩:=qc h;have:=JU a;simp only at c;omega
 |succ n d=>have e:AM.Good (U5 n) (fun g=>qsv1.contains g):=qI mixed ⟨BD n d,fun _=>zq _ _,Pr n (fA n d),fun _=>zq _ _,trivial⟩;exact Z3 e func51 false [] fun⟨a,b⟩ c=>⟨zM (zk 2) (by decide),_,mR n a b c,qP _⟩
noncomputable def Ps (n:Nat):zb->Option O:=qt (α:=Cnd×Cnd) (fun a=>[.agg a.1.V,.agg a.2.V]) (fun a=>a.1.cb<=zD/\a.1.cb<=n/\a.2.cb<=zD) (fun a=>q6 (jQ a.1 a.2))
theorem pL(n:Nat)(a b:Cnd)(Y:Hp)(Z:Nat)(h:a.cb<=zD/\a.cb<=n/\b.cb<=zD):hP (Ps n) [.agg a.V,.agg b.V] Y Z=some (q6 (jQ a b),Y,Z):=
 wL (Y1:=Y) (show zz Y [.agg a.V,.agg b.V]=some ([.agg a.V,.agg b.V],Y) by simp only[zz,Yz])
  (qj (V:=fun a:Cnd×Cnd=>[.agg a.1.V,.agg a.2.V]) (a:=(a,b)) (fun x y e=>by obtain⟨c,d⟩:=x;obtain⟨f,g⟩:=y;simp only[zi,zF,O.agg.injEq]at e;rw[QX e.1,QX e.2]) h) (.inl rfl)
theorem U6{n:Nat}{a b:List Cnd}(h:(Wm a<=zD/\Wm a<=n)/\Wm b<=zD):a.length<=zD:=by have:=W4 a;omega
theorem U7{n:Nat}{a b:List Cnd}(h:(Wm a<=zD/\Wm a<=n)/\Wm b<=zD):b.length<=zD:=by have:=W4 b;omega
theorem zdu{n:Nat}{a b:List Cnd}(h:(Wm a<=zD/\Wm a<=n)/\Wm b<=zD){x y:Cnd}(c:x∈a)(d:y∈b):x.cb<=zD/\x.cb<=n/\y.cb<=zD:=by have:=VS c;have:=VS d;omega
theorem pM{a b:List Cnd}(h:a.map Cnd.V=b.map Cnd.V):a=b:=jJ (fun _ _=>QX) h
noncomputable abbrev Csc (n:Nat):Ctx:=qf prog [(31,hP (Ps n))]
theorem U8(n:Nat)(a b:List (Cnd))(h:(Wm a<=zD/\Wm a<=n)/\Wm b<=zD):zH (Csc n) f52 [.sl 7 (a.map Cnd.V),.sl 7 (b.map Cnd.V),.fn (.func 31) [] []]=some (q6 (jQ a b)):=by
 refine zs rfl ?_;have w:=U6 h;have z:=U7 h;unfold zD at w z;by_cases l:a.length=b.length
 case neg=>
  have q:jQ a b=false:=YK l;have r:((a.length:Int)==b.length)=false:=qM.2 (by omega);have e:((a.length:Int) != b.length)=true:=by rw[bne,r];rfl
  simp[e,q,f52]
 have e:((a.length:Int) != b.length)=false:=by rw[l];simp
 simp[e];refine qu (fun k σ Y Z=>σ 0=.sl 7 (a.map Cnd.V)/\σ 1=.sl 7 (b.map Cnd.V)/\σ 2=.fn (.func 31) [] []/\σ 15=.sl 7 (a.map Cnd.V)/\σ 16=int a.length/\σ 17=int k/\jQ a b=jQ (a.drop k) (b.drop k)) a.length
  ⟨by simp,by simp,by simp,by simp,by simp[l],by simp,by simp⟩ ?_
 rintro k σ Y Z B ⟨s,t,u,f,g,i,j⟩;by_cases d:k<a.length
 ·have c:k<b.length:=by omega
  have A:=q8 k;obtain⟨x,m⟩:=yb (a[k]);obtain⟨y,o⟩:=yb (b[k]);have v:=fun Y Z=>pL n x y Y Z (by rw[<-m,<-o];exact zdu h (zo d) (zo c))
  rw[Q6 d c,m,o]at j;cases p:jQ x y
  ·rw[p,kV]at j;simp[s,t,u,f,g,i,d,c,m,o,v,p,j,f52]
  ·rw[p,vN]at j;simp[s,t,u,f,g,i,d,c,m,o,v,p,A];exact⟨by omega,j⟩
 ·obtain rfl:k=a.length:=by omega
  rw[zp,l,zp,Qh]at j;simp[s,t,u,f,g,i,j,f52]
noncomputable def Lsc (n:Nat):zb->Option O:=qt (α:=List (Cnd)×List (Cnd)) (fun a=>[.sl 7 (a.1.map Cnd.V),.sl 7 (a.2.map Cnd.V),.fn (.func 31) [] []]) (fun p=>let a:=p.1;let b:=p.2;(Wm a<=zD/\Wm a<=n)/\Wm b<=zD) (fun a=>q6 (jQ a.1 a.2))
theorem Pt(n:Nat)(a b:List (Cnd))(Y:Hp)(Z:Nat)(h:(Wm a<=zD/\Wm a<=n)/\Wm b<=zD):hP (Lsc n) [.sl 7 (a.map Cnd.V),.sl 7 (b.map Cnd.V),.fn (.func 31) [] []] Y Z=some (q6 (jQ a b),Y,Z):=
 wL (Y1:=Y) (by simp) (qj (V:=fun a:List (Cnd)×List (Cnd)=>[O.sl 7 (a.1.map Cnd.V),.sl 7 (a.2.map Cnd.V),.fn (.func 31) [] []]) (a:=(a,b)) (fun x y e=>by obtain⟨f,g⟩:=x;obtain⟨i,j⟩:=y;simp only[zi,zF]at e;obtain⟨c,d⟩:=e;injection c with _ c;injection d with _ d;rw[pM c,pM d]) h) (.inl rfl)
theorem Pu(n:Nat)(hs:zh prog 31 (hP (Ps n))):zh prog 52 (hP (Lsc n)):=
 Z3 (qD mixed ⟨hs,trivial⟩:AM.Good (Csc n) _) func52 false [] fun⟨a,b⟩ c=>⟨zM (zk 3) (by decide),_,U8 n a b c,qP _⟩
abbrev qsc1:List Nat:=[50,52]
noncomputable abbrev U9 (n:Nat):Ctx:=qf prog [(50,hP (Lsv zD)),(52,hP (Lsc n))]
@[simp]theorem ziO(n:Nat):yH (U9 n) 50:=wD (by rfl) (zq _ _)
@[simp]theorem ziP(n:Nat):yH (U9 n) 52:=wD (by rfl) (zq _ _)
theorem nT(n:Nat)(a b:Cnd)(h:a.cb<=zD/\a.cb<=n+1/\b.cb<=zD):zH (U9 n) f31 [.agg a.V,.agg b.V]=some (q6 (jQ a b)):=by
 refine zs rfl ?_;have e:=Wr a;have f:=Wr b;have c:=fun Y Z=>BC zD a.jd b.jd Y Z (by omega)
 have d:=fun Y Z=>Pt n a.args b.args Y Z (by omega)
 simp[c,d,UU,BJ,f31]
theorem mS:∀n,zh prog 31 (hP (Ps n)):=by
 intro n
 induction n with
 |zero=>
  exact VW ⟨_,func31,by kernel_rfl,by kernel_rfl⟩ fun args r h=>by obtain⟨⟨a,b⟩,rfl,c,rfl⟩:=qc h;have:=iN a;simp only at c;omega
 |succ n d=>have e:AM.Good (U9 n) (fun g=>qsc1.contains g):=qI mixed ⟨BD zD (fB zD),fun _=>zq _ _,Pu n d,fun _=>zq _ _,trivial⟩;exact Z3 e func31 false [] fun⟨a,b⟩ c=>⟨zM (zk 2) (by decide),_,nT n a b c,qP _⟩
end Go.Q
namespace Go.Proofs
open Go.Shelf
end Go.Proofs
namespace Go.Q
noncomputable def Fspe (n:Nat):zb->Option O:=qt (α:=yk×yk) (fun a=>[.agg a.1.V,.agg a.2.V]) (fun a=>a.1.qw.length<=zD/\0<=n) (fun a=>q6 (jQ a.1 a.2))
theorem IF(n:Nat)(a b:yk)(Y:Hp)(Z:Nat)(h:a.qw.length<=zD/\0<=n):hP (Fspe n) [.agg a.V,.agg b.V] Y Z=some (q6 (jQ a b),Y,Z):=
 wL (Y1:=Y) (show zz Y [.agg a.V,.agg b.V]=some ([.agg a.V,.agg b.V],Y) by simp[yk.V])
  (qj (V:=fun a:yk×yk=>[.agg a.1.V,.agg a.2.V]) (a:=(a,b)) (fun x y e=>by obtain⟨c,d⟩:=x;obtain⟨f,g⟩:=y;simp only[zi,zF,O.agg.injEq]at e;rw[bX e.1,bX e.2]) h) (.inl rfl)
noncomputable abbrev Csp1:Ctx:=qf prog [(53,hP (SV (fun a b=>q6 (decide (a=b))) fun a _=>a.length<=zD))]
@[simp]theorem qsp1:yH Csp1 53:=wD (by rfl) (zq _ _)
theorem F1{α:Type}[DecidableEq α](a b:α):jQ a b=decide (a=b):=by rw[wO,vM,decide_eq_true_iff]
theorem mT(a b:yk)(h:a.qw.length<=zD):zH Csp1 f34 [.agg a.V,.agg b.V]=some (q6 (jQ a b)):=by
 refine zs rfl ?_;have c:=fun Y Z=>Ag (fun a b=>q6 (decide (a=b))) (fun a _=>a.length<=zD) a.qw b.qw Y Z h
 have d:=F1 a.qw b.qw;simp[yk.V,c,UW,d,f34]
theorem fC(n:Nat):zh prog 34 (hP (Fspe n)):=
 Z3 (qI (q:=[53]) mixed ⟨si,fun _=>zq _ _,trivial⟩:AM.Good Csp1 _) func34 false [] fun⟨a,b⟩ c=>⟨zM (zk 2) (by decide),_,mT a b c.1,qP _⟩
theorem zaa{n:Nat}{a b:List yk}(h:(∀p∈a,p.qw.length<=zD)/\a.length<=zD/\b.length<=zD/\0<=n):a.length<=zD:=h.2.1
theorem zab{n:Nat}{a b:List yk}(h:(∀p∈a,p.qw.length<=zD)/\a.length<=zD/\b.length<=zD/\0<=n):b.length<=zD:=h.2.2.1
theorem zdv{n:Nat}{a b:List yk}(h:(∀p∈a,p.qw.length<=zD)/\a.length<=zD/\b.length<=zD/\0<=n){x y:yk}(c:x∈a)(_:y∈b):x.qw.length<=zD/\0<=n:=⟨h.1 x c,jS _⟩
theorem pN{a b:List yk}(h:a.map yk.V=b.map yk.V):a=b:=jJ (fun _ _=>bX) h
noncomputable abbrev Csp4 (n:Nat):Ctx:=qf prog [(34,hP (Fspe n))]
theorem zac(n:Nat)(a b:List (yk))(h:(∀p∈a,p.qw.length<=zD)/\a.length<=zD/\b.length<=zD/\0<=n):zH (Csp4 n) f33 [.sl 2 (a.map yk.V),.sl 2 (b.map yk.V),.fn (.func 34) [] []]=some (q6 (jQ a b)):=by
 refine zs rfl ?_;have z:=zaa h;have A:=zab h;unfold zD at z A;by_cases l:a.length=b.length
 case neg=>
  have q:jQ a b=false:=YK l;have r:((a.length:Int)==b.length)=false:=qM.2 (by omega);have e:((a.length:Int) != b.length)=true:=by rw[bne,r];rfl
  simp[e,q,f33]
 have e:((a.length:Int) != b.length)=false:=by rw[l];simp
 simp[e];refine qu (fun k σ Y Z=>σ 0=.sl 2 (a.map yk.V)/\σ 1=.sl 2 (b.map yk.V)/\σ 2=.fn (.func 34) [] []/\σ 15=.sl 2 (a.map yk.V)/\σ 16=int a.length/\σ 17=int k/\jQ a b=jQ (a.drop k) (b.drop k)) a.length
  ⟨by simp,by simp,by simp,by simp,by simp[l],by simp,by simp⟩ ?_
 rintro k σ Y Z C ⟨s,t,u,f,g,i,j⟩;by_cases d:k<a.length
 ·have c:k<b.length:=by omega
  have B:=q8 k;obtain⟨x,m⟩:=yb (a[k]);obtain⟨y,v⟩:=yb (b[k]);have w:=fun Y Z=>IF n x y Y Z (by rw[<-m];exact zdv h (zo d) (zo c))
  rw[Q6 d c,m,v]at j;simp only[yk.V]at w;cases o:jQ x y
  ·rw[o,kV]at j;simp[s,t,u,f,g,i,d,c,m,v,yk.V,w,o,j,f33]
  ·rw[o,vN]at j;simp[s,t,u,f,g,i,d,c,m,v,yk.V,w,o,B];exact⟨by omega,j⟩
 ·obtain rfl:k=a.length:=by omega
  rw[zp,l,zp,Qh]at j;simp[s,t,u,f,g,i,j,f33]
noncomputable def Lsp (n:Nat):zb->Option O:=qt (α:=List (yk)×List (yk)) (fun a=>[.sl 2 (a.1.map yk.V),.sl 2 (a.2.map yk.V),.fn (.func 34) [] []]) (fun p=>let a:=p.1;let b:=p.2;(∀p∈a,p.qw.length<=zD)/\a.length<=zD/\b.length<=zD/\0<=n) (fun a=>q6 (jQ a.1 a.2))
theorem Pv(n:Nat)(a b:List (yk))(Y:Hp)(Z:Nat)(h:(∀p∈a,p.qw.length<=zD)/\a.length<=zD/\b.length<=zD/\0<=n):hP (Lsp n) [.sl 2 (a.map yk.V),.sl 2 (b.map yk.V),.fn (.func 34) [] []] Y Z=some (q6 (jQ a b),Y,Z):=
 wL (Y1:=Y) (by simp) (qj (V:=fun a:List (yk)×List (yk)=>[O.sl 2 (a.1.map yk.V),.sl 2 (a.2.map yk.V),.fn (.func 34) [] []]) (a:=(a,b)) (fun x y e=>by obtain⟨f,g⟩:=x;obtain⟨i,j⟩:=y;simp only[zi,zF]at e;obtain⟨c,d⟩:=e;injection c with _ c;injection d with _ d;rw[pN c,pN d]) h) (.inl rfl)
theorem Pw(n:Nat)(hs:zh prog 34 (hP (Fspe n))):zh prog 33 (hP (Lsp n)):=
 Z3 (qD mixed ⟨hs,trivial⟩:AM.Good (Csp4 n) _) func33 false [] fun⟨a,b⟩ c=>⟨zM (zk 3) (by decide),_,zac n a b c,qP _⟩
def vd(x:Xp):Prop:=x.cond.cb<=zD/\x.ja.length<=zD/\(∀p∈x.zQ,p.qw.length<=zD)/\x.zQ.length<=zD
abbrev qse1:List Nat:=[31,32,33]
noncomputable abbrev Px:Ctx:=qf prog [(31,hP (Ps zD)),(32,hP (FRR2 (fun a b=>q6 (decide (a=b))) fun a _=>a.length<=zD)),(33,hP (Lsp 0))]
@[simp]theorem ziQ:yH Px 31:=wD (by rfl) (zq _ _)
@[simp]theorem ziR:yH Px 32:=wD (by rfl) (zq _ _)
@[simp]theorem ziS:yH Px 33:=wD (by rfl) (zq _ _)
theorem sV(a b:Xp)(c:vd a)(d:vd b):zH Px f20 [.agg a.V,.agg b.V]=some (q6 (jQ a b)):=by
 refine zs rfl ?_;have e:=fun Y Z=>pL zD a.cond b.cond Y Z ⟨c.1,c.1,d.1⟩
 have f:=fun Y Z=>IB (fun a b=>q6 (decide (a=b))) (fun a _=>a.length<=zD) a.ja b.ja Y Z c.2.1
 have g:=fun Y Z=>Pv 0 a.zQ b.zQ Y Z ⟨c.2.2.1,c.2.2.2,d.2.2.2,zk _⟩
 have h:=F1 a.ja b.ja;rw[qH,qH]at e;simp[yy,e,f,g,h,zdr,BJ,f20]
def cutC(s:Int×Bool):Bool:=s.2||decide (200<s.1)
def zgH(s r:Int×Bool):Int×Bool:=if cutC s then s else(s.1+r.1,s.2||r.2)
mutual
def Cnd.rp:Cnd->Int->Int×Bool
 | .mk _ _ _ _ _ _ xs,l=>rpC xs l (1,decide (20<l))
def rpC:List Cnd->Int->Int×Bool->Int×Bool
 |[],_,s=>s
 |c::cs,l,s=>rpC cs l (zgH s (c.rp (l+1)))
end
structure RPC (xs:List Cnd) (l:Int) (s r:Int×Bool):Prop where
 lo:s.1<=r.1
 hi:r.1<=s.1+jE xs
 deep:r.2=true->s.2=true\/20<l+(jj xs:Int)
 all:cutC r=false->r.1=s.1+jE xs/\(xs≠[]->l+(jj xs:Int)<=20)
end Go.Q
namespace Go.AM
end Go.AM
namespace Go.Q
def hd(s:za):za:=s.takeWhile (· != 32)
def tl(s:za):za:=s.dropWhile (· != 32)
mutual
def rnC(a:Cut->Bool):List Cut->List js
 |[]=>[]
 |c::l=>if a c=true then rnO a c l else rnC a l
def rnO(a:Cut->Bool)(s:Cut):List Cut->List js
 |[]=>[vg s]
 |c::l=>if a c=true then rnO a s l else betw s c::rnC a l
end
end Go.Q
namespace Go.Proofs
open Go.Shelf
end Go.Proofs
namespace Go.Q
end Go.Q
namespace Go.AM
variable{dr:Prop}
section
variable{P:Program}{Y:Hp}{Z:Nat}
end
end Go.AM
namespace Go.AM
open Go.RowKit Go.Proofs Go.Lib
variable{dr:Prop}
variable{P:Program}
theorem setRow_size{w:World}{g:Nat}(cs:Array Value):(w.setRow g cs).heap.size=w.heap.size:=by simp[World.setRow]
end Go.AM
namespace Go.Q
open Go.RowKit Go.Lib Go.AM
attribute [local go_sem] Oper.semAt_some
end Go.Q
namespace Go.Q
end Go.Q
namespace Go.Q
open Go.RowKit Go.Lib Go.AM
attribute [local go_sem] Oper.semAt_some
end Go.Q
namespace Go.Q
theorem zgI(a b:za):((⟨a.toArray⟩:ByteArray)==⟨b.toArray⟩)=decide (a=b):=by show(a.toArray==b.toArray)=_;by_cases h:a=b<;>simp[h]
theorem BE(a b:List za)(s:a.length<=zD):zH C0 f30 [.sl 1 (zA a),.sl 1 (zA b)]=some (q6 (jQ a b)):=by
 unfold zD at s;refine zs rfl ?_;by_cases l:a.length=b.length
 case neg=>
  have d:((a.length:Int) != (b.length:Int))=true:=by simp;omega
  have m:jQ a b=false:=YK l;simp[d,m,f30]
 have d:((a.length:Int) != (b.length:Int))=false:=by simp[l]
 simp[d];refine qu (fun k σ Y Z=>σ 0=.sl 1 (zA a)/\σ 1=.sl 1 (zA b)/\σ 12=int a.length/\σ 13=int k/\jQ a b=jQ (a.drop k) (b.drop k)) a.length
  ⟨by simp,by simp,by simp,by simp,by simp⟩ ?_
 rintro k σ Y Z u ⟨n,o,e,f,g⟩;by_cases h:k<a.length
 ·have c:k<b.length:=by omega
  have t:=q8 k;obtain⟨p,r⟩:=yb (a[k]);obtain⟨q,i⟩:=yb (b[k]);rw[Q6 h c,r,i,UR]at g;cases hd:(p==q)
  ·rw[hd,kV]at g;have j:¬p=q:=by simpa using hd
   simp[n,o,e,f,h,c,r,i,j,hd,g,f30]
  ·rw[hd,vN]at g;have j:p=q:=by simpa using hd
   simp[n,o,e,f,h,c,r,i,j,t];exact⟨by omega,g⟩
 ·obtain rfl:k=a.length:=by omega
  rw[zp,l,zp,Qh]at g;simp[n,o,e,f,g,f30]
noncomputable def FTq:zb->Option O:=qt (α:=List za×List za) (fun a=>[.sl 1 (zA a.1),.sl 1 (zA a.2)]) (fun a=>a.1.length<=zD) (fun a=>q6 (jQ a.1 a.2))
theorem Py(a b:List za)(Y:Hp)(Z:Nat)(h:a.length<=zD):hP FTq [.sl 1 (zA a),.sl 1 (zA b)] Y Z=some (q6 (jQ a b),Y,Z):=
 aK (a,b) _ _ rfl (fun x y e=>by obtain⟨f,g⟩:=x;obtain⟨i,j⟩:=y;simp only[zi,zF]at e;obtain⟨c,d⟩:=e;rw[kC (O.sl.inj c).2,kC (O.sl.inj d).2]) h (.inl rfl)
theorem sW:zh prog 30 (hP FTq):=
 Z3 ku func30 false [] fun⟨a,b⟩ c=>⟨zM (zk 2) (by decide),_,BE a b c,qP _⟩
theorem zgJ(s t u v:za)(x y:Int):Qq prog .neq 48 (.agg [str s,str t,int x]) (.agg [str u,str v,int y])=some (q6 (!(decide (s=u)&&(decide (t=v)&&decide (x=y))))):=by simp only[Qq,fl48,wS,qh,zY,gj,zgI];rfl
theorem zad(a b:yp):jQ a b=(decide (a.name=b.name)&&(decide (a.we=b.we)&&decide (a.rest=b.rest))):=by rw[wO];simp only[zn,vM,z6];cases a;cases b;simp
theorem BF(a b:List yp)(s:a.length<=zD):zH C0 f16 [.sl 3 (a.map yp.V),.sl 3 (b.map yp.V)]=some (q6 (jQ a b)):=by
 unfold zD at s;refine zs rfl ?_;by_cases l:a.length=b.length
 case neg=>
  have e:((a.length:Int) != (b.length:Int))=true:=by simp;omega
  have m:jQ a b=false:=YK l;simp[e,m,f16]
 have e:((a.length:Int) != (b.length:Int))=false:=by simp[l]
 simp[e];refine qu (fun k σ Y Z=>σ 0=.sl 3 (a.map yp.V)/\σ 1=.sl 3 (b.map yp.V)/\σ 12=int a.length/\σ 13=int k/\jQ a b=jQ (a.drop k) (b.drop k)) a.length
  ⟨by simp,by simp,by simp,by simp,by simp⟩ ?_
 rintro k σ Y Z u ⟨n,o,f,g,d⟩;by_cases h:k<a.length
 ·have c:k<b.length:=by omega
  have t:=q8 k;obtain⟨p,r⟩:=yb (a[k]);obtain⟨q,i⟩:=yb (b[k]);have j:=zgJ p.name p.we q.name q.we p.rest q.rest;rw[<-zad]at j;rw[Q6 h c,r,i]at d;cases hd:jQ p q
  ·rw[hd]at d j;rw[kV]at d;simp[n,o,f,g,h,c,r,i,yp.V,j,d,f16]
  ·rw[hd]at d j;rw[vN]at d;simp[n,o,f,g,h,c,r,i,yp.V,j,t];exact⟨by omega,d⟩
 ·obtain rfl:k=a.length:=by omega
  rw[zp,l,zp,Qh]at d;simp[n,o,f,g,d,f16]
noncomputable def FLq:zb->Option O:=qt (α:=List yp×List yp) (fun a=>[.sl 3 (a.1.map yp.V),.sl 3 (a.2.map yp.V)]) (fun a=>a.1.length<=zD) (fun a=>q6 (jQ a.1 a.2))
theorem Pz(a b:List yp)(Y:Hp)(Z:Nat)(h:a.length<=zD):hP FLq [.sl 3 (a.map yp.V),.sl 3 (b.map yp.V)] Y Z=some (q6 (jQ a b),Y,Z):=
 aK (a,b) _ _ rfl (fun x y e=>by obtain⟨f,g⟩:=x;obtain⟨i,j⟩:=y;simp only[zi,zF]at e;obtain⟨c,d⟩:=e;rw[jJ (fun _ _=>V2) (O.sl.inj c).2,jJ (fun _ _=>V2) (O.sl.inj d).2]) h (.inl rfl)
theorem sX:zh prog 16 (hP FLq):=
 Z3 ku func16 false [] fun⟨a,b⟩ c=>⟨zM (zk 2) (by decide),_,BF a b c,qP _⟩
theorem zae(a b:y7):jQ a b=((a.name==b.name)&&((a.we==b.we)&&((a.buckets==b.buckets)&&jQ a.zr b.zr))):=by rw[wO];simp only[zn,vM,w7];cases a;cases b;simp
noncomputable def Fshe (n:Nat):zb->Option O:=qt (α:=y7×y7) (fun a=>[.agg a.1.V,.agg a.2.V]) (fun a=>a.1.zr.length<=zD/\0<=n) (fun a=>q6 (jQ a.1 a.2))
theorem IG(n:Nat)(a b:y7)(Y:Hp)(Z:Nat)(h:a.zr.length<=zD/\0<=n):hP (Fshe n) [.agg a.V,.agg b.V] Y Z=some (q6 (jQ a b),Y,Z):=
 wL (Y1:=Y) (show zz Y [.agg a.V,.agg b.V]=some ([.agg a.V,.agg b.V],Y) by simp[y7.V])
  (qj (V:=fun a:y7×y7=>[.agg a.1.V,.agg a.2.V]) (a:=(a,b)) (fun x y e=>by obtain⟨c,d⟩:=x;obtain⟨f,g⟩:=y;simp only[zi,zF,O.agg.injEq]at e;rw[fU e.1,fU e.2]) h) (.inl rfl)
noncomputable abbrev Csh1:Ctx:=qf prog [(30,hP FTq)]
@[simp]theorem qsh1:yH Csh1 30:=wD (by rfl) (zq _ _)
theorem nU(a b:y7)(h:a.zr.length<=zD):zH Csh1 f18 [.agg a.V,.agg b.V]=some (q6 (jQ a b)):=by
 refine zs rfl ?_;have c:=fun Y Z=>Py a.zr b.zr Y Z h
 simp[y7.V,c,zae,BJ,f18]
theorem mU(n:Nat):zh prog 18 (hP (Fshe n)):=
 Z3 (qI (q:=[30]) mixed ⟨sW,fun _=>zq _ _,trivial⟩:AM.Good Csh1 _) func18 false [] fun⟨a,b⟩ c=>⟨zM (zk 2) (by decide),_,nU a b c.1,qP _⟩
theorem zaf{n:Nat}{a b:List y7}(h:(∀p∈a,p.zr.length<=zD)/\a.length<=zD/\b.length<=zD/\0<=n):a.length<=zD:=h.2.1
theorem zag{n:Nat}{a b:List y7}(h:(∀p∈a,p.zr.length<=zD)/\a.length<=zD/\b.length<=zD/\0<=n):b.length<=zD:=h.2.2.1
theorem zdw{n:Nat}{a b:List y7}(h:(∀p∈a,p.zr.length<=zD)/\a.length<=zD/\b.length<=zD/\0<=n){x y:y7}(c:x∈a)(_:y∈b):x.zr.length<=zD/\0<=n:=⟨h.1 x c,jS _⟩
theorem pO{a b:List y7}(h:a.map y7.V=b.map y7.V):a=b:=jJ (fun _ _=>fU) h
noncomputable abbrev Clsh (n:Nat):Ctx:=qf prog [(18,hP (Fshe n))]
theorem zah(n:Nat)(a b:List (y7))(h:(∀p∈a,p.zr.length<=zD)/\a.length<=zD/\b.length<=zD/\0<=n):zH (Clsh n) f17 [.sl 4 (a.map y7.V),.sl 4 (b.map y7.V),.fn (.func 18) [] []]=some (q6 (jQ a b)):=by
 refine zs rfl ?_;have z:=zaf h;have A:=zag h;unfold zD at z A;by_cases l:a.length=b.length
 case neg=>
  have q:jQ a b=false:=YK l;have r:((a.length:Int)==b.length)=false:=qM.2 (by omega);have e:((a.length:Int) != b.length)=true:=by rw[bne,r];rfl
  simp[e,q,f17]
 have e:((a.length:Int) != b.length)=false:=by rw[l];simp
 simp[e];refine qu (fun k σ Y Z=>σ 0=.sl 4 (a.map y7.V)/\σ 1=.sl 4 (b.map y7.V)/\σ 2=.fn (.func 18) [] []/\σ 15=.sl 4 (a.map y7.V)/\σ 16=int a.length/\σ 17=int k/\jQ a b=jQ (a.drop k) (b.drop k)) a.length
  ⟨by simp,by simp,by simp,by simp,by simp[l],by simp,by simp⟩ ?_
 rintro k σ Y Z C ⟨s,t,u,f,g,i,j⟩;by_cases d:k<a.length
 ·have c:k<b.length:=by omega
  have B:=q8 k;obtain⟨x,m⟩:=yb (a[k]);obtain⟨y,v⟩:=yb (b[k]);have w:=fun Y Z=>IG n x y Y Z (by rw[<-m];exact zdw h (zo d) (zo c))
  rw[Q6 d c,m,v]at j;simp only[y7.V]at w;cases o:jQ x y
  ·rw[o,kV]at j;simp[s,t,u,f,g,i,d,c,m,v,y7.V,w,o,j,f17]
  ·rw[o,vN]at j;simp[s,t,u,f,g,i,d,c,m,v,y7.V,w,o,B];exact⟨by omega,j⟩
 ·obtain rfl:k=a.length:=by omega
  rw[zp,l,zp,Qh]at j;simp[s,t,u,f,g,i,j,f17]
noncomputable def Lsh (n:Nat):zb->Option O:=qt (α:=List (y7)×List (y7)) (fun a=>[.sl 4 (a.1.map y7.V),.sl 4 (a.2.map y7.V),.fn (.func 18) [] []]) (fun p=>let a:=p.1;let b:=p.2;(∀p∈a,p.zr.length<=zD)/\a.length<=zD/\b.length<=zD/\0<=n) (fun a=>q6 (jQ a.1 a.2))
theorem PA(n:Nat)(a b:List (y7))(Y:Hp)(Z:Nat)(h:(∀p∈a,p.zr.length<=zD)/\a.length<=zD/\b.length<=zD/\0<=n):hP (Lsh n) [.sl 4 (a.map y7.V),.sl 4 (b.map y7.V),.fn (.func 18) [] []] Y Z=some (q6 (jQ a b),Y,Z):=
 wL (Y1:=Y) (by simp) (qj (V:=fun a:List (y7)×List (y7)=>[O.sl 4 (a.1.map y7.V),.sl 4 (a.2.map y7.V),.fn (.func 18) [] []]) (a:=(a,b)) (fun x y e=>by obtain⟨f,g⟩:=x;obtain⟨i,j⟩:=y;simp only[zi,zF]at e;obtain⟨c,d⟩:=e;injection c with _ c;injection d with _ d;rw[pO c,pO d]) h) (.inl rfl)
theorem PB(n:Nat)(hs:zh prog 18 (hP (Fshe n))):zh prog 17 (hP (Lsh n)):=
 Z3 (qD mixed ⟨hs,trivial⟩:AM.Good (Clsh n) _) func17 false [] fun⟨a,b⟩ c=>⟨zM (zk 3) (by decide),_,zah n a b c,qP _⟩
noncomputable def Fsxe (n:Nat):zb->Option O:=qt (α:=Xp×Xp) (fun a=>[.agg a.1.V,.agg a.2.V]) (fun a=>(vd a.1/\vd a.2)/\0<=n) (fun a=>q6 (jQ a.1 a.2))
theorem IH(n:Nat)(a b:Xp)(Y:Hp)(Z:Nat)(h:(vd a/\vd b)/\0<=n):hP (Fsxe n) [.agg a.V,.agg b.V] Y Z=some (q6 (jQ a b),Y,Z):=
 wL (Y1:=Y) (show zz Y [.agg a.V,.agg b.V]=some ([.agg a.V,.agg b.V],Y) by simp only[zz,oY])
  (qj (V:=fun a:Xp×Xp=>[.agg a.1.V,.agg a.2.V]) (a:=(a,b)) (fun x y e=>by obtain⟨c,d⟩:=x;obtain⟨f,g⟩:=y;simp only[zi,zF,O.agg.injEq]at e;rw[du e.1,du e.2]) h) (.inl rfl)
theorem mV(n:Nat):zh prog 20 (hP (Fsxe n)):=
 Z3 (qI (q:=qse1) mixed ⟨mS zD,fun _=>zq _ _,nS,fun _=>zq _ _,Pw 0 (fC 0),fun _=>zq _ _,trivial⟩:AM.Good Px _) func20 false [] fun⟨a,b⟩ c=>⟨zM (zk 2) (by decide),_,sV a b c.1.1 c.1.2,qP _⟩
theorem zai{n:Nat}{a b:List Xp}(h:((∀p∈a,vd p)/\∀p∈b,vd p)/\a.length<=zD/\b.length<=zD/\0<=n):a.length<=zD:=h.2.1
theorem zaj{n:Nat}{a b:List Xp}(h:((∀p∈a,vd p)/\∀p∈b,vd p)/\a.length<=zD/\b.length<=zD/\0<=n):b.length<=zD:=h.2.2.1
theorem zdx{n:Nat}{a b:List Xp}(h:((∀p∈a,vd p)/\∀p∈b,vd p)/\a.length<=zD/\b.length<=zD/\0<=n){x y:Xp}(c:x∈a)(d:y∈b):(vd x/\vd y)/\0<=n:=⟨⟨h.1.1 x c,h.1.2 y d⟩,jS _⟩
theorem pP{a b:List Xp}(h:a.map Xp.V=b.map Xp.V):a=b:=jJ (fun _ _=>du) h
noncomputable abbrev Csx (n:Nat):Ctx:=qf prog [(20,hP (Fsxe n))]
theorem zak(n:Nat)(a b:List (Xp))(h:((∀p∈a,vd p)/\∀p∈b,vd p)/\a.length<=zD/\b.length<=zD/\0<=n):zH (Csx n) f19 [.sl 13 (a.map Xp.V),.sl 13 (b.map Xp.V),.fn (.func 20) [] []]=some (q6 (jQ a b)):=by
 refine zs rfl ?_;have z:=zai h;have A:=zaj h;unfold zD at z A;by_cases l:a.length=b.length
 case neg=>
  have r:jQ a b=false:=YK l;have s:((a.length:Int)==b.length)=false:=qM.2 (by omega);have e:((a.length:Int) != b.length)=true:=by rw[bne,s];rfl
  simp[e,r,f19]
 have e:((a.length:Int) != b.length)=false:=by rw[l];simp
 simp[e];refine qu (fun k σ Y Z=>σ 0=.sl 13 (a.map Xp.V)/\σ 1=.sl 13 (b.map Xp.V)/\σ 2=.fn (.func 20) [] []/\σ 15=.sl 13 (a.map Xp.V)/\σ 16=int a.length/\σ 17=int k/\jQ a b=jQ (a.drop k) (b.drop k)) a.length
  ⟨by simp,by simp,by simp,by simp,by simp[l],by simp,by simp⟩ ?_
 rintro k σ Y Z C ⟨t,u,v,f,g,i,j⟩;by_cases d:k<a.length
 ·have c:k<b.length:=by omega
  have B:=q8 k;obtain⟨x,m⟩:=yb (a[k]);obtain⟨y,o⟩:=yb (b[k]);have w:=fun Y Z=>IH n x y Y Z (by rw[<-m,<-o];exact zdx h (zo d) (zo c))
  rw[Q6 d c,m,o]at j;simp only[yy]at w;cases q:jQ x y
  ·rw[q,kV]at j;simp[t,u,v,f,g,i,d,c,m,o,yy,w,q,j,f19]
  ·rw[q,vN]at j;simp[t,u,v,f,g,i,d,c,m,o,yy,w,q,B];exact⟨by omega,j⟩
 ·obtain rfl:k=a.length:=by omega
  rw[zp,l,zp,Qh]at j;simp[t,u,v,f,g,i,j,f19]
noncomputable def Lsx (n:Nat):zb->Option O:=qt (α:=List (Xp)×List (Xp)) (fun a=>[.sl 13 (a.1.map Xp.V),.sl 13 (a.2.map Xp.V),.fn (.func 20) [] []]) (fun p=>let a:=p.1;let b:=p.2;((∀p∈a,vd p)/\∀p∈b,vd p)/\a.length<=zD/\b.length<=zD/\0<=n) (fun a=>q6 (jQ a.1 a.2))
theorem PC(n:Nat)(a b:List (Xp))(Y:Hp)(Z:Nat)(h:((∀p∈a,vd p)/\∀p∈b,vd p)/\a.length<=zD/\b.length<=zD/\0<=n):hP (Lsx n) [.sl 13 (a.map Xp.V),.sl 13 (b.map Xp.V),.fn (.func 20) [] []] Y Z=some (q6 (jQ a b),Y,Z):=
 wL (Y1:=Y) (by simp) (qj (V:=fun a:List (Xp)×List (Xp)=>[O.sl 13 (a.1.map Xp.V),.sl 13 (a.2.map Xp.V),.fn (.func 20) [] []]) (a:=(a,b)) (fun x y e=>by obtain⟨f,g⟩:=x;obtain⟨i,j⟩:=y;simp only[zi,zF]at e;obtain⟨c,d⟩:=e;injection c with _ c;injection d with _ d;rw[pP c,pP d]) h) (.inl rfl)
theorem PD(n:Nat)(hs:zh prog 20 (hP (Fsxe n))):zh prog 19 (hP (Lsx n)):=
 Z3 (qD mixed ⟨hs,trivial⟩:AM.Good (Csx n) _) func19 false [] fun⟨a,b⟩ c=>⟨zM (zk 3) (by decide),_,zak n a b c,qP _⟩
abbrev qsb:List Nat:=[16,17,19]
noncomputable abbrev Csb:Ctx:=qf prog [(16,hP FLq),(17,hP (Lsh 0)),(19,hP (Lsx 0))]
theorem zdy:AM.Good Csb (fun g=>qsb.contains g):=qI mixed ⟨sX,fun _=>zq _ _,PB 0 (mU 0),fun _=>zq _ _,PD 0 (mV 0),fun _=>zq _ _,trivial⟩
@[simp]theorem qsb2:yH Csb 17:=wD (by rfl) (zq _ _)
@[simp]theorem qsb3:yH Csb 19:=wD (by rfl) (zq _ _)
theorem zdz(a b:Bk):jQ a b=(jQ a.zr b.zr&&(jQ a.holds b.holds&&jQ a.wP b.wP)):=by rw[wO];simp only[zn,vM];cases a;cases b;simp
theorem PE{b:Bk}(h:b.cb<=zD):b.zr.length<=zD/\b.holds.length<=zD/\(∀p∈b.holds,p.zr.length<=zD)/\b.wP.length<=zD/\∀p∈b.wP,vd p:=by
 have c:b.cb=jh yp.cb b.zr+jh y7.cb b.holds+jh Xp.cb b.wP:=rfl;have n:=yD J8 b.zr;have o:=yD fV b.holds;have r:=yD DG b.wP;refine⟨by omega,by omega,fun q d=>?_,by omega,fun x e=>?_⟩
 ·have g:=jO (f:=y7.cb) d;have i:q.cb=1+q.name.length+q.we.length+jh (fun s:List UInt8=>1+s.length) q.zr:=rfl;have j:=yD (f:=fun s:List UInt8=>1+s.length) (fun _=>by omega) q.zr;omega
 ·have k:=jO (f:=Xp.cb) e;have l:x.cb=x.name.length+x.w9.length+x.flag.length+x.cond.cb+x.we.length+x.ja.length+jh yk.cb x.zQ:=rfl;have a:=yD bY x.zQ;refine⟨by omega,by omega,fun p Y=>?_,by omega⟩;have:=jO (f:=yk.cb) Y;have m:p.cb=1+p.qw.length:=rfl;omega
theorem nV(a b:Bk)(c:a.cb<=zD)(d:b.cb<=zD):zH Csb Tryz.f6 [.agg a.V,.agg b.V]=some (q6 (jQ a b)):=by
 refine zs rfl ?_;obtain⟨e,f,g,h,i⟩:=PE c;obtain⟨p,j,q,k,l⟩:=PE d;have m:=fun Y Z=>Pz a.zr b.zr Y Z e
 have n:=fun Y Z=>PA 0 a.holds b.holds Y Z ⟨g,f,j,zk _⟩
 have o:=fun Y Z=>PC 0 a.wP b.wP Y Z ⟨⟨i,l⟩,h,k,zk _⟩
 simp[Bk.V,m,n,o,zdz,BJ,Tryz.f6]
noncomputable def FBkk:zb->Option O:=qt (α:=Bk×Bk) (fun a=>[.agg a.1.V,.agg a.2.V]) (fun a=>a.1.cb<=zD/\a.2.cb<=zD) (fun a=>q6 (jQ a.1 a.2))
theorem II(a b:Bk)(Y:Hp)(Z:Nat)(h:a.cb<=zD/\b.cb<=zD):hP FBkk [.agg a.V,.agg b.V] Y Z=some (q6 (jQ a b),Y,Z):=
 aK (a,b) _ _ (by simp only[zz,HR]) (fun x y e=>by obtain⟨c,d⟩:=x;obtain⟨f,g⟩:=y;simp only[zi,zF,O.agg.injEq]at e;rw[DF e.1,DF e.2]) h (.inl rfl)
theorem nd:zh prog 6 (hP FBkk):=
 Z3 zdy func6 false [] fun⟨a,b⟩ c=>⟨zM (zk 2) (by decide),_,nV a b c.1 c.2,qP _⟩
noncomputable def txO (b:Bk):O:=.qZ [str (KE b).1,int (KE b).2]
noncomputable abbrev Clt (b:Bk):Ctx:=qf prog [(4,hP (FBk txO)),(5,hP (FLrd b)),(6,hP FBkk)]
theorem zdA(b:Bk):AM.kl False (Clt b) (fun g=>[6].contains g):=qI mixed ⟨Ew,by simp,(Ev b).lax,by simp,nd.lax,fun _=>zq _ _,trivial⟩
theorem PF(b:Bk):XY (Clt b) (fun g=>[6].contains g) 3 Tryz.f3:=yt func3
theorem zal(b:Bk)(e:b.cb<=zD):zH (Clt b) Tryz.f3 [.agg b.V]=some (q6 true):=by
 have h:zD=268435456:=rfl;refine zs rfl ?_;have a:=fun Y Z=>lN txO b Y Z e
 have g:=fun Y Z=>II b b Y Z ⟨e,e⟩
 rw[Qh]at g;simp only[txO]at a;by_cases c:yT b=0
 case neg=>
  have d:KE b=([],yT b):=by unfold KE;rw[zl c]
  rw[d]at a;simp only[Bk.V]at a;simp[Bk.V,a,c,ZR c,bne,Tryz.f3]
 by_cases f:nN b.wP=true
 ·have d:KE b=([],2):=by unfold KE;rw[zj (by simpa using c),zl f]
  rw[d]at a;simp only[Bk.V]at a;simp[Bk.V,a,Tryz.f3]
 by_cases i:500000<(eF b).length
 ·have d:KE b=([],2):=by unfold KE;rw[zj (by simpa using c),zj f,zl i]
  rw[d]at a;simp only[Bk.V]at a;simp[Bk.V,a,Tryz.f3]
 have d:KE b=(eF b,0):=by unfold KE;rw[zj (by simpa using c),zj f,zj i]
 have j:=fun Y Z=>IA b ⟨c,by simpa using f,by omega⟩ e Y Z
 rw[d]at a;simp only[Bk.V]at a j g;simp[Bk.V,a,j,g,Tryz.f3]
end Go.Q
namespace Go.AM
open Go.RowKit Go.WideShapes Go.ChangeShapes
def jR{H:Type}(P:Program):Nat->TypeId->DataW H->zb->Prop
 | 0,_,_,_=>False
 |n+1,t,d,a=>match P.underlying t with
  |some .bool=>∃b,d=.lit (.bool b)/\a=[.v (.bool b)]
  |some (.int k)=>∃i,d=.lit (.int k i)/\a=[.v (.int k i)]/\(Lit.int k i).wf=true
  |some .string=>∃s:ByteArray,d=.lit (.string s.data.toList)/\a=[.v (.string s)]/\s.size<=maxLen
  |some (.slice e)=>∃(es:List zb) (ds:List (DataW H)),((d=.nil/\ds=[])\/∃sp,d=.slice ds sp)/\a=[.sl (P.cellsOf e) es]/\es.length<=maxLen/\Zip (fun c y=>c.length=P.cellsOf e/\jR P n e y c) es ds
  |some (.struct g)=>∃ds:List (DataW H),d=.agg ds/\a.length=P.cellsOf t/\ds.length=g.size/\∀(i:Nat) f y,g[i]?=some f->ds[i]?=some y->jR P n f.type y ((a.drop f.offset).take (P.cellsOf f.type))
  |_=>False
section
variable{H:Type}{V:TypeId×Value->H}{P:Program}{w:World}{sp:Nat->Bool}{held:Bool}
theorem aG{T:List TypeId}(hT:ru P T=true):∀(I:Nat) (t:TypeId) (cs:List Value) (d:DataW H) (ps:List MemPlace),t∈T->DataW.trod V P w 0 sp held I t cs=some (d,ps) ->
  ∃o,Zip (fun z u=>wG w (fun b=>b<w.heap.size) z u/\u.oneCell'=true) o cs/\cs.length=P.cellsOf t/\jR P I t d o
 | 0,t,cs,d,ps,_,h=>by simp[DataW.trod]at h
 |n+1,t,cs,d,ps,ht,h=>by
  have r:=zP.1 hT t ht;have one:∀{z:O} {u:Value},wG w (fun b=>b<w.heap.size) z u->u.oneCell'=true->Zip (fun z u=>wG w (fun b=>b<w.heap.size) z u/\u.oneCell'=true) [z] [u]:=fun E h2=>.cons ⟨E,h2⟩ .nil
  split at r
  ·rename_i B;obtain⟨b,rfl,A⟩:=DataW.trod_bool B h;simp only[gn]at A;exact⟨[.v (.bool b)],one (.v rfl) rfl,by simpa using(by simpa using r:P.cellsOf t=1).symm,by unfold jR;rw[B];exact⟨b,A.1,rfl⟩⟩
  ·rename_i k B;obtain⟨i,rfl,A,hwf⟩:=DataW.trod_int B h;simp only[gn]at A;exact⟨[.v (.int k i)],one (.v rfl) rfl,by simpa using(by simpa using r:P.cellsOf t=1).symm,by unfold jR;rw[B];exact⟨i,A.1,rfl,hwf⟩⟩
  ·rename_i B;obtain⟨s,rfl,A,hs⟩:=DataW.trod_string B h;simp only[gn]at A;exact⟨[.v (.string s)],one (.v rfl) rfl,by simpa using(by simpa using r:P.cellsOf t=1).symm,by unfold jR;rw[B];exact⟨s,A.1,rfl,hs⟩⟩
  ·rename_i e B;simp only[zn,w7,z6,List.contains_iff_mem]at r;obtain⟨⟨U,heT⟩,hce⟩:=r;rcases DataW.trod_slice B h with⟨rfl,A⟩|⟨a,len,cap,g,rest,m,hm,rfl,A,_,hlc,hcm,hel,W,_,_⟩
   ·simp only[gn]at A;refine⟨[.sl (P.cellsOf e) []],one ?_ rfl,by simp[U],by unfold jR;rw[B];exact⟨[],[],.inl ⟨A.1,rfl⟩,rfl,by simp,.nil⟩⟩;exact wG.sl (es:=[]) (s:=P.cellsOf e) (fun _ _=>undef) (by simp) (by simp) (by simp[maxLen]) (by simp) (by simp) (by simp)
   ·obtain rfl:m=n:=by omega
    simp only[gn]at A;have X:∀i (l:i<len),∃cs',w.cells? 0 (a.add (i*P.cellsOf e)) (P.cellsOf e)=some cs'/\DataW.trod V P w 0 sp held m e cs'=some (g[i]'(by omega)):=by
     intro i l;have E:=W i l;have h2:g[i]?=some (g[i]'(by omega)):=zm (by omega);rw[h2]at E;cases hc:w.cells? 0 (a.add (i*P.cellsOf e)) (P.cellsOf e)with
     |none=>simp[hc]at E
     |some cs'=>exact⟨cs',rfl,by simpa[hc]using E⟩
    have hch:∀i,∃q:List Value×zb,∀l:i<len,w.cells? 0 (a.add (i*P.cellsOf e)) (P.cellsOf e)=some q.1/\Zip (fun z u=>wG w (fun b=>b<w.heap.size) z u/\u.oneCell'=true) q.2 q.1/\q.1.length=P.cellsOf e/\jR P m e (g[i]'(by omega)).1 q.2:=by
     intro i;by_cases l:i<len
     ·obtain⟨cs',g1,g3⟩:=X i l;obtain⟨o,q1,q2,q3⟩:=aG hT m e cs' (g[i]'(by omega)).1 (g[i]'(by omega)).2 heT (by rw[g3]);exact⟨(cs',o),fun _=>⟨g1,q1,q2,q3⟩⟩
     ·exact⟨([],[]),fun h=>absurd h l⟩
    let q:Nat->List Value×zb:=fun i=>Classical.choose (hch i)
    have hq:∀i (l:i<len),w.cells? 0 (a.add (i*P.cellsOf e)) (P.cellsOf e)=some (q i).1/\Zip (fun z u=>wG w (fun b=>b<w.heap.size) z u/\u.oneCell'=true) (q i).2 (q i).1/\(q i).1.length=P.cellsOf e/\jR P m e (g[i]'(by omega)).1 (q i).2:=fun i=>yz (hch i)
    have D:((List.range len).map fun i=>(q i).2).length=len:=by simp
    have J:∀(i:Nat) (c:zb),((List.range len).map fun i=>(q i).2)[i]?=some c->i<len/\c=(q i).2:=by
     intro i c l;have p:i<len:=by have:=(zd.1 l).1;simpa using this
     rw[qq,xG p]at l;simp at l;exact⟨p,l.symm⟩
    have key:wG w (fun b=>b<w.heap.size) (.sl (P.cellsOf e) ((List.range len).map fun i=>(q i).2)) (.slice (some a) ((List.range len).map fun i=>(q i).2).length cap):=by
     refine .sl (fun i j=>((q i).1[j]?).getD undef) (by simp) (by rw[D];exact hlc) hcm (fun c hc=>?_) (fun i j c z l K=>?_) (fun i j c z l K=>?_)
     ·obtain⟨i,l,rfl⟩:=zZ.1 hc;have E:=hq i (yK.1 l);rw[E.2.1.1,E.2.2.1]
     ·obtain⟨p,rfl⟩:=J i c l;obtain⟨g1,L,g3,_⟩:=hq i p;have M:j<(q i).1.length:=by rw[<-L.1];exact(zd.1 K).1
      have C:(q i).1[j]?=some ((q i).1[j]):=zm M;obtain⟨_,g5,g6⟩:=World.cells?_some g1;have x:=g6 j (by omega);rw[aP]at x;rw[C]at x;refine⟨a,rfl,?_,?_,?_⟩
      ·have:=block_lt_of_cell x;rwa [Qz]at this
      ·rw[x,C];rfl
      ·rw[C];exact(L.2 j z _ K C).2
     ·obtain⟨p,rfl⟩:=J i c l;obtain⟨g1,L,g3,_⟩:=hq i p;have M:j<(q i).1.length:=by rw[<-L.1];exact(zd.1 K).1
      have C:(q i).1[j]?=some ((q i).1[j]):=zm M;rw[C];exact(L.2 j z _ K C).1
    rw[D]at key;refine⟨[.sl (P.cellsOf e) ((List.range len).map fun i=>(q i).2)],one key rfl,by simp[U],?_⟩;unfold jR;rw[B];refine⟨_,g.map (·.1),.inr ⟨_,A.1⟩,rfl,by rw[D];omega,by rw[D,wx,hel],fun i c y l F=>?_⟩;obtain⟨p,rfl⟩:=J i c l;have E:=hq i p;rw[qq,zm (by omega)]at F;simp only[zY,qV]at F;subst F;exact⟨by rw[E.2.1.1,E.2.2.1],E.2.2.2⟩
  ·rename_i fs B;simp only[zn,w7,zP,List.contains_iff_mem]at r;obtain⟨N,hfT⟩:=r;obtain⟨xs,m,hm,A,hcl,La,hf⟩:=DataW.trod_struct B h;obtain rfl:m=n:=by omega
   simp only[gn]at A;obtain⟨o,g1,L,g3⟩:=ot (P:=P) (R:=fun z u=>wG w (fun b=>b<w.heap.size) z u/\u.oneCell'=true) (Q:=fun f o=>∀(i:Nat) y,fs[i]?=some f->(xs.map (·.1))[i]?=some y->jR P m f.type y o) fs.toList 0 (P.cellsOf t) cs N hcl (fun f G=>by
    obtain⟨i,l⟩:=Qk G;have S:=hf i f (by simpa using l);have p:i<xs.length:=by rw[La];have:=(zd.1 l).1;simpa using this
    rw[zm p]at S;obtain⟨o,q1,_,q3⟩:=aG hT m f.type _ (xs[i]).1 (xs[i]).2 (hfT f G) S;refine⟨o,q1,fun k y hk F=>?_⟩;have hfk:=hf k f hk;rw[S]at hfk;rw[qq,<-hfk]at F;simp only[zY,qV]at F;subst F;exact q3)
   refine⟨o,⟨by omega,fun j z u K hu'=>L j z u K (by simpa using hu')⟩,hcl,?_⟩;unfold jR;rw[B];refine⟨xs.map (·.1),A.1,by omega,by rw[wx,La],fun i f y l F=>?_⟩;have G:f∈fs.toList:=by
    have:fs.toList[i]?=some f:=by simpa using l
    exact zE this
   have:=(g3 f G).2 i y l F;simpa using this
  ·cases r
theorem Ex{T:List TypeId}(g:ru P T=true){t:TypeId}{v:Value}{d:DataW H}{e:List MemPlace}{r:Reach}{base:Nat}{i:Array Field}(k:t∈T)(l:P.underlying t=some (.struct i))(m:Value.okWide P w r base t v)(h:DataW.Trod V P w 0 sp held t v d e) :
  ∃(n:Nat) (a:zb),jR P n t d a/\wG w (fun b=>b<w.heap.size) (.agg a) v:=by
 obtain⟨n,o⟩:=h;obtain⟨a,f,y,p⟩:=aG g n t v.cells.toList d e k o;obtain⟨cs,rfl,q⟩:=okWide_struct l m;exact⟨n,a,p,.agg (by have:=f.1;simpa[Value.cells]using this) (fun j s u x c=>(f.2 j s u x (by simpa[Value.cells]using c)).1)⟩
end
end Go.AM
namespace Go.AM
def Qi(P:Program)(t:TypeId):Option (List (TypeId×Nat×Nat)):=match P.underlying t with
 |some (.struct a)=>some (a.toList.map fun f=>(f.type,f.offset,P.cellsOf f.type))
 |_=>none
def Xa{H:Type}(P:Program)(n:Nat)(pvs:zb):List (TypeId×Nat×Nat)->List (DataW H)->Prop
 |[],[]=>True
 |(t,o,c)::l,y::ds=>jR P n t y ((pvs.drop o).take c)/\Xa P n pvs l ds
 |_,_=>False
section
variable{H:Type}{P:Program}{n:Nat}{t:TypeId}{d:DataW H}{pvs:zb}
theorem mW(n:Nat)(pvs:zb):∀(a:List Field) (ds:List (DataW H)),ds.length=a.length->(∀(i:Nat) f y,a[i]?=some f->ds[i]?=some y->jR P n f.type y ((pvs.drop f.offset).take (P.cellsOf f.type)))->Xa P n pvs (a.map fun f=>(f.type,f.offset,P.cellsOf f.type)) ds
 |[],[],_,_=>trivial
 |f::a,y::ds,b,h=>⟨h 0 f y rfl rfl,mW n pvs a ds (by simpa using b) fun i f' c d e=>h (i+1) f' c (by simpa using d) (by simpa using e)⟩
theorem cy{l:List (TypeId×Nat×Nat)}(hs:Qi P t=some l):∃a,P.underlying t=some (.struct a)/\l=a.toList.map fun f=>(f.type,f.offset,P.cellsOf f.type):=by
 unfold Qi at hs;split at hs
 ·rename_i a b;injection hs with hs
  exact⟨a,b,hs.symm⟩
 ·cases hs
theorem jY{l:List (TypeId×Nat×Nat)}(hs:Qi P t=some l)(h:jR P n t d pvs):∃(m:Nat) (ds:List (DataW H)),n=m+1/\d=.agg ds/\pvs.length=P.cellsOf t/\Xa P m pvs l ds:=by
 obtain⟨a,b,rfl⟩:=cy hs;cases n with
 |zero=>exact h.elim
 |succ m=>unfold jR at h;rw[b]at h;obtain⟨ds,c,e,g,j⟩:=h;exact⟨m,ds,rfl,c,e,mW m pvs a.toList ds (by simpa using g) fun i f y k o=>j i f y (by simpa using k) o⟩
theorem ql{o c:Nat}{l:List (TypeId×Nat×Nat)}{ds:List (DataW H)}(h:Xa P n pvs ((t,o,c)::l) ds):∃y a,ds=y::a/\jR P n t y ((pvs.drop o).take c)/\Xa P n pvs l a:=by
 cases ds with
 |nil=>exact h.elim
 |cons y a=>exact⟨y,a,rfl,h.1,h.2⟩
theorem kx{ds:List (DataW H)}(h:Xa P n pvs [] ds):ds=[]:=by
 cases ds with
 |nil=>rfl
 |cons y a=>exact h.elim
theorem kQ{k:IntKind}(a:P.underlying t=some (.int k))(h:jR P n t d pvs):∃i,d=.lit (.int k i)/\pvs=[.v (.int k i)]/\(Lit.int k i).wf=true:=by
 cases n with
 |zero=>exact h.elim
 |succ m=>unfold jR at h;rw[a]at h;exact h
theorem yI(a:P.underlying t=some .string)(h:jR P n t d pvs):∃l:za,d=.lit (.string l)/\pvs=[str l]/\l.length<=maxLen:=by
 cases n with
 |zero=>exact h.elim
 |succ m=>unfold jR at h;rw[a]at h;obtain⟨s,b,c,e⟩:=h;exact⟨s.data.toList,b,by rw[c],e⟩
theorem ka{e:TypeId}(a:P.underlying t=some (.slice e))(h:jR P n t d pvs):∃(m:Nat) (es:List zb) (ds:List (DataW H)),n=m+1/\((d=.nil/\ds=[])\/∃b,d=.slice ds b)/\pvs=[.sl (P.cellsOf e) es]/\es.length<=maxLen/\Zip (fun c y=>c.length=P.cellsOf e/\jR P m e y c) es ds:=by
 cases n with
 |zero=>exact h.elim
 |succ m=>unfold jR at h;rw[a]at h;obtain⟨es,ds,f,g,i,j⟩:=h;exact⟨m,es,ds,rfl,f,g,i,j⟩
theorem kg{α:Type}{V:α->zb}{w:α->Nat}{b:DataW H->Nat}{R:zb->DataW H->Prop}(d:∀c y,R c y->∃a,c=V a/\w a<=b y):∀{es:List zb} {ds:List (DataW H)},Zip R es ds->∃l:List α,es=l.map V/\(l.map w).sum<=(ds.map b).sum
 |[],[],_=>⟨[],rfl,by simp⟩
 |[],_::_,h=>by have:=h.1;simp at this
 |_::_,[],h=>by have:=h.1;simp at this
 |c::es,y::ds,h=>by obtain⟨a,rfl,k⟩:=d c y (h.2 0 c y rfl rfl);obtain⟨l,rfl,m⟩:=kg d (es:=es) (ds:=ds) ⟨by have:=h.1;simpa using this,fun i e f g j=>h.2 (i+1) e f (by simpa using g) (by simpa using j)⟩;exact⟨a::l,rfl,by simp;omega⟩
end
end Go.AM
