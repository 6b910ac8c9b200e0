/- Lemmas. -/
import Derived.Shelf.SlSortCmp.WholeK
import Derived.Shelf.SlSortCmp.NoneTotal
import Derived.Test.YtgkaeihkflnckaaGreatDoorProg
import Derived.Lib.TrimByte
import Derived.Test.YtgkaeihkflnckaaGreatDoorG10
set_option maxRecDepth 100000
set_option maxHeartbeats 4000000
open Go Proofs Proofs.YtgkaeihkflnckaaGreatDoor Proofs.Tryz RowKit AM SpanLaw Q Zz
open Go.IntKind renaming i64→i6
namespace Go.Q
theorem Ac:∀(c:List za) (l:List ba) (n:Nat),jO c=some l->(∀w∈c,w.length<=n)->l.length<=c.length/\∀a∈l,a.2.length<=n
 |[],l,n,h,_=>by simp only[jO]at h;injection h with h;subst h;simp
 |[w],l,n,h,d=>by
  simp only[jO]at h;split at h
  ·cases h
  ·injection h with h;subst h;refine⟨by simp,fun a b=>?_⟩;rw[wM]at b;rw[b];exact zw (KH wo w) (d w (by simp))
 |w::x::c,l,n,h,d=>by
  simp only[jO]at h;split at h
  ·cases e:jO c with
   |none=>rw[e]at h;cases h
   |some l'=>
    rw[e]at h;simp only[zC,z6]at h;subst h;obtain⟨i,f⟩:=Ac c l' n e fun y g=>d y (by simp[g])
    refine⟨by simp;omega,fun a b=>?_⟩;rcases zv.1 b with rfl|b
    ·exact d x (by simp)
    ·exact f a b
  ·cases e:jO (x::c)with
   |none=>rw[e]at h;cases h
   |some l'=>
    rw[e]at h;simp only[zC,z6]at h;subst h;obtain⟨i,f⟩:=Ac (x::c) l' n e fun y g=>d y (by simp[zv.1 g])
    refine⟨by simp at i⊢;omega,fun a b=>?_⟩;rcases zv.1 b with rfl|b
    ·exact zw (KH wo w) (d w (by simp))
    ·exact f a b
theorem C4{t:za}{l:List ba}(h:jO (yO t)=some l):l.length<=t.length+1/\∀a∈l,a.2.length<=t.length:=by
 have c:wq (qc t [32])=yO t:=fC t;obtain⟨e,d⟩:=Ac _ l t.length h fun w b=>by rw[<-c]at b;exact vr (ah.1 b).1
 have f:(yO t).length<=t.length+1:=by rw[<-c];exact zw (ic _ _) (xQ (by simp))
 exact⟨by omega,d⟩
theorem sK{o:za}{p:Part}(a:pJ o)(Y:p.ok)(b:Qw p.pre):yW (bO o p).1/\(bO o p).1.length<=1:=by
 obtain⟨c,d⟩:=J1 (CS a Y b);unfold bO;by_cases h:(vu (JW o p)).2=true
 ·rw[zd h];exact⟨d,c⟩
 ·rw[zc h];exact⟨(fun s hs=>by cases hs),by simp⟩
theorem UJ(a b:za):((⟨a.toArray⟩:ByteArray)==⟨b.toArray⟩)=decide (a=b):=by show(a.toArray==b.toArray)=_;by_cases h:a=b<;>simp[h]
theorem PU(a b c d:za):Qj prog .eql 232 (.agg [str a,str b]) (.agg [str c,str d])=some (qS (decide (a=c)&&decide (b=d))):=by simp only[Qj,zfm,wX,zC,zhY,UJ]
noncomputable def Ya (t:za):List qK×Int:=match Vx t with
 |none=>([],10)
 |some m=>(m.1,if m.2=true then 0 else 1)
noncomputable def YP (t:za):O:=.wG [.sl 11 (zW (Ya t).1),int (Ya t).2]
def AltI(l:List ba)(k:Nat)(Y:Hp)(Z:Nat)(v w:O):Prop:=∃o a,dZ Y Z v o/\yW o/\o.length<=k+1/\w=int (if a=true then 0 else 1)/\ZF [w5 qU] true l=ZF o a (l.drop k)
noncomputable abbrev zbh:Ctx:=zR prog [(224,zh false [] (Nn pL)),(225,zh false [] FBt2),(226,qn [] (YK eV)),(227,zh false [] (FS yh)),(180,zh false [] (YY A3)),(228,qn [.a,.g jY] Ux),(183,vE [.a,.s 11 jn,.s 11 jn] Mm)]
theorem PW:AM.Good zbh (fun g=>[225].contains g):=qw mixed ⟨u5,by simp,nT,fun _=>zt _ _,dq,by simp,pG,by simp,Z2,by simp,nM,by simp,nV,by simp,trivial⟩
theorem Mo(t:za)(ht:t.length+1<=zu):∃r0,zq zbh f182 [str t]=some r0/\qX r0 (YP t):=by
 refine yB (sh:=.s 11 jn) rfl ?_;have hwo:∀(Y:Hp) (Z:Nat),zh false [] (Nn pL) [str t] Y Z=some (pL t,Y,Z):=fun Y Z=>Ja t _ _ rfl (fun a b e=>wR (by injection e)) (by show t.length<=zu;omega) (.inr (by simp))
 refine QA (fun st=>st.U 0=str t) (by simp) ?_;rintro⟨U,Y,Z⟩ h0;simp only at h0;refine QA (fun st=>st.U 4=.sl 2 (Q6 (iI t).1)/\st.U 5=qS (iI t).2) (by simp[h0,hwo,pL]) ?_;clear h0 U Y Z;rintro⟨U,Y,Z⟩ ⟨y,M⟩;simp only at y M;cases E:jO (yO t)with
 |none=>
  have hr:iI t=([],false):=by unfold iI;rw[E]
  have H:Ya t=([],10):=by unfold Ya Vx;rw[E]
  rw[hr]at y M;simp[y,M,qi,YP,H,zW,f182]
 |some l=>
 have hr:iI t=(l,!l.isEmpty):=by unfold iI;rw[E]
 rw[hr]at y M;simp only at y M;by_cases N:l=[]
 ·have H:Ya t=([],10):=by unfold Ya Vx;rw[E];simp only;rw[zd N]
  subst N;simp[y,M,qi,YP,H,zW,f182]
 have I:Vx t=match Xh l with
  |some a=>match Qe a.1,Qe a.2 with
   |some p,some q=>some (dv p q)
   |_,_=>none
  |none=>ZF [w5 qU] true l:=by unfold Vx;rw[E];simp only;rw[zc N];rfl
 have S:l.isEmpty=false:=by cases l<;>simp at N⊢
 rw[S]at M;obtain⟨hll,T⟩:=C4 E;have hsg:=nK _ l E;have j:=nO l;unfold zu at ht;refine QA (fun st=>st.U 4=.sl 2 (Q6 l)) (by simp[M,y]) ?_;clear y M U Y Z;rintro⟨U,Y,Z⟩ y;simp only at y;refine QA (fun st=>st.U 4=.sl 2 (Q6 l)/\Xh l=none) ?_ ?_
 ·by_cases h3:l.length=3
  ·match l,h3 with
   |[a,b,c],_=>
   obtain⟨X,R⟩:=a;obtain⟨b1,b2⟩:=b;obtain⟨c1,c2⟩:=c;have hd:Xh [(X,R),(b1,b2),(c1,c2)]=if(b1,b2)=(([],[45]):ba)/\X=[]/\c1=[]then some (R,c2)else none:=rfl
   have ha2:R.length<=t.length:=T (X,R) (by simp);have hc2:c2.length<=t.length:=T (c1,c2) (by simp);have hbt:=fun Y Z=>Mc R c2 Y Z ⟨by unfold zu;omega,by unfold zu;omega⟩
   by_cases k1:b1=[]
   ·subst k1;by_cases k2:b2=[45]
    ·subst k2;by_cases k3:X=[]
     ·subst k3;by_cases k4:c1=[]
      ·subst k4;rw[zd ⟨rfl,rfl,rfl⟩]at hd;rw[hd]at I;have H:Ya t=nS R c2:=by unfold Ya nS;rw[I];simp only;cases h1:Qe R<;>cases h2:Qe c2<;>simp
       have hfx:=JY (nS R c2).1;simp only[Sh.oU,O.sl.injEq,true_and]at hfx;simp only[Xj]at hbt;simp[y,Q6,hbt,PU,z8,qB,qi,YP,H,hfx,f182]
      ·rw[zc (fun h=>k4 h.2.2)]at hd;have e4:c1.isEmpty=false:=by cases c1 with
        |nil=>exact absurd rfl k4
        |cons=>rfl
       simp[y,Q6,PU,z8,qB,e4,hd]
     ·rw[zc (fun h=>k3 h.2.1)]at hd;have e3:X.isEmpty=false:=by cases X with
       |nil=>exact absurd rfl k3
       |cons=>rfl
      simp[y,Q6,PU,z8,qB,e3,hd]
    ·rw[zc (fun h=>k2 (by have:=h.1;injection this))]at hd;simp[y,Q6,PU,z8,qB,k2,hd]
   ·rw[zc (fun h=>k1 (by have:=h.1;injection this))]at hd;simp[y,Q6,PU,z8,qB,k1,hd]
  ·have hd:Xh l=none:=by
    unfold Xh;split
    ·rename_i a b c;exact absurd rfl h3
    ·rfl
   have hn3:((l.length:Int)==3)=false:=by rw[wN];omega
   simp[y,j,hn3,hd]
 clear y U Y Z;rintro⟨U,Y,Z⟩ ⟨y,hd⟩;simp only at y;rw[hd]at I;simp only at I;have S:∀(Y:Hp) (Z:Nat),qn [] (YK eV) [] Y Z=some (.agg [int qU.v.a,int qU.v.b,int qU.v.c,.sl 1 (zy qU.v.pre),qS qU.after],Y,Z):=fun Y Z=>Q3 _ Y Z
 simp[y,j,S,z8,qB,zp,zE,zo];refine zP (fun k U Y Z=>U 60=.sl 2 (Q6 l)/\U 61=int l.length/\U 62=int k/\AltI l k Y Z (U 6) (U 7)) l.length
  ⟨by simp,by simp,by simp,[w5 qU],true,.inr ⟨Z,[[int qU.v.a,int qU.v.b,int qU.v.c,.sl 1 (zy qU.v.pre),qS qU.after,int 0,int 0,int 0,.nil,qS false,qS true]],by simp,by simp,by simp,by simp[zW,w5,qK.V,Cut.V,QM,zy]⟩,(Qa kZ).2,by simp,by simp,by simp⟩ ?_
 clear y U Y Z;rintro k U Y Z hk ⟨m,r,u,o,ok,hM,P,hol,h7,g⟩;by_cases d:k<l.length
 ·have J:=qG k;obtain⟨a,ha⟩:=jc (l[k]);have W:a∈l:=by rw[<-ha];exact zj d
  have z:∀h:k<(Q6 l).length,(Q6 l)[k]=[str a.1,str a.2]:=fun h=>by simp[Q6,ha]
  have hal:=T a W;have K:=fun Y Z=>ki yh a.2 Y Z (by unfold zu;omega)
  have D:=fun Y Z=>j6 A3 a.2 Y Z (by unfold zu;omega)
  simp only[A3,wy.V]at D;rw[ze d,ha]at g;simp only[ZF]at g;have hie:a.1≠[]->a.1.isEmpty=false:=fun h=>by cases he:a.1 with
   |nil=>exact absurd he h
   |cons=>rfl
  by_cases w:a.1=[]/\yh a.2=true
  ·rw[zd w]at g;obtain⟨f,F⟩:=w;simp[m,r,u,d,j,z,f,K,F,J];exact⟨by omega,o,ok,hM.keep (by omega) fun id hid n e=>zx _ _ _ _ (by omega),P,by omega,h7,g⟩
  ·rw[zc w]at g;have hM1:∀b1 b2,dZ (qv (qv Y Z b1) (Z+1) b2) (Z+1+1) (U 6) o:=fun b1 b2=>hM.keep (by omega) fun id hid n e=>by rw[zx _ _ _ _ (by omega),zx _ _ _ _ (by omega)]
   have n1:¬Z=Z+1:=by omega
   cases L:Qe a.2 with
   |none=>
    rw[L]at g;simp only at g;have H:Ya t=([],10):=by unfold Ya;rw[I,g]
    have A:=nR L;by_cases f:a.1=[]
    ·have F:yh a.2=false:=by cases G:yh a.2;rfl;exact absurd ⟨f,G⟩ w
     rcases A with A|A
     ·simp[m,r,u,d,j,z,f,K,F,D,A,qi,YP,H,zW,f182]
     ·cases G:(WC a.2).2.2<;>simp[m,r,u,d,j,z,f,K,F,D,A,G,qi,YP,H,zW,f182]
    ·have f:=hie f;rcases A with A|A
     ·simp[m,r,u,d,j,z,f,D,A,qi,YP,H,zW,f182]
     ·cases G:(WC a.2).2.2<;>simp[m,r,u,d,j,z,f,D,A,G,qi,YP,H,zW,f182]
   |some p=>
    rw[L]at g;simp only at g;obtain⟨p1,p2,p3,p4,p5,p6,p7⟩:=nQ L;obtain⟨_,_,q3,q4⟩:=Qb L;have Q:=wU p3;rw[<-p2]at p6 p7;have B:=fun Y Z=>L9 a.1 (WC a.2).1 (WC a.2).2.1 Y Z (hsg a W) p5 ⟨p6,p7⟩
    simp only[W9,<-p4,wy.V]at B;obtain⟨g1,g2⟩:=sK (hsg a W) q3 q4;have hlm:=Yx and o (bO a.1 p).1;obtain⟨x,Y',Z',C,hX,hnx',_⟩:=C3 1 and zfM (hM1 (some ⟨232,2,false,[[str a.1,str a.2]]⟩) (some ⟨135,4,false,[(WC a.2).1.V]⟩)) (P.small (by unfold zu;omega)) (g1.small (by unfold zu;omega)) P g1;simp only[wy.V]at C;have i:∀n:Int,n=(if(ok&&(bO a.1 p).2)=true then 0 else 1)->AltI l (k+1) Y' Z' x (int n):=fun n hn=>⟨_,_,hX,kC and P g1,by omega,by rw[hn],g⟩
    by_cases f:a.1=[]
    ·have F:yh a.2=false:=by cases G:yh a.2;rfl;exact absurd ⟨f,G⟩ w
     rw[f]at B C i z;cases G:(bO [] p).2
     ·rw[G]at B i;simp[m,r,u,d,j,z,K,F,D,p1,Q,n1,B,C,J];exact⟨by omega,i 1 (by simp)⟩
     ·rw[G]at B i;simp[m,r,u,d,j,z,K,F,D,p1,Q,n1,B,C,J];exact⟨by omega,by rw[h7];exact i _ (by simp)⟩
    ·have f:=hie f;cases G:(bO a.1 p).2
     ·rw[G]at B i;simp[m,r,u,d,j,z,f,D,p1,Q,n1,B,C,J];exact⟨by omega,i 1 (by simp)⟩
     ·rw[G]at B i;simp[m,r,u,d,j,z,f,D,p1,Q,n1,B,C,J];exact⟨by omega,by rw[h7];exact i _ (by simp)⟩
 ·obtain rfl:k=l.length:=by omega
  rw[zn]at g;simp only[ZF]at g;have H:Ya t=(o,if ok=true then 0 else 1):=by unfold Ya;rw[I,g]
  rcases hM with⟨h6,rfl⟩|⟨id,xs,hid,h6,G,hxs⟩
  ·simp[m,r,u,h6,h7,qi,YP,H,zW,f182]
  ·simp[m,r,u,h6,h7,G,hxs,qi,YP,H,f182]
theorem Gs:zg prog 182 (zh false [] (YY YP)):=
 Qq (fn:=f182) PW (qD func182) false [] _ fun args r h w S vs a=>by obtain⟨l,rfl,Y,rfl⟩:=zN h;obtain⟨b,c,d⟩:=Mo l Y;exact⟨_,b,a,by simp[f182],c,d⟩
theorem bT:∀(l:List ba) (out:List qK) (d:Bool) (m:List qK×Bool),(∀a∈l,pJ a.1)->yW out->ZF out d l=some m->yW m.1/\m.1.length<=out.length+l.length
 |[],out,d,m,_,h,e=>by
  simp only[ZF]at e;injection e with e
  subst e;exact⟨h,by simp⟩
 |a::l,out,d,m,hs,h,e=>by
  simp only[ZF]at e;have c:∀b∈l,pJ b.1:=fun b i=>hs b (by simp[i])
  split at e
  ·obtain⟨f,j⟩:=bT l out d m c h e;exact⟨f,by simp;omega⟩
  ·cases g:Qe a.2 with
   |none=>rw[g]at e;cases e
   |some p=>rw[g]at e;simp only at e;obtain⟨_,_,k,n⟩:=Qb g;obtain⟨o,r⟩:=sK (hs a (by simp)) k n;have q:=Yx and out (bO a.1 p).1;obtain⟨f,j⟩:=bT l _ _ m c (kC and h o) e;exact⟨f,by simp;omega⟩
theorem Mp{t:za}{m:List qK×Bool}(h:Vx t=some m):yW m.1/\m.1.length<=t.length+2:=by
 unfold Vx at h;cases b:jO (yO t)with
 |none=>rw[b]at h;cases h
 |some l=>
  rw[b]at h;simp only at h;split at h
  ·cases h
  ·cases hd:Xh l with
   |none=>rw[hd]at h;simp only at h;obtain⟨d,e⟩:=bT l _ _ m (nK _ l b) (Qa kZ).2 h;have:=(C4 b).1;exact⟨d,by simp at e;omega⟩
   |some a=>
    rw[hd]at h;simp only at h;cases Y:Qe a.1 with
    |none=>rw[Y]at h;simp at h
    |some p=>
     cases c:Qe a.2 with
     |none=>rw[Y,c]at h;simp at h
     |some q=>
      rw[Y,c]at h;simp only[z6]at h;obtain⟨_,_,i,f⟩:=Qb Y;obtain⟨_,_,j,g⟩:=Qb c;rw[<-h];unfold dv;split
      ·have:=WB (mX f) (XQ g);exact⟨this.2,by simp only;omega⟩
      ·exact⟨(fun s hs=>by cases hs),by simp⟩
def RrI(a:List za)(k:Nat)(Y:Hp)(Z:Nat)(v w:O):Prop:=∃o b,dZ Y Z v o/\yW o/\o.length<=k*500/\w=int (if b=true then 0 else 1)/\WE [] true a=WE o b (a.drop k)
noncomputable abbrev Crrr:Ctx:=zR prog [(162,yR [] FSp),(182,zh false [] (YY YP)),(183,vE [.a,.s 11 jn,.s 11 jn] Mm)]
theorem UK:Gd Crrr:=zU mixed ⟨Ww,Gs,nV,trivial⟩
theorem iJ(t:za)(ht:t.length+1<=zu):∃P,zq Crrr f141 [str t]=some P/\qX P (na t):=by
 refine yB (sh:=.s 11 jn) rfl ?_;have J:na t=.wG [.sl 11 (zW (WG t).1),int (WG t).2]:=by rw[uZ];rfl
 rw[J];by_cases j:(400:Int)<t.length
 ·have W:WG t=([],2):=by unfold WG;rw[zd j]
  simp[j,W,zW,qi,f141]
 have B:=fun Y Z=>ZW t [124,124] Y Z (by omega) (by decide) (by decide)
 obtain⟨a,d⟩:=jc (qc t [124,124]);have K:∀p∈a,p.length<=400:=fun p Y=>by have:=vr (by rw[d];exact Y);omega
 have X:a.length<=401:=by have:=xQ (s:=t) (sep:=[124,124]) (by simp);rw[d]at this;omega
 have b:WG t=match WE [] true a with
  |none=>([],10)
  |some o=>if o.2=false then([],1)else if(100:Int)<o.1.length then([],2)else(o.1,0):=by unfold WG;rw[zc j,d];rfl
 rw[d]at B;simp[j,B];refine zP (fun k U Y Z=>U 14=.own 0 0 a.length/\U 15=int a.length/\U 16=int k/\1<=Z/\Y 0=some (Kz a)/\RrI a k Y Z (U 4) (U 5)) a.length
  ⟨by simp,by simp,by simp,by simp,by simp,[],true,.inl ⟨by simp,rfl⟩,(fun s hs=>by cases hs),by simp,by simp,by simp⟩ ?_
 rintro k U Y Z hk ⟨g,h,i,hnx,Q,o,R,G,y,hol,z,e⟩;by_cases f:k<a.length
 ·have C:=qG k;obtain⟨s,hs⟩:=jc (a[k]);have hsl:s.length<=400:=K s (by rw[<-hs];exact zj f);have c:=fun Y Z=>j6 YP s Y Z (by unfold zu;omega)
  have u:Y 0=some ⟨9,1,true,a.map fun p=>[str p]⟩:=Q;rw[ze f,hs]at e;simp only[WE]at e;cases q:Vx s with
  |none=>
   rw[q]at e;simp only at e;rw[e]at b;simp only at b;have L:Ya s=([],10):=by unfold Ya;rw[q]
   simp only[YP,L]at c;simp[g,h,i,f,u,hs,c,b,zW,qi,f141]
  |some m=>
   rw[q]at e;simp only at e;have L:Ya s=(m.1,if m.2=true then 0 else 1):=by unfold Ya;rw[q]
   obtain⟨M,g2⟩:=Mp q;have hlm:=Yx or o m.1;obtain⟨x,S,Z',v,hX,T,N⟩:=C3 0 or zfN G (y.small (by unfold zu;omega)) (M.small (by unfold zu;omega)) y M;have D:S 0=some (Kz a):=by rw[N 0 (by omega) (G.box u (by simp))];exact Q
   have l:∀n:Int,n=(if(R&&m.2)=true then 0 else 1)->RrI a (k+1) S Z' x (int n):=fun n hn=>⟨_,_,hX,kC or y M,by omega,by rw[hn],e⟩
   simp only[YP,L]at c;cases H:m.2
   ·rw[H]at c l;simp at c;simp[g,h,i,f,u,hs,c,v,C];exact⟨by omega,by omega,D,l 1 (by simp)⟩
   ·rw[H]at c l;simp at c;simp[g,h,i,f,u,hs,c,v,C];exact⟨by omega,by omega,D,by rw[z];exact l _ (by simp)⟩
 ·obtain rfl:k=a.length:=by omega
  rw[zn]at e;simp only[WE]at e;rw[e]at b;simp only at b;cases R
  ·simp at b z;simp[g,h,i,z,b,zW,qi,f141]
  ·simp at b z;have w:=G.len;by_cases r:(100:Int)<o.length
   ·have A:100<o.length:=by omega
    rw[zd r]at b;simp[g,h,i,z,w,r,b,zW,qi,f141]
   ·have A:¬100<o.length:=by omega
    rw[zc r]at b;rcases G with⟨I,rfl⟩|⟨id,xs,hid,I,H,E⟩
    ·simp[g,h,i,z,I,b,zW,qi,f141]
    ·rw[I]at w;have hxl:xs.length=o.length:=by have:=zr List.length E;simpa[zW]using this
     have F:¬(100:Int)<xs.length:=by omega
     simp[g,h,i,z,I,F,H,E,b,qi,f141]
theorem J7:zg prog 141 (zh false [] (YY na)):=
 Qq (fn:=f141) UK (qD func141) false [] _ fun args r h w S vs a=>by obtain⟨l,rfl,Y,rfl⟩:=zN h;obtain⟨b,c,d⟩:=iJ l Y;exact⟨_,b,a,by simp[f141],c,d⟩
theorem KS:zg prog 85 (zh false [] (oX y7)):=
 wW (fn:=f85) jG (qD func85) false [] _ fun args r h=>by obtain⟨a,rfl,rfl⟩:=XR h;refine⟨by simp[f85],_,zm rfl ?_,qb _⟩;by_cases b:3<=a<;>simp[b,y7,kI,wa,f85]
theorem dx:zg prog 87 (zh false [] (oX Zn)):=
 wW (fn:=f87) jG (qD func87) false [] _ fun args r h=>by obtain⟨a,rfl,rfl⟩:=XR h;refine⟨by simp[f87],_,zm rfl ?_,qb _⟩;by_cases b:7<=a<;>simp[b,Zn,kI,wa,f87]
noncomputable abbrev Crwv:Ctx:=zR prog [(85,zh false [] (oX y7))]
theorem UL:Gd Crwv:=zU mixed ⟨KS,trivial⟩
theorem PX(a:Int):Jf a=(a==2||y7 a||a==12):=by
 unfold Jf y7 kI;by_cases h:a=2
 ·subst h;decide
 ·have b:=wU h;rw[b];congr 1;rw[qh];simp;omega
theorem Ad:zg prog 177 (zh false [] (oX Jf)):=
 wW (fn:=f177) UL (qD func177) false [] _ fun args r h=>by obtain⟨a,rfl,rfl⟩:=XR h;refine⟨by simp[f177],_,zm rfl ?_,qb _⟩;rw[PX];cases b:a==2<;>cases c:y7 a<;>simp[b,c,wa,f177]
noncomputable def FCL (n:Nat):zb->Option O:=ql (α:=qe×Int) (fun a=>[.agg a.1.V,int a.2]) (fun a=>a.1.cb<=zu/\a.1.cb<=n/\0<=a.2/\a.2+a.1.cb<=4194304) (fun a=>.wG [int (a.1.rp a.2).1,qS (a.1.rp a.2).2])
theorem C5(n:Nat)(c:qe)(l:Int)(Y:Hp)(Z:Nat)(h:c.cb<=zu/\c.cb<=n/\0<=l/\l+c.cb<=4194304):zh false [] (FCL n) [.agg c.V,int l] Y Z=some (.wG [int (c.rp l).1,qS (c.rp l).2],Y,Z):=
 Ja (c,l) _ _ (by simp only[zD,gw];rfl) (fun x y e=>by obtain⟨a,b⟩:=x;obtain⟨d,f⟩:=y;simp only[zk,zI,O.agg.injEq]at e;rw[kU e.1,qV e.2]) h (.inl rfl)
noncomputable abbrev Crpa (n:Nat):Ctx:=zR prog [(129,zh false [] (FCL n))]
def PaI(c:qe)(l:Int)(k:Nat)(v w:O):Prop:=∃s:Int×Bool,v=int s.1/\w=qS s.2/\0<=s.1/\s.1+yZ (c.args.drop k)<=2097153/\c.rp l=AX (c.args.drop k) l s
theorem PY(s:Int×Bool):(s.2||decide (200<s.1))=JB s:=rfl
theorem Ae(n:Nat)(c:qe)(l:Int)(h:c.cb<=zu/\c.cb<=n+1/\0<=l/\l+c.cb<=4194304):zq (Crpa n) f129 [.agg c.V,int l]=some (.wG [int (c.rp l).1,qS (c.rp l).2]):=by
 have z:=Zm c;have r:=Po c l;have A:=jf c.args;have B:=bw c.args fun x K=>eF x
 obtain⟨C,L,D,E⟩:=h;unfold zu at C;refine zm rfl ?_;simp;refine zP (fun k U Y Z=>U 1=int l/\U 15=.sl 7 (c.args.map qe.V)/\U 16=int c.args.length/\U 17=int k/\PaI c l k (U 6) (U 7)) c.args.length
  ⟨by simp,by simp,by simp,by simp,(1,decide (20<l)),by simp,by simp,by simp,by rw[ke];simp only;omega,by rw[r,ke]⟩ ?_
 rintro k U Y Z M ⟨m,d,e,f,s,o,p,F,G,g⟩;by_cases a:k<c.args.length
 ·have N:=kj (zj a);have H:=qG k;have t:=wz (l+1);have I:yZ (c.args.drop k)=c.args[k].parts+yZ (c.args.drop (k+1)):=by rw[ze a,yZ]
  have b:=PY s;cases q:JB s
  ·rw[q]at b;have i:=b;rw[wE]at i;obtain⟨y,J⟩:=i;have u:¬200<s.1:=by simpa using J
   obtain⟨P,Q,_,_⟩:=CE c.args[k] (l+1);have j:=fun Y Z=>C5 n c.args[k] (l+1) Y Z ⟨by unfold zu;omega,by omega,by omega,by omega⟩
   rw[Pp a]at g;have v:sw s (c.args[k].rp (l+1))=(s.1+(c.args[k].rp (l+1)).1,s.2||(c.args[k].rp (l+1)).2):=by unfold sw;rw[q];rfl
   rw[v]at g;have w:=wz (s.1+(c.args[k].rp (l+1)).1);simp[m,d,e,f,o,p,y,u,a,j,H,t,w];exact⟨by omega,(s.1+(c.args[k].rp (l+1)).1,s.2||(c.args[k].rp (l+1)).2),rfl,by simp[y],by simp only;omega,by simp only;omega,g⟩
  ·rw[q]at b;rw[di q]at g;cases hd:s.2
   ·rw[hd]at b;simp at b;simp[m,d,e,f,o,p,hd,b,a,g,wa,f129]
   ·simp[m,d,e,f,o,p,hd,a,g,wa,f129]
 ·obtain rfl:k=c.args.length:=by omega
  rw[zn]at g;simp only[AX]at g;simp[m,d,e,f,o,p,g,wa,f129]
theorem pP:∀n,zg prog 129 (zh false [] (FCL n)):=by
 intro n
 induction n with
 |zero=>
  exact eR ⟨_,func129,by kernel_rfl,by kernel_rfl⟩ fun args r h=>by obtain⟨⟨c,l⟩,_,⟨_,a,_⟩,_⟩:=zN h;have:=Kx c;simp only at a;omega
 |succ n b=>have d:Gd (Crpa n):=zU mixed ⟨b,trivial⟩;exact xy d func129 false [] fun⟨c,l⟩ e=>⟨zw (zf 2) (by decide),_,Ae n c l e,qb _⟩
noncomputable abbrev Crla:Ctx:=zR prog [(129,zh false [] (FCL zu))]
theorem Af:zg prog 77 (GC fun c=>qS (JB (c.rp 1))):=
 wW (fn:=f77) (zU mixed ⟨pP zu,trivial⟩:AM.Good Crla _) (qD func77) false [] _ fun args r h=>by
  obtain⟨c,rfl,a,rfl⟩:=Q0 h;have b:=a.1;unfold zu at b;have d:=fun Y Z=>C5 zu c 1 Y Z ⟨a.1,a.1,by omega,by omega⟩
  refine⟨zw (zf 1) (by decide),_,zm rfl ?_,qb _⟩;unfold JB;cases hd:(c.rp 1).2
  ·simp[d,hd,wa,f77]
  ·simp[d,hd,wa,f77]
def H9(c:qe):Bool:=(!(c.kind==4)&&(!c.attr.isEmpty||c.op != 0))||(c.kind != 5&&!c.name.isEmpty)
def f2R(c:qe):Bool:=(!((c.kind==4)&&Jf c.op)&&decide (0<c.yp.length))||(!((c.kind==4)&&Zn c.op)&&!c.pat.isEmpty)
noncomputable abbrev Crfo:Ctx:=zR prog [(177,zh false [] (oX Jf)),(87,zh false [] (oX Zn)),(85,zh false [] (oX y7))]
theorem UM:Gd Crfo:=zU mixed ⟨Ad,dx,KS,trivial⟩
theorem Ag(c:qe)(h:c.cb<=zu):zq Crfo f130 [.agg c.V]=some (qS (nA c)):=by
 refine zm rfl ?_;have g:nA c=(!H9 c&&!f2R c&&(if c.kind=3 then(c.args.length:Int)==1 else if c.kind=4\/c.kind=5 then((c.args.length:Int)==0&&(!y7 c.op||(c.yp.length:Int)==1))else true)):=rfl;refine QA (fun st=>st.U 1=.ref 0 0 0/\st.Y 0=some ⟨26,7,false,[c.V]⟩) (by simp) ?_;rintro⟨U,Y,Z⟩ ⟨e,f⟩;simp only at e f;refine QA (fun st=>st.U 1=.ref 0 0 0/\st.Y 0=some ⟨26,7,false,[c.V]⟩/\st.U 3=qS (c.kind==4)) (by simp[e,f]) ?_;clear e f U Y Z;rintro⟨U,Y,Z⟩ ⟨e,f,l⟩;simp only at e f l;refine QA (fun st=>st.U 1=.ref 0 0 0/\st.Y 0=some ⟨26,7,false,[c.V]⟩/\st.U 3=qS (c.kind==4)/\H9 c=false) ?_ ?_
 ·by_cases j:c.kind=4
  ·have s:(c.kind==5)=false:=by rw[j];rfl
   have d:(c.kind==4)=true:=by rw[j];rfl
   cases m:c.name.isEmpty
   ·have i:H9 c=true:=by simp[H9,j,m]
    rw[i]at g;simp[e,f,l,j,m,g,wa,f130]
   ·have i:H9 c=false:=by simp[H9,j,m]
    simp[e,f,l,j,m,i]
  ·have d:=wU j;cases p:(!c.attr.isEmpty||c.op != 0)
   ·have n:=p;rw[wE]at n;obtain⟨w,x⟩:=n;simp at w x;by_cases s:c.kind=5
    ·have i:H9 c=false:=by simp[H9,s,p]
     simp[e,f,l,s,w,x,i]
    ·have q:=wU s;have t:(c.kind != 5)=true:=by simp[bne,q]
     cases m:c.name.isEmpty
     ·have i:H9 c=true:=by simp[H9,s,m]
      rw[i]at g;simp[e,f,l,j,d,t,w,x,m,g,wa,f130]
     ·have i:H9 c=false:=by simp[H9,p,m]
      simp[e,f,l,j,d,t,w,x,m,i]
   ·have i:H9 c=true:=by simp[H9,j,p]
    rw[i]at g;cases u:c.attr.isEmpty
    ·simp[e,f,l,j,d,u,g,wa,f130]
    ·rw[u]at p;simp at p;have n:=wU p;have z:=Za p;simp[e,f,l,j,d,u,n,z,g,wa,f130]
 clear e f l U Y Z;rintro⟨U,Y,Z⟩ ⟨e,f,l,A⟩;simp only at e f l;rw[A]at g;refine QA (fun st=>st.U 1=.ref 0 0 0/\st.Y 0=some ⟨26,7,false,[c.V]⟩/\f2R c=false) ?_ ?_
 ·have o:∀a b:Bool,((c.kind==4)&&Jf c.op)=a->((c.kind==4)&&Zn c.op)=b->f2R c=((!a&&decide (0<c.yp.length))||(!b&&!c.pat.isEmpty)):=fun a b F G=>by unfold f2R;rw[F,G]
  by_cases j:c.kind=4
  ·have d:(c.kind==4)=true:=by rw[j];rfl
   cases D:Jf c.op<;>cases E:Zn c.op<;>cases Y1:c.pat.isEmpty<;>by_cases v:0<c.yp.length <;>
    (have i:=o _ _ rfl rfl;rw[d,D,E,Y1]at i;simp[v]at i;simp[e,f,l,j,D,E,Y1,v,i,g,wa,f130])
  ·have d:=wU j;cases Y1:c.pat.isEmpty<;>by_cases v:0<c.yp.length <;>
    (have i:=o _ _ rfl rfl;rw[d,Y1]at i;simp[v]at i;simp[e,f,l,j,d,Y1,v,i,g,wa,f130])
 clear e f l U Y Z;rintro⟨U,Y,Z⟩ ⟨e,f,B⟩;simp only at e f;rw[B]at g;simp only[Bool.not_false,jK]at g;by_cases y:c.kind=3
 ·rw[zd y]at g;simp[e,f,y,g,wa,f130]
 have C:=wU y;rw[zc y]at g;by_cases r:c.kind=4\/c.kind=5
 ·rw[zd r]at g;cases u:((c.args.length:Int)==0)<;>cases H:y7 c.op<;>rcases r with k|k <;>
   simp[e,f,k,u,H,g,wa,f130]
 ·rw[zc r]at g;have d:(c.kind==4)=false:=by simp;omega
  have q:(c.kind==5)=false:=by simp;omega
  simp[e,f,C,d,q,g,wa,f130]
theorem pQ:zg prog 130 (GC fun c=>qS (nA c)):=
 wW (fn:=f130) UM (qD func130) false [] _ fun args r h=>by obtain⟨c,rfl,a,rfl⟩:=Q0 h;exact⟨by simp[f130],_,Ag c a.1,qb _⟩
noncomputable abbrev zbi:Ctx:=zR prog [(40,GV fun v=>int v.check),(85,zh false [] (oX y7)),(138,zh false [] (OC zu))]
theorem PZ:AM.Good zbi (fun g=>[138].contains g):=qw mixed ⟨cM,by simp,KS,by simp,V8 zu,fun _=>zt _ _,trivial⟩
theorem dy(c:qe)(h:c.cb<=zu):zq zbi f131 [.agg c.V]=some (int (ZE c.op c.yp)):=by
 have P:=Zm c;obtain⟨l,p⟩:=jc c.yp;obtain⟨op,r⟩:=jc c.op;have W:=yY l;rw[p]at P;rw[p,r];unfold zu at h;refine zm rfl ?_;by_cases o:(100:Int)<l.length
 ·have Q:ZE op l=2:=by unfold ZE;rw[zd o]
  simp[p,o,Q,f131]
 have Q:ZE op l=Vv op none l:=by unfold ZE;rw[zc o]
 rw[Q];simp[p,o];refine zP (fun k U Y Z=>U 1=.ref 0 0 0/\U 11=.sl 5 (l.map qa.V)/\U 12=int l.length/\U 13=int k/\1<=Z/\Y 0=some ⟨26,7,false,[c.V]⟩/\Vv op none l=Vv op (QO l k) (l.drop k)) l.length
  ⟨by simp,by simp,by simp,by simp,by simp,by simp,by simp[QO]⟩ ?_
 rintro k U Y Z hk ⟨s,b,d,e,hnx,t,f⟩;have u:¬0=Z:=by omega
 by_cases a:k<l.length
 ·have hm:=jR (zj a);have H:=qG k;have g:=fun Y Z=>Wg (fun v=>int v.check) l[k] Y Z (by unfold zu;omega)
  rw[ze a]at f;simp only[Vv]at f;have E:QO l (k+1)=some l[k]:=by simp[QO,a]
  have i:Cv op l[k]=(l[k].kind==0||y7 op&&l[k].kind != 2):=rfl;by_cases q:l[k].check=0
  case neg=>rw[zc q]at f;have R:=Za q;simp[p,r,s,t,u,b,d,e,a,g,R,f,f131]
  rw[zd q]at f;cases w:Cv op l[k]
  case true=>
   rw[w,zd rfl]at f;rw[w]at i;by_cases I:l[k].kind=0
   ·simp[p,r,s,t,u,b,d,e,a,g,q,I,f,f131]
   ·have F:=wU I;rw[F,kQ]at i;have n:=i.symm;rw[zz]at n;simp[p,r,s,t,u,b,d,e,a,g,q,F,n.1,n.2,f,f131]
  rw[w,zc (by simp)]at f;rw[w]at i;have z:=i.symm;rw[wE]at z;obtain⟨B,X⟩:=z;have S:y7 op=false\/(l[k].kind != 2)=false:=by
   cases hi:y7 op
   ·exact .inl rfl
   ·rw[hi,jK]at X;exact .inr X
  by_cases I:k=0
  ·subst I;have Y0:V5 (QO l 0) l[0]=false:=rfl;rw[Y0,zc (by simp)]at f;have m:Vv op none l=Vv op (QO l 1) l.tail:=by rw[f,show QO l 1=some l[0]from E];simp
   cases hi:y7 op
   ·simp[p,r,s,t,u,b,d,e,a,g,q,B,hi,H];exact⟨by omega,m⟩
   ·have G:(l[0].kind != 2)=false:=S.resolve_left (by rw[hi];simp);simp[p,r,s,t,u,b,d,e,a,g,q,B,hi,G,H];exact⟨by omega,m⟩
  ·obtain⟨j,rfl⟩:∃j,k=j+1:=⟨k-1,by omega⟩;have C:j<l.length:=by omega
   have hmj:=jR (zj C);have J:i6.wrap ((j:Int)+1-1)=(j:Int):=by rw[wu (by omega) (by omega)];omega
   have x:=wz (j:Int);have K:((j:Int)+1).toNat=j+1:=by omega
   have L:0<(j:Int)+1:=by omega
   have M:0<=(j:Int)+1:=by omega
   have N:(j:Int)+1<l.length:=by omega
   have y:=fun Y Z=>Wy zu l[j+1] l[j] Y Z ⟨by unfold zu;omega,by unfold zu;omega,by unfold zu;omega⟩
   have T:V5 (QO l (j+1)) l[j+1]=decide (qL l[j+1] l[j]<=0):=by simp only[QO,V5];simp[C,CF]
   rw[T]at f;by_cases D:qL l[j+1] l[j]<=0
   ·have A:decide (qL l[j+1] l[j]<=0)=true:=by simpa using D
    rw[zd A]at f;cases hi:y7 op
    ·simp[p,r,s,t,u,b,d,e,a,C,g,q,B,hi,H,J,x,K,L,M,N,y,D,f,f131]
    ·have G:(l[j+1].kind != 2)=false:=S.resolve_left (by rw[hi];simp);simp[p,r,s,t,u,b,d,e,a,C,g,q,B,hi,G,H,J,x,K,L,M,N,y,D,f,f131]
   ·have A:¬decide (qL l[j+1] l[j]<=0)=true:=by simpa using D
    rw[zc A]at f;have wk:=wz ((j:Int)+1+1);have m:Vv op none l=Vv op (QO l (j+1+1)) (l.drop (j+1+1)):=by rw[f,E]
    cases hi:y7 op
    ·simp[p,r,s,t,u,b,d,e,a,C,g,q,B,hi,wk,J,x,K,L,M,N,y,D];exact⟨by omega,m⟩
    ·have G:(l[j+1].kind != 2)=false:=S.resolve_left (by rw[hi];simp);simp[p,r,s,t,u,b,d,e,a,C,g,q,B,hi,G,wk,J,x,K,L,M,N,y,D];exact⟨by omega,m⟩
 ·obtain rfl:k=l.length:=by omega
  rw[zn]at f;simp only[Vv]at f;simp[s,b,d,e,f,f131]
theorem bU:zg prog 131 (GC fun c=>int (ZE c.op c.yp)):=
 wW (fn:=f131) PZ (qD func131) false [] _ fun args r h=>by obtain⟨c,rfl,a,rfl⟩:=Q0 h;exact⟨zw (zf 1) (by decide),_,dy c a.1,qb _⟩
noncomputable abbrev zbj:Ctx:=zR prog [(141,zh false [] (YY na))]
theorem P0:Gd zbj:=zU mixed ⟨J7,trivial⟩
theorem bV(c:qe)(h:c.cb<=zu):zq zbj f132 [.agg c.V]=some (int (YZ c.op c.pat)):=by
 have q:=Zm c;obtain⟨s,hs⟩:=jc c.pat;obtain⟨op,r⟩:=jc c.op;rw[hs]at q;rw[hs,r];unfold zu at h;refine zm rfl ?_;by_cases a:(500:Int)<s.length
 ·have b:YZ op s=2:=by unfold YZ;rw[zd a]
  simp[hs,a,b,f132]
 have l:=fun Y Z=>j6 na s Y Z (by unfold zu;omega)
 simp only[na]at l;have b:YZ op s=if wg 32 126 s=true then(if op=11 then(vF s).2 else 0)else 1:=by unfold YZ;rw[zc a]
 simp[hs,a];refine zP (fun k U Y Z=>U 1=.ref 0 0 0/\U 12=int s.length/\U 13=int k/\Y 0=some ⟨26,7,false,[c.V]⟩/\wg 32 126 s=wg 32 126 (s.drop k)) s.length ⟨by simp,by simp,by simp,by simp,by simp⟩ ?_;rintro k U Y Z u ⟨n,d,e,o,i⟩;by_cases f:k<s.length
 ·have t:=qG k;rw[Zc f]at i;have j:=VQ 32 126 s[k];simp only[ZK]at j;cases p:pr 32 126 s[k]
  ·have i:wg 32 126 s=false:=by rw[i,p];rfl
   rw[i,zc (by simp)]at b;simp[n,o,hs,d,e,f,b,j,p,f132]
  ·simp[n,o,hs,d,e,f,j,p,t];exact⟨f,by rw[i,p];rfl⟩
 ·obtain rfl:k=s.length:=by omega
  have i:wg 32 126 s=true:=by rw[i,zn];rfl
  rw[i,zd rfl]at b;by_cases g:op=11
  ·rw[zd g]at b;subst g;simp[n,o,hs,r,d,e,l,b,f132]
  ·rw[zc g]at b;have m:=wU g;simp[n,o,hs,r,d,e,m,b,f132]
theorem av:zg prog 132 (GC fun c=>int (YZ c.op c.pat)):=
 wW (fn:=f132) P0 (qD func132) false [] _ fun args r h=>by obtain⟨c,rfl,a,rfl⟩:=Q0 h;exact⟨zw (zf 1) (by decide),_,bV c a.1,qb _⟩
theorem P1{c:qe}(b:Zo c=false)(a:F1 c=false):YZ c.op c.pat=0:=by
 have g:∀op,op≠11->YZ op []=0:=fun op h=>by simp[YZ,h]
 have k:w1F c=false/\w5F c=false:=by unfold Zo at b;simp only[wE]at b;exact⟨b.1.1.1.1.1.1,b.1.1.2⟩
 obtain⟨i,j⟩:=k;unfold F1 at a;cases d:c.kind==4
 ·simp only[w1F,d,Bool.not_false,jK,wE]at i;obtain⟨⟨⟨_,l⟩,_⟩,m⟩:=i;have n:c.op=0:=by simpa using l
  have f:c.pat=[]:=by simpa using m
  rw[n,f];exact g 0 (by decide)
 ·rw[d,jK]at a;simp only[w5F,d,a,jK,Bool.not_false]at j;have f:c.pat=[]:=by simpa using j
  rw[f];refine g _ fun e=>?_
  rw[e]at a;revert a;decide
noncomputable abbrev zbk (n:Nat):Ctx:=zR prog [(78,zh false [] (FC (fun c=>int c.fault) n)),(130,GC fun c=>qS (nA c)),(39,zh false [] (FS wS)),(131,GC fun c=>int (ZE c.op c.yp)),(132,GC fun c=>int (YZ c.op c.pat))]
theorem fF(n:Nat)(c:qe)(h:c.cb<=zu/\c.cb<=n+1):zq (zbk n) f78 [.agg c.V]=some (int c.fault):=by
 have A4:=Zm c;have hl1:=jf c.args;obtain⟨K,hb⟩:=h;have j:=XT c;have b:=fun Y Z=>ZR (fun c=>qS (nA c)) c Y Z K
 have v:=fun Y Z=>ZR (fun c=>int (ZE c.op c.yp)) c Y Z K
 have D:=fun Y Z=>ZR (fun c=>int (YZ c.op c.pat)) c Y Z K
 have E:c.attr.length<=zu:=by omega
 have F:c.name.length<=zu:=by omega
 unfold zu at K;refine zm rfl ?_;refine QA (fun st=>st.U 1=.ref 0 0 0/\st.Y 0=some ⟨26,7,false,[c.V]⟩/\st.Z=1) (by simp) ?_;rintro⟨U,Y,Z⟩ ⟨d,e,l⟩;simp only at d e l;subst l;have w:aV c=!kI c.kind 1 5:=rfl;refine QA (fun st=>st.U 1=.ref 0 0 0/\st.Y 0=some ⟨26,7,false,[c.V]⟩/\st.Z=1/\aV c=false/\LP c=false/\Zo c=false/\aW c=false) ?_ ?_
 ·by_cases L:c.kind<1
  ·have x:aV c=true:=by rw[w];simp[kI];omega
   simp[d,e,L,j,va,x,f78]
  by_cases Q:5<c.kind
  ·have x:aV c=true:=by rw[w];simp[kI];omega
   simp[d,e,L,Q,j,va,x,f78]
  have i:aV c=false:=by rw[w];simp[kI];omega
  have y:=LX c (by simp[kI];omega);rw[y]at b;by_cases t:c.kind=4
  ·have z:LP c=!kI c.op 1 12:=by unfold LP;rw[t];rfl
   have a:aW c=!wS c.attr:=by unfold aW;rw[t];simp
   by_cases G:c.op<1
   ·have x:LP c=true:=by rw[z];simp[kI];omega
    simp[d,e,t,G,j,va,x,f78]
   by_cases M:12<c.op
   ·have x:LP c=true:=by rw[z];simp[kI];omega
    simp[d,e,t,G,M,j,va,x,f78]
   have f:LP c=false:=by rw[z];simp[kI];omega
   cases g:Zo c
   case true=>simp[d,e,t,G,M,b,g,j,va,i,f,f78]
   cases o:wS c.attr
   ·rw[o]at a;simp[d,e,t,G,M,b,g,E,o,j,va,i,f,a,f78]
   ·rw[o]at a;simp[d,e,t,G,M,b,g,E,o,i,f,a]
  have p:=wU t;have f:LP c=false:=by unfold LP;rw[p];rfl
  cases g:Zo c
  case true=>simp[d,e,L,Q,p,b,g,j,va,i,f,f78]
  by_cases q:c.kind=5
  ·have a:aW c=!wS c.name:=by unfold aW;rw[q];simp
   cases o:wS c.name
   ·rw[o]at a;simp[d,e,q,b,g,F,o,j,va,i,f,a,f78]
   ·rw[o]at a;simp[d,e,q,b,g,F,o,i,f,a]
  ·have u:=wU q;have a:aW c=false:=by unfold aW;rw[p,u];rfl
   simp[d,e,L,Q,p,u,b,g,i,f,a]
 clear d e U Y b;rintro⟨U,Y,Z⟩ ⟨d,e,l,R,S,N,T⟩;simp only at d e l;subst l;by_cases H:ZE c.op c.yp=0
 case neg=>have W:=Za H;simp[d,e,v,H,W,j,va,R,S,N,T,f78]
 by_cases I:YZ c.op c.pat=0
 case neg=>
  have X:=Za I;have c6:F1 c=true:=by cases hx:F1 c;exact absurd (P1 N hx) I;rfl
  simp[d,e,v,D,H,I,X,j,va,R,S,N,T,c6,f78]
 have hh:va c=0:=by simp[va,R,S,N,T,H,I]
 have J:c.fault=xi c.args:=by rw[j,zd hh]
 simp[d,e,v,D,H,I];refine zP (fun k U Y Z=>U 64=.sl 7 (c.args.map qe.V)/\U 65=int c.args.length/\U 66=int k/\xi c.args=xi (c.args.drop k)) c.args.length ⟨by simp,by simp,by simp,by simp⟩ ?_;clear d e U Y;rintro k U Y Z hk ⟨A,B,C,r⟩;by_cases s:k<c.args.length
 ·have hm:=kj (zj s);have hw:=qG k;have m:=fun Y Z=>Zd (fun c=>int c.fault) n c.args[k] Y Z ⟨by unfold zu;omega,by omega⟩
  rw[V6 s]at r;by_cases P:c.args[k].fault=0
  ·rw[zd P]at r;simp[A,B,C,s,m,P,hw];exact⟨by omega,r⟩
  ·rw[zc P]at r;have hz2:=Za P;simp[A,B,C,s,m,hz2,J,r,f78]
 ·obtain rfl:k=c.args.length:=by omega
  rw[zn]at r;have r:xi c.args=0:=by rw[r];rfl
  simp[A,B,C,J,r,f78]
theorem dz:∀n,zg prog 78 (zh false [] (FC (fun c=>int c.fault) n)):=by
 intro n
 induction n with
 |zero=>exact cE ⟨_,func78,by kernel_rfl,by kernel_rfl⟩
 |succ n a=>
  have b:Gd (zbk n):=zU mixed ⟨a,pQ,Jv,bU,av,trivial⟩;exact wW (fn:=f78) b (qD func78) false [] _ fun args r h=>by obtain⟨c,rfl,d,rfl⟩:=Q0 h;exact⟨zw (zf 1) (by decide),_,fF n c d,qb _⟩
noncomputable abbrev zfO:Ctx:=zR prog [(78,GC fun c=>int c.fault),(77,GC fun c=>qS (JB (c.rp 1)))]
theorem bb:zg prog 36 (GC fun c=>int c.check):=
 wW (fn:=f36) (zU mixed ⟨dz zu,Af,trivial⟩:AM.Good zfO _) (qD func36) false [] _ fun args r h=>by
  obtain⟨c,rfl,a,rfl⟩:=Q0 h;have b:=fun Y Z=>ZR (fun c=>int c.fault) c Y Z a.1
  have d:=fun Y Z=>ZR (fun c=>qS (JB (c.rp 1))) c Y Z a.1
  have f:=LW c;refine⟨zw (zf 1) (by decide),_,zm rfl ?_,qb _⟩;unfold qe.check;rw[<-f];cases e:JB (c.rp 1)
  ·simp[b,d,e,f36]
  ·simp[b,d,e,f36]
end Go.Q
namespace Go.SpanLaw
abbrev Sp:=Int×Int
def zbl:Int->List Sp->Prop
 |_,[]=>True
 |lo,s::l=>lo<s.1/\s.1<s.2/\zbl s.2 l
def mem(l:List Sp)(k:Int):Prop:=∃s∈l,s.1<=k/\k<s.2
def skip(x:Int):List Sp->List Sp
 |[]=>[]
 |b::l=>if b.2<=x then skip x l else b::l
def Below(hi:Int)(l:List Sp):Prop:=∀s∈l,s.2<=hi
structure zh1 (op:Int->Prop) (at_:Int) (out:List Sp):Prop where
 canon:zbl (-1) out
 below:Below at_ out
 holds:∀k,mem out k↔0<=k/\k<at_/\op k
end Go.SpanLaw
namespace Go.Q
abbrev encS(s:Sp):zb:=[int s.1,int s.2]
def spR(s:Sp):Bool:=!kI s.1 0 99999||decide ((100000:Int)<s.2)
def spO(p:Option Int)(s:Sp):Bool:=decide (s.2<=s.1)||(match p with
 |none=>false
 |some q=>decide (s.1<=q))
def spF:Option Int->List Sp->Int
 |_,[]=>0
 |p,s::l=>if spR s then 1 else if spO p s then 8 else spF (some s.2) l
def Ia(l:List Sp):Int:=if(100:Int)<l.length then 2 else spF none l
end Go.Q
namespace Go.Proofs
open Go.Shelf
end Go.Proofs
namespace Go.Q
abbrev Rg:=Int×Int×Int
abbrev encG(r:Rg):zb:=[int r.1,int r.2.1,int r.2.2]
def rgO(a:Int)(r:Rg):Bool:=(r.1 != a)||decide (r.2.1<=r.1)
def rgT(p:Option Int)(r:Rg):Bool:=match p with
 |none=>false
 |some q=>q==r.2.2
def rgF(n:Int):Int->Option Int->List Rg->Int
 |at_,_,[]=>if at_=100000 then 0 else 8
 |at_,p,r::l=>if kI r.2.2 0 (n-1)then(if rgO at_ r then 8 else if(100000:Int)<r.2.1 then 1 else if rgT p r then 7 else rgF n r.2.1 (some r.2.2) l)else 1
def Ib(l:List Rg)(n:Int):Int:=if l.length=0 then 9 else if(200:Int)<l.length then 2 else rgF n 0 none l
structure AZ where
 name:List UInt8
 YX:List UInt8
 rest:Int
def AZ.V(x:AZ):zb:=[str x.name,str x.YX,int x.rest]
structure Hld where
 name:List UInt8
 YX:List UInt8
 buckets:Int
 kM:List (List UInt8)
def Hld.V(x:Hld):zb:=[str x.name,str x.YX,int x.buckets,.sl 1 (zy x.kM)]
structure tk where
 at_:Int
 ec:List Sp
def tk.V(x:tk):zb:=[int x.at_,.sl 2 (x.ec.map encS)]
structure Xp where
 name:List UInt8
 tm:List UInt8
 flag:List UInt8
 cond:qe
 YX:List UInt8
 arms:List Rg
 fZ:List tk
def Xp.V(x:Xp):zb:=[str x.name,str x.tm,str x.flag]++x.cond.V++[str x.YX,.sl 3 (x.arms.map encG),.sl 2 (x.fZ.map tk.V)]
structure Bk where
 kM:List AZ
 holds:List Hld
 Hu:List Xp
def Bk.V(b:Bk):zb:=[.sl 3 (b.kM.map AZ.V),.sl 4 (b.holds.map Hld.V),.sl 13 (b.Hu.map Xp.V)]
def P2{α:Type}(f:α->Nat)(l:List α):Nat:=(l.map f).sum
def AZ.cb(x:AZ):Nat:=1+x.name.length+x.YX.length
def Hld.cb(x:Hld):Nat:=1+x.name.length+x.YX.length+P2 (fun s=>1+s.length) x.kM
def tk.cb(x:tk):Nat:=1+x.ec.length
def Xp.cb(x:Xp):Nat:=x.name.length+x.tm.length+x.flag.length+x.cond.cb+x.YX.length+x.arms.length+P2 tk.cb x.fZ
def Bk.cb(b:Bk):Nat:=P2 AZ.cb b.kM+P2 Hld.cb b.holds+P2 Xp.cb b.Hu
def sL(name a:za):Int:=if wS name=true then(if cD name a=true then 8 else 0)else 5
def zfP(s:za):Bool:=kI s.length 1 40&&vq s
def zbm(n:Int):Bool:=kI n 0 4000000000
def zcR(p:Option Int)(x:Int):Bool:=match p with
 |none=>false
 |some q=>decide (x<=q)
def phF:Option Int->List Sp->List tk->Int
 |_,_,[]=>0
 |p,b,x::l=>if zbm x.at_=true then(if zcR p x.at_=true then 8 else if Ia x.ec=0 then(if x.ec=b then 7 else phF (some x.at_) x.ec l)else Ia x.ec)else 1
def UN(l:List tk):Int:=if(50:Int)<l.length then 2 else phF none [] l
def endF(l:List tk)(i:Nat):Int:=match l[i+1]? with
 |some p=>p.at_
 |none=>1125899906842624
def Gt:List Sp->List Sp->Bool
 |a::l,b::m=>if a.2<=b.1 then Gt l (b::m)else if b.2<=a.1 then Gt (a::l) m else true
 |_,_=>false
termination_by a b=>a.length+b.length
def zfQ(a b:List tk)(i k:Nat)(p q:tk)(c:Int):Bool:=(decide (p.at_<=q.at_)&&decide (q.at_<endF a i+c))||(decide (q.at_<=p.at_)&&decide (p.at_<endF b k+c))
def hitB(a b:List tk)(i k:Nat)(p q:tk)(c:Int):Bool:=zfQ a b i k p q c&&Gt p.ec q.ec
def P3(a b:List tk)(i:Nat)(p:tk)(c:Int):Nat->List tk->Bool
 |_,[]=>false
 |k,q::l=>hitB a b i k p q c||P3 a b i p c (k+1) l
def P4(a b:List tk)(c:Int):Nat->List tk->Bool
 |_,[]=>false
 |i,p::l=>P3 a b i p c 0 b||P4 a b c (i+1) l
def zcS(a b:Xp)(c:Int):Bool:=P4 a.fZ b.fZ c 0 a.fZ
end Go.Q
namespace Go.AM
section
variable(C:Ctx)(ρ:Operand->Option O)(Y:Hp)(Z:Nat)
@[simp]theorem zec(t:TypeId)(x i:Operand)(a:Bool):zX C ρ Y Z (.lookup t x i a)=(do let p <-ρ x;let q <-ρ i;let r <-ZP C.P Y t p q a;some (r,Y,Z)):=by simp only[zX];cases ρ x<;>cases ρ i<;>(try rfl);simp;cases ZP C.P Y t _ _ a<;>rfl
@[simp]theorem UO(t:TypeId)(m k x:Operand):zX C ρ Y Z (.mapUpdate t m k x)=(do let p <-ρ m;let q <-ρ k;let y <-ρ x;let h <-xb C.P Y t p q y;some (.wG [],h,Z)):=by simp only[zX];cases ρ m<;>cases ρ k<;>cases ρ x<;>(try rfl);simp;cases xb C.P Y t _ _ _<;>rfl
@[simp]theorem zcT(t:TypeId):zX C ρ Y Z (.makeMap t none)=(do let _ <-VC C.P t;some (.mp Z,qv Y Z (some ⟨t,0,false,[]⟩),Z+1)):=by simp only[zX];cases VC C.P t<;>rfl
end
end Go.AM
namespace Go.Q
@[simp]theorem zfR(U:Nat->O):AM.get U (.const (.pointer none))=some (.v (.pointer none)):=rfl
def QL(l:List za):List zb:=l.map fun s=>[str s,qS true]
def pR(l:List za):kv:=⟨74,0,false,QL l⟩
theorem sM(s:za):∀(l:List za) (i:Nat),(s ∉ l->kH (.string ⟨s.toArray⟩) (QL l) i=some none)/\(s∈l->∃j,kH (.string ⟨s.toArray⟩) (QL l) i=some (some (j,qS true)))
 |[],i=>⟨fun _=>rfl,fun h=>by simp at h⟩
 |x::l,i=>by
  obtain⟨c,d⟩:=sM s l (i+1);by_cases a:s=x
  ·refine⟨fun h=>absurd (by simp[a]) h,fun _=>⟨i,?_⟩⟩;subst a;simp[QL,kH,kF]
  ·have f:kF (.string ⟨s.toArray⟩) (.string ⟨x.toArray⟩)=some false:=by simp only[kF];congr 1;rw[wN];intro e;exact a (by simpa[YB]using e)
   have b:kH (.string ⟨s.toArray⟩) (QL (x::l)) i=kH (.string ⟨s.toArray⟩) (QL l) (i+1):=by simp only[QL,we,kH,f]
   refine⟨fun h=>by rw[b];exact c fun g=>h (List.mem_cons_of_mem _ g),fun h=>?_⟩;rcases zv.1 h with h|h
   ·exact absurd h a
   ·rw[b];exact d h
@[simp]theorem zed:VC prog 74=some (none,4):=by kernel_rfl
@[simp]theorem zcU:aF prog 4=some (qS false):=by kernel_rfl
theorem UP{Y:Hp}{id:Nat}{l:List za}(s:za)(h:Y id=some (pR l))(hs:s ∉ l):xb prog Y 74 (.mp id) (str s) (qS true)=some (qv Y id (some (pR (l++[s])))):=by obtain⟨a,b⟩:=sM s l 0;simp[xb,h,pR,Y4,a hs];simp[QL]
def nW(l:List za)(s:za):Int:=if zfP s=true then(if s∈l then 7 else 0)else 3
def dA(l:List za)(s:za):List za:=if nW l s=0 then l++[s]else l
def KT:za->List za->List AZ->Int×List za
 |_,l,[]=>(0,l)
 |before,l,x::xs=>if sL x.name before=0 then(if nW l x.YX=0 then(if kI x.rest 0 100000000=true then KT x.name (dA l x.YX) xs else(1,dA l x.YX))else(nW l x.YX,dA l x.YX))else(sL x.name before,l)
def leP(p:Option za)(s:za):Bool:=match p with
 |none=>false
 |some q=>cD s q
noncomputable def P5 (L:List AZ):Option za->List za->Int
 |_,[]=>0
 |p,s::l=>if(JJ (L.map AZ.name) s).2=true then(if leP p s=true then 8 else P5 L (some s) l)else 9
noncomputable def zbn (L:List AZ) (x:Hld):Int:=if kI x.buckets 1 100000=true then(if x.kM.length=0 then 9 else P5 L none x.kM)else 1
noncomputable def nX (L:List AZ):za->List za->List Hld->Int×List za
 |_,l,[]=>(0,l)
 |before,l,x::xs=>if sL x.name before=0 then(if nW l x.YX=0 then(if zbn L x=0 then nX L x.name (dA l x.YX) xs else(zbn L x,dA l x.YX))else(nW l x.YX,dA l x.YX))else(sL x.name before,l)
noncomputable def expF (L:List AZ) (a:za) (l:List za) (x:Xp):Int×List za:=
 if sL x.name a=0 then(if(JJ (L.map AZ.name) x.tm).2=true then(if wS x.flag=true then(if x.cond.check=0 then(if nW l x.YX=0 then(if Ib x.arms 20=0 then(UN x.fZ,dA l x.YX)else(Ib x.arms 20,dA l x.YX))else(nW l x.YX,dA l x.YX))else(x.cond.check,l))else(5,l))else(9,l))else(sL x.name a,l)
def cls1(x:Xp)(a:Int)(y:Xp):Bool:=decide (y.tm=x.tm)&&zcS x y a
noncomputable def zcV (L:List AZ) (s:za):Int:=match L[(JJ (L.map AZ.name) s).1]? with
 |some y=>y.rest
 |none=>0
noncomputable def clsF (L:List AZ) (a:List Xp):Nat->List Xp->Bool
 |_,[]=>false
 |i,x::l=>(a.take i).any (cls1 x (zcV L x.tm))||clsF L a (i+1) l
noncomputable def P6 (L:List AZ):za->List za->List Xp->Int×List za
 |_,l,[]=>(0,l)
 |before,l,x::xs=>if(expF L before l x).1=0 then P6 L x.name (expF L before l x).2 xs else expF L before l x
noncomputable def P7 (b:Bk):Int:=
 if(20:Int)<b.kM.length\/(10:Int)<b.holds.length\/(100:Int)<b.Hu.length then 2
 else if(KT [] [] b.kM).1=0 then
  (if(nX b.kM [] (KT [] [] b.kM).2 b.holds).1=0 then
   (if(P6 b.kM [] (nX b.kM [] (KT [] [] b.kM).2 b.holds).2 b.Hu).1=0 then(if clsF b.kM b.Hu 0 b.Hu=true then 13 else 0)
    else(P6 b.kM [] (nX b.kM [] (KT [] [] b.kM).2 b.holds).2 b.Hu).1)
   else(nX b.kM [] (KT [] [] b.kM).2 b.holds).1)
 else(KT [] [] b.kM).1
end Go.Q
namespace Go.AM
theorem qT.ed{P:Program}{Y:Hp}{Z e s by_:Nat}{v:O}{xs:List zb}{ys:List zb}{z:zb}{t:TypeId}(h:qT Y Z e s v xs)(b:yf P t=some e)(hs:qz P e=some s)(c:js P e=some by_)(d:yL P e=some z)
  (a:z.length=s) (f:0<s) (g:xs.length+ys.length<=maxLen) (i:(xs.length+ys.length)*by_<=140737488355328) :
  ∃o k l,yK P Y Z t t v (.sl s ys)=some (o,k,l)/\qT k l e s o (xs++ys)/\Z<=l/\∀j,j<Z->(∀n,v≠.own j 0 n)->k j=Y j:=by
 rcases h with⟨rfl,rfl⟩|⟨id,hid,rfl,q⟩
 ·simp at g i;by_cases p:ys=[]
  ·subst p;exact⟨.nil,Y,Z,by simp[yK,b,hs,c,d,a,f,AM.view,maxLen],.inl ⟨rfl,rfl⟩,zf _,fun _ _ _=>rfl⟩
  ·exact⟨.own Z 0 ys.length,_,Z+1,by simp[yK,b,hs,c,d,a,f,g,i,AM.view,p];rfl,.inr ⟨Z,by omega,by simp,by simp⟩,by omega,fun j r _=>by rw[zx _ _ _ _ (by omega)]⟩
 ·refine⟨.own Z 0 (xs.length+ys.length),_,Z+1,by simp[yK,b,hs,c,d,a,f,g,i,AM.view,q];rfl,.inr ⟨Z,by omega,by simp,by simp⟩,by omega,fun j r u=>?_⟩;have m:¬j=id:=fun e=>u xs.length (by rw[e])
  rw[zx _ _ _ _ (by omega),zx _ _ _ _ m]
end Go.AM
namespace Go.Q
noncomputable def chkL (b:Bk) (s:za) (n:Int):Int:=if P7 b=0 then(if(JJ (b.kM.map AZ.name) s).2=true then(if zbm n=true then 0 else 1)else 5)else P7 b
def hasG(a:List Sp)(n:Int):List tk->List Sp
 |[]=>a
 |p::l=>hasG (if p.at_<=n then p.ec else a) n l
def aw(v:za):Nat->List za->Int
 |_,[]=>-1
 |k,s::l=>if v=s then k else aw v (k+1) l
theorem C6(v:za):∀(l:List za) (k:Nat),decide (0<=aw v k l)=decide (v∈l)
 |[],k=>by simp[aw]
 |s::l,k=>by
  by_cases h:v=s
  ·have e:aw v k (s::l)=k:=by simp only[aw,zd h]
   rw[e];simp[h]
  ·have e:aw v k (s::l)=aw v (k+1) l:=by simp only[aw,zc h]
   rw[e,C6 v l (k+1)];simp[h]
noncomputable def SZ (out:List za->za->O):zb->Option O:=ql (α:=List za×za) (fun a=>[.sl 1 (zy a.1),str a.2]) (fun a=>a.1.length<=zu) (fun a=>out a.1 a.2)
theorem P8:∀a b:List za×za,[O.sl 1 (zy a.1),str a.2]=[O.sl 1 (zy b.1),str b.2]->a=b:=by rintro⟨f,g⟩ ⟨h,i⟩ e;simp only[zk,zI]at e;obtain⟨c,d⟩:=e;injection c with _ c;rw[ji c,wR d]
theorem Xl(out:List za->za->O)(l:List za)(v:za)(Y:Hp)(Z:Nat)(h:l.length<=zu):zh false [1] (SZ out) [.sl 1 (zy l),str v] Y Z=some (out l v,Y,Z):=
 yA rfl (qF (V:=fun a:List za×za=>[O.sl 1 (zy a.1),str a.2]) (a:=(l,v)) P8 h) (.inr rfl)
theorem UQ(out:List za->za->O){l:List za}{v:za}{Y:Hp}{Z e:Nat}{x:O}(c:qT Y Z e 1 x (zy l))(h:l.length<=zu)(b:(out l v).flat=true):zh false [1] (SZ out) [x,str v] Y Z=some (out l v,Y,Z):=by
 have hs:SZ out [.sl 1 (zy l),str v]=some (out l v):=qF (V:=fun a:List za×za=>[O.sl 1 (zy a.1),str a.2]) (a:=(l,v)) P8 h;rcases c with⟨rfl,d⟩|⟨id,hid,rfl,f⟩
 ·have g:l=[]:=by simpa[zy]using d
  subst g;exact yA (Y1:=Y) rfl hs (.inl b)
 ·exact yA (Y1:=qv Y id none) (show zD Y [.own id 0 (zy l).length,str v]=some ([.sl 1 (zy l),str v],qv Y id none) by
   simp[f]
   try rw[qx (by simp)]) hs (.inl b)
theorem Mq(l:List za)(v:za)(h:l.length<=zu):zq C0 f104 [.sl 1 (zy l),str v]=some (int (aw v 0 l)):=by
 refine zm rfl ?_;unfold zu at h;have b:(zy l).length=l.length:=by simp[zy]
 simp[b];refine zP (fun k U Y Z=>U 0=.sl 1 (zy l)/\U 1=str v/\U 7=int l.length/\U 8=int k/\aw v 0 l=aw v k (l.drop k)) l.length ⟨by simp,by simp,by simp,by simp,by simp⟩ ?_;rintro k U Y Z p ⟨i,j,m,n,a⟩;by_cases c:k<l.length
 ·obtain⟨s,hs⟩:=jc (l[k]);have o:=qG k;have e:∀h:k<(zy l).length,(zy l)[k]=[str s]:=fun h=>by simp[zy,hs]
  have f:k<(zy l).length:=by omega
  rw[ze c,hs]at a;simp only[aw]at a;by_cases g:v=s
  ·rw[zd g]at a;have d:(v==s)=true:=by simpa using g
   simp[i,j,m,n,c,b,f,e,d,a,f104]
  ·rw[zc g]at a;have d:=wU g;simp[i,j,m,n,c,b,f,e,d,o];exact⟨by omega,a⟩
 ·obtain rfl:k=l.length:=by omega
  rw[zn]at a;simp only[aw]at a;simp[i,j,m,n,a,f104]
theorem Gu:zg prog 104 (zh false [1] (SZ fun l v=>int (aw v 0 l))):=
 xy jG func104 false [1] fun⟨l,v⟩ a=>⟨by simp[f104],_,Mq l v a,qb _⟩
noncomputable abbrev Cctt:Ctx:=zR prog [(104,zh false [1] (SZ fun l v=>int (aw v 0 l)))]
theorem ZT:zg prog 53 (zh false [1] (SZ fun l v=>qS (decide (v∈l)))):=
 xy (zU mixed ⟨Gu,trivial⟩:AM.Good Cctt _) func53 false [1] fun⟨l,v⟩ a=>by
  have b:=fun Y Z=>Xl (fun l v=>int (aw v 0 l)) l v Y Z a
  have c:=C6 v l 0;exact⟨by simp[f53],_,zm rfl (by simp[b,c,f53]),qb _⟩
noncomputable def Xm (g:Nat) (sp:AM.Spec):Nat->AM.Spec
 | 0=>fun _ _ _=>none
 |k+1=>yr (zR prog [(49,Xm g sp k),(g,sp)]) f49
theorem Z4{f:FuncId}(a:∃fn,prog.funcs[f]?=some fn/\(fn.name== "runtime.NumGoroutine")=false/\fn.body.isNone=false):zg prog f (fun _ _ _=>none):=⟨a,fun _ _ _ _ _ _ h=>by cases h⟩
theorem YQ{g:Nat}{sp:AM.Spec}(h:zg prog g sp):∀k,zg prog 49 (Xm g sp k)
 | 0=>Z4 ⟨_,func49,by kernel_rfl,by kernel_rfl⟩
 |k+1=>ky (qw (q:=[]) (l:=[(49,Xm g sp k),(g,sp)]) mixed ⟨YQ h k,by simp,h,by simp,trivial⟩) func49
def yP{U:Type}(T:Nat->Prop)(Rep:U->Hp->Prop)(r:O)(s:U)(Y:Hp)(Z:Nat)(x:O)(a:Hp)(b:Nat):Prop:=x=r/\Rep s a/\Z<=b/\∀j,j<Z->¬T j->a j=Y j
theorem YR{S α:Type}{f:S->α->Bool×S}{s:S}{a:α}{l:List α}(h:(f s a).1=true):wv f s (a::l)=(true,(f s a).2):=by rw[wv,zd h]
theorem Qc{S α:Type}{f:S->α->Bool×S}{s:S}{a:α}{l:List α}(h:(f s a).1=false):wv f s (a::l)=wv f (f s a).2 l:=by rw[wv,zc (by simp[h])]
theorem X4{α:Type}(f:α->Bool):∀l:List α,(wv (fun(_:Unit) n=>(f n,())) () l).1=l.any f
 |[]=>rfl
 |a::l=>by
  cases h:f a
  ·simp[wv,h,X4 f l]
  ·simp[wv,h]
theorem sN{f:qe->Bool}:∀l:List qe,(wv (fun(_:Unit) n=>(!f n,())) () l).1=!(l.all f)
 |[]=>rfl
 |a::l=>by
  cases h:f a
  ·simp[wv,h]
  ·simp[wv,h,sN l]
theorem Xn{U:Type}{T:Nat->Prop}{Rep:U->Hp->Prop}{step:U->za->Bool×U}{Q:za->Prop}{g:Nat}{sp:AM.Spec}{cap:zb}{Z0:Nat}(t:¬g=49)
  (X:∀j,T j->j<Z0) (K:∀s Y j b,Z0<=j->Rep s Y->Rep s (qv Y j b))
  (hS:∀s n Y Z,Q n->n.length<=zu->Z0<=Z->Rep s Y->∃x A B,sp (str n::cap) Y Z=some (x,A,B)/\yP T Rep (qS (!(step s n).1)) (step s n).2 Y Z x A B) :
  ∀(k:Nat) (c:qe) (s:U) (Y:Hp) (Z:Nat),c.cb<=k->c.cb<=zu->(∀n∈c.names,Q n)->Z0<=Z->Rep s Y ->
   ∃x A B,Xm g sp k [.agg c.V,.fn (.func g) [] cap] Y Z=some (x,A,B)/\yP T Rep (qS (!(wv step s c.names).1)) (wv step s c.names).2 Y Z x A B
 | 0,c,_,_,_,h,_,_,_,_=>absurd h (by have:=Kx c;omega)
 |k+1,c,s,C,a,hk,hl,hq,L,M=>by
  have A4:=Zm c;have hal:=jf c.args;have f:=xV c;unfold Xm yr;rw[zd (by simp[f49])];refine qE rfl ?_;have N:=hl;unfold zu at N;have D:Rep s (qv C a (some ⟨26,7,false,[c.V]⟩)):=K _ _ _ _ L M;have P:¬T a:=fun h=>by have:=X _ h;omega
  refine jI (fun U Y Z=>U 1=.fn (.func g) [] cap/\U 2=.ref a 0 0/\Y=qv C a (some ⟨26,7,false,[c.V]⟩)/\Z=a+1) (by simp) ?_;rintro U Y Z ⟨o,z,rfl,rfl⟩;refine jI (fun U Y Z=>U 1=.fn (.func g) [] cap/\U 2=.ref a 0 0/\a<Z/\Y a=some ⟨26,7,false,[c.V]⟩/\∃r,Rep r Y/\(∀j,j<a->¬T j->Y j=C j)/\wv step s c.names=wv step r (yz c.args)) ?_ ?_
  ·by_cases E:c.kind=5
   ·rw[zd E]at f;obtain⟨x,Y2,R,p,rfl,F,n2,G⟩:=hS s c.name _ (a+1) (hq c.name (by rw[f];simp)) (by unfold zu;omega) (by omega) D;cases e:(step s c.name).1
    ·rw[e]at p;simp[o,z,E,t,p];refine⟨by omega,by rw[G a (by omega) P];simp,(step s c.name).2,F,fun j J q=>by rw[G j (by omega) q,zx _ _ _ _ (by omega)],?_⟩;rw[f];exact Qc e
    ·rw[e]at p;have hv:wv step s c.names=(true,(step s c.name).2):=by rw[f];exact YR e
     simp[o,z,E,t,p,yP,hv,f49];exact⟨F,by omega,fun j J q=>by rw[G j (by omega) q,zx _ _ _ _ (by omega)]⟩
   ·rw[zc E,jJ]at f;have S:=wU E;simp[o,z,S];exact⟨s,D,fun j J q=>by rw[zx _ _ _ _ (by omega)],by rw[f]⟩
  rintro U Y Z ⟨o,z,u,hb,r,H,l,d⟩;simp[z,hb];refine zP (fun k U Y Z=>U 1=.fn (.func g) [] cap/\U 18=.sl 7 (c.args.map qe.V)/\U 19=int c.args.length/\U 20=int k/\a<Z/\(∀j,j<a->¬T j->Y j=C j)/\∃s2,Rep s2 Y/\wv step s c.names=wv step s2 (yz (c.args.drop k))) c.args.length
   ⟨by simp[o],by simp,by simp,by simp,u,l,r,H,by simpa using d⟩ ?_
  clear o z u hb H l d r U Y Z;rintro i U Y Z hi ⟨o,v,w,y,u,l,r,H,d⟩;by_cases m:i<c.args.length
  ·have hm:=kj (zj m);have hw:=qG i;have W:∀n∈c.args[i].names,Q n:=fun n q=>hq n (by rw[f];exact zM.2 (.inr (YW.2 ⟨_,zj m,q⟩)))
   obtain⟨x,Y2,R,p,rfl,F,n2,G⟩:=Xn t X K hS k c.args[i] r (qv Y Z (some ⟨26,7,false,[c.args[i].V]⟩)) (Z+1) (by omega) (by unfold zu;omega) W (by omega) (K _ _ _ _ (by omega) H);rw[Cx m,ss]at d;have I:∀j,j<a->¬T j->Y2 j=C j:=fun j J q=>by rw[G j (by omega) q,zx _ _ _ _ (by omega)];exact l j J q
   cases e:(wv step r c.args[i].names).1
   ·rw[e,zc (by simp)]at d;rw[e]at p;simp[o,v,w,y,m,p,hw];exact⟨by omega,by omega,I,_,F,d⟩
   ·rw[e,zd rfl]at d;rw[e]at p;simp[o,v,w,y,m,p,yP,d,f49];exact⟨F,by omega,I⟩
  ·obtain rfl:i=c.args.length:=by omega
   rw[zn]at d;simp only[yz,wv]at d;simp[o,v,w,y,yP,d,f49];exact⟨H,by omega,l⟩
def dB(l:List qd):kv:=⟨22,1,false,[[.sl 10 (l.map qd.V)]]⟩
noncomputable abbrev Ckn1:Ctx:=zR prog [(31,zh false [] gJ)]
noncomputable abbrev P9:AM.Spec:=yr Ckn1 f58
theorem Mr:zg prog 58 P9:=ky (zU mixed ⟨KN,trivial⟩:AM.Good Ckn1 _) func58
theorem UR(l:List qd)(n:za)(b:l.length<=zu)(Y:Hp)(Z id:Nat)(a:Y id=some (dB l)):P9 [str n,.ref id 0 0] Y Z=some (qS (w7 l n),Y,Z):=by
 unfold P9 yr;rw[zd (by simp[f58])];refine y0 rfl ?_;have c:=fun Y Z=>KM l n Y Z b
 simp[dB]at a;simp[a,c,w7,f58]
theorem sO{f:za->Bool}:∀l:List za,(wv (fun(_:Unit) n=>(!f n,())) () l).1=!(l.all f)
 |[]=>rfl
 |a::l=>by
  cases h:f a
  ·simp[wv,h]
  ·simp[wv,h,sO l]
noncomputable def FKn:zb->Option O:=ql (α:=List qd×qe) (fun a=>[.sl 10 (a.1.map qd.V),.agg a.2.V]) (fun a=>a.1.length<=zu/\a.2.cb<=zu) (fun a=>qS (Qx a.1 a.2))
theorem C7(l:List qd)(c:qe)(Y:Hp)(Z:Nat)(h:l.length<=zu)(d:c.cb<=zu):zh false [] FKn [.sl 10 (l.map qd.V),.agg c.V] Y Z=some (qS (Qx l c),Y,Z):=
 Ja (l,c) _ _ (by simp[wi]) (fun a b e=>by obtain⟨f,g⟩:=a;obtain⟨i,j⟩:=b;simp only[zk,zI,O.agg.injEq]at e;rw[xm e.1,kU e.2]) ⟨h,d⟩ (.inl rfl)
noncomputable abbrev Ckn:Ctx:=zR prog [(49,Xm 58 P9 zu)]
theorem Gv(l:List qd)(c:qe)(e:l.length<=zu)(d:c.cb<=zu):zq Ckn f25 [.sl 10 (l.map qd.V),.agg c.V]=some (qS (Qx l c)):=by
 refine zm rfl ?_;obtain⟨x,f,i,a,rfl,_,_,_⟩:=Xn (U:=Unit) (T:=fun _=>False) (Rep:=fun _ Y=>Y 0=some (dB l)) (step:=fun _ n=>(!w7 l n,())) (Q:=fun _=>True) (g:=58) (sp:=P9) (cap:=[.ref 0 0 0]) (Z0:=2) (by decide) (fun _ h=>h.elim)
  (fun _ Y j b k h=>by rw[zx _ _ _ _ (by omega)];exact h) (fun _ n Y Z _ _ _ h=>⟨_,Y,Z,UR l n e Y Z 0 h,by simp,h,zf _,fun _ _ _=>rfl⟩) zu c () (qv (qv (fun _=>none) 0 (some (dB l))) 1 (some ⟨26,7,false,[c.V]⟩)) 2 d d (fun _ _=>trivial) (zf _) (by simp)
 rw[sO]at a;simp only[dB,Bool.not_not]at a;simp[a,Qx,wa,f25]
theorem gT:zg prog 25 (zh false [] FKn):=
 xy (zU mixed ⟨YQ Mr zu,trivial⟩:AM.Good Ckn _) func25 false [] fun⟨l,c⟩ ⟨a,b⟩=>⟨by simp[f25],_,Gv l c a b,qb _⟩
def Ah(st:List Int):kv:=⟨3,1,true,st.map fun z=>[int z]⟩
noncomputable def Ra (sp:AM.Spec):AM.Spec:=yr (zR prog [(31,zh false [] gJ),(55,sp)]) f108
noncomputable def nY:Nat->AM.Spec
 | 0=>fun _ _ _=>none
 |n+1=>yr (zR prog [(49,Xm 108 (Ra (nY n)) zu)]) f55
theorem Ms{sp:AM.Spec}(h:zg prog 55 sp):zg prog 108 (Ra sp):=
 ky (qw (q:=[]) (l:=[(31,zh false [] gJ),(55,sp)]) mixed ⟨KN,by simp,h,by simp,trivial⟩) func108
theorem nZ:∀n,zg prog 55 (nY n)
 | 0=>Z4 ⟨_,func55,by kernel_rfl,by kernel_rfl⟩
 |n+1=>ky (qw (q:=[]) (l:=[(49,Xm 108 (Ra (nY n)) zu)]) mixed ⟨YQ (Ms (nZ n)) zu,by simp,trivial⟩) func55
theorem sP{S α b:Type}(f:S->b->Bool×S)(m:α->b):∀(s:S) (l:List α),wv (fun s a=>f s (m a)) s l=wv f s (l.map m)
 |_,[]=>rfl
 |s,a::l=>by simp only[we,wv,sP f m _ l]
theorem Ic(st:List Int)(i:Nat)(v:Int):(st.map fun z=>[int z]).set i [int v]=(st.set i v).map fun z=>[int z]:=by rw[zaE]
theorem C8(l:List qd)(hl:x4 l<=zu)(S:∀s∈l,∀n∈s.cond.names,w7 l n=true)(ids:Nat):∀(n:Nat) (st:List Int) (i:Nat) (Y:Hp) (Z:Nat),Zs st<n->st.length=l.length->i<l.length->ids<Z->Y ids=some (Ah st) ->
  ∃x W X,nY n [.sl 10 (l.map qd.V),.own ids 0 l.length,int i] Y Z=some (x,W,X)/\yP (·=ids) (fun st Y=>Y ids=some (Ah st)) (qS (kD (wH l) n st i).1) (kD (wH l) n st i).2 Y Z x W X
 | 0,_,_,_,_,h,_,_,_,_=>absurd h (by omega)
 |n+1,st,i,Y0,a,hw,B,d,hid,C=>by
  have hle:=vG l;have hm:=xe (zj d);have hmc:l[i].cb=1+l[i].name.length+QI l[i].ins+QI l[i].outs+l[i].cond.cb:=rfl;unfold zu at hl;have ni:¬ids=a:=by omega
  have k:¬ids=a+1:=by omega
  have c:i<st.length:=by omega
  have D:=C;simp[Ah]at D;unfold nY yr;rw[zd (by simp[f55])];refine qE rfl ?_;by_cases w:st[i]=0
  case neg=>
   have E:kD (wH l) (n+1) st i=(decide (st[i]?=some 1),st):=by simp only[kD];rw[zc (by rw[zl c];simpa using w)]
   have F:=Za w;have G:decide (st[i]?=some 1)=(st[i]==1):=by rw[zl c,qh];simp
   rw[E,G];simp[D,ni,k,d,c,F,yP,f55];exact⟨rfl,by omega,fun j H o=>by rw[zx _ _ _ _ (by omega),zx _ _ _ _ (by omega)]⟩
  have h0:st[i]?=some 0:=by rw[zl c,w]
  have hwc:=fo h0 (v:=1) (by decide);have e:wH l i=l[i].cond.names.map (jj l):=by unfold wH;rw[zl d]
  have E:kD (wH l) (n+1) st i=((wv (kD (wH l) n) (st.set i 1) (wH l i)).1,(wv (kD (wH l) n) (st.set i 1) (wH l i)).2.set i 2):=by simp only[kD];rw[zd h0]
  have I:=YN (vv (wH l) n) (wH l i) (st.set i 1);obtain⟨x,Y2,p,f,rfl,⟨q,r2b,r2c,J,K⟩,n2,r⟩:=Xn (U:=List Int) (T:=(·=ids)) (Rep:=fun s Y=>Y ids=some (Ah s)/\s.length=l.length/\Zs s<n/\Y a=some (dB l)/\Y (a+1)=some ⟨87,1,false,[[.own ids 0 l.length]]⟩) (step:=fun s m=>kD (wH l) n s (jj l m)) (Q:=fun m=>w7 l m=true) (g:=108)
   (sp:=Ra (nY n)) (cap:=[.ref a 0 0,.ref (a+1) 0 0]) (Z0:=a+2) (by decide) (fun j H=>by omega)
   (fun s Y j b H ⟨L,y,z,t,A⟩=>⟨by rw[zx _ _ _ _ (by omega)];exact L,y,z,by rw[zx _ _ _ _ (by omega)];exact t,by rw[zx _ _ _ _ (by omega)];exact A⟩)
   (fun s m Y Z hq hml o ⟨L,y,z,t,A⟩=>by
    have M:=fq hq;have G:=fun Y Z=>KM l m Y Z (by unfold zu;omega)
    obtain⟨x,Y2,p,f,rfl,q,n2,r⟩:=C8 l (by unfold zu;omega) S ids n s (jj l m) Y Z z y M (by omega) L;have u:=vv (wH l) n s (jj l m);refine⟨_,Y2,p,?_,rfl,⟨q,by rw[u.len];exact y,En u.wh z,by rw[r a (by omega) (by omega)];exact t,by rw[r (a+1) (by omega) (by omega)];exact A⟩,n2,r⟩;unfold Ra yr;rw[zd (by simp[f108])];refine y0 rfl ?_;simp only[dB]at t;simp only[jj]at f;simp[t,A,G,f,jj,f108])
   zu l[i].cond (st.set i 1) (qv (qv (qv Y0 a (some (dB l))) (a+1) (some ⟨87,1,false,[[.own ids 0 l.length]]⟩)) ids (some (Ah (st.set i 1)))) (a+2) (by unfold zu;omega) (by unfold zu;omega) (fun m hm=>S _ (zj d) m hm) (zf _)
   ⟨by simp,by simp[B],by omega,by rw[zx _ _ _ _ (by omega),zx _ _ _ _ (by omega)];simp,by rw[zx _ _ _ _ (by omega)];simp⟩
  rw[sP (kD (wH l) n) (jj l),<-e]at f q;rw[E];simp only[dB,Ah,<-Ic]at f;simp only[Ah]at q;have N:¬a=ids:=by omega
  have P:¬a+1=ids:=by omega
  have R:i<(wv (kD (wH l) n) (st.set i 1) (wH l i)).2.length:=by rw[I.len,aj];exact c
  simp[D,ni,k,N,P,d,c,w,f,q,J,K,R,yP,f55];exact⟨by rw[Ic];rfl,by omega,fun j H o=>by rw[zx _ _ _ _ o,r j (by omega) o,zx _ _ _ _ o,zx _ _ _ _ (by omega),zx _ _ _ _ (by omega)]⟩
noncomputable abbrev Css1:Ctx:=zR prog [(67,zh false [] (FKs hkP))]
noncomputable abbrev US:AM.Spec:=yr Css1 f107
theorem Mt:zg prog 107 US:=ky (zU mixed ⟨dh,trivial⟩:AM.Good Css1 _) func107
def bW(s:qd):kv:=⟨48,10,false,[s.V]⟩
theorem UT(s:qd)(k:za)(b:QI s.outs<=zu)(c:k.length<=zu)(Y:Hp)(Z id:Nat)(a:Y id=some (bW s)):US [str k,.ref id 0 0] Y Z=some (qS (JJ s.outs k).2,Y,Z):=by
 unfold US yr;rw[zd (by simp[f107])];refine y0 rfl ?_;have d:=fun Y Z=>uH s.outs k Y Z b c
 simp[bW]at a;simp[a,d,f107]
def JC(f:za->Bool):Nat->List za->Int
 |_,[]=>-1
 |k,s::l=>if f s=true then k else JC f (k+1) l
theorem n9(f:za->Bool):∀(l:List za) (k:Nat),decide (0<=JC f k l)=l.any f
 |[],k=>by simp[JC]
 |s::l,k=>by
  cases h:f s
  ·rw[JC,h,zc (by simp),n9 f l (k+1),y9,h];rfl
  ·rw[JC,h,zd rfl,y9,h];simp
noncomputable abbrev Csix:Ctx:=zR prog [(107,US)]
noncomputable abbrev UU:AM.Spec:=yr Csix f149
theorem Mu:zg prog 149 UU:=ky (zU mixed ⟨Mt,trivial⟩:AM.Good Csix _) func149
def pS(id:Nat):O:=.fn (.func 107) [] [.ref id 0 0]
theorem UW(s:qd)(hs:s.cb<=zu)(Y:Hp)(Z id:Nat)(q:Y id=some (bW s)) :
  UU [.sl 1 (zy s.ins),pS id] Y Z=some (int (JC (fun k=>(JJ s.outs k).2) 0 s.ins),Y,Z):=by
 have r:s.cb=1+s.name.length+QI s.ins+QI s.outs+s.cond.cb:=rfl;have t:=Zg s.ins;have u:=fun k (o:k∈s.ins)=>de o
 unfold zu at hs;unfold UU yr;rw[zd (by simp[f149])];refine y0 rfl ?_;have e:(zy s.ins).length=s.ins.length:=by simp[zy]
 simp[pS,e];refine zP (fun k U Y1 f=>U 0=.sl 1 (zy s.ins)/\U 1=pS id/\U 7=int s.ins.length/\U 8=int k/\Y1=Y/\f=Z/\JC (fun k=>(JJ s.outs k).2) 0 s.ins=JC (fun k=>(JJ s.outs k).2) k (s.ins.drop k)) s.ins.length ⟨by simp,by simp[pS],by simp,by simp,rfl,rfl,by simp⟩ ?_;rintro k U Y1 f o ⟨i,j,l,m,rfl,rfl,c⟩;by_cases b:k<s.ins.length
 ·have p:=qG k;obtain⟨y,n⟩:=jc (s.ins[k]);have v:=u y (by rw[<-n];exact zj b);have d:k<(zy s.ins).length:=by omega
  have g:(zy s.ins)[k]=[str y]:=by simp[zy,n]
  have a:=UT s y (by unfold zu;omega) (by unfold zu;omega) Y1 f id q;rw[ze b,n,JC]at c;cases h:(JJ s.outs y).2
  ·rw[h,zc (by simp)]at c;rw[h]at a;simp[i,j,l,m,pS,b,e,d,g,a,p];exact⟨by omega,c⟩
  ·rw[h,zd rfl]at c;rw[h]at a;simp[i,j,l,m,pS,b,e,d,g,a,p,c,f149]
 ·obtain rfl:k=s.ins.length:=by omega
  rw[zn]at c;simp only[JC]at c;simp[i,j,l,m,c,f149]
noncomputable abbrev Csct:Ctx:=zR prog [(149,UU)]
noncomputable abbrev UX:AM.Spec:=yr Csct f106
theorem Mv:zg prog 106 UX:=ky (zU mixed ⟨Mu,trivial⟩:AM.Good Csct _) func106
theorem UY(s:qd)(hs:s.cb<=zu)(Y:Hp)(Z id:Nat)(b:Y id=some (bW s)) :
  UX [.sl 1 (zy s.ins),pS id] Y Z=some (qS (s.ins.any fun k=>(JJ s.outs k).2),Y,Z):=by
 unfold UX yr;rw[zd (by simp[f106])];refine y0 rfl ?_;have a:=UW s hs Y Z id b;have c:=n9 (fun k=>(JJ s.outs k).2) s.ins 0;simp only[pS]at a;simp[pS,a,c,f106]
noncomputable def FSgm (out:qd->O):zb->Option O:=ql (α:=qd) (fun s=>[.agg s.V]) (fun s=>s.cb<=zu) out
theorem Mw(out:qd->O)(s:qd)(Y:Hp)(Z:Nat)(h:s.cb<=zu)(c:(out s).flat=true):zh false [] (FSgm out) [.agg s.V] Y Z=some (out s,Y,Z):=
 Ja s _ _ (by simp[ye]) (fun a b e=>by simp only[zk,zI,O.agg.injEq]at e;exact KL e) h (.inl c)
noncomputable abbrev Csg1:Ctx:=zR prog [(105,zh false [] (LU (fun l=>int (vX l)) fun l=>QI l<=zu)),(106,UX),(24,GC fun c=>int c.check)]
theorem UZ{l m:List za}(a:aq m):(l.any fun k=>(JJ m k).2)=l.any fun k=>m.contains k:=by congr 1;funext k;exact uI a k
theorem dC(s:qd)(h:s.cb<=zu):zq Csg1 f54 [.agg s.V]=some (int (xW s)):=by
 have n:s.cb=1+s.name.length+QI s.ins+QI s.outs+s.cond.cb:=rfl;unfold zu at h;have j:=fun Y Z=>df (fun l=>int (vX l)) (fun l=>QI l<=zu) s.ins Y Z (by unfold zu;omega) rfl
 have m:=fun Y Z=>df (fun l=>int (vX l)) (fun l=>QI l<=zu) s.outs Y Z (by unfold zu;omega) rfl
 have o:=fun Y Z=>ZR (fun c=>int c.check) s.cond Y Z (by unfold zu;omega)
 refine zm rfl ?_;simp[zp,zE,zo];rw[zH];by_cases b:vX s.ins=0
 case neg=>
  have a:xW s=vX s.ins:=by unfold xW;rw[zc b]
  have g:=Za b;simp[j,g,a,wa,f54]
 have p:=wz 1;have q:=wz 2;simp[j,b,p];rw[zH];by_cases d:vX s.outs=0
 case neg=>
  have a:xW s=vX s.outs:=by unfold xW;rw[zd b,zc d]
  have i:=Za d;simp[m,i,a,wa,f54]
 simp[m,d,q];rw[zH];have e:=UY s (by unfold zu;omega) (qv (qv (fun _=>none) 0 (some (bW s))) 1 (some ⟨33,1,true,[[.sl 1 (zy s.ins)],[.sl 1 (zy s.outs)]]⟩)) 2 0 (by simp);rw[UZ (nq d)]at e;simp only[pS,bW]at e;cases f:s.ins.any fun k=>s.outs.contains k
 ·have a:xW s=s.cond.check:=by unfold xW;rw[zd b,zd d,f,zc (by simp)]
  rw[f]at e;simp[e,o,a,wa,f54]
 ·have a:xW s=7:=by unfold xW;rw[zd b,zd d,f,zd rfl]
  rw[f]at e;simp[e,a,wa,f54]
theorem bX:zg prog 54 (zh false [] (FSgm fun s=>int (xW s))):=
 xy (zU mixed ⟨iD,Mv,db,trivial⟩:AM.Good Csg1 _) func54 false [] fun s a=>⟨by simp[f54],_,dC s a,qb _⟩
def JD(l:List qd)(k:Nat):Option za:=if k=0 then none else(l[k-1]?).map qd.name
noncomputable def FSs (out:List qd->O):zb->Option O:=ql (α:=List qd) (fun l=>[.sl 10 (l.map qd.V)]) (fun l=>x4 l<=zu) out
theorem Rb(out:List qd->O)(l:List qd)(Y:Hp)(Z:Nat)(h:x4 l<=zu)(c:(out l).flat=true):zh false [] (FSs out) [.sl 10 (l.map qd.V)] Y Z=some (out l,Y,Z):=
 Ja l _ _ rfl (fun a b e=>by simp only[zk,zI]at e;exact xm e) h (.inl c)
noncomputable abbrev Csgs:Ctx:=zR prog [(27,zh false [] (FS wS)),(54,zh false [] (FSgm fun s=>int (xW s))),(25,zh false [] FKn),(55,nY 2097153)]
theorem U0:Gd Csgs:=zU mixed ⟨Yl,bX,gT,nZ _,trivial⟩
theorem Mx:QZ Csgs g0F 23 f23:=qD func23
theorem bY(l:List qd)(h:x4 l<=zu):zq Csgs f23 [.sl 10 (l.map qd.V)]=some (int (kd l)):=by
 have hlen:=vG l;have hlim:zu=2097152:=rfl;refine zm rfl ?_;by_cases o:(100:Int)<l.length
 ·have d:kd l=2:=by unfold kd;rw[zd o]
  simp[o,d,f23]
 refine jI (fun U Y Z=>U 0=.sl 10 (l.map qd.V)) (by simp) ?_;rintro U Y Z c;refine jI (fun U Y Z=>U 0=.sl 10 (l.map qd.V)) (by simp[c,o]) ?_;clear c U Y Z;rintro U Y Z c;refine jI (fun U Y Z=>U 0=.sl 10 (l.map qd.V)/\W7 none l=0) ?_ ?_
 ·simp[c];refine zP (fun k U Y Z=>U 0=.sl 10 (l.map qd.V)/\U 13=.sl 10 (l.map qd.V)/\U 14=int l.length/\U 15=int k/\W7 none l=W7 (JD l k) (l.drop k)) l.length ⟨by simp[c],by simp,by simp,by simp,by simp[JD]⟩ ?_;clear c U Y Z;rintro k U Y Z hk ⟨c,e,f,g,a⟩;by_cases b:k<l.length
  ·have G:=qG k;obtain⟨s,hs⟩:=jc (l[k]);have L:=xe (zj b);rw[hs]at L;have M:s.cb=1+s.name.length+QI s.ins+QI s.outs+s.cond.cb:=rfl;have i:s.name.length<=zu:=by omega
   have B:JD l (k+1)=some s.name:=by simp[JD,b,hs]
   have p:=fun Y Z=>Mw (fun s=>int (xW s)) s Y Z (by omega) rfl
   rw[F5 b,hs]at a;cases r:wS s.name
   ·rw[r,zc (by simp)]at a;have d:kd l=5:=by unfold kd;rw[zc o,a,zc (by decide)]
    simp[c,e,f,g,b,hs,i,r,d,f23]
   rw[r,zd rfl]at a;have key:kr (JD l k) s.name=true\/kr (JD l k) s.name=false:=by cases kr (JD l k) s.name<;>simp
   by_cases k0:k=0
   ·subst k0;have w1:=wz 1;simp only[JD,kr,qH,zF,qR]at a;by_cases m:xW s=0
    ·rw[zd m]at a;simp[c,e,f,g,b,hs,i,r,p,m,w1];exact⟨by omega,by rw[a,B];simp⟩
    ·rw[zc m]at a;have t:=Za m;have d:kd l=xW s:=by unfold kd;rw[zc o,a,zc m]
     simp[c,e,f,g,b,hs,i,r,p,t,d,f23]
   ·obtain⟨j,rfl⟩:∃j,k=j+1:=⟨k-1,by omega⟩;have H:j<l.length:=by omega
    have N:i6.wrap ((j:Int)+1-1)=(j:Int):=by rw[wu (by omega) (by omega)];omega
    have u:=wz (j:Int);have Q:((j:Int)+1).toNat=j+1:=by omega
    have R:0<(j:Int)+1:=by omega
    have S:0<=(j:Int)+1:=by omega
    have T:(j:Int)+1<l.length:=by omega
    have wk:=wz ((j:Int)+1+1);have W:(Op.bytesLess s.name l[j].name||s.name==l[j].name)=cD s.name l[j].name:=rfl;have X:JD l (j+1)=some l[j].name:=by simp[JD,H]
    simp only[X,kr]at a;cases C:cD s.name l[j].name
    ·rw[C,zc (by simp)]at a;by_cases m:xW s=0
     ·rw[zd m]at a;simp[c,e,f,g,b,H,hs,i,r,N,u,Q,R,S,T,W,C,wk,p,m];exact⟨by omega,by rw[a,B]⟩
     ·rw[zc m]at a;have t:=Za m;have d:kd l=xW s:=by unfold kd;rw[zc o,a,zc m]
      simp[c,e,f,g,b,H,hs,i,r,N,u,Q,R,S,T,W,C,p,t,d,f23]
    ·rw[C,zd rfl]at a;have d:kd l=8:=by unfold kd;rw[zc o,a,zc (by decide)]
     simp[c,e,f,g,b,H,hs,i,r,N,u,Q,R,S,T,W,C,d,f23]
  ·obtain rfl:k=l.length:=by omega
   rw[zn]at a;have a:W7 none l=0:=by rw[a];rfl
   simp[c,e,f,g,a]
 clear c U Y Z;rintro U Y Z ⟨c,hG⟩;refine jI (fun U Y Z=>U 0=.sl 10 (l.map qd.V)/\(l.all fun s=>Qx l s.cond)=true) ?_ ?_
 ·simp[c];refine zP (fun k U Y Z=>U 0=.sl 10 (l.map qd.V)/\U 43=.sl 10 (l.map qd.V)/\U 44=int l.length/\U 45=int k/\(l.all fun s=>Qx l s.cond)=(l.drop k).all fun s=>Qx l s.cond) l.length ⟨by simp[c],by simp,by simp,by simp,by simp⟩ ?_;clear c U Y Z;rintro k U Y Z hk ⟨c,v,w,y,a⟩;by_cases b:k<l.length
  ·have G:=qG k;obtain⟨s,hs⟩:=jc (l[k]);have L:=xe (zj b);rw[hs]at L;have M:s.cb=1+s.name.length+QI s.ins+QI s.outs+s.cond.cb:=rfl;have q:=fun Y Z=>C7 l s.cond Y Z (by omega) (by omega)
   rw[ze b,hs,wI]at a;cases I:Qx l s.cond
   ·rw[I,ZL]at a;have d:kd l=9:=by unfold kd;rw[zc o,zd hG,a,zc (by simp)]
    simp[c,v,w,y,b,hs,q,I,d,f23]
   ·rw[I,jK]at a;simp[c,v,w,y,b,hs,q,I,G];exact⟨by omega,a⟩
  ·obtain rfl:k=l.length:=by omega
   rw[zn]at a;simp only[K8]at a;simp[c,v,w,y];exact zV.1 a
 clear c U Y Z;rintro U Y Z ⟨c,hK⟩;have q:∀s∈l,∀n∈s.cond.names,w7 l n=true:=fun s hs n hn=>zV.1 (zV.1 hK s hs) n hn
 have hm1:l.length<=maxLen:=by unfold maxLen;omega
 have hm2:l.length*8<=140737488355328:=by omega
 simp[c,xM,hm1,hm2];obtain⟨P,hP⟩:=jc Z;rw[hP];refine zP (fun k U Y Z=>U 0=.sl 10 (l.map qd.V)/\U 8=.own P 0 l.length/\U 59=int l.length/\U 60=int k/\P<Z/\∃st:List Int,st.length=l.length/\Zs st<2097153/\Y P=some (Ah st)/\nt l=(Ph l st ((List.range l.length).drop k)).1) l.length
  ⟨by simp[c],by simp,by simp,by simp,by simp,List.replicate l.length 0,by simp,by rw[nu];omega,by simp[Ah],by simp[nt]⟩ ?_
 clear c hP U Y Z;rintro k U Y Z hk ⟨c,h8,z,A,hPn,st,D,E,hb,a⟩;by_cases b:k<l.length
 ·have G:=qG k;obtain⟨x,Y2,Sr,J,rfl,r2,n2,f2⟩:=C8 l h q P 2097153 st k Y Z E D b hPn hb;have F:=vv (wH l) 2097153 st k;rw[ze (by simpa using b),List.getElem_range]at a;unfold Ph at a;cases K:(kD (wH l) 2097153 st k).1
  ·rw[Qc K]at a;rw[K]at J;simp[c,h8,z,A,b,J,G];exact⟨by omega,by omega,_,by rw[F.len];exact D,En F.wh E,r2,by rw[a];rfl⟩
  ·rw[YR K]at a;rw[K]at J;have d:kd l=12:=by unfold kd;rw[zc o,zd hG,zd hK,zd a]
   simp[c,h8,z,A,b,J,d,f23]
 ·obtain rfl:k=l.length:=by omega
  have a:nt l=false:=by rw[a,vi (by simp)];rfl
  have d:kd l=0:=by unfold kd;rw[zc o,zd hG,zd hK,a,zc (by simp)]
  simp[c,h8,z,A,d,f23]
theorem ax:zg prog 23 (zh false [] (FSs fun l=>int (kd l))):=
 wW (fn:=f23) U0 Mx false [] _ fun args r h=>by obtain⟨l,rfl,a,rfl⟩:=zN h;exact⟨zw (zf 1) (by decide),_,bY l a,qb _⟩
noncomputable def WH (s:qd) (q:za):Int:=if wS s.name=true then(if cD s.name q=true then 8 else xW s)else 5
noncomputable def FSgB (out:qd->za->O):zb->Option O:=ql (α:=qd×za) (fun a=>[.agg a.1.V,str a.2]) (fun a=>a.1.cb<=zu) fun a=>out a.1 a.2
theorem My(out:qd->za->O)(s:qd)(q:za)(Y:Hp)(Z:Nat)(h:s.cb<=zu)(c:(out s q).flat=true):zh false [] (FSgB out) [.agg s.V,str q] Y Z=some (out s q,Y,Z):=
 Ja (s,q) _ _ (by simp[ye]) (fun a b e=>by obtain⟨d,f⟩:=a;obtain⟨g,i⟩:=b;simp only[zk,zI,O.agg.injEq]at e;rw[KL e.1,wR e.2]) h (.inl c)
noncomputable abbrev Crsg:Ctx:=zR prog [(39,zh false [] (FS wS)),(128,zh false [] (LU (fun l=>int (vX l)) fun l=>QI l<=zu)),(53,zh false [1] (SZ fun l v=>qS (decide (v∈l)))),(36,GC fun c=>int c.check)]
theorem dD{α:Type}{p:α->Bool}{l:List α}{k:Nat}(h:k<l.length):(l.drop k).any p=(p l[k]||(l.drop (k+1)).any p):=by rw[ze h,y9]
theorem bZ(s:qd)(q:za)(h:s.cb<=zu):zq Crsg f76 [.agg s.V,str q]=some (int (WH s q)):=by
 have D:s.cb=1+s.name.length+QI s.ins+QI s.outs+s.cond.cb:=rfl;have E:=Zg s.ins;have F:=Zg s.outs;unfold zu at h;have a:s.name.length<=zu:=by unfold zu;omega
 have u:=fun Y Z=>df (fun l=>int (vX l)) (fun l=>QI l<=zu) s.ins Y Z (by unfold zu;omega) rfl
 have B:=fun Y Z=>df (fun l=>int (vX l)) (fun l=>QI l<=zu) s.outs Y Z (by unfold zu;omega) rfl
 have G:=fun Y Z=>ZR (fun c=>int c.check) s.cond Y Z (by unfold zu;omega)
 have r:(Op.bytesLess s.name q||s.name==q)=cD s.name q:=rfl;refine zm rfl ?_;unfold WH;cases n:wS s.name
 ·simp[a,n,f76]
 cases t:cD s.name q
 case true=>simp[a,n,r,t,f76]
 by_cases b:vX s.ins=0
 case neg=>
  have e:xW s=vX s.ins:=by unfold xW;rw[zc b]
  have w:=Za b;simp[a,n,r,t,u,w,e,f76]
 by_cases o:vX s.outs=0
 case neg=>
  have e:xW s=vX s.outs:=by unfold xW;rw[zd b,zc o]
  have y:=Za o;simp[a,n,r,t,u,b,B,y,e,f76]
 simp[a,n,r,t,u,b,B,o];refine zP (fun k U Y Z=>U 2=.ref 0 0 0/\U 32=.sl 1 (zy s.ins)/\U 33=int s.ins.length/\U 34=int k/\1<=Z/\Y 0=some (bW s)/\(s.ins.any fun k=>s.outs.contains k)=(s.ins.drop k).any fun k=>s.outs.contains k) s.ins.length
  ⟨by simp,by simp,by simp,by simp,by simp,by simp[bW],by simp⟩ ?_
 rintro k U Y Z K ⟨z,f,g,i,H,p,m⟩;simp only[bW]at p;by_cases j:k<s.ins.length
 ·have I:=qG k;obtain⟨x,A⟩:=jc (s.ins[k]);rw[dD j,A]at m;have C:=fun Y Z=>Xl (fun l v=>qS (decide (v∈l))) s.outs x Y Z (by unfold zu;omega)
  by_cases d:x∈s.outs
  ·have e:xW s=7:=by unfold xW;rw[zd b,zd o,m];simp[d]
   simp[z,f,g,i,j,A,p,C,d,e,f76]
  ·have J:s.outs.contains x=false:=by simpa using d
   rw[J,kQ]at m;simp[z,f,g,i,j,A,p,C,d,I]
   and_intros<;>first|omega|exact p|rfl|simpa using m
 ·obtain rfl:k=s.ins.length:=by omega
  rw[zn]at m;have e:xW s=s.cond.check:=by unfold xW;rw[zd b,zd o,m];simp
  simp[z,f,g,i,p,G,e,f76]
theorem ay:zg prog 76 (zh false [] (FSgB fun s q=>int (WH s q))):=
 xy (zU mixed ⟨Jv,ft,ZT,bb,trivial⟩:AM.Good Crsg _) func76 false [] fun⟨s,q⟩ a=>⟨zw (zf 2) (by decide),_,bZ s q a,qb _⟩
noncomputable def C9 (Ta:Qg):AM.Spec:=yr (zR prog Ta) f120
noncomputable def Ie (Ta:Qg):AM.Spec:=yr (zR prog [(120,C9 Ta)]) f71
theorem Gw{Ta:Qg}(h:cx True prog [] Ta):zg prog 120 (C9 Ta):=ky (qw (q:=[]) mixed h) func120
theorem Gx{Ta:Qg}(h:cx True prog [] Ta):zg prog 71 (Ie Ta):=ky (qw (q:=[]) (l:=[(120,C9 Ta)]) mixed ⟨Gw h,by simp,trivial⟩) func71
theorem Rc{U:Type}{T:Nat->Prop}{Rep:U->Hp->Prop}{step:U->qa->Bool×U}{Ta:Qg}{g:Nat}{sp:AM.Spec}{fi cap:zb}{Z0:Nat}(A:lookup Ta g=some sp)(xs:List qa)(D:xs.length<=zu)
  (E:∀s x Y Z,x∈xs->Z0<=Z->Rep s Y->∃r b c,sp (fi++.agg x.V::cap) Y Z=some (r,b,c)/\yP T Rep (qS (step s x).1) (step s x).2 Y Z r b c)
  (h:U) (i:Hp) (a:Nat) (P:Z0<=a) (F:Rep h i) :
  ∃r b c,Ie Ta [.sl 5 (xs.map qa.V),.fn (.func g) fi cap] i a=some (r,b,c)/\yP T Rep (qS (wv step h xs).1) (wv step h xs).2 i a r b c:=by
 have q:∃r b c,C9 Ta [.sl 5 (xs.map qa.V),.fn (.func g) fi cap] i a=some (r,b,c)/\∃z:Int,r=int z/\decide (0<=z)=(wv step h xs).1/\yP T Rep (int z) (wv step h xs).2 i a r b c:=by
  unfold C9 yr;rw[zd (by simp[f120])];refine qE rfl ?_;unfold zu at D;simp;refine zP (fun k U Y Z=>U 0=.sl 5 (xs.map qa.V)/\U 1=.fn (.func g) fi cap/\U 7=int xs.length/\U 8=int k/\a<=Z/\(∀j,j<a->¬T j->Y j=i j)/\∃s,Rep s Y/\wv step h xs=wv step s (xs.drop k)) xs.length ⟨by simp,by simp,by simp,by simp,zf _,fun _ _ _=>rfl,h,F,by simp⟩ ?_;rintro k U Y Z Q ⟨t,u,v,w,y,m,s,n,f⟩;by_cases d:k<xs.length
  ·have G:=qG k;obtain⟨x,p⟩:=jc (xs[k]);obtain⟨r,Y2,H,l,rfl,B,R,I⟩:=E s x Y Z (by rw[<-p];exact zj d) (by omega) n;rw[ze d,p]at f;have o:∀j,j<a->¬T j->Y2 j=i j:=fun j J C=>by rw[I j (by omega) C];exact m j J C
   cases e:(step s x).1
   ·rw[Qc e]at f;rw[e]at l;simp[t,u,v,w,d,p,A,l,G];exact⟨by omega,by omega,o,_,B,f⟩
   ·rw[YR e]at f;rw[e]at l;simp[t,u,v,w,d,p,A,l,f,yP,f120];exact⟨B,by omega,o⟩
  ·obtain rfl:k=xs.length:=by omega
   rw[zn]at f;simp only[wv]at f;simp[t,u,v,w,f,yP,f120];exact⟨n,y,m⟩
 obtain⟨r,b,c,l,z,rfl,K,_,L,M,N⟩:=q;unfold Ie yr;rw[zd (by simp[f71])];refine qE rfl ?_;simp[l,K,yP,f71];exact⟨L,M,N⟩
@[simp]theorem zg3(s:qK):s.V.length=11:=rfl
@[simp]theorem zfS(s:qK):s.V.take 11=s.V:=qx (by simp)
noncomputable def Da (Ta:Qg):AM.Spec:=yr (zR prog Ta) f220
noncomputable def Ig (Ta:Qg):AM.Spec:=yr (zR prog [(220,Da Ta)]) f174
theorem Gy{Ta:Qg}(h:cx True prog [] Ta):zg prog 220 (Da Ta):=ky (qw (q:=[]) mixed h) func220
theorem Gz{Ta:Qg}(h:cx True prog [] Ta):zg prog 174 (Ig Ta):=ky (qw (q:=[]) (l:=[(220,Da Ta)]) mixed ⟨Gy h,by simp,trivial⟩) func174
theorem Re{U:Type}{T:Nat->Prop}{Rep:U->Hp->Prop}{step:U->qK->Bool×U}{Ta:Qg}{g:Nat}{sp:AM.Spec}{fi cap:zb}{Z0:Nat}(A:lookup Ta g=some sp)(xs:List qK)(D:xs.length<=zu)
  (E:∀s x Y Z,x∈xs->Z0<=Z->Rep s Y->∃r b c,sp (fi++.agg x.V::cap) Y Z=some (r,b,c)/\yP T Rep (qS (step s x).1) (step s x).2 Y Z r b c)
  (h:U) (i:Hp) (a:Nat) (P:Z0<=a) (F:Rep h i) :
  ∃r b c,Ig Ta [.sl 11 (xs.map qK.V),.fn (.func g) fi cap] i a=some (r,b,c)/\yP T Rep (qS (wv step h xs).1) (wv step h xs).2 i a r b c:=by
 have q:∃r b c,Da Ta [.sl 11 (xs.map qK.V),.fn (.func g) fi cap] i a=some (r,b,c)/\∃z:Int,r=int z/\decide (0<=z)=(wv step h xs).1/\yP T Rep (int z) (wv step h xs).2 i a r b c:=by
  unfold Da yr;rw[zd (by simp[f220])];refine qE rfl ?_;unfold zu at D;simp;refine zP (fun k U Y Z=>U 0=.sl 11 (xs.map qK.V)/\U 1=.fn (.func g) fi cap/\U 7=int xs.length/\U 8=int k/\a<=Z/\(∀j,j<a->¬T j->Y j=i j)/\∃s,Rep s Y/\wv step h xs=wv step s (xs.drop k)) xs.length ⟨by simp,by simp,by simp,by simp,zf _,fun _ _ _=>rfl,h,F,by simp⟩ ?_;rintro k U Y Z Q ⟨t,u,v,w,y,m,s,n,f⟩;by_cases d:k<xs.length
  ·have G:=qG k;obtain⟨x,p⟩:=jc (xs[k]);obtain⟨r,Y2,H,l,rfl,B,R,I⟩:=E s x Y Z (by rw[<-p];exact zj d) (by omega) n;rw[ze d,p]at f;have o:∀j,j<a->¬T j->Y2 j=i j:=fun j J C=>by rw[I j (by omega) C];exact m j J C
   cases e:(step s x).1
   ·rw[Qc e]at f;rw[e]at l;simp[t,u,v,w,d,p,A,l,G];exact⟨by omega,by omega,o,_,B,f⟩
   ·rw[YR e]at f;rw[e]at l;simp[t,u,v,w,d,p,A,l,f,yP,f220];exact⟨B,by omega,o⟩
  ·obtain rfl:k=xs.length:=by omega
   rw[zn]at f;simp only[wv]at f;simp[t,u,v,w,f,yP,f220];exact⟨n,y,m⟩
 obtain⟨r,b,c,l,z,rfl,K,_,L,M,N⟩:=q;unfold Ig yr;rw[zd (by simp[f174])];refine qE rfl ?_;simp[l,K,yP,f174];exact⟨L,M,N⟩
def S3(a b:za):O:=qS (Lib.hasSuffix a b)
theorem iK(a b:za)(c:a.length<=zu)(d:b.length<=zu):zq Cw0 f158 [str a,str b]=some (S3 a b):=by
 refine zm rfl ?_;have hs:=Lib.hasSuffix_of_drop a b;unfold zu at c d;by_cases h:b.length<=a.length
 ·rw[Em h,jK]at hs;have e:i6.wrap ((a.length:Int)-b.length)=((a.length-b.length:Nat):Int):=by rw[wu (by omega) (by omega)];omega
  have f:(a.drop (a.length-b.length)).take (a.length-(a.length-b.length))=a.drop (a.length-b.length):=qx (by simp);simp[h,e,S3,<-hs,f,f158]
 ·rw[decide_eq_false h,ZL]at hs;have g:¬((b.length:Int)<=a.length):=by omega
  simp[h,g,S3,<-hs,f158]
theorem fG:zg prog 158 (zh false [] (Zr S3 fun _ _=>True)):=
 wW (fn:=f158) Fw (qD func158) false [] _ fun args r h=>by obtain⟨a,b,rfl,c,d,_,rfl⟩:=kl h;exact⟨by simp[f158],_,iK a b c d,qb _⟩
theorem Ai(a b:za)(Y:Hp)(Z:Nat)(h:a.length<=zu)(c:b.length<=zu):zh false [] (Zr S3 fun _ _=>True) [str a,str b] Y Z=some (qS (Lib.hasSuffix a b),Y,Z):=jV _ _ a b Y Z h c trivial rfl
noncomputable abbrev Chsf:Ctx:=zR prog [(158,zh false [] (Zr S3 fun _ _=>True))]
theorem Vr:zg prog 122 (zh false [] (Zr S3 fun _ _=>True)):=
 wW (fn:=f122) (zU mixed ⟨fG,trivial⟩:AM.Good Chsf _) (qD func122) false [] _ fun args r h=>by obtain⟨a,b,rfl,c,d,_,rfl⟩:=kl h;exact⟨by simp[f122],_,zm rfl (by simp[Ai,c,d,S3,f122]),qb _⟩
noncomputable def FCu (f:Cut->O):zb->Option O:=ql (α:=Cut) (fun c=>[.agg c.V]) (fun c=>c.v.small) f
theorem Db(f:Cut->O)(c:Cut)(Y:Hp)(Z:Nat)(h:c.v.small)(d:(f c).flat=true):zh false [] (FCu f) [.agg c.V] Y Z=some (f c,Y,Z):=
 Ja c _ _ (by simp[Cut.V]) (fun a b e=>by simp only[zk,zI,O.agg.injEq]at e;exact Zf e) h (.inl d)
def ZG(c:Cut):Bool:=c.v.a==0&&(c.v.b==0&&(c.v.c==0&&((c.v.pre.length:Int)==0&&!c.after)))
theorem Dc(c:Cut):zq Cw0 f219 [.agg c.V]=some (qS (ZG c)):=by
 refine zm rfl ?_;obtain⟨⟨x,y,z,p⟩,f⟩:=c;by_cases a:x=0
 case neg=>have d:=wU a;simp[Cut.V,d,ZG,f219]
 by_cases b:y=0
 case neg=>have e:=wU b;simp[Cut.V,a,e,ZG,f219]
 by_cases g:z=0
 case neg=>have h:=wU g;simp[Cut.V,a,b,h,ZG,f219]
 cases i:((p.length:Int)==0)
 ·simp[Cut.V,a,b,g,i,ZG,f219]
 ·cases f<;>simp[Cut.V,a,b,g,i,ZG,f219]
theorem Aj:zg prog 219 (zh false [] (FCu fun c=>qS (ZG c))):=
 xy Fw func219 false [] fun c _=>⟨by simp[f219],_,Dc c,qb _⟩
noncomputable def b4 (v:wy) (c:Cut):Bool:=decide (0<xI v c.v)||(xI v c.v==0&&!c.after)
noncomputable def FVC (f:wy->Cut->O):zb->Option O:=ql (α:=wy×Cut) (fun a=>[.agg a.1.V,.agg a.2.V]) (fun a=>a.1.small/\a.2.v.small) (fun a=>f a.1 a.2)
theorem Dd(f:wy->Cut->O)(v:wy)(c:Cut)(Y:Hp)(Z:Nat)(h:v.small)(d:c.v.small)(g:(f v c).flat=true):zh false [] (FVC f) [.agg v.V,.agg c.V] Y Z=some (f v c,Y,Z):=
 Ja (v,c) _ _ (by simp[Cut.V,wy.V]) (fun a b e=>by obtain⟨i,j⟩:=a;obtain⟨k,l⟩:=b;simp only[zk,zI,O.agg.injEq]at e;rw[Wx e.1,Zf e.2]) ⟨h,d⟩ (.inl g)
theorem De(v:wy)(c:Cut)(h:v.small)(f:c.v.small):zq Ccu f176 [.agg v.V,.agg c.V]=some (qS (b4 v c)):=by
 refine zm rfl ?_;have a:=fun Y Z=>uk v c.v Y Z h f
 simp only[wy.V]at a;by_cases d:0<xI v c.v
 ·simp[Cut.V,wy.V,a,d,b4,f176]
 by_cases e:xI v c.v=0
 ·cases g:c.after<;>simp[Cut.V,wy.V,a,e,g,b4,f176]
 ·have b:=wU e;simp[Cut.V,wy.V,a,d,b,b4,f176]
theorem Ak:zg prog 176 (zh false [] (FVC fun v c=>qS (b4 v c))):=
 xy OB func176 false [] fun⟨v,c⟩ ⟨a,b⟩=>⟨by simp[f176],_,De v c a b,qb _⟩
noncomputable def vY (s:qK):Int:=if s.yv=true then(if ZG s.hi=true then 0 else 3)else if yS s.hi.v=0 then(if 0<=wb s.lo s.hi then 8 else 0)else yS s.hi.v
noncomputable def Zu (p:Option qK) (s:qK):Bool:=match p with
 |none=>false
 |some q=>q.yv||decide (0<=wb q.hi s.lo)
noncomputable def fH:Option qK->List qK->Int
 |_,[]=>0
 |p,s::l=>if yS s.lo.v=0 then(if vY s=0 then(if Zu p s=true then 8 else fH (some s) l)else vY s)else yS s.lo.v
theorem sQ{l:List qK}{k:Nat}(h:k<l.length)(p:Option qK):fH p (l.drop k)=if yS l[k].lo.v=0 then(if vY l[k]=0 then(if Zu p l[k]=true then 8 else fH (some l[k]) (l.drop (k+1)))else vY l[k])else yS l[k].lo.v:=by rw[ze h,fH]
def Yb(l:List qK)(k:Nat):Option qK:=if k=0 then none else l[k-1]?
noncomputable def xn (l:List qK):Int:=if(100:Int)<l.length then 2 else fH none l
noncomputable def Rf (v:wy) (s:qK):Bool:=b4 v s.lo&&(s.yv||!b4 v s.hi)
noncomputable abbrev Ccrg:Ctx:=zR prog [(164,qn [.g jY] (HN fun v=>int (yS v))),(219,zh false [] (FCu fun c=>qS (ZG c))),(216,qn [.g jm,.g jm] (um fun v w=>int (wb v w)))]
theorem U1:AM.Good Ccrg (fun g=>[216].contains g):=qw mixed ⟨ZX,by simp,Aj,by simp,xB,fun _=>yG _ _,trivial⟩
theorem Mz:QZ Ccrg (fun g=>[216].contains g) 173 f173:=qD func173
theorem YS(v:wy)(Y:Hp)(Z:Nat)(h:v.small):qn [.g jY] (HN fun v=>int (yS v)) [.agg v.V] Y Z=some (int (yS v),Y,Z):=mB (fun v=>int (yS v)) v (.agg v.V) Y Y Z (.agg v.V) (by simp[wy.V]) (by simp[wy.V]) h rfl
theorem iL(l:List qK)(hl:yE l):zq Ccrg f173 [.sl 11 (zW l)]=some (int (xn l)):=by
 obtain⟨R,S⟩:=hl;unfold zu at R;have e:(zW l).length=l.length:=by simp[zW]
 have T:∀(k:Nat) (h:k<(zW l).length) (h':k<l.length),(zW l)[k]=l[k].V:=fun k h h'=>by simp[zW]
 refine zm rfl ?_;by_cases E:(100:Int)<l.length
 ·have p:xn l=2:=by unfold xn;rw[zd E]
  simp[e,E,p,f173]
 simp[e,E];refine zP (fun k U Y Z=>U 0=.sl 11 (zW l)/\U 10=.sl 11 (zW l)/\U 11=int l.length/\U 12=int k/\fH none l=fH (Yb l k) (l.drop k)) l.length ⟨by simp,by simp,by simp,by simp,by simp[Yb]⟩ ?_;rintro k U Y Z hk ⟨x,f,g,i,o⟩;by_cases b:k<l.length
 ·have hw:=qG k;obtain⟨s,hs⟩:=jc (l[k]);have y:=S s (by rw[<-hs];exact zj b);have a:k<(zW l).length:=by omega
  have m:=T k a b;rw[hs]at m;have H:Yb l (k+1)=some s:=by simp[Yb,b,hs]
  have z:=fun Y Z=>YS s.lo.v Y Z y.1
  have I:=fun Y Z=>YS s.hi.v Y Z y.2
  have J:=fun Y Z=>Db (fun c=>qS (ZG c)) s.hi Y Z y.2 rfl
  have K:=fun Y Z=>ZD s.lo s.hi Y Z y.1 y.2
  simp only[wy.V,Cut.V]at z I J K;rw[sQ b,hs]at o;by_cases u:yS s.lo.v=0
  case neg=>
   rw[zc u]at o;have d1':=Za u;have p:xn l=yS s.lo.v:=by unfold xn;rw[zc E,o]
   simp[x,f,g,i,e,b,a,m,qK.V,Cut.V,z,d1',p,f173]
  rw[zd u]at o;by_cases B:vY s=0
  case neg=>
   rw[zc B]at o;have p:xn l=vY s:=by unfold xn;rw[zc E,o]
   cases n:s.yv
   ·by_cases d:yS s.hi.v=0
    ·by_cases w:0<=wb s.lo s.hi
     ·have W:vY s=8:=by unfold vY;rw[n,zc (by simp),zd d,zd w]
      simp[x,f,g,i,e,b,a,m,qK.V,Cut.V,z,I,K,u,n,d,w,p,W,f173]
     ·exact absurd (by unfold vY;rw[n,zc (by simp),zd d,zc w]) B
    ·have e2':=Za d;have W:vY s=yS s.hi.v:=by unfold vY;rw[n,zc (by simp),zc d]
     simp[x,f,g,i,e,b,a,m,qK.V,Cut.V,z,I,u,n,e2',p,W,f173]
   ·cases d:ZG s.hi
    ·have W:vY s=3:=by unfold vY;rw[n,zd rfl,d,zc (by simp)]
     simp[x,f,g,i,e,b,a,m,qK.V,Cut.V,z,J,u,n,d,p,W,f173]
    ·exact absurd (by unfold vY;rw[n,zd rfl,d,zd rfl]) B
  rw[zd B]at o;have C:(s.yv=true/\ZG s.hi=true)\/(s.yv=false/\yS s.hi.v=0/\¬0<=wb s.lo s.hi):=by
   unfold vY at B;cases n:s.yv
   ·rw[n,zc (by simp)]at B;by_cases d:yS s.hi.v=0
    ·rw[zd d]at B;by_cases w:0<=wb s.lo s.hi
     ·rw[zd w]at B;omega
     ·exact .inr ⟨rfl,d,w⟩
    ·rw[zc d]at B;exact absurd B d
   ·rw[n,zd rfl]at B;cases d:ZG s.hi
    ·rw[d,zc (by simp)]at B;omega
    ·exact .inl ⟨rfl,rfl⟩
  by_cases k0:k=0
  ·subst k0;have w1:=wz 1;simp only[Yb,Zu,qH,zF,qR]at o;have F:fH none l=fH (Yb l 1) l.tail:=by rw[o,H];simp
   rcases C with⟨n,d⟩|⟨n,d,w⟩
   ·simp[x,f,g,i,e,b,a,m,qK.V,Cut.V,z,J,u,n,d,w1];exact⟨by omega,F⟩
   ·simp[x,f,g,i,e,b,a,m,qK.V,Cut.V,z,I,K,u,n,d,w,w1];exact⟨by omega,F⟩
  ·obtain⟨j,rfl⟩:∃j,k=j+1:=⟨k-1,by omega⟩;have D:j<l.length:=by omega
   have r:j<(zW l).length:=by omega
   obtain⟨q,hq⟩:=jc (l[j]);have hqq:=S q (by rw[<-hq];exact zj D);have t:=T j r D;rw[hq]at t;have L:i6.wrap ((j:Int)+1-1)=(j:Int):=by rw[wu (by omega) (by omega)];omega
   have A:=wz (j:Int);have M:((j:Int)+1).toNat=j+1:=by omega
   have N:0<(j:Int)+1:=by omega
   have P:0<=(j:Int)+1:=by omega
   have Q:(j:Int)+1<l.length:=by omega
   have wk:=wz ((j:Int)+1+1);have hpj:Yb l (j+1)=some q:=by simp[Yb,D,hq]
   have X:=fun Y Z=>ZD q.hi s.lo Y Z hqq.2 y.1
   simp only[Cut.V]at X;rw[hpj]at o;cases G:q.yv
   ·by_cases o2:0<=wb q.hi s.lo
    ·have ho:Zu (some q) s=true:=by simp[Zu,o2]
     rw[ho,zd rfl]at o;have p:xn l=8:=by unfold xn;rw[zc E,o]
     rcases C with⟨n,d⟩|⟨n,d,w⟩
     ·simp[x,f,g,i,e,b,a,m,D,r,t,qK.V,Cut.V,z,J,X,u,n,d,G,o2,L,A,M,N,P,Q,p,f173]
     ·simp[x,f,g,i,e,b,a,m,D,r,t,qK.V,Cut.V,z,I,K,X,u,n,d,w,G,o2,L,A,M,N,P,Q,p,f173]
    ·have ho:Zu (some q) s=false:=by simp[Zu,G];omega
     rw[ho,zc (by simp)]at o;rcases C with⟨n,d⟩|⟨n,d,w⟩
     ·simp[x,f,g,i,e,b,a,m,D,r,t,qK.V,Cut.V,z,J,X,u,n,d,G,o2,L,A,M,N,P,Q,wk];exact⟨by omega,by rw[o,H]⟩
     ·simp[x,f,g,i,e,b,a,m,D,r,t,qK.V,Cut.V,z,I,K,X,u,n,d,w,G,o2,L,A,M,N,P,Q,wk];exact⟨by omega,by rw[o,H]⟩
   ·have ho:Zu (some q) s=true:=by simp[Zu,G]
    rw[ho,zd rfl]at o;have p:xn l=8:=by unfold xn;rw[zc E,o]
    rcases C with⟨n,d⟩|⟨n,d,w⟩
    ·simp[x,f,g,i,e,b,a,m,D,r,t,qK.V,Cut.V,z,J,u,n,d,G,L,A,M,N,P,Q,p,f173]
    ·simp[x,f,g,i,e,b,a,m,D,r,t,qK.V,Cut.V,z,I,K,u,n,d,w,G,L,A,M,N,P,Q,p,f173]
 ·obtain rfl:k=l.length:=by omega
  rw[zn]at o;have p:xn l=0:=by unfold xn;rw[zc E,o];rfl
  simp[x,f,g,i,p,f173]
noncomputable def FRs (f:List qK->O):zb->Option O:=ql (α:=List qK) (fun l=>[.sl 11 (zW l)]) yE f
theorem Df(f:List qK->O)(l:List qK)(Y:Hp)(Z:Nat)(h:yE l)(c:(f l).flat=true):zh false [] (FRs f) [.sl 11 (zW l)] Y Z=some (f l,Y,Z):=
 Ja l _ _ rfl (fun a b e=>by
  simp only[zk,zI]at e;injection e with _ e
  exact xd e) h (.inl c)
theorem fI:zg prog 173 (zh false [] (FRs fun l=>int (xn l))):=
 wW (fn:=f173) U1 Mz false [] _ fun args r h=>by obtain⟨l,rfl,a,rfl⟩:=zN h;exact⟨zw (zf 1) (by decide),_,iL l a,qb _⟩
noncomputable abbrev Cwt1:Ctx:=zR prog [(176,zh false [] (FVC fun v c=>qS (b4 v c)))]
noncomputable abbrev Rh:AM.Spec:=yr Cwt1 f175
theorem MA:zg prog 175 Rh:=ky (zU mixed ⟨Ak,trivial⟩:AM.Good Cwt1 _) func175
def Ri(v:wy):kv:=⟨135,4,false,[v.V]⟩
theorem U2(v:wy)(s:qK)(f:v.small)(i:s.lo.v.small)(j:s.hi.v.small)(Y:Hp)(Z id:Nat)(hid:id<Z)(a:Y id=some (Ri v)):Rh [.agg s.V,.ref id 0 0] Y Z=some (qS (Rf v s),qv Y Z (some ⟨181,11,false,[s.V]⟩),Z+1):=by
 unfold Rh yr;rw[zd (by simp[f175])];refine y0 rfl ?_;have b:=fun Y Z=>Dd (fun v c=>qS (b4 v c)) v s.lo Y Z f i rfl
 have g:=fun Y Z=>Dd (fun v c=>qS (b4 v c)) v s.hi Y Z f j rfl
 have d:¬id=Z:=by omega
 simp only[Ri,wy.V]at a;simp only[Cut.V,wy.V]at b g;cases e:b4 v s.lo
 ·simp[qK.V,Cut.V,a,d,b,e,Rf,f175]
 ·cases h:s.yv
  ·simp[qK.V,Cut.V,a,d,b,g,e,h,Rf,f175]
  ·simp[qK.V,Cut.V,a,d,b,e,h,Rf,f175]
noncomputable def b5 (v:wy) (l:List qK):Bool×Int:=if yS v=0 then(if xn l=0 then(l.any (Rf v),0)else(false,xn l))else(false,yS v)
noncomputable def az (v:wy) (l:List qK):O:=.wG [qS (b5 v l).1,int (b5 v l).2]
noncomputable def FVR (f:wy->List qK->O):zb->Option O:=ql (α:=wy×List qK) (fun a=>[.agg a.1.V,.sl 11 (zW a.2)]) (fun a=>a.1.small/\yE a.2) (fun a=>f a.1 a.2)
theorem Dg(f:wy->List qK->O)(v:wy)(l:List qK)(Y:Hp)(Z:Nat)(h:v.small)(d:yE l)(g:(f v l).flat=true):zh false [] (FVR f) [.agg v.V,.sl 11 (zW l)] Y Z=some (f v l,Y,Z):=
 Ja (v,l) _ _ (by simp[wy.V]) (fun a b e=>by obtain⟨j,k⟩:=a;obtain⟨m,n⟩:=b;simp only[zk,zI,O.agg.injEq]at e;obtain⟨i,c⟩:=e;injection c with _ c;rw[Wx i,xd c]) ⟨h,d⟩ (.inl g)
noncomputable abbrev TAwt:Qg:=[(175,Rh)]
noncomputable abbrev Cwth:Ctx:=zR prog [(164,qn [.g jY] (HN fun v=>int (yS v))),(173,zh false [] (FRs fun l=>int (xn l))),(174,Ig TAwt)]
theorem Dh(v:wy)(l:List qK)(k:v.small)(c:yE l):zq Cwth f127 [.agg v.V,.sl 11 (zW l)]=some (az v l):=by
 refine zm rfl ?_;have d:=fun Y Z=>YS v Y Z k
 have m:=fun Y Z=>Df (fun l=>int (xn l)) l Y Z c rfl
 obtain⟨r,o,p,e,rfl,_,_,_⟩:=Re (U:=Unit) (T:=fun _=>False) (Rep:=fun _ Y=>Y 0=some (Ri v)) (step:=fun _ s=>(Rf v s,())) (Ta:=TAwt) (g:=175) (sp:=Rh) (fi:=[]) (cap:=[.ref 0 0 0]) (Z0:=1) (by simp) l c.1
  (fun _ s Y Z hs q n=>⟨_,_,_,U2 v s k (c.2 s hs).1 (c.2 s hs).2 Y Z 0 (by omega) n,rfl,(zx _ _ _ _ (by omega)).trans n,by omega,fun j t _=>zx _ _ _ _ (by omega)⟩) () (qv (fun _=>none) 0 (some (Ri v))) 1 (zf _) (by simp)
 rw[X4]at e;simp only[Ri,wy.V]at e;rw[show l.map qK.V=zW l from rfl]at e;simp only[wy.V]at d;by_cases a:yS v=0
 case neg=>
  have h:=Za a;have b:b5 v l=(false,yS v):=by unfold b5;rw[zc a]
  simp[wy.V,d,h,az,b,wa,f127]
 by_cases f:xn l=0
 case neg=>
  have i:=Za f;have b:b5 v l=(false,xn l):=by unfold b5;rw[zd a,zc f]
  simp[wy.V,d,a,m,i,az,b,wa,f127]
 have b:b5 v l=(l.any (Rf v),0):=by unfold b5;rw[zd a,zd f]
 simp[wy.V,d,a,m,f,e,az,b,wa,f127]
theorem pT:zg prog 127 (zh false [] (FVR az)):=
 xy (zU mixed ⟨ZX,fI,Gz ⟨MA,by simp,trivial⟩,trivial⟩:AM.Good Cwth _) func127 false [] fun⟨v,l⟩ ⟨a,b⟩=>⟨by simp[f127],_,Dh v l a b,qb _⟩
end Go.Q
namespace Go.LikeLaw
inductive Lk:List UInt8->List UInt8->Prop
 |nil:Lk [] []
 |EH {t p:List UInt8}:Lk t p->Lk t (42::p)
 |EI {c:UInt8} {t p:List UInt8}:Lk t (42::p)->Lk (c::t) (42::p)
 |one {c q:UInt8} {t p:List UInt8}:q≠42->(q=63\/q=c)->Lk t p->Lk (c::t) (q::p)
theorem tn{t:za}:Lk t []↔t=[]:=by
 constructor
 ·intro h;cases h;rfl
 ·rintro rfl;exact .nil
theorem Kf{t p:za}:Lk t (42::p)↔∃a b,t=a++b/\Lk b p:=by
 constructor
 ·intro h;generalize d:(42::p:za)=q at h
  induction h with
  |nil=>cases d
  |EH h _=>cases d;exact⟨[],_,rfl,h⟩
  | @EI c t i h e=>obtain⟨a,b,rfl,g⟩:=e d;exact⟨c::a,b,rfl,g⟩
  |one f _ _=>cases d;exact absurd rfl f
 ·rintro⟨a,b,rfl,h⟩
  induction a with
  |nil=>exact .EH h
  |cons c a e=>exact .EI e
theorem dE{c q:UInt8}{t p:za}(a:q≠42):Lk (c::t) (q::p)↔(q=63\/q=c)/\Lk t p:=by
 constructor
 ·intro h;cases h with
  |EH=>exact absurd rfl a
  |EI=>exact absurd rfl a
  |one _ b d=>exact⟨b,d⟩
 ·rintro⟨b,d⟩;exact .one a b d
theorem Xo{q:UInt8}{p:za}(a:q≠42):¬Lk [] (q::p):=by intro h;cases h;exact a rfl
theorem U3{p:za}:Lk [] p↔∀q∈p,q=42:=by
 induction p with
 |nil=>simp[Lk.nil]
 |cons q p b=>
  by_cases a:q=42
  ·subst a;rw[Kf];constructor
   ·rintro⟨e,f,h,c⟩;obtain⟨_,rfl⟩:=List.append_eq_nil_iff.1 h.symm;simpa using b.1 c
   ·intro h;exact⟨[],[],rfl,b.2 fun x d=>h x (by simp[d])⟩
  ·constructor
   ·intro h;exact absurd h (Xo a)
   ·intro h;exact absurd (h q (by simp)) a
theorem append{d e f g:za}(h:Lk d e)(i:Lk f g):Lk (d++f) (e++g):=by
 induction h with
 |nil=>exact i
 |EH _ c=>exact .EH c
 |EI _ c=>exact .EI c
 |one a b _ c=>exact .one a b c
theorem split{k:za}:∀{g t:za},Lk t (g++k)->∃d e,t=d++e/\Lk d g/\Lk e k
 |[],t,h=>⟨[],t,rfl,.nil,h⟩
 |q::g,t,h=>by
  by_cases f:q=42
  ·subst f;obtain⟨a,b,rfl,l⟩:=Kf.1 h;obtain⟨d,e,rfl,i,j⟩:=split l;exact⟨a++d,e,by simp,Kf.2 ⟨a,d,rfl,i⟩,j⟩
  ·cases t with
   |nil=>exact absurd h (Xo f)
   |cons c t=>obtain⟨a,b⟩:=(dE f).1 h;obtain⟨d,e,rfl,i,j⟩:=split b;exact⟨c::d,e,rfl,.one f a i,j⟩
theorem Rj(t:za):Lk t [42]:=Kf.2 ⟨t,[],by simp,.nil⟩
theorem fJ{t p:za}:Lk t (p++[42])↔∃a b,t=a++b/\Lk a p:=by
 constructor
 ·intro h;obtain⟨a,b,e,c,_⟩:=split h;exact⟨a,b,e,c⟩
 ·rintro⟨a,b,rfl,h⟩;exact append h (Rj b)
theorem pU{p:za}:Lk [] (p++[42])↔Lk [] p:=by
 rw[fJ];constructor
 ·rintro⟨a,b,e,h⟩;obtain⟨rfl,_⟩:=List.append_eq_nil_iff.1 e.symm;exact h
 ·intro h;exact⟨[],[],rfl,h⟩
theorem oa{t p:za}{c:UInt8}:Lk (t++[c]) (p++[42])↔Lk (t++[c]) p\/Lk t (p++[42]):=by
 rw[fJ,fJ];constructor
 ·rintro⟨t1,a,e,h⟩;rcases List.eq_nil_or_concat a with rfl|⟨b,d,rfl⟩
  ·left;have:t++[c]=t1:=by simpa using e
   rwa [this]
  ·right;rw[List.concat_eq_append,<-qM]at e;obtain⟨f,g⟩:=List.append_inj' e rfl;exact⟨t1,b,f,h⟩
 ·rintro (h|⟨t1,a,rfl,h⟩)
  ·exact⟨t++[c],[],by simp,h⟩
  ·exact⟨t1,a++[c],by simp,h⟩
theorem Al{p:za}{q:UInt8}(a:q≠42):¬Lk [] (p++[q]):=by intro h;obtain⟨c,d,e,_,b⟩:=split h;obtain⟨_,rfl⟩:=List.append_eq_nil_iff.1 e.symm;exact Xo a b
theorem Rk{t p:za}{c q:UInt8}(g:q≠42):Lk (t++[c]) (p++[q])↔Lk t p/\(q=63\/q=c):=by
 constructor
 ·intro h;obtain⟨m,i,e,j,f⟩:=split h;cases i with
  |nil=>exact absurd f (Xo g)
  |cons d i=>
   obtain⟨a,b⟩:=(dE g).1 f;have:i=[]:=tn.1 b;subst this;obtain⟨k,l⟩:=List.append_inj' e rfl;obtain rfl:c=d:=by simpa using l
   exact⟨k ▸ j,a⟩
 ·rintro⟨j,f⟩;exact append j (.one g f .nil)
theorem VA{s:za}(hs:∀q∈s,q≠42){p:za}:∀{t:za},Lk t (s++p)->s.length<=t.length/\Lk (t.drop s.length) p:=by
 induction s with
 |nil=>intro t h;exact⟨by simp,h⟩
 |cons q s d=>
  intro t h;have a:q≠42:=hs q (by simp);cases t with
  |nil=>exact absurd h (Xo a)
  |cons c t=>obtain⟨_,b⟩:=(dE a).1 h;obtain⟨g,e⟩:=d (fun x f=>hs x (by simp[f])) b;exact⟨by simp;omega,by simpa using e⟩
structure Inv (t p:List UInt8) (star:Int) (fr i k:Nat):Prop where
 hi:i<=t.length
 hk:k<=p.length
 none_:star<0->star=-1/\(Lk t p↔Lk (t.drop i) (p.drop k))
 some_:0<=star->∃s,p.drop (star.toNat+1)=s++p.drop k/\star.toNat+1+s.length=k/\fr+s.length=i/\(∀q∈s,q≠42) /\
  (∀r,Lk (t.drop i) r->Lk (t.drop fr) (s++r))/\(Lk t p↔∃f,fr<=f/\f<=t.length/\Lk (t.drop f) (p.drop (star.toNat+1)))
theorem Inv.start(t p:za):Inv t p (-1) 0 0 0:=⟨by simp,by simp,fun _=>⟨rfl,by simp⟩,fun h=>by omega⟩
theorem J8{l:za}{k:Nat}(h:k<l.length):l.drop k=l[k]::l.drop (k+1):=ze h
theorem Inv.zdj{t p:za}{a:Int}{l i k:Nat}(h:Inv t p a l i k)(o:k<p.length)(q:p[k]=42):Inv t p k i i (k+1):=by
 have hd:=J8 o;rw[q]at hd;have b:Lk (t.drop i) (p.drop k)↔∃f,i<=f/\f<=t.length/\Lk (t.drop f) (p.drop (k+1)):=by
  rw[hd,Kf];constructor
  ·rintro⟨c,g,e,d⟩;have u:c.length+g.length=t.length-i:=by have:=zr List.length e;simp at this;omega
   refine⟨i+c.length,by omega,by have:=h.hi;omega,?_⟩;rw[<-dW,e];simpa using d
  ·rintro⟨f,D,d,v⟩;refine⟨(t.drop i).take (f-i),t.drop f,?_,v⟩;rw[show t.drop f=(t.drop i).drop (f-i) by rw[dW];congr 1;omega];exact(kb _ _).symm
 refine⟨h.hi,by omega,fun E=>by omega,fun _=>⟨[],by simp,by simp,by simp,by simp,fun r w=>by simpa using w,?_⟩⟩;have x:(k:Int).toNat=k:=by simp
 rw[x];by_cases hs:a<0
 ·rw[(h.none_ hs).2,b]
 ·obtain⟨s,m,F,G,y,z,A⟩:=h.some_ (by omega);rw[A];constructor
  ·rintro⟨f,H,I,n⟩;rw[m]at n;obtain⟨B,j⟩:=VA y n;rw[dW]at j;simp at B;rw[hd,Kf]at j;obtain⟨c,g,e,d⟩:=j;have u:c.length+g.length=t.length-(f+s.length):=by have:=zr List.length e;simp at this;omega
   refine⟨f+s.length+c.length,by omega,by omega,?_⟩;rw[<-dW,e];simpa using d
  ·rintro C;exact⟨l,zf _,by have:=h.hi;omega,by rw[m];exact z _ (b.2 C)⟩
theorem Inv.fit{t p:za}{a:Int}{d i k:Nat}(h:Inv t p a d i k)(hi:i<t.length)(g:k<p.length)(b:p[k]≠42)(e:p[k]=63\/p[k]=t[i]):Inv t p a d (i+1) (k+1):=by
 have hd:=J8 g;have f:=J8 hi;refine⟨by omega,by omega,fun hs=>⟨(h.none_ hs).1,?_⟩,fun hs=>?_⟩
 ·rw[(h.none_ hs).2,hd,f,dE b];exact⟨fun h=>h.2,fun h=>⟨e,h⟩⟩
 ·obtain⟨s,j,u,v,l,m,n⟩:=h.some_ hs;refine⟨s++[p[k]],by rw[j,hd];simp,by simp;omega,by simp;omega,?_,?_,n⟩
  ·intro q c;rcases zM.1 c with h|h
   ·exact l q h
   ·simp at h;rw[h];exact b
  ·intro r o;rw[qM];refine m _ ?_;rw[f];exact .one b e o
theorem zfT{t p:za}{i k:Nat}(hi:i<t.length)(h:k<p.length->∀d:k<p.length,p[k]≠42/\¬(p[k]=63\/p[k]=t[i])):¬Lk (t.drop i) (p.drop k):=by
 intro c;rw[J8 hi]at c;by_cases d:k<p.length
 ·rw[J8 d]at c;obtain⟨a,b⟩:=h d d;exact b ((dE a).1 c).1
 ·rw[@zaC _ p _ (by omega)]at c;cases c
theorem Inv.none{t p:za}{a:Int}{b i k:Nat}(h:Inv t p a b i k)(hs:a<0)(c:¬Lk (t.drop i) (p.drop k)):¬Lk t p:=by rw[(h.none_ hs).2];exact c
theorem Inv.back{t p:za}{a:Int}{c i k:Nat}(h:Inv t p a c i k)(hi:i<t.length)(hs:0<=a)(g:¬Lk (t.drop i) (p.drop k)):Inv t p a (c+1) (c+1) (a.toNat+1):=by
 obtain⟨s,j,v,l,m,w,n⟩:=h.some_ hs;have x:=h.hk;refine⟨by omega,by omega,fun h=>by omega,fun _=>⟨[],by simp,by simp,by simp,by simp,fun r o=>by simpa using o,?_⟩⟩;rw[n];constructor
 ·rintro⟨f,q,d,b⟩;by_cases u:f=c
  ·subst u;rw[j]at b;obtain⟨y,e⟩:=VA m b;rw[dW,l]at e;exact absurd e g
  ·exact⟨f,by omega,d,b⟩
 ·rintro⟨f,q,d,b⟩;exact⟨f,by omega,d,b⟩
theorem Inv.done{t p:za}{a:Int}{b i k:Nat}(h:Inv t p a b i k)(hi:i=t.length):Lk t p↔∀q∈p.drop k,q=42:=by
 have e:t.drop i=[]:=zaC (by omega);rw[<-U3];by_cases hs:a<0
 ·rw[(h.none_ hs).2,e]
 ·obtain⟨s,c,r,u,d,g,j⟩:=h.some_ (by omega);rw[j,c];constructor
  ·rintro⟨f,v,w,l⟩;obtain⟨m,n⟩:=VA d l;simp at m;rwa [dW,zaC (by omega)]at n
  ·intro o;exact⟨b,zf _,by omega,g _ (by rw[e];exact o)⟩
def pV(n m:Nat)(a:Int)(b i:Nat):Nat:=((m:Int)-a).toNat*((n+2)*(n+2))+(n-b)*(n+2)+(n-i)
end Go.LikeLaw
namespace Go.Q
open Go.RowKit Go.AM Go.LikeLaw
theorem zcW(l:za):l.dropWhile (·==42)=[]↔∀q∈l,q=42:=by
 induction l with
 |nil=>simp
 |cons x l b=>
  by_cases a:x=42
  ·simp[a,b]
  ·simp[a]
theorem MB(l:za):Lib.trimB l 42=[]↔∀q∈l,q=42:=by
 unfold Lib.trimB Lib.trimLeftB Lib.trimRightB;rw[zcW];constructor
 ·intro h;have a:∀m:za,(∀q∈m.dropWhile (·==42),q=42)->∀q∈m,q=42:=by
   intro m
   induction m with
   |nil=>simp
   |cons x m f=>
    by_cases b:x=42
    ·subst b;simp only[List.dropWhile_cons,Sk,qH];intro c q hq;rcases zv.1 hq with rfl|hq
     ·rfl
     ·exact f c q hq
    ·have d:=wU b;simp only[List.dropWhile_cons,d,zF,qR];intro c;exact absurd (c x (by simp)) b
  intro q hq;exact a l.reverse (fun q hq=>h q (by simpa using hq)) q (by simpa using hq)
 ·intro h q hq;have e:=List.mem_reverse.1 hq;exact h q (List.mem_reverse.1 ((List.dropWhile_sublist _).mem e))
noncomputable abbrev Clk:Ctx:=zR prog [(160,zh false [] (Zr tbP fun _ b=>mv b))]
theorem zcX:AM.Good Clk (fun g=>[160].contains g):=qw mixed ⟨gy,fun _=>zt _ _,trivial⟩
theorem Di(a:za)(Y:Hp)(Z:Nat)(h:a.length<=zu):zh false [] (Zr tbP fun _ b=>mv b) [str a,str [42]] Y Z=some (str (Lib.trimB a 42),Y,Z):=jV _ _ a [42] Y Z h (by decide) ⟨42,rfl,by decide⟩ rfl
theorem MC{n m:Nat}{a:Int}{b i k:Nat}(e:a<k)(f:k<m):pV n m k i i<pV n m a b i:=by
 unfold pV;obtain⟨d,hd⟩:∃d:Nat,((m:Int)-a).toNat=((m:Int)-(k:Int)).toNat+1+d:=⟨((m:Int)-a).toNat-((m:Int)-(k:Int)).toNat-1,by omega⟩;have c:(((m:Int)-(k:Int)).toNat+1+d)*((n+2)*(n+2))=((m:Int)-(k:Int)).toNat*((n+2)*(n+2))+(n+2)*(n+2)+d*((n+2)*(n+2)):=by rw[qI (_+1) d,qI _ 1,zgh]
 rw[hd,c];have g:(n-i)*(n+2)<=n*(n+2):=zK _ (by omega);have h:(n+2)*(n+2)=n*(n+2)+2*(n+2):=by rw[qI]
 omega
theorem sR{n m:Nat}{a:Int}{b i:Nat}(d:b<=i)(e:i<n):pV n m a (b+1) (b+1)<pV n m a b i:=by
 unfold pV;have:n-b=(n-(b+1))+1:=by omega
 have c:(n-(b+1)+1)*(n+2)=(n-(b+1))*(n+2)+(n+2):=by rw[qI _ 1,zgh]
 rw[this,c];omega
theorem Dj{n m:Nat}{a:Int}{b i:Nat}(c:i<n):pV n m a b (i+1)<pV n m a b i:=by unfold pV;omega
open Classical in
noncomputable def Jk (t p:za):Bool:=decide (Lk t p)
theorem Dk{t p:za}(h:¬Lk t p):Jk t p=false:=by simp[Jk,h]
structure LInv (t p:List UInt8) (star:Int) (fr i k:Nat):Prop extends LikeLaw.Inv t p star fr i k where
 s0:-1<=star
 s1:star<k
 f1:fr<=i
theorem MD(t p:za)(K:t.length<=zu)(Y:p.length<=zu):zq Clk f124 [str t,str p]=some (qS (Jk t p)):=by
 have z:=Di;refine zm rfl ?_;simp;refine Wu (fun st=>∃(a:Int) (d i k:Nat),st.U 0=str t/\st.U 1=str p/\st.U 5=int a/\st.U 6=int d/\st.U 7=int i/\st.U 8=int k/\LInv t p a d i k)
  (fun st=>pV t.length p.length (Vm (st.U 5)) (Vm (st.U 6)).toNat (Vm (st.U 7)).toNat) ⟨-1,0,0,0,by simp,by simp,by simp,by simp,by simp,by simp,LikeLaw.Inv.start t p,by omega,by omega,by omega⟩ ?_
 rintro⟨U,Y,Z⟩ ⟨a,d,i,k,f,g,j,l,m,n,e⟩;simp only at f g j l m n;have A:=e.hk;have H:=e.hi;have L:=e.s0;have M:=e.s1;have G:=e.f1;unfold zu at *;by_cases hi:i<t.length
 ·have u:(∀A:k<p.length,p[k]≠42/\¬(p[k]=63\/p[k]=t[i]))->¬Lk (t.drop i) (p.drop k):=fun h=>zfT hi fun _=>h
  have v:(∀A:k<p.length,p[k]≠42/\¬(p[k]=63\/p[k]=t[i]))->(a<0->Jk t p=false)/\(0<=a->LInv t p a (d+1) (d+1) (a.toNat+1)):=fun h=>
   ⟨fun hs=>Dk (e.none hs (u h)),fun hs=>⟨e.back hi hs (u h),by omega,by omega,by omega⟩⟩
  have s:i6.wrap ((d:Int)+1)=((d+1:Nat):Int):=by rw[wu (by omega) (by omega)];omega
  have w:i6.wrap ((i:Int)+1)=((i+1:Nat):Int):=by rw[wu (by omega) (by omega)];omega
  have B:i6.wrap ((k:Int)+1)=((k+1:Nat):Int):=by rw[wu (by omega) (by omega)];omega
  by_cases b:k<p.length
  ·by_cases hs:p[k]=42
   ·simp[f,g,j,l,m,n,hi,b,hs];exact⟨⟨i,rfl,i,rfl,k+1,B,e.zdj b hs,by omega,by omega,by omega⟩,MC e.s1 b⟩
   ·have q:((p[k].toNat:Int)==42)=false:=by rw[show(42:Int)=((42:UInt8).toNat:Int)from rfl,l5];simpa using hs
    by_cases x:p[k]=63
    ·simp[f,g,j,l,m,n,hi,b,x];exact⟨⟨d,rfl,i+1,w,k+1,B,e.fit hi b hs (.inl x),by omega,by omega,by omega⟩,by rw[w];exact Dj hi⟩
    ·have r:((p[k].toNat:Int)==63)=false:=by rw[show(63:Int)=((63:UInt8).toNat:Int)from rfl,l5];simpa using x
     by_cases y:p[k]=t[i]
     ·have o:((p[k].toNat:Int)==(t[i].toNat:Int))=true:=by rw[l5];simp[y]
      simp[f,g,j,l,m,n,hi,b,q,r,o];exact⟨⟨d,rfl,i+1,w,k+1,B,e.fit hi b hs (.inr y),by omega,by omega,by omega⟩,by rw[w];exact Dj hi⟩
     ·have o:((p[k].toNat:Int)==(t[i].toNat:Int))=false:=by rw[l5];simp[y]
      obtain⟨C,D⟩:=v fun _=>⟨hs,by simp[x,y]⟩
      by_cases c:0<=a
      ·have E:i6.wrap (a+1)=((a.toNat+1:Nat):Int):=by rw[wu (by omega) (by omega)];omega
       simp[f,g,j,l,m,n,hi,b,q,r,o,c];exact⟨⟨d+1,s,d+1,s,a.toNat+1,E,D c⟩,by rw[s];exact sR G hi⟩
      ·simp[f,g,j,l,m,n,hi,b,q,r,o,c,f124,C (by omega)]
  ·obtain⟨C,D⟩:=v fun h=>absurd h b
   by_cases c:0<=a
   ·have E:i6.wrap (a+1)=((a.toNat+1:Nat):Int):=by rw[wu (by omega) (by omega)];omega
    simp[f,g,j,l,m,n,hi,b,c];exact⟨⟨d+1,s,d+1,s,a.toNat+1,E,D c⟩,by rw[s];exact sR G hi⟩
   ·simp[f,g,j,l,m,n,hi,b,c,f124,C (by omega)]
 ·have hd:=e.done (by omega);have I:(p.drop k).length<=zu:=by simp[zu];omega
  have J:(Lib.trimB (p.drop k) 42).isEmpty=Jk t p:=by rw[qh];simp only[List.isEmpty_iff,MB,Jk,zT,hd]
  have F:((p.drop k).take (p.length-k))=p.drop k:=qx (by simp);simp[f,g,j,l,m,n,hi,A,F,J,z (p.drop k) Y Z I,f124]
noncomputable def ME (a b:za):O:=qS (Jk a b)
theorem GA:zg prog 124 (zh false [] (Zr ME fun _ _=>True)):=
 wW (fn:=f124) zcX (qD func124) false [] _ fun args r h=>by obtain⟨a,b,rfl,c,d,_,rfl⟩:=kl h;exact⟨by simp[f124],_,MD a b c d,qb _⟩
end Go.Q
namespace Go.Q
theorem ob:∀(b:List (List xH)) (o r:List qK),(∀a∈b,∀c∈a,c.vU)->yW o->Vp b o=some r->yW r
 |[],o,r,_,d,h=>by simp only[Vp]at h;injection h with h;subst h;exact d
 |l::b,o,r,e,d,h=>by
  simp only[Vp]at h;split at h
  ·rename_i m f;have g:yW [w5 qU]:=(Qa kZ).2;exact ob b _ r (fun a i=>e a (by simp[i])) (kC or d (mY l _ m (e l (by simp)) g f).1) h
  ·cases h
theorem bd(t:za):yE (vF t).1:=by
 have b:yE []:=⟨by simp,fun s hs=>by cases hs⟩;unfold vF;split
 ·exact b
 rename_i e;split
 ·exact b
 rename_i f d;split
 ·exact b
 rename_i o h;split
 ·exact b
 rename_i g;have i:=(mZ _ f t.length (fun s hs=>vr hs) d).1;exact yW.small (ob f [] o (fun a j c k=>(i a j).1 c k) (fun s hs=>by cases hs) h) (show o.length<=zu by unfold zu;omega)
theorem GB{v:wy}(h:yS v=0):v.small:=by
 unfold yS at h;split at h
 case isFalse=>omega
 split at h
 ·omega
 rename_i c;split at h
 ·omega
 rename_i a;refine⟨by unfold zu;omega,fun p Y=>?_⟩;have:¬wD p=true:=fun b=>a (WN.2 ⟨p,Y,b⟩)
 unfold wD at this;simp only[qp,zT,not_or]at this;unfold zu;omega
theorem fK{t:za}{v:wy}(h:cK t=some v):yS v=0/\v.small:=by
 have a:yS v=0:=by
  unfold cK at h;split at h
  ·split at h
   ·split at h
    ·rename_i b;injection h with h
     rw[<-h];exact b
    ·cases h
   ·cases h
  ·cases h
 exact⟨a,GB a⟩
noncomputable def Xq (l:List qa) (v:qa) (k:Nat):Bool:=match l[k]? with
 |some x=>decide (qL x v<0)
 |none=>false
noncomputable def pW (l:List qa) (v:qa):Nat×Bool:=(Zk (Xq l v) 0 l.length,match l[Zk (Xq l v) 0 l.length]? with
 |some x=>qL x v==0
 |none=>false)
noncomputable def FLv (f:List qa->qa->O) (b:zb):zb->Option O:=ql (α:=List qa×qa) (fun a=>.sl 5 (a.1.map qa.V)::.agg a.2.V::b) (fun a=>Kd a.1<=zu/\a.2.vb<=zu) (fun a=>f a.1 a.2)
theorem Rl{d:zb}:∀a b:List qa×qa,O.sl 5 (a.1.map qa.V)::.agg a.2.V::d=O.sl 5 (b.1.map qa.V)::.agg b.2.V::d->a=b:=by rintro⟨g,h⟩ ⟨i,j⟩ e;simp only[zk,zI,O.agg.injEq]at e;obtain⟨c,f⟩:=e;injection c with _ c;rw[BL c,ZQ f]
noncomputable def lvT (l:List qa) (v:qa):O:=.wG [int (pW l v).1,qS (pW l v).2]
def Dl:O:=.fn (.func 119) [] []
theorem Rm(l:List qa)(v:qa)(Y:Hp)(Z:Nat)(h:Kd l<=zu)(a:v.vb<=zu):zh false [] (FLv lvT [Dl]) [.sl 5 (l.map qa.V),.agg v.V,Dl] Y Z=some (lvT l v,Y,Z):=
 Ja (l,v) _ _ (by simp[xu v,Dl]) Rl ⟨h,a⟩ (.inl rfl)
theorem Ih(l:List qa)(v:qa)(Y:Hp)(Z:Nat)(h:Kd l<=zu)(a:v.vb<=zu):zh false [] (FLv (fun l v=>qS (pW l v).2) []) [.sl 5 (l.map qa.V),.agg v.V] Y Z=some (qS (pW l v).2,Y,Z):=
 Ja (l,v) _ _ (by simp[xu v]) Rl ⟨h,a⟩ (.inl rfl)
noncomputable abbrev Cbsv:Ctx:=zR prog [(119,zh false [] (OC zu))]
theorem U4:AM.Good Cbsv (fun g=>[119].contains g):=qw mixed ⟨VY zu,fun _=>zt _ _,trivial⟩
theorem Rn(l:List qa)(v:qa)(y:Kd l<=zu)(z:v.vb<=zu):zq Cbsv f118 [.sl 5 (l.map qa.V),.agg v.V,Dl]=some (lvT l v):=by
 have G:=yY l;unfold zu at y z;refine zm rfl ?_;simp[Dl];refine Wu (fun st=>st.U 0=.sl 5 (l.map qa.V)/\st.U 2=.fn (.func 119) [] []/\st.U 4=.ref 0 0 0/\st.U 8=int l.length/\st.Y 0=some ⟨57,5,false,[v.V]⟩/\∃lo hi:Nat,lo<=hi/\hi<=l.length/\st.U 9=int lo/\st.U 10=int hi/\Zk (Xq l v) 0 l.length=Zk (Xq l v) lo hi)
  (fun st=>(Vm (st.U 10)).toNat-(Vm (st.U 9)).toNat) ⟨by simp,by simp,by simp,by simp,by simp,0,l.length,by simp,by simp,by simp,by simp,rfl⟩ ?_
 rintro⟨U,Y,Z⟩ ⟨i,j,n,o,p,lo,hi,A,t,q,c,f⟩;simp only at i j n o q c p;have d:=fun(k:Nat) (w:k<l.length) Y Z=>Wy zu l[k] v Y Z ⟨by have:=jR (zj w);unfold zu;omega,by have:=jR (zj w);unfold zu;omega,by unfold zu;omega⟩
 by_cases b:lo<hi
 ·have x:=wz ((lo:Int)+hi);have B:(lo+hi)/2<l.length:=by omega
  obtain⟨m,C⟩:∃m,m=(lo+hi)/2:=⟨_,rfl⟩;have g:i6.wrap ((IntKind.u64.wrap ((lo:Int)+hi)).fdiv (2 ^ min 1 IntKind.u64.bits))=(m:Int):=by
   have D:IntKind.u64.wrap ((lo:Int)+hi)=(lo:Int)+hi:=by rw[IntKind.wrap_u64];omega
   have E:(2 ^ min 1 IntKind.u64.bits:Int)=2:=by decide
   rw[D,E,Eo _ (by omega),wu (by omega) (by omega)];omega
  have a:m<l.length:=by omega
  have F:=qG m;have u:Xq l v m=decide (qL l[m] v<0):=by simp[Xq,a]
  rw[XU (lo:=lo) b,<-C,u]at f;have e:=d m a;by_cases s:qL l[m] v<0
  ·simp only[s,decide_true,qH]at f;simp[i,j,n,o,q,c,p,b,x,g,a,e,s,F];exact⟨⟨m+1,hi,by omega,t,by omega,rfl,f⟩,by omega⟩
  ·simp only[s,decide_false,zF,qR]at f;simp[i,j,n,o,q,c,p,b,x,g,a,e,s];exact⟨⟨lo,m,by omega,by omega,rfl,rfl,f⟩,by omega⟩
 ·have f:Zk (Xq l v) 0 l.length=lo:=by rw[f,dd (lo:=lo) b]
  unfold lvT pW;rw[f];by_cases h:lo<l.length
  ·have e:=d lo h;simp[i,j,n,o,q,c,p,b,h,e,f118,wa]
  ·have r:l[lo]?=none:=wT (by omega);simp[i,j,n,o,q,c,p,b,h,r,f118,wa]
theorem MF:zg prog 118 (zh false [] (FLv lvT [Dl])):=
 xy U4 func118 false [] fun⟨l,v⟩ ⟨a,b⟩=>⟨zw (zf 3) (by decide),_,Rn l v a b,qb _⟩
noncomputable abbrev Cam:Ctx:=zR prog [(118,zh false [] (FLv lvT [Dl]))]
theorem gU:zg prog 70 (zh false [] (FLv (fun l v=>qS (pW l v).2) [])):=
 xy (zU mixed ⟨MF,trivial⟩:AM.Good Cam _) func70 false [] fun⟨l,v⟩ ⟨a,b⟩=>by
  have c:∀Y Z,zh false [] (FLv lvT [Dl]) [.sl 5 (l.map qa.V),.agg v.V,.fn (.func 119) [] []] Y Z=some (.wG [int (pW l v).1,qS (pW l v).2],Y,Z):=fun Y Z=>Rm l v Y Z a b
  exact⟨by simp[f70],_,zm rfl (by simp[c,f70]),qb _⟩
def dF(op n w:Int):Bool:=if op=3 then decide (n<w)else if op=4 then decide (n<=w)else if op=5 then decide (w<n)else decide (w<=n)
noncomputable def FOd:zb->Option O:=ql (α:=Int×Int×Int) (fun a=>[int a.1,int a.2.1,int a.2.2]) (fun _=>True) (fun a=>qS (dF a.1 a.2.1 a.2.2))
theorem Dm(a b c:Int)(Y:Hp)(Z:Nat):zh false [] FOd [int a,int b,int c] Y Z=some (qS (dF a b c),Y,Z):=
 Ja (a,b,c) _ _ rfl (fun x y e=>by obtain⟨d,f,g⟩:=x;obtain⟨h,i,j⟩:=y;simp only[zk,zI]at e;rw[qV e.1,qV e.2.1,qV e.2.2]) trivial (.inl rfl)
theorem pX:zg prog 74 (zh false [] FOd):=
 xy jG func74 false [] fun⟨a,b,c⟩ _=>by
  refine⟨by simp[f74],_,zm rfl ?_,qb _⟩;by_cases d:a=3
  ·simp[d,dF,f74]
  have e:=wU d;by_cases f:a=4
  ·simp[f,dF,f74]
  have g:=wU f;by_cases h:a=5
  ·simp[h,dF,f74]
  have i:=wU h;simp[d,e,f,g,h,i,dF,f74]
noncomputable def Ro (s p:za):Bool:=match cK s with
 |none=>false
 |some v=>(b5 v (vF p).1).1
noncomputable def J9 (op:Int) (s p:za):Bool:=if op=7 then p.isPrefixOf s else if op=8 then Lib.hasSuffix s p else if op=9 then Lib.contains s p else if op=10 then Jk s p else Ro s p
noncomputable def FFt:zb->Option O:=ql (α:=Int×za×za) (fun a=>[int a.1,str a.2.1,str a.2.2]) (fun a=>a.2.1.length+1<=zu/\a.2.2.length+1<=zu) (fun a=>qS (J9 a.1 a.2.1 a.2.2))
theorem Dn(a:Int)(b c:za)(Y:Hp)(Z:Nat)(h:b.length+1<=zu)(d:c.length+1<=zu):zh false [] FFt [int a,str b,str c] Y Z=some (qS (J9 a b c),Y,Z):=
 Ja (a,b,c) _ _ rfl (fun x y e=>by obtain⟨f,g,i⟩:=x;obtain⟨j,k,l⟩:=y;simp only[zk,zI]at e;rw[qV e.1,wR e.2.1,wR e.2.2]) ⟨h,d⟩ (.inl rfl)
noncomputable abbrev Cfts:Ctx:=zR prog [(121,zh false [] (Zr Oe fun _ _=>True)),(122,zh false [] (Zr S3 fun _ _=>True)),(123,zh false [] (Zr BP fun _ _=>True)),(124,zh false [] (Zr ME fun _ _=>True)),(125,zh false [] (YY eL)),(126,zh false [] (YY na)),(127,zh false [] (FVR az))]
theorem MG(a:Int)(b c:za)(h:b.length+1<=zu)(r:c.length+1<=zu):zq Cfts f75 [int a,str b,str c]=some (qS (J9 a b c)):=by
 refine zm rfl ?_;have s:=fun Y Z=>XN b c Y Z (by omega) (by omega)
 have t:=fun Y Z=>Ai b c Y Z (by omega) (by omega)
 have u:∀Y Z,zh false [] (Zr BP fun _ _=>True) [str b,str c] Y Z=some (qS (Lib.contains b c),Y,Z):=fun Y Z=>jV _ _ b c Y Z (by omega) (by omega) trivial rfl
 have m:∀Y Z,zh false [] (Zr ME fun _ _=>True) [str b,str c] Y Z=some (qS (Jk b c),Y,Z):=fun Y Z=>jV _ _ b c Y Z (by omega) (by omega) trivial rfl
 have d:=fun Y Z=>j6 eL b Y Z h
 have i:=fun Y Z=>j6 na c Y Z r
 by_cases n:a=7
 ·simp[n,s,J9,f75]
 have j:=wU n;by_cases o:a=8
 ·simp[o,t,J9,f75]
 have k:=wU o;by_cases p:a=9
 ·simp[p,u,J9,f75]
 have l:=wU p;by_cases f:a=10
 ·simp[f,m,J9,f75]
 have e:=wU f;have w:J9 a b c=Ro b c:=by unfold J9;rw[zc n,zc o,zc p,zc f]
 rw[w];unfold Ro;cases q:cK b with
 |none=>simp only[eL,q]at d;simp[j,k,l,e,d,Vd,wy.V,f75]
 |some v=>
  have hs:=(fK q).2;have g:=fun Y Z=>Dg az v (vF c).1 Y Z hs (bd c) rfl
  simp only[eL,q]at d;simp only[na]at i;simp only[az]at g;simp only[wy.V]at d g;simp[j,k,l,e,d,i,g,f75]
theorem GD:zg prog 75 (zh false [] FFt):=
 xy (zU mixed ⟨WV,Vr,YH,GA,Jd,Vq,pT,trivial⟩:AM.Good Cfts _) func75 false [] fun⟨a,b,c⟩ ⟨d,e⟩=>⟨by simp[f75],_,MG a b c d e,qb _⟩
def Yq(c:qe):kv:=⟨26,7,false,[c.V]⟩
noncomputable abbrev Cps1:Ctx:=zR prog [(70,zh false [] (FLv (fun l v=>qS (pW l v).2) []))]
noncomputable abbrev Rp:AM.Spec:=yr Cps1 f72
theorem MH:zg prog 72 Rp:=ky (zU mixed ⟨gU,trivial⟩:AM.Good Cps1 _) func72
theorem U5(c:qe)(v:qa)(g:c.cb<=zu)(b:v.vb<=zu)(Y:Hp)(Z id:Nat)(hid:id<Z)(a:Y id=some (Yq c)):Rp [.agg v.V,.ref id 0 0] Y Z=some (qS (pW c.yp v).2,qv Y Z (some ⟨57,5,false,[v.V]⟩),Z+1):=by
 have d:=Zm c;unfold Rp yr;rw[zd (by simp[f72])];refine y0 rfl ?_;have e:=fun Y Z=>Ih c.yp v Y Z (by omega) b
 have f:¬id=Z:=by omega
 simp only[Yq]at a;simp[a,f,e,f72]
def sS(l:List qa):Int:=match l with
 |[]=>0
 |x::_=>x.n
noncomputable def Yc (c:qe) (v:qa):Bool:=if c.op=1 then true else if c.op=2 then(pW c.yp v).2 else if c.op=12 then v.kind==4&&v.items.any (fun x=>(pW c.yp x).2)else if y7 c.op=true then v.kind==2&&dF c.op v.n (sS c.yp)else v.kind==3&&J9 c.op v.s c.pat
noncomputable def FPs:zb->Option O:=ql (α:=qe×qa) (fun a=>[.agg a.1.V,.agg a.2.V]) (fun a=>a.1.cb<=zu/\a.2.vb<=zu/\(y7 a.1.op=true->0<a.1.yp.length)) (fun a=>qS (Yc a.1 a.2))
theorem Rq(c:qe)(v:qa)(Y:Hp)(Z:Nat)(h:c.cb<=zu)(d:v.vb<=zu)(f:y7 c.op=true->0<c.yp.length):zh false [] FPs [.agg c.V,.agg v.V] Y Z=some (qS (Yc c v),Y,Z):=
 Ja (c,v) _ _ (by simp[xu v,wi]) (fun a b e=>by obtain⟨g,i⟩:=a;obtain⟨j,k⟩:=b;simp only[zk,zI,O.agg.injEq]at e;rw[kU e.1,ZQ e.2]) ⟨h,d,f⟩ (.inl rfl)
noncomputable abbrev TAps:Qg:=[(72,Rp)]
noncomputable abbrev Cps:Ctx:=zR prog [(70,zh false [] (FLv (fun l v=>qS (pW l v).2) [])),(71,Ie TAps),(73,zh false [] (oX y7)),(74,zh false [] FOd),(75,zh false [] FFt)]
theorem zcY:Gd Cps:=zU mixed ⟨gU,Gx ⟨MH,by simp,trivial⟩,V4,pX,GD,trivial⟩
theorem Rr:QZ Cps g0F 34 f34:=qD func34
theorem Dp(c:qe)(v:qa)(C:c.cb<=zu)(D:v.vb<=zu)(E:y7 c.op=true->0<c.yp.length):zq Cps f34 [.agg c.V,.agg v.V]=some (qS (Yc c v)):=by
 have F:=Zm c;have G:=xz v;refine zm rfl ?_;have u:zu=2097152:=rfl;by_cases f:c.op=1
 ·have a:Yc c v=true:=by unfold Yc;rw[zd f]
  simp[f,a,f34]
 have b:=wU f;by_cases i:c.op=2
 ·have a:Yc c v=(pW c.yp v).2:=by unfold Yc;rw[zc f,zd i]
  have o:=fun Y Z=>Ih c.yp v Y Z (by omega) D
  simp[i,o,a,f34]
 have d:=wU i;by_cases k:c.op=12
 ·have a:Yc c v=(v.kind==4&&v.items.any fun x=>(pW c.yp x).2):=by unfold Yc;rw[zc f,zc i,zd k]
  have H:=yY v.items;have p:=fun x (m:x∈v.items)=>jR m
  obtain⟨r,J,K,q,rfl,_,_,_⟩:=Rc (U:=Unit) (T:=fun _=>False) (Rep:=fun _ Y=>Y 0=some (Yq c)) (step:=fun _ x=>((pW c.yp x).2,())) (Ta:=TAps) (g:=72) (sp:=Rp) (fi:=[]) (cap:=[.ref 0 0 0]) (Z0:=1) (by simp) v.items (by omega)
   (fun _ x Y Z m L w=>⟨_,_,_,U5 c x C (by have:=p x m;omega) Y Z 0 (by omega) w,rfl,(zx _ _ _ _ (by omega)).trans w,by omega,fun j M _=>zx _ _ _ _ (by omega)⟩) () (qv (qv (fun _=>none) 0 (some (Yq c))) 1 (some ⟨57,5,false,[v.V]⟩)) 2 (by omega) (by simp)
  rw[X4]at q;simp only[Yq]at q;rw[a];cases y:v.kind==4
  ·simp[k,y,f34]
  ·simp[k,y,q,f34]
 have e:=wU k;cases h:y7 c.op
 ·have a:Yc c v=(v.kind==3&&J9 c.op v.s c.pat):=by unfold Yc;rw[zc f,zc i,zc k,h,zc (by simp)]
  have o:=fun Y Z=>Dn c.op v.s c.pat Y Z (by omega) (by omega)
  rw[a];cases z:v.kind==3
  ·simp[b,d,e,h,z,f34]
  ·simp[b,d,e,h,z,o,f34]
 ·have a:Yc c v=(v.kind==2&&dF c.op v.n (sS c.yp)):=by unfold Yc;rw[zc f,zc i,zc k,zd h]
  have A:=E h;obtain⟨x,l,m⟩:∃x l,c.yp=x::l:=by
   cases t:c.yp with
   |nil=>rw[t]at A;cases A
   |cons x l=>exact⟨x,l,rfl⟩
  have o:=fun Y Z=>Dm c.op v.n x.n Y Z
  rw[a];have I:sS c.yp=x.n:=by rw[m];rfl
  rw[I];cases B:v.kind==2
  ·simp[b,d,e,h,B,f34]
  ·simp[b,d,e,h,B,m,o,f34]
theorem Am:zg prog 34 (zh false [] FPs):=
 wW (fn:=f34) zcY Rr false [] _ fun args r h=>by obtain⟨⟨c,v⟩,rfl,⟨a,b,d⟩,rfl⟩:=zN h;exact⟨by simp[f34],_,Dp c v a b d,qb _⟩
end Go.Q
