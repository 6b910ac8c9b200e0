/- Lemmas. -/
import Derived.Shelf.SlSortCmp.WholeK
import Derived.Shelf.SlSortCmp.NoneTotal
import Derived.Test.YtmdpcoooleipcaaGreatDoorProg
import Derived.RangeFuncBox
import Derived.RangeFuncLeaves
import Derived.Shelf.Abstract
import Derived.WalkKit
import Derived.OwnWalkIn
import Derived.TacticsInMore
import Derived.LoopNIn
import Derived.LoopIn
import Derived.Test.YtmdpcoooleipcaaGreatDoorG7
set_option maxRecDepth 100000
set_option maxHeartbeats 4000000
open Go Proofs Proofs.YtmdpcoooleipcaaGreatDoor Proofs.Tryz RowKit AM SpanLaw Q Zz
namespace Go.Q
def mC:vp:=⟨jr,vi,vi⟩
def X2(a:za)(p:Part):vp:=⟨a,p,vi⟩
def jW(w:za)(l:List za):Option (vp×List za):=
 if(wQ wM w).1=[]/\vR (wQ wM w).2=true then some (mC,l)
 else if(wQ wM w).1≠[]/\(wQ wM w).2=[]/\l≠[]then(match l with
  |r::l'=>if(zK r).2=true then some (X2 (wQ wM w).1 (zK r).1,l')else none
  |[]=>none)
 else if(zK (wQ wM w).2).2=true then some (X2 (wQ wM w).1 (zK (wQ wM w).2).1,l)else none
def wO:Nat->List za->Option (List vp)
 | 0,_=>some []
 |_+1,[]=>some []
 |n+1,w::l=>match jW w l with
  |some (c,l')=>(wO n l').map (c::·)
  |none=>none
theorem CD{w:za}{l l':List za}{c:vp}(h:jW w l=some (c,l')):l'.length<=l.length:=by
 unfold jW at h;split at h
 ·injection h with h;injection h with _ h;subst h;exact zi _
 ·split at h
  ·split at h
   ·split at h
    ·injection h with h;injection h with _ h;subst h;simp
    ·cases h
   ·cases h
  ·split at h
   ·injection h with h;injection h with _ h;subst h;exact zi _
   ·cases h
def Vn(t:za):List vp×Bool:=
 match qY (qw t [32])with
 |[a,b,c]=>if b=[45]then([⟨[45],(zK a).1,(zK c).1⟩],(zK a).2&&(zK c).2)else(match wO 3 [a,b,c]with
  |some l=>(l,!l.isEmpty)
  |none=>([],false))
 |ws=>match wO ws.length ws with
  |some l=>(l,!l.isEmpty)
  |none=>([],false)
def vu(l:List vp):List zb:=l.map vp.V
def iq(t:za):O:=.qS [.sl 11 (vu (Vn t).1),yW (Vn t).2]
theorem ir:∀(a:List za) (s:za),(wQ a s).2.length<=s.length
 |[],s=>zi _
 |g::l,s=>by
  simp only[wQ];split
  ·simp
  ·exact ir l s
noncomputable abbrev RO:Ctx:=qp prog [(87,jT [] OC),(86,kE Uj f86),(89,zp false [] (hP yN)),(90,zp false [] (L4 Gb)),(91,zp false [] (FS vR))]
theorem Ge:AM.Good RO (fun g=>[91].contains g):=qH mixed ⟨YP,by simp,Xn,by simp,Vf,by simp,dh,by simp,cT,fun _=>zv _ _,trivial⟩
def Q1:O->Nat
 | .own _ _ n=>n
 |_=>0
def CE(a:List za)(b:List zb)(st:St):Prop:=∃f rest l xs,rest.length<=f/\xs.length+rest.length<=a.length/\a.drop (a.length-rest.length)=rest/\(rest=[]/\st.X 4=.sl 1 []\/st.X 4=.own 0 (a.length-rest.length) rest.length) /\
 qV st.Y st.Z 106 11 (st.X 9) xs/\(∀n,st.X 9≠.own 0 0 n)/\xs.map (Qb ik)=vu l/\1<=st.Z/\st.Y 0=some ⟨9,1,true,b⟩/\wO a.length a=(wO f rest).map (l++·)
theorem Uk(Y:Hp)(a:List zb)(o n:Nat)(b:Y 0=some ⟨9,1,true,a⟩):yL prog Y 55 (.own 0 o (n+1)) (some (some (int 1))) none=some (if n=0 then .sl 1 []else .own 0 (o+1) n):=by simp[yL,b,je]
theorem vv{b a}{f':Nat}{l':List za}{l:List vp}{c:vp}{xs:List zb}{d:zb}{st:St}{v4:O}(k:l'.length<=f')(r:xs.length+1+l'.length<=b.length)(f:b.drop (b.length-l'.length)=l')(m:st.X 4=v4)(g:l'=[]/\v4=.sl 1 []\/v4=.own 0 (b.length-l'.length) l'.length)
  (o:qV st.Y st.Z 106 11 (st.X 9) (xs++[d])) (h:∀n,st.X 9≠.own 0 0 n) (e:Qb ik d=c.V) (i:xs.map (Qb ik)=vu l) (j:1<=st.Z) (p:st.Y 0=some ⟨9,1,true,a⟩) (q:wO b.length b=(wO f' l').map ((l++[c])++·)):CE b a st:=
 ⟨f',l',l++[c],xs++[d],k,by simp;omega,f,by rw[m];exact g,o,h,by simp[i,e,vu],j,p,q⟩
theorem mD(f:Nat):wO f []=some []:=by cases f<;>rfl
theorem Xo(t:za)(ht:t.length+1<=zX):∃r0,zM RO f65 [str t]=some r0/\yc r0 (iq t):=by
 refine kp (sh:=.s 11 ik) rfl ?_;have hsp:=fun Y Z=>WJ t [32] Y Z (by omega) (by decide) (by decide)
 have hpl:∀p∈qw t [32],p.length+1<=zX:=fun p Y=>by have:=ZV Y;omega
 have SX:vm (qw t [32]):=⟨by have:=ZW (s:=t) (sep:=[32]) (by simp);omega,fun p Y=>by have:=hpl p Y;omega⟩;obtain⟨x,Y1,nx1,EG,hx,hnx,⟨pad,hb⟩,AY⟩:=pM (qw t [32]) (qb (fun _=>none) 0 (some ⟨9,1,true,qo (qw t [32])⟩)) 1 0 SX (by simp);subst hx;subst hnx;obtain⟨g,SY⟩:=yX (qY (qw t [32]));have Ny:∀p∈g,p.length+1<=zX:=fun p Y=>hpl p (by rw[<-SY]at Y;exact(List.mem_filter.1 Y).1)
 rw[SY]at EG hb;simp only[bd]at EG;have E:g.length<=zX:=by
  have h1:=List.length_filter_le (fun x=>!im x) (qw t [32]);have h2:=ZW (s:=t) (sep:=[32]) (by simp);have h3:g.length=(qY (qw t [32])).length:=by rw[SY]
  unfold qY at h3;omega
 have Fb:=fun(p:za) (Y:p.length+1<=zX) Y' Z=>Jt yN p Y' Z Y
 simp[hsp,EG];by_cases hc:∃a c,g=[a,[45],c]
 ·obtain⟨a,c,rfl⟩:=hc;have ha:=fun Y' Z=>Fb a (Ny a (by simp)) Y' Z
  have OY:=fun Y' Z=>Fb c (Ny c (by simp)) Y' Z
  simp only[yN,Part.V]at ha OY;have m:iq t=.qS [.sl 11 (vu [⟨[45],(zK a).1,(zK c).1⟩]),yW ((zK a).2&&(zK c).2)]:=by simp only[iq,Vn,SY,qa]
  rw[m];have hn:∀k,0<k->Y1 k=none:=fun k hk=>by rw[AY k (by omega),wA _ _ _ _ (by omega)]
  simp[hb,ha,OY,zU,qn,zu,zP,zr,qP,vu,vp.V,f65]
 ·have m:iq t=(match wO g.length g with
   |some l=>.qS [.sl 11 (vu l),yW (!l.isEmpty)]
   |none=>.qS [.sl 11 [],yW false]):=by
   have hR:Vn t=(match wO g.length g with
    |some l=>(l,!l.isEmpty)
    |none=>([],false)):=by
    unfold Vn;rw[SY]
    match g,hc with
    |[],_=>rfl
    |[_],_=>rfl
    |[_,_],_=>rfl
    |[a,b,c],hc=>
     have:¬b=[45]:=fun e=>hc ⟨a,c,by rw[e]⟩
     simp only[zg this];rfl
    |_::_::_::_::_,_=>rfl
   unfold iq;rw[hR];cases wO g.length g<;>rfl
  obtain⟨z,tt⟩:=yX (qo g++pad);have SZ:g.length<=z.length:=by rw[<-tt];simp
  have S3:∀k (h:k<g.length) (h':k<z.length),z[k]=[str g[k]]:=fun k h h'=>by subst tt;rw[List.getElem_append_left (by simpa using h)];simp[qo]
  rw[tt]at hb;clear tt;by_cases h3:g.length=3
  ·have h31:=S3 1 (by omega) (by omega);have hne:(g[1]==[45])=false:=by
    match g,h3,hc with
    |[a,b,c],_,hc=>simpa using fun e=>hc ⟨a,c,by rw[e]⟩
   have h3l:1<z.length:=by omega
   have h33:((g.length:Int)==3)=true:=by simp[h3]
   simp[hb,h33,h3,h31,hne,h3l];refine lP (CE g z) (fun st=>Q1 (st.X 4)) ⟨g.length,g,[],[],zi _,by simp,by simp,.inr (by simp;try omega),.inl ⟨by simp,rfl⟩,by simp,rfl,by simp,by simpa using hb,by simp⟩ ?_;clear EG AY hsp;rintro⟨X,Y,Z⟩ ⟨f,rest,l,xs,hf,I2,AX,h4,S,Nz,F,hnx,J,R⟩;simp only at h4 S Nz hnx J;cases rest with
   |nil=>
    rw[mD]at R;simp only[zO,yo]at R;rw[R]at m;rw[m];have EH:xs.length=l.length:=by have:=zk List.length F;simpa[vu]using this
    have lr:(decide ((0:Int)<(xs.length:Int)))=!l.isEmpty:=by rw[EH];cases l<;>simp
    have hb2:(decide (0<xs.length))=!l.isEmpty:=by rw[EH];cases l<;>simp
    have W8:X 4=.sl 1 []\/X 4=.own 0 g.length 0:=by
     rcases h4 with⟨_,h4⟩|h4
     ·exact .inl h4
     ·exact .inr (by simpa using h4)
    rcases S with⟨h9,rfl⟩|⟨id,hid,h9,hb9⟩
    ·simp[vu]at F;subst F;rcases W8 with W8|W8<;>simp[W8,h9,qP,vu,f65]
    ·rcases W8 with W8|W8<;>simp[W8,h9,hb9,lr,hb2,F,qP,f65]
   |cons w l'=>
    obtain⟨f',rfl⟩:∃f',f=f'+1:=⟨f-1,by simp at hf;omega⟩;simp only[zd]at hf I2 AX h4;obtain⟨o,ho⟩:=yX (g.length-(l'.length+1));rw[ho]at AX h4;have W8:X 4=.own 0 o (l'.length+1):=by
     rcases h4 with⟨h,_⟩|h
     ·cases h
     ·exact h
    have I3:o<g.length:=by omega
    have C:o<z.length:=by omega
    rw[zj I3]at AX;injection AX with S5 K
    have u:z[o]=[str w]:=by rw[S3 o I3 C,S5]
    have hww:w.length+1<=zX:=Ny w (by rw[<-S5];exact zz I3);have D:=fun Y' Z'=>cU Gb w Y' Z' (by omega) rfl
    simp only[Gb]at D;have T:(wQ wM w).2.length+1<=zX:=by have:=ir wM w;omega
    have y:=fun Y' Z'=>vD vR (wQ wM w).2 Y' Z' (by omega)
    obtain⟨v4,S6⟩:=yX (if l'.length=0 then O.sl 1 []else .own 0 (o+1) l'.length);have hs1:=fun Y' (hh:Y' 0=some _)=>Uk Y' z o l'.length hh
    rw[S6]at hs1;have n:=hs1 Y J;have U:o+1=g.length-l'.length:=by omega
    have A:l'=[]/\v4=.sl 1 []\/v4=.own 0 (g.length-l'.length) l'.length:=by
     rw[<-S6,<-U];by_cases h:l'.length=0
     ·exact .inl ⟨qy.1 h,zl h⟩
     ·exact .inr (zg h)
    have W:Q1 v4<l'.length+1:=by rcases A with⟨_,h⟩|h<;>rw[h]<;>simp[Q1]
    have hl4:Yp prog 55 v4=some (int l'.length):=by
     rcases A with⟨h1,h⟩|h
     ·subst h1;rw[h];simp
     ·rw[h];simp
    rw[U]at K;have AL:=fun c S=>qV.jt (Y:=Y) (Z:=Z) (v:=X 9) (xs:=xs) (P:=prog) (t:=98) (c:=c) S ew J2 J3 J4 rfl (by omega) (by unfold maxLen;unfold zX at E;omega) (by unfold zX at E;omega)
    by_cases hA:(wQ wM w).1=[]/\vR (wQ wM w).2=true
    ·have L:jW w l'=some (mC,l'):=by unfold jW;rw[zl hA]
     have i:wO g.length g=(wO f' l').map ((l++[mC])++·):=by rw[R];simp only[wO,L];cases wO f' l'<;>simp
     have EI:=AL [str jr,int 0,int 0,int 0,int 0,.nil,int 0,int 0,int 0,int 0,.nil] S;obtain⟨hA1,hA2⟩:=hA;simp only[jr]at EI;simp[W8,J,C,u,D,y,n,hA1,hA2,EI,zU,qn,zu,zP,zr];have n0:¬0=Z:=by omega
     have n1:¬0=Z+1:=by omega
     have n2:¬0=Z+2:=by omega
     have Q:=fun Y'=>yf S Y' 0 Nz
     exact⟨vv (v4:=v4) (c:=mC) (f':=f') (l':=l') (l:=l) (xs:=xs) (by omega) (by omega) K (by simp) A (by simpa using qV.after) (by simp<;>omega) rfl F (by simp) (by simp[Q,n0,n1,n2,J]) i,by simpa[Q1]using W⟩
    have n0:¬0=Z:=by omega
    have n1:¬0=Z+1:=by omega
    have n2:¬0=Z+2:=by omega
    have Q:=fun Y'=>yf S Y' 0 Nz
    by_cases hE:(wQ wM w).1=[]
    ·have G:((wQ wM w).1==[])=true:=by simpa using hE
     have H:(wQ wM w).1.isEmpty=true:=by simpa using hE
     have I:((wQ wM w).1 != [])=false:=by simpa using hE
     have S7:vR (wQ wM w).2=false:=by
      cases h:vR (wQ wM w).2
      ·rfl
      ·exact absurd ⟨hE,h⟩ hA
     have q:=fun Y' Z'=>Fb (wQ wM w).2 T Y' Z'
     simp only[yN,Part.V]at q;cases d:(zK (wQ wM w).2).2
     ·have L:jW w l'=none:=by unfold jW;rw[zg hA,zg (fun h=>h.1 hE),zg (by rw[d];simp)]
      have i:wO g.length g=none:=by rw[R];simp only[wO,L];rfl
      rw[i]at m;simp[W8,J,C,u,D,y,n,G,H,I,S7,q,d,zU,qn,m,vu,qP,f65]
     ·have L:jW w l'=some (X2 (wQ wM w).1 (zK (wQ wM w).2).1,l'):=by unfold jW;rw[zg hA,zg (fun h=>h.1 hE),zl d]
      have i:wO g.length g=(wO f' l').map ((l++[X2 (wQ wM w).1 (zK (wQ wM w).2).1])++·):=by rw[R];simp only[wO,L];cases wO f' l'<;>simp
      have j:=qV.jt (P:=prog) (t:=98) (c:=[str (wQ wM w).1,int (zK (wQ wM w).2).1.n0,int (zK (wQ wM w).2).1.n1,int (zK (wQ wM w).2).1.n2,int (zK (wQ wM w).2).1.has,.sl 1 (qo (zK (wQ wM w).2).1.pre),int 0,int 0,int 0,int 0,.nil]) (S.more (some ⟨104,5,false,[(zK (wQ wM w).2).1.V]⟩)) ew J2 J3 J4 rfl (by omega) (by unfold maxLen;unfold zX at E;omega) (by unfold zX at E;omega);simp only[Part.V]at j;simp[W8,J,C,u,D,y,n,G,H,I,S7,q,d,j,zU,qn,zu,zP,zr];exact⟨vv (v4:=v4) (c:=X2 (wQ wM w).1 (zK (wQ wM w).2).1) (f':=f') (l':=l') (l:=l) (xs:=xs) (by omega) (by omega) K (by simp) A (by simpa using qV.after) (by simp<;>omega) rfl F (by simp) (by simp[Q,n0,n1,n2,J]) i,by simpa[Q1]using W⟩
    have G:=vL hE;have H:(wQ wM w).1.isEmpty=false:=by simpa using hE
    have I:((wQ wM w).1 != [])=true:=by simpa using hE
    by_cases hR:(wQ wM w).2=[]
    ·have M:((wQ wM w).2==[])=true:=by simpa using hR
     have N:(wQ wM w).2.isEmpty=true:=by simpa using hR
     by_cases hL:l'=[]
     ·have hLz:l'.length=0:=by rw[hL];rfl
      have S8:¬0<l'.length:=by omega
      have S9:¬(0:Int)<(l'.length:Int):=by omega
      have q:=fun Y' Z'=>Fb (wQ wM w).2 T Y' Z'
      simp only[yN,Part.V]at q;cases d:(zK (wQ wM w).2).2
      ·have L:jW w l'=none:=by unfold jW;rw[zg hA,zg (fun h=>h.2.2 hL),zg (by rw[d];simp)]
       have i:wO g.length g=none:=by rw[R];simp only[wO,L];rfl
       rw[i]at m;simp[W8,J,C,u,D,y,n,G,H,I,M,N,hl4,S8,S9,q,d,zU,qn,m,vu,qP,f65]
      ·have L:jW w l'=some (X2 (wQ wM w).1 (zK (wQ wM w).2).1,l'):=by unfold jW;rw[zg hA,zg (fun h=>h.2.2 hL),zl d]
       have i:wO g.length g=(wO f' l').map ((l++[X2 (wQ wM w).1 (zK (wQ wM w).2).1])++·):=by rw[R];simp only[wO,L];cases wO f' l'<;>simp
       have j:=qV.jt (P:=prog) (t:=98) (c:=[str (wQ wM w).1,int (zK (wQ wM w).2).1.n0,int (zK (wQ wM w).2).1.n1,int (zK (wQ wM w).2).1.n2,int (zK (wQ wM w).2).1.has,.sl 1 (qo (zK (wQ wM w).2).1.pre),int 0,int 0,int 0,int 0,.nil]) (S.more (some ⟨104,5,false,[(zK (wQ wM w).2).1.V]⟩)) ew J2 J3 J4 rfl (by omega) (by unfold maxLen;unfold zX at E;omega) (by unfold zX at E;omega);simp only[Part.V]at j;simp[W8,J,C,u,D,y,n,G,H,I,M,N,hl4,S8,S9,q,d,j,zU,qn,zu,zP,zr];exact⟨vv (v4:=v4) (c:=X2 (wQ wM w).1 (zK (wQ wM w).2).1) (f':=f') (l':=l') (l:=l) (xs:=xs) (by omega) (by omega) K (by simp) A (by simpa using qV.after) (by simp<;>omega) rfl F (by simp) (by simp[Q,n0,n1,n2,J]) i,by simpa[Q1]using W⟩
     ·obtain⟨r,B,rfl⟩:∃r B,l'=r::B:=by
       cases l' with
       |nil=>exact absurd rfl hL
       |cons r B=>exact⟨r,B,rfl⟩
      have hv:v4=.own 0 (o+1) (B.length+1):=by
       rcases A with⟨h,_⟩|h
       ·cases h
       ·rw[h,<-U];rfl
      subst hv;simp only[zd]at hf I2 ho W8 n U K W;have r8:o+1<g.length:=by omega
      have r9:o+1<z.length:=by omega
      rw[<-U,zj r8]at K;injection K with EJ EK
      have oq:z[o+1]=[str r]:=by rw[S3 (o+1) r8 r9,EJ]
      have Ta:o+1+1=g.length-B.length:=by omega
      obtain⟨v5,Tb⟩:=yX (if B.length=0 then O.sl 1 []else .own 0 (o+1+1) B.length);have sa:=Uk Y z (o+1) B.length J;rw[Tb]at sa;have EL:B=[]/\v5=.sl 1 []\/v5=.own 0 (g.length-B.length) B.length:=by
       rw[<-Tb,<-Ta];by_cases h:B.length=0
       ·exact .inl ⟨qy.1 h,zl h⟩
       ·exact .inr (zg h)
      have NA:Q1 v5<B.length+1+1:=by rcases EL with⟨_,h⟩|h<;>rw[h]<;>simp[Q1];omega
      rw[Ta]at EK;have ot:(0:Int)<(B.length:Int)+1:=by omega
      have ou:(0:Int)<(B.length:Int)+1+1:=by omega
      have q:=fun Y' Z'=>Fb r (Ny r (by rw[<-EJ];exact zz r8)) Y' Z'
      simp only[yN,Part.V]at q;cases d:(zK r).2
      ·have L:jW w (r::B)=none:=by unfold jW;rw[zg hA,zl ⟨hE,hR,by simp⟩];simp only[d];rfl
       have i:wO g.length g=none:=by rw[R];simp only[wO,L];rfl
       rw[i]at m;simp[W8,J,C,u,D,y,n,sa,r9,oq,G,H,I,M,N,ot,ou,q,d,zU,qn,m,vu,qP,f65]
      ·have L:jW w (r::B)=some (X2 (wQ wM w).1 (zK r).1,B):=by unfold jW;rw[zg hA,zl ⟨hE,hR,by simp⟩];simp only[d,qa]
       have i:wO g.length g=(wO f' B).map ((l++[X2 (wQ wM w).1 (zK r).1])++·):=by rw[R];simp only[wO,L];cases wO f' B<;>simp
       have j:=qV.jt (P:=prog) (t:=98) (c:=[str (wQ wM w).1,int (zK r).1.n0,int (zK r).1.n1,int (zK r).1.n2,int (zK r).1.has,.sl 1 (qo (zK r).1.pre),int 0,int 0,int 0,int 0,.nil]) (S.more (some ⟨104,5,false,[(zK r).1.V]⟩)) ew J2 J3 J4 rfl (by omega) (by unfold maxLen;unfold zX at E;omega) (by unfold zX at E;omega);simp only[Part.V]at j;simp[W8,J,C,u,D,y,n,sa,r9,oq,G,H,I,M,N,ot,ou,q,d,j,zU,qn,zu,zP,zr];exact⟨vv (v4:=v5) (c:=X2 (wQ wM w).1 (zK r).1) (f':=f') (l':=B) (l:=l) (xs:=xs) (by omega) (by omega) EK (by simp) EL (by simpa using qV.after) (by simp<;>omega) rfl F (by simp) (by simp[Q,n0,n1,n2,J]) i,by simpa[Q1]using NA⟩
    ·have M:=vL hR;have N:(wQ wM w).2.isEmpty=false:=by simpa using hR
     have q:=fun Y' Z'=>Fb (wQ wM w).2 T Y' Z'
     simp only[yN,Part.V]at q;cases d:(zK (wQ wM w).2).2
     ·have L:jW w l'=none:=by unfold jW;rw[zg hA,zg (fun h=>hR h.2.1),zg (by rw[d];simp)]
      have i:wO g.length g=none:=by rw[R];simp only[wO,L];rfl
      rw[i]at m;simp[W8,J,C,u,D,y,n,G,H,I,M,N,q,d,zU,qn,m,vu,qP,f65]
     ·have L:jW w l'=some (X2 (wQ wM w).1 (zK (wQ wM w).2).1,l'):=by unfold jW;rw[zg hA,zg (fun h=>hR h.2.1),zl d]
      have i:wO g.length g=(wO f' l').map ((l++[X2 (wQ wM w).1 (zK (wQ wM w).2).1])++·):=by rw[R];simp only[wO,L];cases wO f' l'<;>simp
      have j:=qV.jt (P:=prog) (t:=98) (c:=[str (wQ wM w).1,int (zK (wQ wM w).2).1.n0,int (zK (wQ wM w).2).1.n1,int (zK (wQ wM w).2).1.n2,int (zK (wQ wM w).2).1.has,.sl 1 (qo (zK (wQ wM w).2).1.pre),int 0,int 0,int 0,int 0,.nil]) (S.more (some ⟨104,5,false,[(zK (wQ wM w).2).1.V]⟩)) ew J2 J3 J4 rfl (by omega) (by unfold maxLen;unfold zX at E;omega) (by unfold zX at E;omega);simp only[Part.V]at j;simp[W8,J,C,u,D,y,n,G,H,I,M,N,q,d,j,zU,qn,zu,zP,zr];exact⟨vv (v4:=v4) (c:=X2 (wQ wM w).1 (zK (wQ wM w).2).1) (f':=f') (l':=l') (l:=l) (xs:=xs) (by omega) (by omega) K (by simp) A (by simpa using qV.after) (by simp<;>omega) rfl F (by simp) (by simp[Q,n0,n1,n2,J]) i,by simpa[Q1]using W⟩
  ·have h33:((g.length:Int)==3)=false:=by simp;omega
   simp[hb,h33];refine lP (CE g z) (fun st=>Q1 (st.X 4)) ⟨g.length,g,[],[],zi _,by simp,by simp,.inr (by simp;try omega),.inl ⟨by simp,rfl⟩,by simp,rfl,by simp,by simpa using hb,by simp⟩ ?_;clear EG AY hsp;rintro⟨X,Y,Z⟩ ⟨f,rest,l,xs,hf,I2,AX,h4,S,Nz,F,hnx,J,R⟩;simp only at h4 S Nz hnx J;cases rest with
   |nil=>
    rw[mD]at R;simp only[zO,yo]at R;rw[R]at m;rw[m];have EH:xs.length=l.length:=by have:=zk List.length F;simpa[vu]using this
    have lr:(decide ((0:Int)<(xs.length:Int)))=!l.isEmpty:=by rw[EH];cases l<;>simp
    have hb2:(decide (0<xs.length))=!l.isEmpty:=by rw[EH];cases l<;>simp
    have W8:X 4=.sl 1 []\/X 4=.own 0 g.length 0:=by
     rcases h4 with⟨_,h4⟩|h4
     ·exact .inl h4
     ·exact .inr (by simpa using h4)
    rcases S with⟨h9,rfl⟩|⟨id,hid,h9,hb9⟩
    ·simp[vu]at F;subst F;rcases W8 with W8|W8<;>simp[W8,h9,qP,vu,f65]
    ·rcases W8 with W8|W8<;>simp[W8,h9,hb9,lr,hb2,F,qP,f65]
   |cons w l'=>
    obtain⟨f',rfl⟩:∃f',f=f'+1:=⟨f-1,by simp at hf;omega⟩;simp only[zd]at hf I2 AX h4;obtain⟨o,ho⟩:=yX (g.length-(l'.length+1));rw[ho]at AX h4;have W8:X 4=.own 0 o (l'.length+1):=by
     rcases h4 with⟨h,_⟩|h
     ·cases h
     ·exact h
    have I3:o<g.length:=by omega
    have C:o<z.length:=by omega
    rw[zj I3]at AX;injection AX with S5 K
    have u:z[o]=[str w]:=by rw[S3 o I3 C,S5]
    have hww:w.length+1<=zX:=Ny w (by rw[<-S5];exact zz I3);have D:=fun Y' Z'=>cU Gb w Y' Z' (by omega) rfl
    simp only[Gb]at D;have T:(wQ wM w).2.length+1<=zX:=by have:=ir wM w;omega
    have y:=fun Y' Z'=>vD vR (wQ wM w).2 Y' Z' (by omega)
    obtain⟨v4,S6⟩:=yX (if l'.length=0 then O.sl 1 []else .own 0 (o+1) l'.length);have hs1:=fun Y' (hh:Y' 0=some _)=>Uk Y' z o l'.length hh
    rw[S6]at hs1;have n:=hs1 Y J;have U:o+1=g.length-l'.length:=by omega
    have A:l'=[]/\v4=.sl 1 []\/v4=.own 0 (g.length-l'.length) l'.length:=by
     rw[<-S6,<-U];by_cases h:l'.length=0
     ·exact .inl ⟨qy.1 h,zl h⟩
     ·exact .inr (zg h)
    have W:Q1 v4<l'.length+1:=by rcases A with⟨_,h⟩|h<;>rw[h]<;>simp[Q1]
    have hl4:Yp prog 55 v4=some (int l'.length):=by
     rcases A with⟨h1,h⟩|h
     ·subst h1;rw[h];simp
     ·rw[h];simp
    rw[U]at K;have AL:=fun c S=>qV.jt (Y:=Y) (Z:=Z) (v:=X 9) (xs:=xs) (P:=prog) (t:=98) (c:=c) S ew J2 J3 J4 rfl (by omega) (by unfold maxLen;unfold zX at E;omega) (by unfold zX at E;omega)
    by_cases hA:(wQ wM w).1=[]/\vR (wQ wM w).2=true
    ·have L:jW w l'=some (mC,l'):=by unfold jW;rw[zl hA]
     have i:wO g.length g=(wO f' l').map ((l++[mC])++·):=by rw[R];simp only[wO,L];cases wO f' l'<;>simp
     have EI:=AL [str jr,int 0,int 0,int 0,int 0,.nil,int 0,int 0,int 0,int 0,.nil] S;obtain⟨hA1,hA2⟩:=hA;simp only[jr]at EI;simp[W8,J,C,u,D,y,n,hA1,hA2,EI,zU,qn,zu,zP,zr];have n0:¬0=Z:=by omega
     have n1:¬0=Z+1:=by omega
     have n2:¬0=Z+2:=by omega
     have Q:=fun Y'=>yf S Y' 0 Nz
     exact⟨vv (v4:=v4) (c:=mC) (f':=f') (l':=l') (l:=l) (xs:=xs) (by omega) (by omega) K (by simp) A (by simpa using qV.after) (by simp<;>omega) rfl F (by simp) (by simp[Q,n0,n1,n2,J]) i,by simpa[Q1]using W⟩
    have n0:¬0=Z:=by omega
    have n1:¬0=Z+1:=by omega
    have n2:¬0=Z+2:=by omega
    have Q:=fun Y'=>yf S Y' 0 Nz
    by_cases hE:(wQ wM w).1=[]
    ·have G:((wQ wM w).1==[])=true:=by simpa using hE
     have H:(wQ wM w).1.isEmpty=true:=by simpa using hE
     have I:((wQ wM w).1 != [])=false:=by simpa using hE
     have S7:vR (wQ wM w).2=false:=by
      cases h:vR (wQ wM w).2
      ·rfl
      ·exact absurd ⟨hE,h⟩ hA
     have q:=fun Y' Z'=>Fb (wQ wM w).2 T Y' Z'
     simp only[yN,Part.V]at q;cases d:(zK (wQ wM w).2).2
     ·have L:jW w l'=none:=by unfold jW;rw[zg hA,zg (fun h=>h.1 hE),zg (by rw[d];simp)]
      have i:wO g.length g=none:=by rw[R];simp only[wO,L];rfl
      rw[i]at m;simp[W8,J,C,u,D,y,n,G,H,I,S7,q,d,zU,qn,m,vu,qP,f65]
     ·have L:jW w l'=some (X2 (wQ wM w).1 (zK (wQ wM w).2).1,l'):=by unfold jW;rw[zg hA,zg (fun h=>h.1 hE),zl d]
      have i:wO g.length g=(wO f' l').map ((l++[X2 (wQ wM w).1 (zK (wQ wM w).2).1])++·):=by rw[R];simp only[wO,L];cases wO f' l'<;>simp
      have j:=qV.jt (P:=prog) (t:=98) (c:=[str (wQ wM w).1,int (zK (wQ wM w).2).1.n0,int (zK (wQ wM w).2).1.n1,int (zK (wQ wM w).2).1.n2,int (zK (wQ wM w).2).1.has,.sl 1 (qo (zK (wQ wM w).2).1.pre),int 0,int 0,int 0,int 0,.nil]) (S.more (some ⟨104,5,false,[(zK (wQ wM w).2).1.V]⟩)) ew J2 J3 J4 rfl (by omega) (by unfold maxLen;unfold zX at E;omega) (by unfold zX at E;omega);simp only[Part.V]at j;simp[W8,J,C,u,D,y,n,G,H,I,S7,q,d,j,zU,qn,zu,zP,zr];exact⟨vv (v4:=v4) (c:=X2 (wQ wM w).1 (zK (wQ wM w).2).1) (f':=f') (l':=l') (l:=l) (xs:=xs) (by omega) (by omega) K (by simp) A (by simpa using qV.after) (by simp<;>omega) rfl F (by simp) (by simp[Q,n0,n1,n2,J]) i,by simpa[Q1]using W⟩
    have G:=vL hE;have H:(wQ wM w).1.isEmpty=false:=by simpa using hE
    have I:((wQ wM w).1 != [])=true:=by simpa using hE
    by_cases hR:(wQ wM w).2=[]
    ·have M:((wQ wM w).2==[])=true:=by simpa using hR
     have N:(wQ wM w).2.isEmpty=true:=by simpa using hR
     by_cases hL:l'=[]
     ·have hLz:l'.length=0:=by rw[hL];rfl
      have S8:¬0<l'.length:=by omega
      have S9:¬(0:Int)<(l'.length:Int):=by omega
      have q:=fun Y' Z'=>Fb (wQ wM w).2 T Y' Z'
      simp only[yN,Part.V]at q;cases d:(zK (wQ wM w).2).2
      ·have L:jW w l'=none:=by unfold jW;rw[zg hA,zg (fun h=>h.2.2 hL),zg (by rw[d];simp)]
       have i:wO g.length g=none:=by rw[R];simp only[wO,L];rfl
       rw[i]at m;simp[W8,J,C,u,D,y,n,G,H,I,M,N,hl4,S8,S9,q,d,zU,qn,m,vu,qP,f65]
      ·have L:jW w l'=some (X2 (wQ wM w).1 (zK (wQ wM w).2).1,l'):=by unfold jW;rw[zg hA,zg (fun h=>h.2.2 hL),zl d]
       have i:wO g.length g=(wO f' l').map ((l++[X2 (wQ wM w).1 (zK (wQ wM w).2).1])++·):=by rw[R];simp only[wO,L];cases wO f' l'<;>simp
       have j:=qV.jt (P:=prog) (t:=98) (c:=[str (wQ wM w).1,int (zK (wQ wM w).2).1.n0,int (zK (wQ wM w).2).1.n1,int (zK (wQ wM w).2).1.n2,int (zK (wQ wM w).2).1.has,.sl 1 (qo (zK (wQ wM w).2).1.pre),int 0,int 0,int 0,int 0,.nil]) (S.more (some ⟨104,5,false,[(zK (wQ wM w).2).1.V]⟩)) ew J2 J3 J4 rfl (by omega) (by unfold maxLen;unfold zX at E;omega) (by unfold zX at E;omega);simp only[Part.V]at j;simp[W8,J,C,u,D,y,n,G,H,I,M,N,hl4,S8,S9,q,d,j,zU,qn,zu,zP,zr];exact⟨vv (v4:=v4) (c:=X2 (wQ wM w).1 (zK (wQ wM w).2).1) (f':=f') (l':=l') (l:=l) (xs:=xs) (by omega) (by omega) K (by simp) A (by simpa using qV.after) (by simp<;>omega) rfl F (by simp) (by simp[Q,n0,n1,n2,J]) i,by simpa[Q1]using W⟩
     ·obtain⟨r,B,rfl⟩:∃r B,l'=r::B:=by
       cases l' with
       |nil=>exact absurd rfl hL
       |cons r B=>exact⟨r,B,rfl⟩
      have hv:v4=.own 0 (o+1) (B.length+1):=by
       rcases A with⟨h,_⟩|h
       ·cases h
       ·rw[h,<-U];rfl
      subst hv;simp only[zd]at hf I2 ho W8 n U K W;have r8:o+1<g.length:=by omega
      have r9:o+1<z.length:=by omega
      rw[<-U,zj r8]at K;injection K with EJ EK
      have oq:z[o+1]=[str r]:=by rw[S3 (o+1) r8 r9,EJ]
      have Ta:o+1+1=g.length-B.length:=by omega
      obtain⟨v5,Tb⟩:=yX (if B.length=0 then O.sl 1 []else .own 0 (o+1+1) B.length);have sa:=Uk Y z (o+1) B.length J;rw[Tb]at sa;have EL:B=[]/\v5=.sl 1 []\/v5=.own 0 (g.length-B.length) B.length:=by
       rw[<-Tb,<-Ta];by_cases h:B.length=0
       ·exact .inl ⟨qy.1 h,zl h⟩
       ·exact .inr (zg h)
      have NA:Q1 v5<B.length+1+1:=by rcases EL with⟨_,h⟩|h<;>rw[h]<;>simp[Q1];omega
      rw[Ta]at EK;have ot:(0:Int)<(B.length:Int)+1:=by omega
      have ou:(0:Int)<(B.length:Int)+1+1:=by omega
      have q:=fun Y' Z'=>Fb r (Ny r (by rw[<-EJ];exact zz r8)) Y' Z'
      simp only[yN,Part.V]at q;cases d:(zK r).2
      ·have L:jW w (r::B)=none:=by unfold jW;rw[zg hA,zl ⟨hE,hR,by simp⟩];simp only[d];rfl
       have i:wO g.length g=none:=by rw[R];simp only[wO,L];rfl
       rw[i]at m;simp[W8,J,C,u,D,y,n,sa,r9,oq,G,H,I,M,N,ot,ou,q,d,zU,qn,m,vu,qP,f65]
      ·have L:jW w (r::B)=some (X2 (wQ wM w).1 (zK r).1,B):=by unfold jW;rw[zg hA,zl ⟨hE,hR,by simp⟩];simp only[d,qa]
       have i:wO g.length g=(wO f' B).map ((l++[X2 (wQ wM w).1 (zK r).1])++·):=by rw[R];simp only[wO,L];cases wO f' B<;>simp
       have j:=qV.jt (P:=prog) (t:=98) (c:=[str (wQ wM w).1,int (zK r).1.n0,int (zK r).1.n1,int (zK r).1.n2,int (zK r).1.has,.sl 1 (qo (zK r).1.pre),int 0,int 0,int 0,int 0,.nil]) (S.more (some ⟨104,5,false,[(zK r).1.V]⟩)) ew J2 J3 J4 rfl (by omega) (by unfold maxLen;unfold zX at E;omega) (by unfold zX at E;omega);simp only[Part.V]at j;simp[W8,J,C,u,D,y,n,sa,r9,oq,G,H,I,M,N,ot,ou,q,d,j,zU,qn,zu,zP,zr];exact⟨vv (v4:=v5) (c:=X2 (wQ wM w).1 (zK r).1) (f':=f') (l':=B) (l:=l) (xs:=xs) (by omega) (by omega) EK (by simp) EL (by simpa using qV.after) (by simp<;>omega) rfl F (by simp) (by simp[Q,n0,n1,n2,J]) i,by simpa[Q1]using NA⟩
    ·have M:=vL hR;have N:(wQ wM w).2.isEmpty=false:=by simpa using hR
     have q:=fun Y' Z'=>Fb (wQ wM w).2 T Y' Z'
     simp only[yN,Part.V]at q;cases d:(zK (wQ wM w).2).2
     ·have L:jW w l'=none:=by unfold jW;rw[zg hA,zg (fun h=>hR h.2.1),zg (by rw[d];simp)]
      have i:wO g.length g=none:=by rw[R];simp only[wO,L];rfl
      rw[i]at m;simp[W8,J,C,u,D,y,n,G,H,I,M,N,q,d,zU,qn,m,vu,qP,f65]
     ·have L:jW w l'=some (X2 (wQ wM w).1 (zK (wQ wM w).2).1,l'):=by unfold jW;rw[zg hA,zg (fun h=>hR h.2.1),zl d]
      have i:wO g.length g=(wO f' l').map ((l++[X2 (wQ wM w).1 (zK (wQ wM w).2).1])++·):=by rw[R];simp only[wO,L];cases wO f' l'<;>simp
      have j:=qV.jt (P:=prog) (t:=98) (c:=[str (wQ wM w).1,int (zK (wQ wM w).2).1.n0,int (zK (wQ wM w).2).1.n1,int (zK (wQ wM w).2).1.n2,int (zK (wQ wM w).2).1.has,.sl 1 (qo (zK (wQ wM w).2).1.pre),int 0,int 0,int 0,int 0,.nil]) (S.more (some ⟨104,5,false,[(zK (wQ wM w).2).1.V]⟩)) ew J2 J3 J4 rfl (by omega) (by unfold maxLen;unfold zX at E;omega) (by unfold zX at E;omega);simp only[Part.V]at j;simp[W8,J,C,u,D,y,n,G,H,I,M,N,q,d,j,zU,qn,zu,zP,zr];exact⟨vv (v4:=v4) (c:=X2 (wQ wM w).1 (zK (wQ wM w).2).1) (f':=f') (l':=l') (l:=l) (xs:=xs) (by omega) (by omega) K (by simp) A (by simpa using qV.after) (by simp<;>omega) rfl F (by simp) (by simp[Q,n0,n1,n2,J]) i,by simpa[Q1]using W⟩
theorem Vo:zh prog 65 (zp false [] (hP iq)):=
 cx (fn:=f65) Ge (wL func65) false [] _ fun args r h w S vs a=>by obtain⟨l,rfl,Y,rfl⟩:=zQ h;obtain⟨r0,b,c⟩:=Xo l Y;exact⟨_,r0,a,by simp[f65],b,c⟩
noncomputable def pN (s:yt) (c:Cut):Bool:=decide (ZX s.lo c<=0)&&(s.W7||decide (ZX c s.hi<0))
def yt.small(s:yt):Prop:=s.lo.v.small/\s.hi.v.small
theorem dj(x y:Cut)(Y:Hp)(Z:Nat)(a:x.v.small)(b:y.v.small):qN [.g xg,.g xg] (E6 fun v w=>int (ZX v w)) [.agg x.V,.agg y.V] Y Z=some (int (ZX x y),Y,Z):=sJ x y (.agg x.V) (.agg y.V) Y Z (il x) (il y) (by simp only[zt,CA]) a b
noncomputable abbrev sL:Ctx:=qp prog [(98,qN [.g xg,.g xg] (E6 fun v w=>int (ZX v w)))]
theorem CF:AM.Good sL (fun g=>[98].contains g):=qH mixed ⟨xh,fun _=>xd _ _,trivial⟩
theorem pO:zh prog 136 (kE sL f136):=KZ CF func136
theorem CG(s:yt)(c:Cut)(hs:s.small)(a:c.v.small)(Y:Hp)(Z id:Nat)(hid:id<Z)(b:Y id=some ⟨114,5,false,[c.V]⟩) :
  kE sL f136 [.agg s.V,.ref id 0 0] Y Z=some (yW (pN s c),qb Y Z (some ⟨116,11,false,[s.V]⟩),Z+1):=by
 unfold kE;rw[zl (by simp[f136])];refine Qj rfl ?_;have d:=fun Y Z=>dj s.lo c Y Z hs.1 a
 have e:=fun Y Z=>dj c s.hi Y Z a hs.2
 have f:¬id=Z:=by omega
 simp only[Cut.V]at d e b;by_cases g:ZX s.lo c<=0<;>cases h:s.W7 <;>
  simp[yt.V,Cut.V,d,e,b,f,g,h,pN,f136]
noncomputable def Xq (c:Cut):Nat->List yt->Int
 |_,[]=>-1
 |k,s::l=>if pN s c=true then k else Xq c (k+1) l
theorem mE(c:Cut):∀(l:List yt) (k:Nat),decide (0<=Xq c k l)=l.any (pN · c)
 |[],k=>by simp[Xq]
 |s::l,k=>by
  by_cases h:pN s c=true
  ·have e:Xq c k (s::l)=k:=by simp only[Xq,zl h]
   rw[e,AK,h];simp
  ·have e:Xq c k (s::l)=Xq c (k+1) l:=by simp only[Xq,zg h]
   rw[e,mE c l (k+1),AK,Bool.eq_false_iff.2 h];rfl
noncomputable abbrev Gf:Ctx:=qp prog [(136,kE sL f136)]
theorem Gg:Gd Gf:=qT mixed ⟨pO,trivial⟩
theorem uI:zh prog 173 (kE Gf f173):=KZ Gg func173
def E7(id:Nat):O:=.fn (.func 136) [] [.ref id 0 0]
def CH(r:O)(Y:Hp)(Z:Nat)(x:O)(Y':Hp)(Z':Nat):Prop:=x=r/\Z<=Z'/\∀j,j<Z->Y' j=Y j
theorem Gh(l:List yt)(c:Cut)(y:l.length<=zX)(hs:∀s∈l,s.small)(z:c.v.small)(m:Hp)(i id:Nat)(hid:id<i)(A:m id=some ⟨114,5,false,[c.V]⟩) :
  ∃x Y' Z',kE Gf f173 [.sl 11 (qI l),E7 id] m i=some (x,Y',Z')/\CH (int (Xq c 0 l)) m i x Y' Z':=by
 unfold kE;rw[zl (by simp[f173])];refine wX rfl ?_;unfold zX at y;have f:(qI l).length=l.length:=by simp[qI]
 simp[E7,f];refine qA (fun k X Y Z=>X 0=.sl 11 (qI l)/\X 1=E7 id/\X 7=int l.length/\X 8=int k/\i<=Z/\(∀j,j<i->Y j=m j)/\Xq c 0 l=Xq c k (l.drop k)) l.length ⟨by simp,by simp[E7],by simp,by simp,zi _,fun _ _=>rfl,by simp⟩ ?_;rintro k X Y Z B ⟨o,p,q,r,t,d,e⟩;by_cases b:k<l.length
 ·have w:=wP k;have a:=CG l[k] c (hs _ (zz b)) z Y Z id (by omega) (by rw[d id hid];exact A);have g:∀h:k<(qI l).length,(qI l)[k]=l[k].V:=fun h=>by simp[qI]
  simp only[yt.V,Cut.V,qg,jh]at a g;rw[zj b]at e;simp only[Xq]at e;cases n:pN l[k] c
  ·rw[n,zg (by simp)]at e;rw[n]at a;simp[o,p,q,r,E7,b,f,g,a,w];exact⟨b,by omega,fun j u=>by rw[wA _ _ _ _ (by omega)];exact d j u,e⟩
  ·rw[n,zl rfl]at e;rw[n]at a;simp[o,p,q,r,E7,b,f,g,a,w,f173];exact⟨by rw[e],by omega,fun j u=>by rw[wA _ _ _ _ (by omega)];exact d j u⟩
 ·obtain rfl:k=l.length:=by omega
  rw[zE]at e;simp only[Xq]at e;simp[o,p,q,r,f173];exact⟨by rw[e],t,d⟩
noncomputable abbrev Gi:Ctx:=qp prog [(173,kE Gf f173)]
theorem Gj:Gd Gi:=qT mixed ⟨uI,trivial⟩
theorem uJ:zh prog 135 (kE Gi f135):=KZ Gj func135
noncomputable def WT (l:List yt) (c:Cut):Bool:=l.any (pN · c)
theorem Gk(l:List yt)(c:Cut)(e:l.length<=zX)(hs:∀s∈l,s.small)(f:c.v.small)(a:Hp)(b id:Nat)(hid:id<b)(g:a id=some ⟨114,5,false,[c.V]⟩) :
  ∃x Y' Z',kE Gi f135 [.sl 11 (qI l),E7 id] a b=some (x,Y',Z')/\CH (yW (WT l c)) a b x Y' Z':=by
 unfold kE;rw[zl (by simp[f135])];refine wX rfl ?_;obtain⟨x,Y',Z',d,h,i,j⟩:=Gh l c e hs f a b id hid g;subst h;have k:=mE c l 0;simp only[E7]at d;simp[E7,d,k,CH,WT,i,f135];exact j
noncomputable abbrev RQ:Ctx:=qp prog [(135,kE Gi f135)]
theorem Gl:Gd RQ:=qT mixed ⟨uJ,trivial⟩
def jX(l:List yt):Prop:=l.length<=zX/\∀s∈l,s.small
theorem dk{a b:yt}(h:a.V=b.V):a=b:=by obtain⟨⟨⟨s,t,u,v⟩,w⟩,⟨⟨x,y,z,A⟩,g⟩,i⟩:=a;obtain⟨⟨⟨B,C,D,E⟩,F⟩,⟨⟨G,H,I,J⟩,j⟩,k⟩:=b;simp only[yt.V,Cut.V,qg,jh,zn,z7]at h;obtain⟨l,m,n,c,o,p,q,r,d,e,f⟩:=h;injection c with _ c;injection d with _ d;rw[ql l,ql m,ql n,ki c,ZE o,ql p,ql q,ql r,ki d,ZE e,ZE f]
theorem KA{a b:List yt}(h:qI a=qI b):a=b:=Wr (fun _ _ e=>dk e) h
noncomputable def Ul (f:List yt->Cut->O):zb->Option O:=qD (α:=List yt×Cut) (fun a=>[.sl 11 (qI a.1),.agg a.2.V]) (fun a=>jX a.1/\a.2.v.small) (fun a=>f a.1 a.2)
theorem Mq:∀a b:List yt×Cut,[O.sl 11 (qI a.1),.agg a.2.V]=[O.sl 11 (qI b.1),.agg b.2.V]->a=b:=by rintro⟨f,g⟩ ⟨h,i⟩ e;simp only[zn,z7]at e;obtain⟨c,d⟩:=e;injection c with _ c;injection d with d;rw[KA c,ZH d]
theorem mF(l:List yt)(c:Cut)(a:jX l)(d:c.v.small):zM RQ f99 [.sl 11 (qI l),.agg c.V]=some (yW (WT l c)):=by refine zw rfl ?_;obtain⟨x,Y',Z',b,e,f,g⟩:=Gk l c a.1 a.2 d (qb (fun _=>none) 0 (some ⟨114,5,false,[c.V]⟩)) 1 0 (by omega) (by simp);subst e;simp only[E7,Cut.V]at b;simp[Cut.V,b,ja,f99]
theorem iu:zh prog 99 (qN [.s 11 k6,.g xg] (Ul fun l c=>yW (WT l c))):=
 yC (fn:=f99) Gl (wL func99) _ _ fun args r h=>by obtain⟨⟨l,c⟩,rfl,⟨a,b⟩,rfl⟩:=zQ h;exact⟨by simp[f99],_,mF l c a b,yc.refl _⟩
structure TO {α:Type} (c:α->α->Int):Prop where
 refl:∀x,c x x=0
 flip:∀x y,c x y<0↔0<c y x
 tr:∀x y z,c x y<=0->c y z<=0->c x z<=0
theorem TO.le{α:Type}{c:α->α->Int}(h:TO c)(x y:α):c x y<=0↔0<=c y x:=by have:=h.flip y x;omega
theorem TO.eq{α:Type}{c:α->α->Int}(h:TO c)(x y:α):c x y=0↔c y x=0:=by have a:=h.flip y x;have b:=h.flip x y;omega
theorem TO.trans{α:Type}{c:α->α->Int}(h:TO c){x y z:α}(e:c x y<0)(b:c y z<0):c x z<0:=by
 have d:=h.tr x y z (by omega) (by omega);rcases Int.lt_or_eq_of_le d with a|a
 ·exact a
 ·have f:=(h.eq x z).1 a;have g:=h.tr z x y (by omega) (by omega);have:=(h.flip y z).1 b;omega
theorem TO.ntrans{α:Type}{c:α->α->Int}(h:TO c){x y z:α}(a:0<=c x y)(b:0<=c y z):0<=c x z:=
 (h.le z x).1 (h.tr z y x ((h.le z y).2 b) ((h.le y x).2 a))
theorem TO.pull{α a:Type}{c:a->a->Int}(h:TO c)(f:α->a):TO fun x y=>c (f x) (f y):=⟨fun _=>h.refl _,fun _ _=>h.flip _ _,fun _ _ _=>h.tr _ _ _⟩
def kF{α:Type}(c d:α->α->Int)(x y:α):Int:=if c x y=0 then d x y else c x y
theorem TO.lex{α:Type}{c d:α->α->Int}(f:TO c)(k:TO d):TO (kF c d) where
 refl x:=by simp[kF,f.refl,k.refl]
 flip x y:=by
  unfold kF;have g:=f.flip x y;have i:=f.flip y x;have m:=k.flip x y;by_cases h:c x y=0
  ·rw[zl h,zl ((f.eq x y).1 h)];exact m
  ·rw[zg h,zg (fun e=>h ((f.eq x y).2 e))];exact g
 tr x y z:=by
  unfold kF;intro g i;by_cases a:c x y=0<;>by_cases b:c y z=0
  ·rw[zl a]at g;rw[zl b]at i;have j:=f.tr x y z (by omega) (by omega);have l:=f.tr z y x (by have:=(f.eq y z).1 b;omega) (by have:=(f.eq x y).1 a;omega);have n:=(f.le z x).1 l;rw[zl (by omega)];exact k.tr x y z g i
  ·rw[zg b]at i;have j:=f.tr x y z (by omega) i;by_cases e:c x z=0
   ·exfalso;have l:=f.tr z x y (by have:=(f.eq x z).1 e;omega) (by omega);have:=(f.flip y z).1 (by omega);omega
   ·rw[zg e];exact j
  ·rw[zg a]at g;have j:=f.tr x y z g (by omega);by_cases e:c x z=0
   ·exfalso;have l:=f.tr y z x (by omega) (by have:=(f.eq x z).1 e;omega);have:=(f.flip x y).1 (by omega);omega
   ·rw[zg e];exact j
  ·rw[zg a]at g;rw[zg b]at i;have:=f.trans (x:=x) (y:=y) (z:=z) (by omega) (by omega);rw[zg (by omega)];omega
theorem bf{α:Type}{c:α->α->Int}(h:TO c):TO (yj c) where
 refl l:=by
  induction l with
  |nil=>rfl
  |cons x l f=>simp[yj,h.refl,f]
 flip a b:=by
  induction a generalizing b with
  |nil=>cases b<;>simp[yj]
  |cons x a f=>
   cases b with
   |nil=>simp[yj]
   |cons y b=>
    simp only[yj];by_cases e:c x y=0
    ·rw[zl e,zl ((h.eq x y).1 e)];exact f b
    ·rw[zg e,zg (fun m=>e ((h.eq x y).2 m))];exact h.flip x y
 tr a b d:=by
  induction a generalizing b d with
  |nil=>cases d<;>simp[yj]
  |cons x a f=>
   cases b with
   |nil=>simp[yj]
   |cons y b=>
    cases d with
    |nil=>simp[yj]
    |cons z d=>
     simp only[yj];intro g i;by_cases p:c x y=0<;>by_cases q:c y z=0
     ·rw[zl p]at g;rw[zl q]at i;have j:=h.tr x y z (by omega) (by omega);have k:=h.tr z y x (by have:=(h.eq y z).1 q;omega) (by have:=(h.eq x y).1 p;omega);have n:=(h.le z x).1 k;rw[zl (by omega)];exact f b d g i
     ·rw[zg q]at i;have j:=h.tr x y z (by omega) i;by_cases e:c x z=0
      ·exfalso;have k:=h.tr z x y (by have:=(h.eq x z).1 e;omega) (by omega);have:=(h.flip y z).1 (by omega);omega
      ·rw[zg e];exact j
     ·rw[zg p]at g;have j:=h.tr x y z g (by omega);by_cases e:c x z=0
      ·exfalso;have k:=h.tr y z x (by omega) (by have:=(h.eq x z).1 e;omega);have:=(h.flip x y).1 (by omega);omega
      ·rw[zg e];exact j
     ·rw[zg p]at g;rw[zg q]at i;have:=h.trans (x:=x) (y:=y) (z:=z) (by omega) (by omega);rw[zg (by omega)];omega
theorem vJ:TO wU:=⟨fun x=>by simp[wU],fun x y=>by unfold wU;split<;>split<;>(try split)<;>omega,fun x y z=>by unfold wU;repeat' split<;>omega⟩
theorem mG:∀a b:za,jb a b=yj (fun x y:UInt8=>wU x.toNat y.toNat) a b
 |[],[]=>rfl
 |[],_::_=>rfl
 |_::_,[]=>rfl
 |x::a,y::b=>by
  have f:=mG a b;simp only[yj];unfold jb at f⊢;simp only[Lib.compareBytes];rcases Nat.lt_trichotomy x.toNat y.toNat with h|h|h
  ·have c:x<y:=h;have e:wU x.toNat y.toNat=-1:=by unfold wU;rw[zl (by omega)]
   simp[c,e]
  ·have e:wU x.toNat y.toNat=0:=by unfold wU;rw[zg (by omega),zg (by omega)]
   have c:¬x<y:=by show¬x.toNat<y.toNat;omega
   have d:¬y<x:=by show¬y.toNat<x.toNat;omega
   simp[c,d,e,f]
  ·have c:¬x<y:=by show¬x.toNat<y.toNat;omega
   have d:y<x:=h;have e:wU x.toNat y.toNat=1:=by unfold wU;rw[zg (by omega),zl (by omega)]
   simp[c,d,e]
theorem vK:TO jb:=by
 have:jb=yj (fun x y:UInt8=>wU x.toNat y.toNat):=by funext a b;exact mG a b
 rw[this];exact bf (vJ.pull fun x:UInt8=>(x.toNat:Int))
noncomputable def Xr (a:za):Int×Int×za×za:=if J8 a=true then(0,(Lib.trimLeftB a 48).length,Lib.trimLeftB a 48,[])else(1,0,[],a)
theorem mH(a b:za):yv a b=kF (fun x y=>wU x.1 y.1) (kF (fun x y=>wU x.2.1 y.2.1) (kF (fun x y=>jb x.2.2.1 y.2.2.1) fun x y=>jb x.2.2.2 y.2.2.2)) (Xr a) (Xr b):=by
 unfold yv Xr kF;have r:=vK.refl [];have e:wU 0 0=0:=rfl;have f:wU 1 1=0:=rfl;by_cases c:J8 a=true<;>by_cases d:J8 b=true
 ·simp only[c,d,qa,e,r,cY]
 ·simp[c,d,wU]
 ·simp[c,d,wU]
 ·simp[c,d,e,f,r]
theorem pP:TO yv:=by
 have:yv=fun a b=>kF (fun x y=>wU x.1 y.1) (kF (fun x y=>wU x.2.1 y.2.1) (kF (fun x y=>jb x.2.2.1 y.2.2.1) fun x y=>jb x.2.2.2 y.2.2.2)) (Xr a) (Xr b):=by funext a b;exact mH a b
 rw[this];exact TO.pull (TO.lex (vJ.pull fun x:Int×Int×za×za=>x.1) (TO.lex (vJ.pull fun x:Int×Int×za×za=>x.2.1) (TO.lex (vK.pull fun x:Int×Int×za×za=>x.2.2.1) (vK.pull fun x:Int×Int×za×za=>x.2.2.2)))) Xr
def Vp(v:jR):Int:=if v.pre.length=0 then 1 else 0
theorem CI(v w:jR):JL v w=kF (fun x y=>wU x.a y.a) (kF (fun x y=>wU x.b y.b) (kF (fun x y=>wU x.c y.c) (kF (fun x y=>wU (Vp x) (Vp y)) fun x y=>yj yv x.pre y.pre))) v w:=by
 unfold JL kF;by_cases d:wU v.a w.a=0
 ·by_cases e:wU v.b w.b=0
  ·by_cases f:wU v.c w.c=0
   ·simp only[cY,d,e,f,qa];by_cases p:v.pre.length=0<;>by_cases q:w.pre.length=0
    ·have g:v.pre=[]:=qy.1 p;have h:w.pre=[]:=qy.1 q;simp[Vp,p,q,wU,g,h,yj]
    ·simp[Vp,p,q,wU]
    ·simp[Vp,p,q,wU]
    ·simp[Vp,p,q,wU]
   ·simp[cY,d,e,f]
  ·simp[cY,d,e]
 ·simp[cY,d]
theorem HP:TO JL:=by
 have:JL=kF (fun x y=>wU x.a y.a) (kF (fun x y=>wU x.b y.b) (kF (fun x y=>wU x.c y.c) (kF (fun x y=>wU (Vp x) (Vp y)) fun x y=>yj yv x.pre y.pre))):=by funext a b;exact CI a b
 rw[this];exact TO.lex (vJ.pull fun x:jR=>x.a) (TO.lex (vJ.pull fun x:jR=>x.b) (TO.lex (vJ.pull fun x:jR=>x.c) (TO.lex (vJ.pull Vp) ((bf pP).pull fun x:jR=>x.pre))))
def uK(c:Cut):Int:=if c.after=true then 1 else 0
theorem CJ(a b:Cut):ZX a b=kF (fun x y=>JL x.v y.v) (fun x y=>wU (uK x) (uK y)) a b:=by
 unfold ZX kF;by_cases h:JL a.v b.v=0
 ·simp only[h,qa];cases c:a.after<;>cases d:b.after<;>simp[uK,c,d,wU]
 ·simp[h]
theorem br:TO ZX:=by
 have:ZX=kF (fun x y=>JL x.v y.v) (fun x y=>wU (uK x) (uK y)):=by funext a b;exact CJ a b
 rw[this];exact TO.lex (HP.pull fun x:Cut=>x.v) (vJ.pull uK)
end Go.Q
namespace Go.Q
open Classical in
noncomputable def CK (x y:zb):Int:=if h:∃a b:Cut,x=a.V/\y=b.V then ZX (Classical.choose h) (Classical.choose (wJ h))else 0
theorem ZB(a b:Cut):CK a.V b.V=ZX a b:=by have h:∃c d:Cut,a.V=c.V/\b.V=d.V:=⟨a,b,rfl,rfl⟩;unfold CK;rw[dif_pos h];have e:=wJ (wJ h);exact congr (zk ZX (ZH e.1).symm) (ZH e.2).symm
def yI(l:List Cut):List zb:=l.map Cut.V
theorem CL(l:List Cut):Z9 CK (yI l) where
 irrefl x d:=by obtain⟨a,_,rfl⟩:=zZ.1 d;rw[ZB,br.refl];exact Int.le_refl _
 trans x d y e z f:=by obtain⟨a,_,rfl⟩:=zZ.1 d;obtain⟨b,_,rfl⟩:=zZ.1 e;obtain⟨c,_,rfl⟩:=zZ.1 f;rw[ZB,ZB,ZB];exact br.trans
 ntrans x d y e z f:=by obtain⟨a,_,rfl⟩:=zZ.1 d;obtain⟨b,_,rfl⟩:=zZ.1 e;obtain⟨c,_,rfl⟩:=zZ.1 f;rw[ZB,ZB,ZB];exact br.ntrans
def Gm(x:zb):Prop:=∃a:Cut,x=a.V/\a.v.small
theorem Mr:sr prog 98 5 CK Gm:=by
 refine⟨fun args w=>?_,_,xh,fun x y _ _ c d=>?_⟩
 ·have h:prog.funcs[98]?=some f98:=func98;simp[callFunc,h,f98]
 ·obtain⟨a,rfl,e⟩:=c;obtain⟨b,rfl,f⟩:=d;rw[ZB];exact dj a b _ _ e f
open Classical in
noncomputable def pQ (x:zb):Cut:=if h:∃a:Cut,x=a.V then Classical.choose h else yE
theorem CM(a:Cut):pQ a.V=a:=by have h:∃c:Cut,a.V=c.V:=⟨a,rfl⟩;unfold pQ;rw[dif_pos h];exact(ZH (wJ h)).symm
theorem Vq(l:List Cut):(yI l).map pQ=l:=by
 induction l with
 |nil=>rfl
 |cons a l b=>show pQ a.V::(yI l).map pQ=_;rw[CM,b]
theorem X3(l:List Cut):∃s:List Cut,vq CK (yI l)=yI s/\s.Perm l/\s.Pairwise fun a b=>ZX a b<=0:=by
 have Y:=ZN (CL l);have hs:=Wu (CL l);have c:∀(r:List zb),(∀x∈r,∃a:Cut,x=a.V)->∃s:List Cut,r=yI s:=by
  intro r
  induction r with
  |nil=>intro _;exact⟨[],rfl⟩
  |cons x r d=>
   intro h;obtain⟨a,rfl⟩:=h x (by simp);obtain⟨s,rfl⟩:=d fun y f=>h y (by simp[f])
   exact⟨a::s,rfl⟩
 obtain⟨s,e⟩:=c (vq CK (yI l)) fun x g=>by have:=Y.mem_iff.1 g;obtain⟨a,_,rfl⟩:=zZ.1 this;exact⟨a,rfl⟩
 rw[e]at Y hs;refine⟨s,e,?_,?_⟩
 ·have:=Y.map pQ;rwa [Vq,Vq]at this
 ·rw[yI,tl]at hs;refine hs.imp fun{a b} h=>?_
  rw[ZB]at h;exact(br.le a b).2 h
end Go.Q
namespace Go.Q
def Qo(out:List yt)(c:Cut):List yt:=match out.getLast? with
 |some s=>out.dropLast++[⟨s.lo,c,false⟩]
 |none=>out
def uL(a:Cut->Bool)(st:Bool×List yt)(c:Cut):Bool×List yt:=(a c,if(a c&&!st.1)=true then st.2++[jV c]else if(!a c&&st.1)=true then Qo st.2 c else st.2)
def ll(a:Cut->Bool)(l:List Cut)(st:Bool×List yt):Bool×List yt:=l.foldl (uL a) st
def wV:List yt->List Cut
 |[]=>[]
 |s::l=>(if s.W7=true then[s.lo]else[s.lo,s.hi])++wV l
theorem QG(a b:List yt):wV (a++b)=wV a++wV b:=by
 induction a with
 |nil=>rfl
 |cons s a c=>simp only[qg,wV,c,qt]
theorem Z1(a:List yt):(wV a).length<=2*a.length:=by
 induction a with
 |nil=>simp[wV]
 |cons s a b=>simp only[wV,qK,zd];split<;>simp<;>omega
theorem KB{Q:Cut->Prop}{a:List yt}(h:∀s∈a,Q s.lo/\Q s.hi):∀c∈wV a,Q c:=by
 induction a with
 |nil=>intro c hc;cases hc
 |cons s a d=>
  intro c hc;obtain⟨b,e⟩:=h s (by simp);simp only[wV,wg]at hc;rcases hc with hc|hc
  ·split at hc
   ·rw[yk]at hc;rw[hc];exact b
   ·simp only[zJ,yO,or_false]at hc;rcases hc with rfl|rfl
    ·exact b
    ·exact e
  ·exact d (fun x f=>h x (by simp[f])) c hc
noncomputable def QH (l:List Cut):List Cut:=(vq CK (yI l)).map pQ
theorem pR(l:List Cut):vq CK (yI l)=yI (QH l):=by obtain⟨s,h,_⟩:=X3 l;unfold QH;rw[h,Vq]
theorem x4(l:List Cut):(QH l).Perm l:=by obtain⟨s,h,a,_⟩:=X3 l;unfold QH;rw[h,Vq];exact a
noncomputable def Q2 (f:Bool->Bool->Bool) (a b:List yt):List yt:=(ll (fun c=>f (WT a c) (WT b c)) (QH (wV a++wV b)) (false,[])).2
theorem mI(out:List yt)(c:Cut):(Qo out c).length=out.length:=by
 unfold Qo;split
 ·rename_i s h;have:out≠[]:=by rintro rfl;cases h
  have:=Yl.2 this;simp;omega
 ·rfl
theorem sM(a:Cut->Bool):∀(l:List Cut) (st:Bool×List yt),2*(ll a l st).2.length+(if st.1=true then 1 else 0)<=2*st.2.length+l.length+(if(ll a l st).1=true then 1 else 0)
 |[],st=>by show 2*st.2.length+(if st.1=true then 1 else 0)<=2*st.2.length+0+(if st.1=true then 1 else 0);omega
 |c::l,st=>by
  have b:=sM a l (uL a st c);have e:ll a (c::l) st=ll a l (uL a st c):=rfl;rw[e];have hs:2*(uL a st c).2.length+(if st.1=true then 1 else 0)<=2*st.2.length+1+(if(uL a st c).1=true then 1 else 0):=by obtain⟨o,out⟩:=st;unfold uL;cases a c<;>cases o<;>simp[mI]<;>omega
  simp only[zd];omega
theorem fC(f:Bool->Bool->Bool)(a b:List yt):(Q2 f a b).length<=a.length+b.length:=by have h:=sM (fun c=>f (WT a c) (WT b c)) (QH (wV a++wV b)) (false,[]);have d:=(x4 (wV a++wV b)).length_eq;have e:=Z1 a;have g:=Z1 b;rw[qK]at d;unfold Q2;simp only[zq,qf,zf]at h;split at h<;>omega
theorem mK{Q:Cut->Prop}{out:List yt}{c:Cut}(h:∀s∈out,Q s.lo/\Q s.hi)(b:Q c):∀s∈Qo out c,Q s.lo/\Q s.hi:=by
 unfold Qo;split
 ·rename_i s hs;intro x a;rcases wg.1 a with a|a
  ·exact h x (List.dropLast_subset _ a)
  ·rw[yk]at a;rw[a];exact⟨(h s (List.mem_of_getLast? hs)).1,b⟩
 ·exact h
theorem sN{Q:Cut->Prop}(b:Q Wc)(a:Cut->Bool):∀(l:List Cut) (st:Bool×List yt),(∀c∈l,Q c)->(∀s∈st.2,Q s.lo/\Q s.hi)->∀s∈(ll a l st).2,Q s.lo/\Q s.hi
 |[],st,_,h=>h
 |c::l,st,d,h=>by
  refine sN b a l (uL a st c) (fun x f=>d x (by simp[f])) ?_;have e:=d c (by simp);unfold uL;dsimp only;split
  ·intro s hs;rcases wg.1 hs with hs|hs
   ·exact h s hs
   ·rw[yk]at hs;rw[hs];exact⟨e,b⟩
  ·split
   ·exact mK h e
   ·exact h
theorem uM{Q:Cut->Prop}(d:Q Wc)(f:Bool->Bool->Bool){a b:List yt}(e:∀s∈a,Q s.lo/\Q s.hi)(g:∀s∈b,Q s.lo/\Q s.hi):∀s∈Q2 f a b,Q s.lo/\Q s.hi:=
 sN d _ _ _ (fun c i=>by
  have:=(x4 _).mem_iff.1 i;rcases wg.1 this with h|h
  ·exact KB e c h
  ·exact KB g c h) (fun s hs=>by cases hs)
end Go.Q
namespace Go.AM
variable{dr:Prop}
def dm(p:List (Option Nat))(b:Blk):Blk:=⟨b.e,b.s,b.arr,b.es.map (Qb p)⟩
theorem ji.fixed{P:Program}{w:World}{S:Nat->Prop}{G:Nat->GI}{Z:Nat}{k:GI}{b:Blk}(h:ji P w S G Z k b)(f:0<k.s)(q:b.arr=true)(p:List (Option Nat)):ji P w S G Z k (dm p b):=by
 refine ji.jE f h.bs ⟨h.size f,fun c r=>?_,by simpa[dm]using h.fit f,?_⟩
 ·obtain⟨a,d,rfl⟩:=zZ.1 r;rw[j6];exact h.len f a d
 ·obtain⟨l,t,v,x⟩:=h.row f;refine⟨l,t,v,fun i j c B e m=>?_⟩;simp only[dm,z8]at e;obtain⟨a,d,rfl⟩:∃a,b.es[i]?=some a/\Qb p a=c:=by
   cases n:b.es[i]? with
   |none=>rw[n]at e;cases e
   |some a=>rw[n]at e;injection e with e;exact⟨a,rfl,e⟩
  have g:j<a.length:=by have:=(ze.1 m).1;rwa [j6]at this
  obtain⟨u,y,z,_,A⟩:=x i j a a[j] d (zm g);have o:=(kX p a).get (zm g) m _ _ _ (z q);exact⟨u,y,fun _=>o,.c o,A⟩
theorem jN.fixed{P:Program}{Y:Hp}{Z:Nat}{S:Nat->Prop}{G:Nat->GI}{w:World}{Y2:Hp}{g:Nat}{m:Nat->Prop}{j:Nat->GI}{n:World}(k:jN dr P Y Z S G w Y2 g m j n)
  {id:Nat} {b:Blk} (o:Y2 id=some b) (r:b.arr=true) (t:0<(j id).s) (p:List (Option Nat)):jN dr P Y Z S G w (qb Y2 id (some (dm p b))) g m j n:=by
 have d:∀k c,qb Y2 id (some (dm p b)) k=some c->∃f,Y2 k=some f:=fun k c q=>by
  by_cases e:k=id
  ·subst e;exact⟨b,o⟩
  ·rw[zc _ _ _ _ e]at q;exact⟨c,q⟩
 refine⟨⟨k.inv.st,fun i c a=>?_,fun i c a=>?_,fun i c a=>?_,fun i i' c u a l v=>?_,k.inv.KJ⟩,k.up,k.loc,k.Wa,k.from_,fun i c a=>?_,k.fr⟩
 ·obtain⟨f,h⟩:=d i c a;exact k.inv.top i f h
 ·by_cases e:i=id
  ·subst e;rw[q9]at a;injection a with a
   subst a;exact(k.inv.live i b o).fixed t r p
  ·rw[zc _ _ _ _ e]at a;exact k.inv.live i c a
 ·obtain⟨f,h⟩:=d i c a;exact k.inv.apart i f h
 ·obtain⟨f,h⟩:=d i c a;obtain⟨x,y⟩:=d i' u l;exact k.inv.inj i i' f x h y v
 ·obtain⟨f,h⟩:=d i c a;exact k.own i f h
def Jw(a:List Sh)(F:zb->Option (Option Blk)):AM.Spec:=jT [] fun args=>F (av a args)
def CN(p:List (Option Nat))(r:Option Blk)(x:O)(Y:Hp)(_:Nat):Prop:=match r with
 |none=>x=.nil
 |some b=>∃id a,x=.own id 0 a.es.length/\Y id=some a/\a.arr=true/\b=dm p a
section
variable{C:Ctx}{pf:FuncId->Bool}{f:FuncId}{fn:Func}{code:Code}
theorem eH(R:j9 dr C pf)(l:Kl C pf f fn)(z:List Sh)(p:List (Option Nat))(F:zb->Option (Option Blk))(T:∀args r,F args=some r->args.length<=fn.ntmps/\∃x Y Z,yd C fn args (fun _=>none) 0=some (x,Y,Z)/\CN p r x Y Z) :
  yU dr C.P f (Jw z F):=by
 obtain⟨_,l⟩:=l;refine⟨⟨fn,l.func,l.name,by rw[l.body];rfl⟩,?_⟩;intro args Y Z r Y' Z' h w S G vs W hz;unfold Jw jT at h;split at h
 ·rename_i aZ Y1 A;obtain⟨S1,g,t,_⟩:=ym (dr:=dr) W A hz;have j:∀id b,Y1 id=some b->Y1 id=some b/\¬False:=fun id b h=>⟨h,fun h=>h⟩
  split at h
  ·rename_i m;obtain⟨B,x,hpe,nxe,n,d⟩:=T _ none m;injection h with h
   injection h with E h;injection h with H I;subst E;subst H;subst I;simp only[CN]at d;subst d;refine(vM R l n B g.inv.st g.inv.KJ (QW (xW t))).mono fun e w' J=>?_
   obtain⟨v,S',G',K,L,a,M,o,q,_⟩:=J;have N:=Jn (dr:=dr) (D:=fun _=>False) (Y2:=Y1) g.inv j (fun _ h=>h.elim) L a o (fun b Q=>(q b Q).imp (fun h=>h) .inr);have:=M.xp;subst this;exact⟨_,_,_,K,g.trans N,.c .nil⟩
  ·rename_i b m;obtain⟨B,x,hpe,nxe,n,d⟩:=T _ (some b) m;injection h with h
   injection h with E h;injection h with H I;subst E;subst H;subst I;obtain⟨id,s,rfl,hid,k,rfl⟩:=d;refine(vM R l n B g.inv.st g.inv.KJ (QW (xW t))).mono fun e w' J=>?_
   obtain⟨v,S',G',K,L,a,M,o,q,u⟩:=J;have N:=b6 (dr:=dr) (D:=fun _=>False) (Y2:=Y1) g.inv j (fun _ h=>h.elim) L a o (fun b Q=>(q b Q).imp (fun h=>h) .inr) hid k (.inr (u id s hid));have y:=b7 (Z:=Z) (G:=G) M;have U:=N.fixed (id:=Z) (by simp) k y.vI p;rw[show qb (qb Y1 Z (some s)) Z (some (dm p s))=qb Y1 Z (some (dm p s)) by funext i;unfold qb;split<;>rfl]at U;refine⟨_,_,_,K,g.trans U,?_⟩;rw[show(dm p s).es.length=s.es.length by simp[dm]];exact y
  ·cases h
 ·cases h
end
end Go.AM
namespace Go.Proofs
open Go.Shelf
def Tryz.AN:Go.Shelf.Ren:=⟨fun|6=>97|15=>79|14=>133|28=>120|29=>121|20=>163|21=>164|22=>165|23=>166|24=>167|25=>168|26=>169|27=>170|46=>191|47=>150|48=>151|49=>192|50=>193|57=>215|n=>n,fun|22=>142|24=>114|25=>145|3=>3|39=>126|0=>0|53=>160|55=>162|4=>4|46=>153|45=>152|50=>157|5=>5|9=>9|66=>189|70=>193|76=>209|77=>49|n=>n,fun|n=>n⟩
theorem Tryz.I4:Go.Proofs.SlLaysF0.n6 prog Tryz.AN:={
 mixed:=by kernel_rfl
 f6:=⟨f97.name,by decide,func97.trans (zk some (by kernel_rfl))⟩
 f14:=⟨f133.name,by decide,func133.trans (zk some (by kernel_rfl))⟩
 f15:=func79.trans (zk some (by kernel_rfl))
 f20:=⟨f163.name,by decide,func163.trans (zk some (by kernel_rfl))⟩
 f21:=⟨f164.name,by decide,func164.trans (zk some (by kernel_rfl))⟩
 f22:=⟨f165.name,by decide,func165.trans (zk some (by kernel_rfl))⟩
 f23:=⟨f166.name,by decide,func166.trans (zk some (by kernel_rfl))⟩
 f24:=⟨f167.name,by decide,func167.trans (zk some (by kernel_rfl))⟩
 f25:=⟨f168.name,by decide,func168.trans (zk some (by kernel_rfl))⟩
 f26:=⟨f169.name,by decide,func169.trans (zk some (by kernel_rfl))⟩
 f27:=⟨f170.name,by decide,func170.trans (zk some (by kernel_rfl))⟩
 f28:=func120.trans (zk some (by kernel_rfl))
 f29:=func121.trans (zk some (by kernel_rfl))
 f46:=⟨f191.name,by decide,func191.trans (zk some (by kernel_rfl))⟩
 f47:=func150.trans (zk some (by kernel_rfl))
 f48:=func151.trans (zk some (by kernel_rfl))
 f49:=⟨f192.name,by decide,func192.trans (zk some (by kernel_rfl))⟩
 f50:=⟨f193.name,by decide,func193.trans (zk some (by kernel_rfl))⟩
 f57:=⟨f215.name,by decide,func215.trans (zk some (by kernel_rfl))⟩
 t0:=underlying0
 a0:=isAgg0
 z0:=sizeOf0
 v0:=zeroValue0
 t3:=underlying3
 a3:=isAgg3
 z3:=sizeOf3
 v3:=zeroValue3
 t4:=underlying4
 a4:=isAgg4
 z4:=sizeOf4
 v4:=zeroValue4
 t5:=underlying5
 a5:=isAgg5
 z5:=sizeOf5
 v5:=zeroValue5
 t9:=underlying9
 a9:=isAgg9
 z9:=sizeOf9
 v9:=zeroValue9
 t22:=underlying142
 a22:=isAgg142
 z22:=sizeOf142
 v22:=zeroValue142
 t25:=underlying145
 a25:=isAgg145
 z25:=sizeOf145
 v25:=zeroValue145
 t39:=underlying126
 a39:=isAgg126
 z39:=sizeOf126
 v39:=zeroValue126
 t45:=underlying152
 a45:=isAgg152
 z45:=sizeOf152
 v45:=zeroValue152
 t46:=underlying153
 a46:=isAgg153
 z46:=sizeOf153
 v46:=zeroValue153
 t50:=underlying157
 a50:=isAgg157
 z50:=sizeOf157
 v50:=zeroValue157
 t53:=underlying160
 a53:=isAgg160
 z53:=sizeOf160
 v53:=zeroValue160
 t55:=underlying162
 a55:=isAgg162
 z55:=sizeOf162
 v55:=zeroValue162
 t66:=underlying189
 a66:=isAgg189
 z66:=sizeOf189
 v66:=zeroValue189
 t70:=underlying193
 a70:=isAgg193
 z70:=sizeOf193
 v70:=zeroValue193
 t76:=underlying209
 a76:=isAgg209
 z76:=sizeOf209
 v76:=zeroValue209
 t77:=underlying49
 a77:=isAgg49
 z77:=sizeOf49
 v77:=zeroValue49}
theorem Tryz.EM:gI prog 97 5:=⟨fun _ _ V e f h i g blk off cap d w j a k b c=>AnyQ.slices_SortFunc_eq Tryz.I4 5 isAgg114 sizeOf114 V e f h i g #[] blk off cap d w j a k b c,
 fun p cap l w=>AnyF.slices_SortFunc_none Tryz.I4 p cap l w⟩
end Go.Proofs
namespace Go.Q
theorem dp:zh prog 97 (QT 5 98 CK Gm):=
 YB (by decide) ⟨_,func97,by kernel_rfl,by kernel_rfl⟩ Tryz.EM Mr
noncomputable def RR (f:Bool->Bool->Bool):zb->Option O:=qD (α:=Bool×Bool) (fun a=>[yW a.1,yW a.2]) (fun _=>True) (fun a=>yW (f a.1 a.2))
theorem mL(f:Bool->Bool->Bool)(a b:Bool)(Y:Hp)(Z:Nat):zp false [] (RR f) [yW a,yW b] Y Z=some (yW (f a b),Y,Z):=
 sn (a,b) _ _ rfl (fun x y e=>by obtain⟨c,d⟩:=x;obtain⟨g,h⟩:=y;simp only[zn,z7]at e;rw[ZE e.1,ZE e.2]) trivial (.inl rfl)
theorem mM:zh prog 69 (zp false [] (RR and)):=
 XV kM func69 false [] fun⟨a,b⟩ _=>⟨by simp[f69],_,zw rfl (by cases a<;>simp[ja,f69]),wy _⟩
theorem pS:zh prog 70 (zp false [] (RR or)):=
 XV kM func70 false [] fun⟨a,b⟩ _=>⟨by simp[f70],_,zw rfl (by cases a<;>simp[ja,f70]),wy _⟩
theorem eI{Y:Hp}{Z:Nat}{v:O}{l:List Cut}(h:qV Y Z 114 5 v (yI l))(hs:∀c∈l,c.v.small)(k:l.length<4611686018427387904) :
  ∃Y',QT 5 98 CK Gm [v,.fn (.func 98) [] []] Y Z=some (.qS [],Y',Z)/\qV Y' Z 114 5 v (yI (QH l))/\∀j,(∀n,v≠.own j 0 n)->Y' j=Y j:=by
 have a:(yI (QH l)).length=(yI l).length:=by have:=(x4 l).length_eq;simpa[yI]using this
 rcases h with⟨rfl,m⟩|⟨id,f,rfl,b⟩
 ·refine⟨Y,rfl,.inl ⟨rfl,?_⟩,fun _ _=>rfl⟩;rw[m]at a;exact qy.1 a
 ·by_cases d:(yI l).length=0
  ·refine⟨Y,by simp only[QT,zl d],?_,fun _ _=>rfl⟩;have g:yI l=[]:=qy.1 d;rw[g]at a b;have o:=qy.1 a;rw[g,o];exact .inr ⟨id,f,rfl,b⟩
  ·refine⟨qb Y id (some ⟨114,5,true,yI (QH l)⟩),?_,.inr ⟨id,f,by rw[a],by simp⟩,fun j p=>wA _ _ _ _ fun e=>p (yI l).length (by subst e;rfl)⟩;unfold QT;simp only[zg d,b];rw[zl ⟨rfl,rfl,rfl,by simp,by simpa[yI]using k,by simpa using CL l,fun x i=>by simp only[jd,js]at i;obtain⟨c,q,rfl⟩:=zZ.1 i;exact⟨c,rfl,hs c q⟩⟩]
   simp[pR]
theorem uN{c:zb}{s:yt}(h:Qb k6 c=s.V):∃d k l m n o e,c=[int s.lo.v.a,int s.lo.v.b,int s.lo.v.c,d,yW s.lo.after,k,l,m,n,o,e]/\n1 1 d=.sl 1 (qo s.lo.v.pre)/\d.we=true:=by
 have f:=j6 k6 c;rw[h]at f;simp[yt.V,Cut.V]at f
 match c,f with
 |[B,C,D,i,E,p,q,r,t,u,g],_=>simp[yt.V,Cut.V]at h;obtain⟨w,x,y,j,z,F,G,H,I,J,A⟩:=h;subst w;subst x;subst y;subst z;refine⟨i,p,q,r,t,u,g,rfl,j,?_⟩;cases i<;>first|rfl|(simp[n1]at j)
theorem mN{out:List yt}{m:Nat}(b:m<out.length)(h:out.length=m+1)(c:Cut):Qo out c=out.set m ⟨out[m].lo,c,false⟩:=by
 unfold Qo;have a:out≠[]:=by rintro rfl;simp at b
 rw[List.getLast?_eq_some_getLast a];have d:out.getLast a=out[m]:=by rw[List.getLast_eq_getElem];congr 1;omega
 simp only[d];apply List.ext_getElem
 ·simp;omega
 ·intro i f g;rw[List.getElem_set];split
  ·rename_i e;subst e;rw[List.getElem_append_right (by simp;omega)];simp
  ·rw[List.getElem_append_left (by simp at f⊢;omega)];simp
theorem CO(a:Cut->Bool)(st:Bool×List yt)(c:Cut)(h:st.1=true->st.2≠[]):(uL a st c).1=true->(uL a st c).2≠[]:=by obtain⟨o,out⟩:=st;unfold uL;cases a c<;>cases o<;>simp at h⊢<;>assumption
theorem mO(l:List yt)(c:Cut)(Y:Hp)(Z:Nat)(b:jX l)(d:c.v.small):qN [.s 11 k6,.g xg] (Ul fun l c=>yW (WT l c)) [.sl 11 (qI l),.agg c.V] Y Z=some (yW (WT l c),Y,Z):=
 kN (show zt Y [.sl 11 (qI l),.agg c.V]=some ([.sl 11 (qI l),.agg c.V],Y) by simp[Cut.V]) (by
  have e:(Sh.s 11 k6).fix (.sl 11 (qI l))=.sl 11 (qI l):=by simp only[Sh.EF,qI,List.map_map];congr 1
  have f:(Sh.g xg).fix (.agg c.V)=.agg c.V:=by simp[Cut.V]
  show Ul _ [(Sh.s 11 k6).fix (.sl 11 (qI l)),(Sh.g xg).fix (.agg c.V)]=_;rw[e,f];exact qj (V:=fun a:List yt×Cut=>[O.sl 11 (qI a.1),.agg a.2.V]) (a:=(l,c)) Mq ⟨b,d⟩) (.inl rfl)
noncomputable abbrev Ms:Ctx:=qp prog [(97,QT 5 98 CK Gm),(99,qN [.s 11 k6,.g xg] (Ul fun l c=>yW (WT l c))),
 (69,zp false [] (RR and)),(70,zp false [] (RR or))]
theorem Gn:AM.Good Ms (fun g=>[99].contains g):=qH mixed ⟨dp,by simp,iu,fun _=>xd _ _,mM,by simp,pS,by simp,trivial⟩
theorem uO{l:List yt}{k:Nat}(h:k<l.length):wV (l.take (k+1))=wV (l.take k)++(if l[k].W7=true then[l[k].lo]else[l[k].lo,l[k].hi]):=by rw[qR h,QG];simp[wV]
theorem CP(a:Cut->Bool){l:List Cut}{k:Nat}(h:k<l.length)(st:Bool×List yt):ll a (l.take (k+1)) st=uL a (ll a (l.take k) st) l[k]:=by unfold ll;rw[qR h,List.foldl_append];rfl
theorem uP(a b:List Cut):yI (a++b)=yI a++yI b:=by simp[yI]
noncomputable def YU (f:Bool->Bool->Bool) (a b:List yt):Option Blk:=if Q2 f a b=[]then none else some ⟨116,11,true,qI (Q2 f a b)⟩
theorem uQ(i o n:Nat)(Y:Hp):XU (.own i o n) Y=qb Y i none:=rfl
theorem CQ{Y:Hp}{Z e s:Nat}{v:O}{xs:List zb}(h:qV Y Z e s v xs){j:Nat}(a:Z<=j):∀n,v≠.own j 0 n:=by
 rcases h with⟨rfl,_⟩|⟨id,b,rfl,_⟩
 ·intro n e;cases e
 ·intro n e;injection e with e;omega
theorem Vr(f:Bool->Bool->Bool)(hv:O)(EB:∀x y Y Z,yF Ms Y Z (some hv) [yW x,yW y]=some (yW (f x y),Y,Z))(a b:List yt)(ha:jX a)(hb:jX b) :
  ∃x Y Z,yd Ms f68 [.sl 11 (qI a),.sl 11 (qI b),hv] (fun _=>none) 0=some (x,Y,Z)/\CN k6 (YU f a b) x Y Z:=by
 refine wX rfl ?_;have OZ:=ha;have hsb:=hb;obtain⟨ha1,ha2⟩:=ha;obtain⟨lr,hb2⟩:=hb;unfold zX at ha1 lr;obtain⟨ls,hls⟩:∃ls:List (List yt),[a,b]=ls:=⟨_,rfl⟩;obtain⟨rows,S⟩:∃rows:List zb,[[O.sl 11 (qI a)],[.sl 11 (qI b)]]=rows:=⟨_,rfl⟩;have K:∀i,i<2->∃l:List yt,(wV (ls.take (i+1)).flatten=wV (ls.take i).flatten++wV l)/\rows[i]?=some [O.sl 11 (qI l)]/\l.length<=268435456/\(∀s∈l,s.small)/\(wV (ls.take i).flatten).length<=536870912:=by
  intro i hi;rw[<-hls,<-S];rcases(by omega:i=0\/i=1)with rfl|rfl
  ·exact⟨a,by simp[wV],rfl,ha1,ha2,by simp[wV]⟩
  ·exact⟨b,by simp[QG],rfl,lr,hb2,by have:=Z1 a;simp;omega⟩
 simp[zu,zP,zr,S];refine qA (fun i X Y Z=>X 0=.sl 11 (qI a)/\X 1=.sl 11 (qI b)/\X 2=hv/\X 19=.own 0 0 2/\X 20=int 2/\X 21=int i/\1<=Z/\Y 0=some ⟨77,1,true,rows⟩/\(∀n,X 7≠.own 0 0 n)/\qV Y Z 114 5 (X 7) (yI (wV (ls.take i).flatten))) 2
  ⟨by simp,by simp,by simp,by simp,by simp,by simp,by simp,by simp,by simp,.inl ⟨by simp,by simp[wV,yI]⟩⟩ ?_
 rintro i X Y Z hi ⟨E,F,G,u,w,z,T,b0,L,A⟩;by_cases hlt:i<2
 ·obtain⟨l,hl,hr,hll,hls2,hcl⟩:=K i hlt;obtain⟨hr1,SE⟩:=ze.1 hr;have hw:=wP i;have p:(qI l).length=l.length:=by simp[qI]
  have hltI:(i:Int)<2:=by omega
  simp[E,F,G,u,w,z,hltI,hlt,b0,hr1,SE,p];refine qA (fun k X Y Z=>X 0=.sl 11 (qI a)/\X 1=.sl 11 (qI b)/\X 2=hv/\X 19=.own 0 0 2/\X 20=int 2/\X 21=int i/\1<=Z/\Y 0=some ⟨77,1,true,rows⟩/\(∀n,X 7≠.own 0 0 n)/\qV Y Z 114 5 (X 7) (yI (wV (ls.take i).flatten++wV (l.take k))) /\
   X 25=.sl 11 (qI l)/\X 26=int l.length/\X 27=int k) l.length
   ⟨by simp[E],by simp[F],by simp[G],by simp[u],by simp[w],by simp[z],T,b0,by simpa using L,by simpa[wV]using A,by simp,by simp,by simp⟩ ?_
  clear E F G u w z T b0 L A hi X Y Z;rintro k X Y Z hk ⟨E,F,G,u,w,z,T,b0,L,A,h25,h26,h27⟩;by_cases j:k<l.length
  ·have H:=wP k;have r:∀h:k<(qI l).length,(qI l)[k]=l[k].V:=fun h=>by simp[qI]
   have hcn:=Z1 (l.take k);rw[Eu]at hcn;have UR:=uO j;obtain⟨xs,g⟩:=yX (yI (wV (ls.take i).flatten++wV (l.take k)));have B:xs.length<=1073741824+2:=by rw[<-g];simp[yI];omega
   rw[g]at A;have hE:yI (wV (ls.take i).flatten++wV (l.take (k+1)))=xs++(if l[k].W7=true then[l[k].lo]else[l[k].lo,l[k].hi]).map Cut.V:=by rw[UR,<-qt,uP,g];rfl
   have hkn:=fun Y'=>yf A Y' Z (CQ A (zi _))
   have hk0:=fun Y'=>yf A Y' 0 L
   obtain⟨s,hs⟩:=yX (l[k]);rw[hs]at UR r hE;have q:=qV.jt (P:=prog) (t:=142) (c:=s.lo.V) (A.more (some ⟨116,11,false,[s.V]⟩)) BR Ii Ij Ik rfl (by omega) (by unfold maxLen;omega) (by omega);have U:=qV.after (Y:=qb Y Z (some ⟨116,11,false,[s.V]⟩)) (Z:=Z+1) (e:=114) (s:=5) (v:=X 7) (xs:=xs) (c:=s.lo.V) (tmp:=some ⟨114,5,true,[s.lo.V]⟩);have C:=qV.jt (P:=prog) (t:=142) (c:=s.hi.V) U BR Ii Ij Ik rfl (by omega) (by simp;unfold maxLen;omega) (by simp;omega);rw[show(xs++[s.lo.V]).length=xs.length+1 by simp,qt,show[s.lo.V]++[s.hi.V]=[s.lo.V,s.hi.V]from rfl]at C;have W:=qV.after (Y:=qb (XU (X 7) (qb (qb Y Z (some ⟨116,11,false,[s.V]⟩)) (Z+1) (some ⟨114,5,true,[s.lo.V]⟩))) (Z+1+1) (some ⟨114,5,true,xs++[s.lo.V]⟩)) (Z:=Z+1+2) (e:=114) (s:=5) (v:=.own (Z+1+1) 0 (xs.length+1)) (xs:=xs++[s.lo.V]) (c:=s.hi.V) (tmp:=some ⟨114,5,true,[s.hi.V]⟩);rw[show(xs++[s.lo.V]).length=xs.length+1 by simp,qt,show[s.lo.V]++[s.hi.V]=[s.lo.V,s.hi.V]from rfl]at W;simp only[yt.V,Cut.V,qg,jh]at q C U W r;have m1:¬Z=Z+1+1:=by omega
   have m2:¬Z=Z+1+2:=by omega
   have m3:¬Z=Z+1+2+1:=by omega
   have n1:¬0=Z:=by omega
   have n2:¬0=Z+1:=by omega
   have n3:¬0=Z+2:=by omega
   have n4:¬0=Z+3:=by omega
   have n5:¬0=Z+4:=by omega
   cases M:s.W7
   ·rw[M]at UR;rw[M]at q C U W r;simp[E,F,G,u,w,z,h25,h26,h27,j,p,r,q,C,hkn,H,m1,m2,m3,zu,zP,zr];refine⟨by omega,?_,?_⟩
    ·simp[uQ,hk0,b0,n1]
    ·rw[hE,M];simp only[zq,qf,zL,xn,Cut.V];exact W
   ·rw[M]at UR;rw[M]at q C U W r;simp[E,F,G,u,w,z,h25,h26,h27,j,p,r,q,hkn,H,m1,m2,m3,zu,zP,zr];refine⟨by omega,?_,?_⟩
    ·simp[hk0,b0,n1]
    ·rw[hE,M];simp only[qa,zL,xn,Cut.V];exact U
  ·obtain rfl:k=l.length:=by omega
   rw[js,<-hl]at A;simp[E,F,G,u,w,z,h25,h26,h27,hw];exact⟨by omega,T,b0,L,A⟩
 ·obtain rfl:i=2:=by omega
  have Tc:(ls.take 2).flatten=a++b:=by rw[<-hls];simp
  rw[Tc]at A;have SX:∀c∈wV (a++b),c.v.small:=KB (Q:=fun c=>c.v.small) fun s hs=>by
   rcases wg.1 hs with h|h
   ·exact ha2 s h
   ·exact hb2 s h
  have hcl:=Z1 (a++b);rw[qK]at hcl;obtain⟨Y',I,Td,hfr'⟩:=eI A SX (by omega);obtain⟨v,hv7⟩:=yX (X 7);obtain⟨cs,Ez⟩:=yX (QH (wV (a++b)));have hcsl:cs.length<=1073741824:=by rw[<-Ez,(x4 _).length_eq];omega
  have hcsm:∀c∈cs,c.v.small:=fun c hc=>SX c ((x4 _).mem_iff.1 (by rw[Ez];exact hc))
  have EE:Q2 f a b=(ll (fun c=>f (WT a c) (WT b c)) cs (false,[])).2:=by rw[<-Ez,QG];rfl
  obtain⟨is,his⟩:∃is:Cut->Bool,(fun c=>f (WT a c) (WT b c))=is:=⟨_,rfl⟩;have hisc:∀c,f (WT a c) (WT b c)=is c:=fun c=>by rw[<-his]
  rw[his]at EE;rw[hv7]at I Td;rw[Ez]at Td;clear A Ez SX K Tc;have hlen:=Td.len BR;have p:(yI cs).length=cs.length:=by simp[yI]
  rw[p]at hlen;simp[E,F,G,u,w,z,hv7,I,hlen];refine qA (fun k X Y Z=>X 0=.sl 11 (qI a)/\X 1=.sl 11 (qI b)/\X 2=hv/\X 48=v/\X 49=int cs.length/\X 50=int k/\qV Y Z 114 5 v (yI cs)/\∃xs,qV Y Z 116 11 (X 12) xs/\xs.map (Qb k6)=qI (ll is (cs.take k) (false,[])).2 /\
    X 13=yW (ll is (cs.take k) (false,[])).1/\(∀id n m,v=.own id 0 n->X 12≠.own id 0 m)/\((ll is (cs.take k) (false,[])).1=true->(ll is (cs.take k) (false,[])).2≠[])/\xs.length<=k/\(xs=[]->X 12=.nil)) cs.length
   ⟨by simp[E],by simp[F],by simp[G],by simp,by simp,by simp,Td,[],.inl ⟨by simp,rfl⟩,by simp[ll,qI],by simp[ll],by simp,by simp[ll],by simp,by simp⟩ ?_
  clear E F G u w z T b0 L Td hi X Y Z hlt I hlen hfr' hv7 Y';rintro k X Y Z hk ⟨E,F,G,Te,Tf,Tg,A,xs,hX,g,N,AL,Th,hxk,hxn⟩;by_cases j:k<cs.length
  ·have H:=wP k;obtain⟨id,hid,rfl,hh⟩:=A.at_ (by rw[p];omega);have o:=CP is j (false,[]);obtain⟨st,Ti⟩:=yX (ll is (cs.take k) (false,[]));obtain⟨c,hc⟩:=yX (cs[k]);rw[hc,Ti]at o;rw[Ti]at g N Th;have NB:=CO is st c Th;have D:c.v.small:=hcsm c (by rw[<-hc];exact zz j);have r:∀h:k<(yI cs).length,(yI cs)[k]=c.V:=fun h=>by simp[yI,hc]
   have Tj:=fun Y Z=>mO a c Y Z OZ D
   have hcb:=fun Y Z=>mO b c Y Z hsb D
   have d:=fun Y Z=>EB (WT a c) (WT b c) Y Z
   rw[hisc c]at d;simp only[Cut.V]at Tj hcb r;have m0:¬id=Z:=by omega
   have m1:¬id=Z+1:=by omega
   have m2:¬id=Z+1+1:=by omega
   rw[p]at A;have hki:=fun Y'=>yf hX Y' id (fun n=>AL id _ n rfl)
   have Tk:uL is st c=(is c,if(is c&&!st.1)=true then st.2++[jV c]else if(!is c&&st.1)=true then Qo st.2 c else st.2):=rfl;rw[Tk]at o;rw[Tk]at NB;simp only at NB;obtain⟨op,out⟩:=st;simp only at g N Th NB;cases hb:is c<;>cases op
   ·rw[hb]at d o;simp at o;simp[E,F,G,Te,Tf,Tg,p,j,hh,r,Tj,hcb,d,N,H,m0,o];exact⟨by omega,A.more _,xs,hX.more _,g,fun i n m e _=>AL i _ m (by rw[e]),by omega,hxn⟩
   ·rw[hb]at d o;simp at o;have hne:=Th rfl;obtain⟨m,hm⟩:∃m,out.length=m+1:=⟨out.length-1,by have:=Yl.2 hne;omega⟩;have B:xs.length=m+1:=by have:=zk List.length g;simp[qI]at this;omega
    obtain⟨R,hid2,J,Fc⟩:=hX.at_ (by omega);have I5:¬R=id:=fun e=>AL id _ _ rfl (by rw[J,e])
    have Tl:¬id=R:=fun e=>I5 e.symm
    have p0:¬R=Z:=by omega
    rw[B]at J;have US:m<xs.length:=by omega
    have hlo:m<out.length:=by omega
    have hrm:Qb k6 xs[m]=out[m].V:=by
     have e1:(xs.map (Qb k6))[m]?=(qI out)[m]?:=by rw[g]
     simp only[z8,zm US,qI,zm hlo,zO,qu]at e1;exact e1
    obtain⟨x3,x5,x6,x7,x8,x9,x10,K,NC,Tm⟩:=uN hrm;have wm:=wY (m:Int);have wm1:IntKind.i64.wrap ((m:Int)+1-1)=(m:Int):=by rw[wN (by omega) (by omega)];omega
    simp[E,F,G,Te,Tf,Tg,p,j,hh,r,Tj,hcb,d,N,H,m0,o,J,Fc,p0,wm,wm1,US,K,Tm,wW];refine⟨by omega,.inr ⟨id,by omega,by rw[p],by simp[Tl,m0,hh]⟩,xs.set m [int out[m].lo.v.a,int out[m].lo.v.b,int out[m].lo.v.c,x3,yW out[m].lo.after,int c.v.a,int c.v.b,int c.v.c,.sl 1 (qo c.v.pre),yW c.after,yW false],.inr ⟨R,by omega,by simp[B],by simp⟩,?_,fun i n k' e _ e2=>absurd (e2.trans e.symm) I5,by simp;omega,fun e=>by have:=zk List.length e;rw[List.length_set,B]at this;cases this⟩;rw[List.map_set,g,mN hlo hm c,qI,qI,List.map_set];simp[NC,yt.V,Cut.V]
   ·rw[hb]at d o;simp at o;have q:=qV.jt (P:=prog) (t:=77) (c:=[int c.v.a,int c.v.b,int c.v.c,.sl 1 (qo c.v.pre),yW c.after,int 0,int 0,int 0,.nil,yW false,yW true]) (hX.more (some ⟨114,5,false,[c.V]⟩)) el77 Rb Rc Re rfl (by omega) (by unfold maxLen;omega) (by omega);simp only[Cut.V]at q;simp[E,F,G,Te,Tf,Tg,p,j,hh,r,Tj,hcb,d,N,H,m0,o,q,zU,qn,zu,zP,zr];refine⟨by omega,.inr ⟨id,by omega,by rw[p],by simp[hki,hh,m0,m1,m2]⟩,xs++[[int c.v.a,int c.v.b,int c.v.c,.sl 1 (qo c.v.pre),yW c.after,int 0,int 0,int 0,.nil,yW false,yW true]],by simpa using qV.after,?_,fun i n m e _ e2=>by omega,by simp;omega⟩;rw[JI,g];simp[qI,jV,yt.V,Cut.V,Wc,qo]
   ·rw[hb]at d o;simp at o;simp[E,F,G,Te,Tf,Tg,p,j,hh,r,Tj,hcb,d,N,H,m0,o];exact⟨by omega,A.more _,xs,hX.more _,g,fun i n m e _=>AL i _ m (by rw[e]),Th rfl,by omega,hxn⟩
  ·obtain rfl:k=cs.length:=by omega
   rw[js]at g;rw[<-EE]at g;have B:xs.length=(Q2 f a b).length:=by have:=zk List.length g;simpa[qI]using this
   simp[E,F,G,Te,Tf,Tg,f68];unfold YU;rcases hX with⟨J,rfl⟩|⟨R,hid2,J,Fc⟩
   ·rw[zl (qy.1 B.symm)];exact J
   ·by_cases hz:Q2 f a b=[]
    ·rw[zl hz];rw[hz]at B;exact hxn (qy.1 B)
    ·rw[zg hz];refine⟨R,_,J,Fc,rfl,?_⟩;simp only[dm,g]
theorem dq(l:List yt):(Sh.s 11 k6).fix (.sl 11 (qI l))=.sl 11 (qI l):=by simp only[Sh.EF,qI,List.map_map];congr 1
noncomputable def mQ:zb->Option (Option Blk):=fun args=>
 match qD (α:=List yt×List yt) (fun a=>[.sl 11 (qI a.1),.sl 11 (qI a.2),.fn (.func 69) [] []]) (fun a=>jX a.1/\jX a.2) (fun a=>YU and a.1 a.2) args with
 |some r=>some r
 |none=>qD (α:=List yt×List yt) (fun a=>[.sl 11 (qI a.1),.sl 11 (qI a.2),.fn (.func 70) [] []]) (fun a=>jX a.1/\jX a.2) (fun a=>YU or a.1 a.2) args
theorem sO(g:O):∀a b:List yt×List yt,[O.sl 11 (qI a.1),.sl 11 (qI a.2),g]=[.sl 11 (qI b.1),.sl 11 (qI b.2),g]->a=b:=by rintro⟨f,h⟩ ⟨i,j⟩ e;simp only[zn,z7]at e;obtain⟨c,d⟩:=e;injection c with _ c;injection d with _ d;rw[KA c,KA d]
theorem eJ:zh prog 68 (Jw [.s 11 k6,.s 11 k6] mQ):=
 eH (fn:=f68) Gn (wL func68) _ k6 _ fun args r h=>by
  unfold mQ at h;split at h
  ·rename_i r0 e;injection h with h;subst h
   obtain⟨⟨a,b⟩,rfl,⟨c,d⟩,rfl⟩:=zQ e;exact⟨by simp[f68],Vr and _ (fun x y Y Z=>by simp[mL]) a b c d⟩
  ·obtain⟨⟨a,b⟩,rfl,⟨c,d⟩,rfl⟩:=zQ h;exact⟨by simp[f68],Vr or _ (fun x y Y Z=>by simp[mL]) a b c d⟩
theorem mR(args:zb)(r:Option Blk)(h:Kn 9 1 args=some r):args.length<=f137.ntmps/\∃x Y Z,yd C0 f137 args (fun _=>none) 0=some (x,Y,Z)/\b8 r x Y Z:=by
 unfold Kn at h;split at h
 ·injection h with h;subst h;exact⟨by simp[f137],wX rfl (by simp[Qa,V0,f137,b8])⟩
 ·injection h with h;subst h;exact⟨by simp[f137],wX rfl (by simp[Qa,V0,f137,b8,zu,yM,AM.view,maxLen,zP,zr])⟩
 ·rename_i es;split at h
  ·rename_i d;obtain⟨rfl,a,b⟩:=d;injection h with h;subst h
   cases es with
   |nil=>exact absurd rfl a
   |cons c es=>
    unfold zX at b;simp at b;have e:es.length+1<=maxLen:=by unfold maxLen;omega
    have f:(es.length+1)*16<=140737488355328:=by omega
    refine⟨by simp[f137],wX rfl ?_⟩;simp[Qa,V0,f137,b8,zu,yM,AM.view,zP,zr,e,f]
  ·cases h
 ·cases h
theorem iv:zh prog 137 (jT [] (Kn 9 1)):=
 Wq (fn:=f137) (code:=_) kM ⟨func137,by kernel_rfl,rfl,by kernel_rfl⟩ [] _ mR
def ON(v:jR):O:=.agg v.V
def Um(s:yt):O:=.agg s.V
noncomputable def OO (f:jR->O):zb->Option O:=qD (α:=jR) (fun v=>[.agg v.V]) (fun v=>v.pre.length<=zX) f
theorem mS(f:jR->O)(v:jR)(Y:Hp)(Z:Nat)(h:v.pre.length<=zX):qN [.g ZU] (OO f) [.agg v.V] Y Z=some (f v,Y,Z):=
 kN (show zt Y [.agg v.V]=some ([.agg v.V],Y) by simp[jR.V]) (by
  have c:(Sh.g ZU).fix (.agg v.V)=.agg v.V:=by simp[jR.V]
  show OO f [(Sh.g ZU).fix (.agg v.V)]=_;rw[c];exact qj (V:=fun v:jR=>[O.agg v.V]) (a:=v) (fun a b e=>by simp only[zn,z7]at e;injection e with e;exact Vc e) h) (.inr (by simp[jR.V]))
noncomputable abbrev RS:Ctx:=qp prog [(137,jT [] (Kn 9 1))]
theorem Gp:Gd RS:=qT mixed ⟨iv,trivial⟩
theorem Xs(v:jR)(y:O)(f:rZ 1 (qo v.pre) y)(h:v.pre.length<=zX):∃r0,zM RS f100 [.agg [int v.a,int v.b,int v.c,y]]=some r0/\yc r0 (.agg v.V):=by
 obtain⟨a,b,c,p⟩:=v;refine WC (sh:=.g ZU) rfl ?_;simp only at h f;generalize e:qo p=T at f;have d:T.length<=zX:=by rw[<-e];simpa[qo]using h
 cases f with
 |nil=>simp[jT,yn,Kn,cz,jR.V,e,f100]
 |em=>simp[jT,yn,Kn,cz,jR.V,e,f100]
 |sl=>rename_i i es;simp only[zd]at d;simp[jT,yn,Kn,cz,jR.V,e,d,f100]
theorem Vs:zh prog 100 (qN [.g ZU] (OO ON)):=
 cx (fn:=f100) Gp (wL func100) false [] _ fun args r h w S vs c=>by obtain⟨v,e,d,rfl⟩:=zQ h;have a:=QW (hs:=[.g ZU]) c;rw[e]at a;obtain⟨u,f,i⟩:=Wl a;subst f;obtain⟨y,k,b⟩:=me i (j:=3) (s:=1) (es:=qo v.pre) (by simp[jR.V]);obtain⟨r0,l,m⟩:=Xs v y k d;exact⟨_,r0,.cons b .nil,by simp[f100],by simpa[jR.V]using l,m⟩
noncomputable def RT (f:yt->O):zb->Option O:=qD (α:=yt) (fun s=>[.agg s.V]) yt.small f
theorem CR(f:yt->O)(s:yt)(u:O)(Y:Hp)(Z:Nat)(h:s.small)(c:(Sh.g k6).fix u=.agg s.V)(d:zS Y u=some (u,Y))(i:u.noOwn=true):qN [.g k6] (RT f) [u] Y Z=some (f s,Y,Z):=
 kN (show zt Y [u]=some ([u],Y) by simp only[zt,d]) (by show RT f [(Sh.g k6).fix u]=_;rw[c];exact qj (V:=fun v:yt=>[O.agg v.V]) (a:=s) (fun a b e=>by simp only[zn,z7]at e;injection e with e;exact dk e) h) (.inr (by rw[wC,i];rfl))
noncomputable abbrev RU:Ctx:=qp prog [(100,qN [.g ZU] (OO ON))]
theorem Gq:AM.Good RU (fun g=>[100].contains g):=qH mixed ⟨Vs,fun _=>xd _ _,trivial⟩
theorem Xt(s:yt)(hs:s.small):zM RU f71 [.agg s.V]=some (.agg s.V):=by
 refine zw rfl ?_;have d:∀Y Z,qN [.g ZU] (OO ON) [.agg [int s.lo.v.a,int s.lo.v.b,int s.lo.v.c,.sl 1 (qo s.lo.v.pre)]] Y Z=some (.agg [int s.lo.v.a,int s.lo.v.b,int s.lo.v.c,.sl 1 (qo s.lo.v.pre)],Y,Z):=fun Y Z=>mS ON s.lo.v Y Z hs.1.1
 have e:∀Y Z,qN [.g ZU] (OO ON) [.agg [int s.hi.v.a,int s.hi.v.b,int s.hi.v.c,.sl 1 (qo s.hi.v.pre)]] Y Z=some (.agg [int s.hi.v.a,int s.hi.v.b,int s.hi.v.c,.sl 1 (qo s.hi.v.pre)],Y,Z):=fun Y Z=>mS ON s.hi.v Y Z hs.2.1
 simp[yt.V,Cut.V,d,e,ja,f71,wW]
theorem Vt:zh prog 71 (qN [.g k6] (RT Um)):=
 yC (fn:=f71) Gq (wL func71) _ _ fun args r h=>by obtain⟨s,rfl,a,rfl⟩:=zQ h;exact⟨by simp[f71],_,Xt s a,yc.refl _⟩
theorem pT{l:za}{n:Int}(h:WL l=some n):0<=n/\n<=999999:=by
 unfold WL at h;split at h
 ·rename_i a;injection h with h
  obtain⟨b,c⟩:=mu a.1;obtain⟨m,d,e⟩:=WK l 0 c;have f:Lib.decNat l=some m:=by unfold Lib.decNat;rw[zg (by simpa using b)];exact d
  have g:m<10 ^ 6:=q8 (by simpa using e) (SB (by omega) a.2);have i:n=(m:Int):=by rw[<-h];unfold hK;rw[f];rfl
  omega
 ·cases h
theorem uR{v:jR}(h:WM v=0):(0<=v.a/\v.a<=999999)/\(0<=v.b/\v.b<=999999)/\(0<=v.c/\v.c<=999999)/\v.pre.length<=10/\∀p∈v.pre,vP p=false:=by
 unfold WM at h;split at h
 ·rename_i d;simp only[ZO,zs,qE]at d;split at h
  ·cases h
  ·rename_i g;split at h
   ·cases h
   ·rename_i e;refine⟨d.1,d.2.1,d.2.2,by omega,fun p Y=>?_⟩;cases f:vP p with
    |false=>rfl
    |true=>exact absurd (List.any_eq_true.2 ⟨p,Y,f⟩) e
 ·cases h
theorem Gr{t:za}{v:jR}(h:sF t=some v):WM v=0:=by
 unfold sF at h;split at h
 ·split at h
  ·split at h
   ·rename_i a;injection h with h
    rw[<-h];exact a
   ·cases h
  ·cases h
 ·cases h
theorem pU{p:za}(h:vP p=false):p.length<=20:=by simp only[vP,Q8,Ew]at h;omega
theorem sP:∀(l:List za) (p q:Part) (i:Nat),kR p i l=some q->(0<=p.n0/\p.n0<=999999)/\(0<=p.n1/\p.n1<=999999)/\(0<=p.n2/\p.n2<=999999)/\0<=p.has/\p.has<=i/\(1<=i->1<=p.has)/\p.pre=[] ->
  (0<=q.n0/\q.n0<=999999)/\(0<=q.n1/\q.n1<=999999)/\(0<=q.n2/\q.n2<=999999)/\0<=q.has/\q.has<=i+l.length/\(1<=i+l.length->1<=q.has)/\q.pre=[]
 |[],p,q,i,h,Y=>by
  simp only[kR]at h;injection h with h
  subst h;simpa using Y
 |t::l,p,q,i,h,Y=>by
  simp only[kR]at h;split at h
  ·rename_i r hs;obtain⟨a,b,c,d,e,f,g⟩:=Y;have m:(0<=r.n0/\r.n0<=999999)/\(0<=r.n1/\r.n1<=999999)/\(0<=r.n2/\r.n2<=999999)/\0<=r.has/\r.has<=(i+1:Nat)/\(1<=i+1->1<=r.has)/\r.pre=[]:=by
    unfold yS at hs;split at hs
    ·rename_i j;injection hs with hs
     obtain⟨n,k⟩:=Option.isSome_iff_exists.1 j.1;have o:=pT k;rw[k]at hs;simp only[aV]at hs;subst hs;have s:=j.2;unfold Part.put;split<;>simp only<;>refine⟨?_,?_,?_,?_,?_,?_,g⟩<;>first|assumption|omega
    ·split at hs
     ·rename_i u;injection hs with hs
      subst hs;exact⟨a,b,c,d,by omega,fun _=>f (by omega),g⟩
     ·cases hs
   have:=sP l r q (i+1) h m;rw[zd];refine⟨this.1,this.2.1,this.2.2.1,this.2.2.2.1,?_,?_,this.2.2.2.2.2.2⟩
   ·have:=this.2.2.2.2.1;omega
   ·intro _;exact this.2.2.2.2.2.1 (by omega)
  ·cases h
def Qp(l:List za):Prop:=l.length<=10/\∀p∈l,vP p=false
theorem QI{l:List za}(h:Qp l):vm l:=⟨by have:=h.1;unfold zX;omega,fun p Y=>by have:=pU (h.2 p Y);unfold zX;omega⟩
theorem uS(s sep:za):qw s sep≠[]:=by
 unfold qw Lib.split;intro h;cases a:Lib.count s sep with
 |zero=>rw[a]at h;cases h
 |succ n=>rw[a]at h;simp only[Lib.splitK]at h;split at h<;>cases h
theorem Jy{t:za}(h:(zK t).2=true):(zK t).1.ok/\Qp (zK t).1.pre:=by
 unfold zK at h⊢;split at h
 ·rename_i a;rw[zl a];split at h
  ·rename_i v i;obtain⟨b,c,d,e,f⟩:=uR (Gr i);exact⟨⟨b,c,d,⟨by simp,by simp⟩,QI ⟨e,f⟩⟩,e,f⟩
  ·cases h
 ·rename_i a;rw[zg a];split at h
  ·cases h
  ·rename_i j;rw[zg j];split at h
   ·rename_i p Y;have:=sP _ vi p 0 Y (by simp[vi]);obtain⟨b,c,d,e,f,k,l⟩:=this;have m:=Yl.2 (uS t [46]);have g:Qp p.pre:=by rw[l];exact⟨by simp,by simp⟩
    exact⟨⟨b,c,d,⟨k (by omega),by show p.has<=3;omega⟩,QI g⟩,g⟩
   ·cases h
def vp.xt(c:vp):Prop:=c.sign.length<=3/\(c.sign=jr\/((c.p.ok/\Qp c.p.pre)/\(c.sign=[45]->c.tu.ok/\Qp c.tu.pre)))
theorem vp.xt.ok{c:vp}(h:c.xt):c.ok:=⟨by have:=h.1;unfold zX;omega,h.2.imp id fun⟨a,b⟩=>⟨a.1,fun e=>(b e).1⟩⟩
theorem mT:∀(a:List za) (s:za),(wQ a s).1=[]\/(wQ a s).1∈a
 |[],s=>.inl rfl
 |g::l,s=>by
  simp only[wQ];split
  ·exact .inr (by simp)
  ·exact(mT l s).imp id fun h=>by simp[h]
theorem CS{s:za}(h:s=[]\/s∈wM):s.length<=3/\s≠[45]:=by
 rcases h with rfl|h
 ·simp
 ·simp only[wM,zJ,yO,or_false]at h;rcases h with rfl|rfl|rfl|rfl|rfl|rfl|rfl<;>simp
theorem uT{w:za}{l l':List za}{c:vp}(h:jW w l=some (c,l')):c.xt/\l'.length<=l.length:=by
 refine⟨?_,CD h⟩;have a:=CS (mT wM w);unfold jW at h;split at h
 ·injection h with h;injection h with h _;subst h;exact⟨by simp[mC,jr],.inl rfl⟩
 ·split at h
  ·split at h
   ·split at h
    ·rename_i b;injection h with h;injection h with h _;subst h
     exact⟨a.1,.inr ⟨Jy b,fun e=>absurd e a.2⟩⟩
    ·cases h
   ·cases h
  ·split at h
   ·rename_i b;injection h with h;injection h with h _;subst h
    exact⟨a.1,.inr ⟨Jy b,fun e=>absurd e a.2⟩⟩
   ·cases h
theorem fD:∀(n:Nat) (a:List za) (l:List vp),wO n a=some l->(∀c∈l,c.xt)/\l.length<=a.length
 | 0,a,l,h=>by
  simp only[wO]at h;injection h with h;subst h
  exact⟨by simp,by simp⟩
 |n+1,[],l,h=>by
  simp only[wO]at h;injection h with h;subst h
  exact⟨by simp,by simp⟩
 |n+1,w::a,l,h=>by
  simp only[wO]at h;split at h
  ·rename_i c l' hs;obtain⟨e,g⟩:=uT hs;cases b:wO n l' with
   |none=>rw[b]at h;cases h
   |some r=>
    rw[b]at h;simp only[zO,qu]at h;subst h;obtain⟨f,i⟩:=fD n l' r b;refine⟨fun x d=>?_,by simp;omega⟩;rcases zJ.1 d with rfl|d
    ·exact e
    ·exact f x d
  ·cases h
theorem uU{t:za}(h:(Vn t).2=true):(∀c∈(Vn t).1,c.xt)/\(Vn t).1.length<=t.length+1:=by
 have n:(qY (qw t [32])).length<=t.length+1:=qm (List.length_filter_le _ _) (ZW (by simp));have f:∀d:List za,d=qY (qw t [32])->((match wO d.length d with
   |some l=>(l,!l.isEmpty)
   |none=>([],false)):List vp×Bool).2=true->(∀c∈((match wO d.length d with
   |some l=>(l,!l.isEmpty)
   |none=>([],false)):List vp×Bool).1,c.xt)/\((match wO d.length d with
   |some l=>(l,!l.isEmpty)
   |none=>([],false)):List vp×Bool).1.length<=t.length+1:=by
  intro d e i;cases j:wO d.length d with
  |none=>rw[j]at i;cases i
  |some l=>obtain⟨o,k⟩:=fD _ _ _ j;exact⟨o,by rw[e]at k;exact qm k n⟩
 unfold Vn at h⊢;split at h
 ·rename_i a b c e;split at h
  ·rename_i g;simp only[zs]at h;rw[zl g];refine⟨fun x m=>?_,by simp⟩;simp only[yk]at m;subst m;exact⟨by simp,.inr ⟨Jy h.1,fun _=>Jy h.2⟩⟩
  ·rename_i g;rw[zg g];have:=f [a,b,c] (by rw[e]) h;exact this
 ·exact f _ rfl h
def Cut.xt(c:Cut):Prop:=Qp c.v.pre
theorem Cut.xt.small{c:Cut}(h:c.xt):c.v.small:=QI h
theorem fE:Wc.xt:=⟨by simp[Wc],by simp[Wc]⟩
theorem Za:yE.xt:=⟨by simp[yE],by simp[yE,vP,eA,aB,xI,jI,uv,pr]⟩
theorem YV(p:Part)(i:Nat):(kB p i).xt:=by
 have h:(kB p i).v.pre=[[48]]:=by unfold kB;split<;>rfl
 have:=Za;unfold Cut.xt at this⊢;rw[h];exact this
theorem CT{p:Part}(h:Qp p.pre):(JM p).xt:=h
theorem fF{p:Part}(h:Qp p.pre):(Qn p).xt:=by
 unfold Qn;split
 ·exact YV _ _
 ·exact h
theorem Q3{a b:Cut}(c:a.xt)(d:b.xt):(AU a b).length<=1/\∀s∈AU a b,s.lo.xt/\s.hi.xt:=by
 unfold AU;split
 ·exact⟨by simp,by simp⟩
 ·refine⟨by simp,fun s hs=>?_⟩;simp only[yk]at hs;subst hs;exact⟨c,d⟩
theorem Jz{a:Cut}(b:a.xt):([jV a]:List yt).length<=1/\∀s∈[jV a],s.lo.xt/\s.hi.xt:=by refine⟨by simp,fun s hs=>?_⟩;simp only[yk]at hs;subst hs;exact⟨b,fE⟩
theorem uW{c:vp}(b:c.xt):(ZA c).1.length<=1/\∀s∈(ZA c).1,s.lo.xt/\s.hi.xt:=by
 obtain⟨_,b⟩:=b;unfold ZA;by_cases d:c.sign=jr
 ·rw[zl d];exact Jz Za
 rw[zg d];obtain⟨⟨_,Y⟩,g⟩:=b.resolve_left d;have a:=CT Y;have f:=fF Y;split
 ·exact Jz a
 split
 ·exact Q3 Za a
 split
 ·exact Jz f
 split
 ·exact Q3 Za f
 split
 ·rename_i e;exact Q3 a (fF (g e).2)
 split
 ·exact Q3 a (YV _ _)
 split
 ·exact Q3 a (YV _ _)
 ·exact Q3 a f
def af(l:List yt):Prop:=∀s∈l,s.lo.xt/\s.hi.xt
theorem af.small{l:List yt}(h:af l)(a:l.length<=zX):jX l:=⟨a,fun s hs=>⟨(h s hs).1.small,(h s hs).2.small⟩⟩
theorem dt(f:Bool->Bool->Bool){a b:List yt}(c:af a)(d:af b):af (Q2 f a b):=uM fE f c d
def uX:List za->Option (List (List vp))
 |[]=>some []
 |s::l=>if(Vn s).2=true then(uX l).map ((Vn s).1::·)else none
noncomputable def fG:List vp->List yt->Option (List yt)
 |[],m=>some m
 |c::l,m=>if(ZA c).2=true then fG l (Q2 and m (ZA c).1)else none
noncomputable def du:List (List vp)->List yt->Option (List yt)
 |[],o=>some o
 |l::a,o=>match fG l [jV yE]with
  |some m=>du a (Q2 or o m)
  |none=>none
noncomputable def Qq (t:za):List yt×Int:=if(400:Int)<t.length then([],2)else match uX (qw t [124,124])with
 |none=>([],10)
 |some a=>match du a []with
  |none=>([],1)
  |some o=>if(100:Int)<o.length then([],2)else(o,0)
theorem mU:∀(l:List za) (d:List (List vp)) (n:Nat),(∀s∈l,s.length<=n)->uX l=some d->(∀a∈d,(∀c∈a,c.xt)/\a.length<=n+1)/\d.length=l.length
 |[],d,n,_,h=>by
  simp only[uX]at h;injection h with h;subst h
  exact⟨by simp,rfl⟩
 |s::l,d,n,e,h=>by
  simp only[uX]at h;split at h
  ·rename_i hs;cases b:uX l with
   |none=>rw[b]at h;cases h
   |some r=>
    rw[b]at h;simp only[zO,qu]at h;subst h;obtain⟨f,g⟩:=mU l r n (fun x i=>e x (by simp[i])) b;obtain⟨j,k⟩:=uU hs;have:=e s (by simp);refine⟨fun a b=>?_,by simp[g]⟩;rcases zJ.1 b with rfl|b
    ·exact⟨j,by omega⟩
    ·exact f a b
  ·cases h
attribute [local go_sem] Oper.semAt_some
theorem pV{P:Program}{g:FuncId}{F:zb->Option O}{us:List Value}{v:Value}(h:yU True P g (zp false [] F))(d:zp false [] F (us.map O.v) (fun _=>none) 0=some (.v v,fun _=>none,0))(f:∀u∈us,lit u=true){W:World}(l:tm P W fun b=>b<W.heap.size) :
  Calls P g us.toArray W fun e i=>e=.returned v/\Fr True W (fun _=>False) i:=by
 have m:Zip (zR W (fun b=>b<W.heap.size) (fun _=>⟨0,0,0⟩) 0) (us.map O.v) us:=by
  induction us with
  |nil=>exact .nil
  |cons u us j=>exact .cons (.c (.v (f u (by simp)))) (by
    clear d;have:∀us:List Value,(∀u∈us,lit u=true)->Zip (zR W (fun b=>b<W.heap.size) (fun _=>⟨0,0,0⟩) 0) (us.map O.v) us:=by
     intro us
     induction us with
     |nil=>intro _;exact .nil
     |cons u us j=>intro h;exact .cons (.c (.v (h u (by simp)))) (j fun x a=>h x (by simp[a]))
    exact this us fun x a=>f x (by simp[a]))
 refine(h.2 _ _ _ _ _ _ d W (fun b=>b<W.heap.size) (fun _=>⟨0,0,0⟩) us (Jm _ (fun b n=>n) l) m).mono fun e i o=>?_
 obtain⟨x,S',G',rfl,st,a⟩:=o;obtain⟨rfl,_⟩:=a.wj;exact⟨rfl,⟨st.fr.os,st.fr.tape,st.fr.output,st.fr.size,st.fr.drawn,fun k p _=>st.fr.block k p fun⟨_,_,h,_⟩=>by cases h⟩⟩
theorem bg{W b:World}{L:Nat->Prop}(h:Fr True W L b){a:Addr}{v:Value}(c:W.cell? a=some v)(d:¬L a.block):b.cell? a=some v:=by rw[<-c];exact Jc (h.block _ (sc c) d)
def JN(l:List za):List Value:=l.map fun p=>.string ⟨p.toArray⟩
def CU(w:World)(b:Nat):Nat:=match w.cell? ⟨b,0,none⟩with
 |some (.string s)=>s.size
 |_=>0
def jL(w:World)(b:Nat)(v:Value):Prop:=∃cs ty,w.heap[b]?=some (.cells cs ty (0,0))/\cs[0]?=some v
theorem jL.cell{w:World}{b:Nat}{v:Value}(h:jL w b v):w.cell? ⟨b,0,none⟩=some v:=by obtain⟨cs,ty,a,c⟩:=h;simp[World.cell?,a,c]
theorem jL.free{w:World}{b:Nat}{v:Value}(h:jL w b v):w.frozen? ⟨b,0,none⟩=false:=by obtain⟨cs,ty,a,c⟩:=h;simp[World.frozen?,a]
theorem jL.same{w a:World}{b:Nat}{v:Value}(h:jL w b v)(e:a.heap[b]?=w.heap[b]?):jL a b v:=by obtain⟨cs,ty,c,d⟩:=h;exact⟨cs,ty,e.trans c,d⟩
theorem jL.lt{w:World}{b:Nat}{v:Value}(h:jL w b v):b<w.heap.size:=by obtain⟨cs,ty,a,c⟩:=h;exact(qd.1 a).1
theorem jL.set{w:World}{b:Nat}{v:Value}(u:Value)(h:jL w b v):jL (w.setCell ⟨b,0,none⟩ u) b u:=by obtain⟨cs,ty,a,c⟩:=h;have d:=(qd.1 c).1;refine⟨cs.setIfInBounds 0 u,ty,?_,by simp[d]⟩;simp[World.setCell,vH,a]
theorem jL.EN{w:World}{b:Nat}(u:Value)(B:Nat->Prop)(a:B b):Fr True w B (w.setCell ⟨b,0,none⟩ u):=
 ⟨rfl,rfl,rfl,by simp[World.setCell],fun _=>zi _,fun k _ c=>by
  have:¬b=k:=fun e=>c (e ▸ a)
  simp[World.setCell,vH,this]⟩
theorem jL.str{w:World}{b:Nat}{s:ByteArray}(h:jL w b (.string s)):CU w b=s.size:=by unfold CU;rw[h.cell]
theorem iw(n l B1 B2 B3:Nat)(sep t:za)(hs1:1<=sep.length)(hs2:sep.length<=zX)(ht:t.length<=zX)(h12:B1≠B2)(h23:B3≠B2)(J Jx:List Value->World->Prop)
  (hJ:∀pre W W',J pre W->Fr True W (fun b=>b=B1\/b=B2\/b=B3) W'->J pre W') (hGl:∀pre W,J pre W->tm prog W fun b=>b<W.heap.size)
  (hY:∀pre x W,J pre W->(JN (qw t sep))[pre.length]?=some x->YieldAt Fence.wide n prog l #[x] W fun e W'=>(e=.returned (.bool true)/\J (pre++[x]) W'/\(∀b,(b=B1\/b=B2\/b=B3)->W'.heap[b]?=W.heap[b]?)/\W.heap.size<=W'.heap.size)\/(e=.returned (.bool false)/\Jx (pre++[x]) W'))
  (W:World) (h0:J [] W) (h1:W.cell? ⟨B1,0,none⟩=some (.string ⟨sep.toArray⟩)) (h2:jL W B2 (.string ⟨t.toArray⟩)) (h3:W.cell? ⟨B3,0,none⟩=some (.int .i64 0)) :
  CallsIn Fence.wide (n+1) prog 123 #[.func (.yield l) #[] #[],.pointer (some ⟨B1,0,none⟩),.pointer (some ⟨B2,0,none⟩),.pointer (some ⟨B3,0,none⟩)] W fun e W'=>(∃v,e=.returned v)/\(J (JN (qw t sep)) W'\/∃pre,Jx pre W'):=by
 refine callsIn_of_wp func123 rfl trivial ?_ rfl;simp only[Tryz.ntmps123,List.size_toArray,zd,zf,Nat.reduceAdd,Nat.reduceSub,Array.replicate_succ,Array.replicate_zero,List.push_toArray,List.append_toArray,jh,qg];have h2c:=h2.cell;have hse:((sep.length:Int)==0)=false:=wv.2 (by omega)
 gi_wp2
 try simp only[hse]
 have hx:∀cur:za,cur.length<=zX->∀wr:World,tm prog wr (fun b=>b<wr.heap.size)->Calls prog 125 #[.string ⟨cur.toArray⟩,.string ⟨sep.toArray⟩] wr fun e w'=>e=.returned (.int .i64 (Lib.index cur sep))/\Fr True wr (fun _=>False) w':=fun cur hc wr hg=>by exact pV (us:=[.string ⟨cur.toArray⟩,.string ⟨sep.toArray⟩]) K6 (QX cur sep _ _ hc hs2) (by simp[lit]) hg
 gi_loopw [] (fun wr=>∃(done:List za) (cur:za),qw t sep=done++qw cur sep/\cur.length<=t.length/\J (JN done) wr/\wr.cell? ⟨B1,0,none⟩=some (.string ⟨sep.toArray⟩)/\jL wr B2 (.string ⟨cur.toArray⟩)/\wr.cell? ⟨B3,0,none⟩=some (.int .i64 0))
  (fun wr=>CU wr B2)
 case atStart=>exact⟨[],t,rfl,zi _,h0,h1,h2,h3⟩
 case round=>
  obtain⟨done,cur,hsp,hcl,hJs,c1,k2,c3⟩:=hrel;have c2:=k2.cell;have hg:=hGl _ _ hJs
  gi_wp2
  refine⟨trivial,ec.2 ((hx cur (qm hcl ht) wr hg).mono ?_)⟩;rintro e w1 ⟨rfl,fr⟩;dsimp only;have d1:=bg fr c1 (fun h=>h);have m2:=k2.same (fr.block _ k2.lt fun h=>h);have d2:=m2.cell;have d3:=bg fr c3 (fun h=>h);have hJ1:=hJ _ _ _ hJs ⟨fr.os,fr.tape,fr.output,fr.size,fr.drawn,fun k hk _=>fr.block k hk fun h=>h⟩;have hel:(JN done).length=done.length:=by simp[JN]
  by_cases hneg:Lib.index cur sep<0
  ·have hsk:qw cur sep=[cur]:=by
    have hm:Lib.index cur sep=-1:=by
     rcases Lib.index_spec cur sep with⟨h,_⟩|⟨i,h,_⟩
     ·exact h
     ·omega
    unfold qw Lib.split;rw[Lib.count_miss hm];rfl
   have hu:(JN (qw t sep))[(JN done).length]?=some (.string ⟨cur.toArray⟩):=by rw[hsp,hsk,hel];simp[JN]
   obtain⟨fn,tmps,assign,body,hy,hR⟩:=hY _ _ w1 hJ1 hu
   gi_wp2
   refine hR.mono ?_;rintro e W3 (⟨rfl,hJ3,hk3,hz3⟩|⟨rfl,hJx3⟩)
   ·gi_wp2
    go_end0
    refine⟨⟨_,rfl⟩,.inl ?_⟩;rw[hsp,hsk];simpa[JN]using hJ3
   ·gi_wp2
    go_end0
    exact⟨⟨_,rfl⟩,.inr ⟨_,hJx3⟩⟩
  ·obtain⟨i,hi⟩:∃i:Nat,Lib.index cur sep=i:=⟨(Lib.index cur sep).toNat,by omega⟩;have hne:sep≠[]:=by rintro rfl;simp at hs1
   have hsk:qw cur sep=cur.take i::qw (cur.drop (i+sep.length)) sep:=by unfold qw Lib.split;rw[Lib.count_hit hne hi,iW 1,cQ hi]
   have htk:(cur.drop (i+sep.length)).take (cur.length-(i+sep.length))=cur.drop (i+sep.length):=qv (by simp);have hroom:=Lib.index_room cur sep (by omega);rw[hi]at hroom;unfold zX at ht hs2;have hwi:wrap64 (i:Int)=(i:Int):=by unfold wrap64;omega
   have hu:(JN (qw t sep))[(JN done).length]?=some (.string ⟨(cur.take i).toArray⟩):=by rw[hsp,hsk,hel];simp[JN]
   obtain⟨fn,tmps,assign,body,hy,hR⟩:=hY _ _ w1 hJ1 hu;rw[hi]
   gi_wp2
   refine hR.mono ?_;rintro e W3 (⟨rfl,hJ3,hk3,hz3⟩|⟨rfl,hJx3⟩)
   ·have e1:W3.cell? ⟨B1,0,none⟩=some (.string ⟨sep.toArray⟩):=by rw[<-d1];exact Jc (hk3 B1 (.inl rfl))
    have o2:=m2.same (hk3 B2 (.inr (.inl rfl)));have e2:=o2.cell;have e4:=o2.free;have e3:W3.cell? ⟨B3,0,none⟩=some (.int .i64 0):=by rw[<-d3];exact Jc (hk3 B3 (.inr (.inr rfl)))
    gi_wp2
    go_roundw
    case rel=>
     refine⟨done++[cur.take i],cur.drop (i+sep.length),by rw[hsp,hsk];simp,by simp;omega,?_,?_,?_,?_⟩
     ·have:=hJ _ _ _ hJ3 (jL.EN (w:=W3) (b:=B2) (.string ⟨(cur.drop (i+sep.length)).toArray⟩) (fun b=>b=B1\/b=B2\/b=B3) (.inr (.inl rfl)));simpa[JN]using this
     ·exact bg (jL.EN (w:=W3) (b:=B2) _ (fun b=>b=B2) rfl) e1 h12
     ·exact o2.set (.string ⟨(cur.drop (i+sep.length)).toArray⟩)
     ·exact bg (jL.EN (w:=W3) (b:=B2) _ (fun b=>b=B2) rfl) e3 h23
    case measure=>have:=o2.set (.string ⟨(cur.drop (i+sep.length)).toArray⟩);rw[this.str,k2.str];simp;omega
   ·gi_wp2
    refine bodyPost_ret (results_none rfl _ _ _) rfl ?_;exact⟨⟨_,rfl⟩,.inr ⟨_,hJx3⟩⟩
def Vu:vV:=fun cap Y=>match cap with
 |[.ref b 0 0,.ref a 0 0,.ref c 0 0]=>match Y b,Y a,Y c with
  |some ⟨_,1,false,[[.v (.string sep)]]⟩,some ⟨_,1,false,[[.v (.string t)]]⟩,some ⟨_,1,false,[[.v (.int .i64 0)]]⟩=>
   if b≠a/\c≠a/\1<=sep.data.toList.length/\sep.data.toList.length<=zX/\t.data.toList.length<=zX then some ((qw t.data.toList sep.data.toList).map str,qb (qb (qb Y b none) a none) c none)else none
  |_,_,_=>none
 |_=>none
theorem Xu{P:Program}{w:World}{S:Nat->Prop}{G:Nat->GI}{Y:Hp}{Z id e:Nat}{u:Value}(c:Inv P w S G Y Z)(d:Y id=some ⟨e,1,false,[[.v u]]⟩):jL w (G id).g u:=by have b:=c.live id _ d;have hs:(G id).s=1:=b.bs.symm;obtain⟨a,f,k,h⟩:=b.row (by omega);obtain⟨x,i,j⟩:=h 0 0 [.v u] (.v u) rfl rfl;obtain⟨rfl,_⟩:=j.2.1.wj;exact⟨a,e,f,by simpa[hs]using i⟩
theorem pW:lS True prog 123 Vu:=by
 refine⟨⟨_,func123,by kernel_rfl,by kernel_rfl⟩,fun cap Y Z xs Y1 h=>?_⟩;unfold Vu at h;split at h
 case h_2=>cases h
 rename_i d c i3;split at h
 case h_2=>cases h
 rename_i e1 sep e2 t e3 s r u;split at h
 case isFalse=>cases h
 rename_i F;obtain⟨v,x,y,z,H⟩:=F;injection h with h
 injection h with I a;subst I;subst a;have f:∀id b,qb (qb (qb Y d none) c none) i3 none id=some b->Y id=some b/\id≠d/\id≠c/\id≠i3:=fun id b a=>by
  by_cases o:id=i3
  ·subst o;rw[q9]at a;cases a
  rw[zc _ _ _ _ o]at a;by_cases p:id=c
  ·subst p;rw[q9]at a;cases a
  rw[zc _ _ _ _ p]at a;by_cases q:id=d
  ·subst q;rw[q9]at a;cases a
  rw[zc _ _ _ _ q]at a;exact⟨a,q,p,o⟩
 refine⟨JN (qw t.data.toList sep.data.toList),by simp[JN],by simp[JN,lit],fun id b a=>(f id b a).1,fun w S G vs j k=>?_⟩;obtain⟨v1,r1,rfl,K,k⟩:=k.y8;obtain⟨v2,r2,rfl,L,k⟩:=k.y8;obtain⟨v3,r3,rfl,M,k⟩:=k.y8;obtain rfl:=k.Wb;have N:=Xu j s;have P:=Xu j r;have Q:=Xu j u;obtain⟨_,rfl⟩:=K.jQ;obtain⟨_,rfl⟩:=L.jQ;obtain⟨_,rfl⟩:=M.jQ;have A:(G d).g≠(G c).g:=fun e=>v (j.inj _ _ _ _ s r e)
 have B:(G i3).g≠(G c).g:=fun e=>x (j.inj _ _ _ _ u r e)
 refine⟨fun b=>b=(G d).g\/b=(G c).g\/b=(G i3).g,?_,?_⟩
 ·have m:∀i blk,Y i=some blk->(i=d\/i=c\/i=i3)->yu Y G (G i).g/\Ym S G (qb (qb (qb Y d none) c none) i3 none) (G i).g:=fun i blk a C=>
   ⟨⟨i,blk,a,rfl⟩,j.apart i blk a,fun id R hid e=>by
     obtain⟨T,q,p,o⟩:=f id R hid;have:=j.inj _ _ _ _ T a e;subst this;rcases C with h|h|h
     ·exact q h
     ·exact p h
     ·exact o h⟩
  rintro b (rfl|rfl|rfl)
  ·exact m d _ s (.inl rfl)
  ·exact m c _ r (.inr (.inl rfl))
  ·exact m i3 _ u (.inr (.inr rfl))
 ·intro n l J U hJ hJx D hY W h0 E _;have:=iw n l (G d).g (G c).g (G i3).g sep.data.toList t.data.toList y z H A B J U hJ D hY W h0 (N.same (E _ (.inl rfl))).cell (P.same (E _ (.inr (.inl rfl)))) (Q.same (E _ (.inr (.inr rfl)))).cell;simpa using this
end Go.Q
namespace Go.AM
def KC(P:Program)(l:Qh)(g:FuncId)(it:vV):Ctx:=⟨P,lookup l,fun _=>[],fun _=>[],fun _=>false,fun _=>[],fun k=>if k=g then some it else none⟩
@[simp]theorem RV(P:Program)(l:Qh)(g:FuncId)(it:vV):(KC P l g it).P=P:=rfl
@[simp]theorem RW(P:Program)(l:Qh)(k:FuncId)(it:vV)(Y:Hp)(Z g:Nat)(x y xs:zb):yF (KC P l k it) Y Z (some (.fn (.func g) x y)) xs=(lookup l g).bind fun s=>s (x++xs++y) Y Z:=by unfold yF KC;simp only;cases lookup l g<;>rfl
@[simp]theorem CV(P:Program)(l:Qh)(k:FuncId)(it:vV)(i:Nat)(a:Array Oper)(d:Bool)(st:St)(K:Exit->St->Prop):vB (KC P l k it) (.region i a d) st K=bV (KC P l k it) a a.toList st (Zo K):=xE _ i a d st K rfl rfl
theorem CW{P:Program}{l:Qh}{q:List Nat}{k:FuncId}{it:vV}(b:P.follows .mixedOrders=true)(h:lV True P q l)(c:tW P k it):AM.Good (KC P l k it) (fun g=>q.contains g):=
 let g:=qH b h
 ⟨g.spec,g.quiet,g.mixed,(fun _ _ h=>by cases h),(fun j a h=>by
  have:(if j=k then some it else none)=some a:=h;split at this
  ·rename_i e;injection this with this
   subst this;subst e;exact c
  ·cases this)⟩
@[simp]theorem zau(C:Ctx)(b:Code)(K:Exit->St->Prop)(st:St):Ph C b K .normal st=vB C b st K:=rfl
@[simp]theorem zav(I:Nat->Hp->Nat->Prop)(k:Nat)(X:Nat->O)(K:Exit->St->Prop)(st:St):Lg I k X K .normal st=I (k+1) st.Y st.Z:=rfl
@[simp]theorem zaw(I:Nat->Hp->Nat->Prop)(k:Nat)(X:Nat->O)(K:Exit->St->Prop)(st:St):Lg I k X K .ret st=K .ret ⟨X,st.Y,st.Z⟩:=rfl
theorem wc{Y:Hp}{Z e s:Nat}{v:O}{xs:List zb}(h:qV Y Z e s v xs){j:Nat}{b:Blk}(a:Y j=some b)(c:b.arr=false):∀n,v≠.own j 0 n:=by
 rcases h with⟨rfl,_⟩|⟨id,f,rfl,d⟩
 ·intro n e;cases e
 ·intro n e;injection e with e
  subst e;rw[d]at a;injection a with a
  subst a;cases c
end Go.AM
namespace Go.Q
noncomputable def CX (t:za):O:=.qS [.sl 11 (qI (Qq t).1),int (Qq t).2]
theorem dv:zh prog 85 (kE C0 f85):=KZ kM func85
noncomputable abbrev Un:Ctx:=qp prog [(85,kE C0 f85)]
theorem Mt:Gd Un:=qT mixed ⟨dv,trivial⟩
theorem pX:zh prog 64 (kE Un f64):=KZ Mt func64
def Gt(t sep:za)(Y:Hp)(Z:Nat):Hp:=qb (qb (qb Y Z (some ⟨9,1,false,[[str t]]⟩)) (Z+1) (some ⟨9,1,false,[[str sep]]⟩)) (Z+1+1) (some ⟨3,1,false,[[int 0]]⟩)
theorem iy(t sep:za)(Y:Hp)(Z:Nat):kE C0 f85 [str t,str sep,int 0] Y Z=some (.fn (.func 123) [] [.ref (Z+1) 0 0,.ref Z 0 0,.ref (Z+1+1) 0 0],Gt t sep Y Z,Z+1+1+1):=by unfold kE;rw[zl (by simp[f85])];refine Qj rfl ?_;simp[Gt,f85]
theorem CY(t sep:za)(Y:Hp)(Z:Nat):kE Un f64 [str t,str sep] Y Z=some (.fn (.func 123) [] [.ref (Z+1) 0 0,.ref Z 0 0,.ref (Z+1+1) 0 0],Gt t sep Y Z,Z+1+1+1):=by
 have a:=fun Y Z=>iy t sep Y Z
 unfold kE;rw[zl (by simp[f64])];refine Qj rfl ?_;simp[a,f64]
def QN(Y:Hp)(Z:Nat)(v:O)(m:List yt):Prop:=v=.sl 11 (qI m)\/(v=.nil/\m=[])\/∃id,id<Z/\v=.own id 0 (qI m).length/\Y id=some ⟨116,11,true,qI m⟩
theorem QN.frz{Y:Hp}{Z:Nat}{v:O}{m:List yt}(h:QN Y Z v m):∃y Y1,zS Y v=some (y,Y1)/\(Sh.s 11 k6).fix y=.sl 11 (qI m)/\(∀j,(∀n,v≠.own j 0 n)->Y1 j=Y j)/\∀j b,Y1 j=some b->Y j=some b:=by
 rcases h with rfl|⟨rfl,rfl⟩|⟨id,f,rfl,c⟩
 ·exact⟨_,Y,rfl,dq m,fun _ _=>rfl,fun _ _ h=>h⟩
 ·exact⟨_,Y,rfl,rfl,fun _ _=>rfl,fun _ _ h=>h⟩
 ·refine⟨.sl 11 (qI m),qb Y id none,by simp[c],dq m,fun j d=>wA _ _ _ _ fun e=>d _ (by subst e;rfl),fun j b a=>?_⟩;by_cases e:j=id
  ·subst e;rw[q9]at a;cases a
  ·rwa [zc _ _ _ _ e]at a
theorem QN.Wa{Y Y':Hp}{Z Z':Nat}{v:O}{m:List yt}(h:QN Y Z v m)(d:Z<=Z')(a:∀id,id<Z->(∀n,v=.own id 0 n->Y' id=Y id)):QN Y' Z' v m:=by
 rcases h with rfl|⟨rfl,rfl⟩|⟨id,b,rfl,c⟩
 ·exact .inl rfl
 ·exact .inr (.inl ⟨rfl,rfl⟩)
 ·exact .inr (.inr ⟨id,by omega,rfl,by rw[a id b _ rfl];exact c⟩)
theorem QN.len{Y:Hp}{Z:Nat}{v:O}{m:List yt}(h:QN Y Z v m):Yp prog 77 v=some (int m.length):=by rcases h with rfl|⟨rfl,rfl⟩|⟨id,a,rfl,b⟩<;>simp[qI]
theorem QN.box{Y:Hp}{Z:Nat}{v:O}{m:List yt}(h:QN Y Z v m){j:Nat}{b:Blk}(a:Y j=some b)(c:b.e≠116):∀n,v≠.own j 0 n:=by
 rcases h with rfl|⟨rfl,rfl⟩|⟨id,f,rfl,d⟩
 ·intro n e;cases e
 ·intro n e;cases e
 ·intro n e;injection e with e
  subst e;rw[d]at a;injection a with a
  subst a;exact c rfl
theorem QN.lt{Y:Hp}{Z:Nat}{v:O}{m:List yt}(h:QN Y Z v m){j n:Nat}(e:v=.own j 0 n):j<Z:=by
 rcases h with rfl|⟨rfl,rfl⟩|⟨id,a,rfl,b⟩
 ·cases e
 ·cases e
 ·injection e with e;omega
theorem Gu(c:vp)(Y:Hp)(Z:Nat)(h:c.ok):qN [.g ik] (Ui QF) [.agg c.V] Y Z=some (QF c,Y,Z):=
 kN (show zt Y [.agg c.V]=some ([.agg c.V],Y) by simp[vp.V]) (by
  have d:(Sh.g ik).fix (.agg c.V)=.agg c.V:=by simp[vp.V]
  show Ui QF [(Sh.g ik).fix (.agg c.V)]=_;rw[d];exact qj (V:=fun v:vp=>[O.agg v.V]) (a:=c) (fun a b e=>by simp only[zn,z7]at e;injection e with e;exact uG e) h) (.inr (by simp[vp.V]))
theorem mV(f:Bool->Bool->Bool)(g:Nat)(C:(f=and/\g=69)\/(f=or/\g=70)){Y:Hp}{Z:Nat}{v w:O}{a b:List yt}(D:QN Y Z v a)(E:QN Y Z w b)(h:∀id n k,v=.own id 0 n->w≠.own id 0 k)(t:jX a)(u:jX b) :
  ∃x Y' Z',Jw [.s 11 k6,.s 11 k6] mQ [v,w,.fn (.func g) [] []] Y Z=some (x,Y',Z')/\QN Y' Z' x (Q2 f a b)/\Z<=Z'/\(∀j,j<Z->(∀n,v≠.own j 0 n)->(∀n,w≠.own j 0 n)->Y' j=Y j)/\(∀n j,x=.own j 0 n->Z<=j)/\∀s es,x≠.sl s es:=by
 obtain⟨y,Y1,F,G,i,_⟩:=D.frz;have l:QN Y1 Z w b:=E.Wa (zi _) fun id _ n e=>i id fun H I=>h id H n I e
 obtain⟨z,Y2,J,K,A,_⟩:=l.frz;have d:zt Y [v,w,.fn (.func g) [] []]=some ([y,z,.fn (.func g) [] []],Y2):=by simp only[zt,F,J];rfl
 have B:mQ (av [.s 11 k6,.s 11 k6] (yn [] [y,z,.fn (.func g) [] []]))=some (YU f a b):=by
  show mQ [(Sh.s 11 k6).fix y,(Sh.s 11 k6).fix z,.fn (.func g) [] []]=_;rw[G,K];rcases C with⟨rfl,rfl⟩|⟨rfl,rfl⟩
  ·have:=qj (V:=fun a:List yt×List yt=>[O.sl 11 (qI a.1),.sl 11 (qI a.2),.fn (.func 69) [] []]) (pre:=fun a=>jX a.1/\jX a.2) (out:=fun a=>YU and a.1 a.2) (a:=(a,b)) (sO _) ⟨t,u⟩;unfold mQ;rw[this]
  ·have:=qj (V:=fun a:List yt×List yt=>[O.sl 11 (qI a.1),.sl 11 (qI a.2),.fn (.func 70) [] []]) (pre:=fun a=>jX a.1/\jX a.2) (out:=fun a=>YU or a.1 a.2) (a:=(a,b)) (sO _) ⟨t,u⟩;have m:qD (α:=List yt×List yt) (fun a=>[O.sl 11 (qI a.1),.sl 11 (qI a.2),.fn (.func 69) [] []]) (fun a=>jX a.1/\jX a.2) (fun a=>YU and a.1 a.2) [O.sl 11 (qI a),.sl 11 (qI b),.fn (.func 70) [] []]=none:=by
    cases L:qD (α:=List yt×List yt) (fun a=>[O.sl 11 (qI a.1),.sl 11 (qI a.2),.fn (.func 69) [] []]) (fun a=>jX a.1/\jX a.2) (fun a=>YU and a.1 a.2) [O.sl 11 (qI a),.sl 11 (qI b),.fn (.func 70) [] []]with
    |none=>rfl
    |some r=>obtain⟨_,e,_⟩:=zQ L;simp at e
   unfold mQ;rw[m];exact this
 unfold Jw jT;by_cases o:Q2 f a b=[]
 ·have c:=B;unfold YU at c;rw[zl o]at c;simp only[d,c];exact⟨_,_,_,rfl,.inr (.inl ⟨rfl,o⟩),zi _,fun j _ p q=>(A j q).trans (i j p),fun n j e=>(by cases e),fun s es e=>(by cases e)⟩
 ·have c:=B;unfold YU at c;rw[zg o]at c;simp only[d,c];exact⟨_,_,_,rfl,.inr (.inr ⟨Z,by omega,rfl,by simp⟩),by omega,fun j M p q=>by rw[wA _ _ _ _ (by omega)];exact(A j q).trans (i j p),fun n j e=>(by injection e with e;omega),fun s es e=>(by cases e)⟩
noncomputable abbrev RX:Ctx:=KC prog [(64,kE Un f64),(65,zp false [] (hP iq)),(66,qN [] (J9 Ky)),(67,qN [.g ik] (Ui QF)),(68,Jw [.s 11 k6,.s 11 k6] mQ),(71,qN [.g k6] (RT Um))] 123 Vu
theorem Mu:Gd RX:=CW mixed ⟨pX,by simp,Vo,by simp,QZ,by simp,aG,by simp,eJ,by simp,Vt,by simp,trivial⟩ pW
theorem dw(t:za)(ht:t.length+1<=zX):∃r0,zM RX f49 [str t]=some r0/\yc r0 (CX t):=by
 refine kp (sh:=.s 11 k6) rfl ?_;by_cases T:(400:Int)<t.length
 ·have hv:Qq t=([],2):=by unfold Qq;rw[zl T]
  simp[T,CX,hv,qI,qP,f49]
 have hsq:=fun Y Z=>CY t [124,124] Y Z
 obtain⟨a,u⟩:=yX (qw t [124,124]);have hpl:∀p∈a,p.length<=400:=fun p Y=>by have:=ZV (by rw[u];exact Y);omega
 have hpn:a.length<=401:=by have:=ZW (s:=t) (sep:=[124,124]) (by simp);rw[u]at this;omega
 have b:Qq t=match uX a with
  |none=>([],10)
  |some ls=>match du ls []with
   |none=>([],1)
   |some o=>if(100:Int)<o.length then([],2)else(o,0):=by unfold Qq;rw[zg T,u]<;>rfl
 simp[T,hsq];refine tV (p:=23) (xs:=a.map str) rfl (by simp;exact⟨rfl,rfl⟩) (it:=Vu) rfl (by simp[Vu,Gt,u];exact⟨⟨by decide,by omega⟩,rfl⟩) (fun k Y Z=>∃(v:O) (done:List (List vp)),6<=Z/\Y 0=some ⟨77,1,false,[[.nil]]⟩/\Y 1=some ⟨26,1,false,[[int 0]]⟩/\Y 2=some ⟨94,1,false,[[v]]⟩ /\
   qV Y Z 98 1 v (done.map fun l=>[.sl 11 (vu l)])/\done.length=k/\uX a=(uX (a.drop k)).map (done++·)) ?_ ?_ ?_
 ·exact⟨.nil,[],by simp,by simp,by simp,by simp,.inl ⟨rfl,rfl⟩,rfl,by rw[jd];cases uX a<;>rfl⟩
 ·rintro k Y Z hk ⟨v,done,z,f,d,b2,C,OX,he⟩;have hk':k<a.length:=by simpa using hk
  have hpk:(a.map str)[k]=str a[k]:=by simp
  have hpkl:=hpl a[k] (zz hk');have halt:=fun Y Z=>Jt iq a[k] Y Z (by unfold zX;omega)
  simp only[iq]at halt;rw[hpk];rw[zj hk']at he;simp only[uX]at he;cases D:(Vn a[k]).2
  ·rw[D]at he;simp only[zq,qf,Z7]at he;rw[he]at b;have n0:¬0=Z:=by omega
   have n1:¬1=Z:=by omega
   simp[halt,D,f,d,CX,b,qI,qP,f49]
  ·rw[D]at he;simp only[qa]at he;have AL:=qV.jt (P:=prog) (t:=94) (c:=[.sl 11 (vu (Vn a[k]).1)]) C Ra sz98 by98 ze98 rfl (by omega) (by simp[OX];unfold maxLen;omega) (by simp[OX];omega);have k0:=fun Y'=>yf C Y' 0 (wc C f rfl)
   have k1:=fun Y'=>yf C Y' 1 (wc C d rfl)
   have k2:=fun Y'=>yf C Y' 2 (wc C b2 rfl)
   have n0:¬0=Z:=by omega
   have n1:¬1=Z:=by omega
   have n2:¬2=Z:=by omega
   have n3:¬1=Z+1:=by omega
   have n4:¬2=Z+1:=by omega
   have n5:¬Z+1=2:=by omega
   simp[halt,D,f,d,b2,AL,k0,k1,k2,n0,n1,n2,n3,n4,n5,zu,zP,zr];refine⟨by omega,by rw[wA _ _ _ _ (by omega),k1,wA _ _ _ _ (by omega)];exact d,done++[(Vn a[k]).1],.inr ⟨Z+1,by omega,by simp,by rw[wA _ _ _ _ (by omega)];simp⟩,by simp[OX],?_⟩;rw[he];cases uX (a.drop (k+1))<;>simp
 ·rintro Y Z ⟨v,done,z,f,d,b2,C,OX,he⟩;rw[yK]at OX;rw[yK,zE]at he;simp only[uX,zO,yo]at he;obtain⟨Tn,hdl⟩:=mU a done 400 hpl he;rw[he]at b;simp only at b;have hlen:=C.len Ra;rw[yK]at hlen;have hdn:done.length<=401:=by omega
  obtain⟨r,L⟩:=yX (done.map (fun l=>[O.sl 11 (vu l)]));rw[L]at C;have SZ:r.length=done.length:=by rw[<-L];simp
  simp[b2,hlen];refine qA (fun i X Y Z=>X 2=.ref 0 0 0/\X 3=.ref 1 0 0/\X 35=v/\X 36=int done.length/\X 37=int i/\6<=Z/\Y 0=some ⟨77,1,false,[[.nil]]⟩/\Y 1=some ⟨26,1,false,[[int 0]]⟩ /\
    qV Y Z 98 1 v r/\∃o,QN Y Z (X 8) o/\(∀s es,X 8≠.sl s es)/\af o/\o.length<=i*500/\du done []=du (done.drop i) o) done.length
   ⟨by simp,by simp,by simp,by simp,by simp,z,f,d,C,[],.inr (.inl ⟨by simp,rfl⟩),by simp,(by intro s hs;cases hs),by simp,by simp⟩ ?_
  clear z f d b2 C hlen Y Z;rintro i X Y Z hi ⟨M,N,H,A,B,z,f,d,C,o,K,Q,hgo,I3,hj⟩;by_cases hlt:i<done.length
  ·obtain⟨O0,I,rfl,E⟩:=C.at_ (by omega);obtain⟨l,hl⟩:=yX (done[i]);have hri:∀h:i<r.length,r[i]=[O.sl 11 (vu l)]:=fun h=>by
    have:r[i]?=some [O.sl 11 (vu l)]:=by rw[<-L,z8,zm hlt,hl];rfl
    rw[zm h]at this;injection this
   obtain⟨hgl,hll⟩:=Tn l (by rw[<-hl];exact zz hlt);rw[zj hlt,hl]at hj;simp only[du]at hj;have hev:∀(Y:Hp) (Z:Nat),qN [] (J9 Ky) [] Y Z=some (.sl 11 (qI [jV yE]),Y,Z):=fun Y Z=>WQ _ Y Z
   have hwi:=wP i;have hel:(vu l).length=l.length:=by simp[vu]
   simp[M,N,H,A,B,hlt,SZ,E,hri,hev,hel];refine qA (fun k X Y Z=>X 2=.ref 0 0 0/\X 3=.ref 1 0 0/\X 35=.own O0 0 r.length/\X 36=int done.length/\X 37=int i/\6<=Z/\Y 0=some ⟨77,1,false,[[.nil]]⟩/\Y 1=some ⟨26,1,false,[[int 0]]⟩ /\
     qV Y Z 98 1 (.own O0 0 r.length) r/\QN Y Z (X 8) o/\(∀s es,X 8≠.sl s es)/\X 42=.sl 11 (vu l)/\X 43=int l.length/\X 44=int k/\∃m,QN Y Z (X 11) m/\af m/\m.length<=k+1/\(∀id n n',X 8=.own id 0 n->X 11≠.own id 0 n')/\fG l [jV yE]=fG (l.drop k) m) l.length
    ⟨by simp[M],by simp[N],by simp[H,SZ],by simp[A],by simp[B],z,f,d,C,by simpa using K,by simpa using Q,by simp,by simp,by simp,[jV yE],.inl (by simp),(Jz Za).2,by simp,by simp,by simp⟩ ?_
   clear M N H A B z f d C K Q hi E I X Y Z;rintro k X Y Z hk ⟨M,N,H,A,B,z,f,d,C,K,Q,h42,h43,HQ,m,hM,UT,hml,AL,y⟩;by_cases U:k<l.length
   ·obtain⟨c,hc⟩:=yX (l[k]);have hcg:c.xt:=hgl c (by rw[<-hc];exact zz U);obtain⟨hs1,hs2⟩:=uW hcg;have J:∀h:k<(vu l).length,(vu l)[k]=c.V:=fun h=>by simp[vu,hc]
    have AW:=fun Y Z=>Gu c Y Z hcg.ok
    have hwk:=wP k;rw[zj U,hc]at y;simp only[fG]at y;have n0:¬0=Z:=by omega
    have n1:¬1=Z:=by omega
    cases D:(ZA c).2
    ·rw[D]at y;simp only[zq,qf]at y;rw[y]at hj;simp only at hj;rw[hj]at b;simp only at b;simp only[QF,vp.V]at AW J;simp[M,N,H,A,B,h42,h43,HQ,U,hel,J,AW,D,f,d,n0,n1,CX,b,qI,qP,f49]
    ·rw[D]at y;simp only[qa]at y;have hM':QN (qb Y Z (some ⟨106,11,false,[c.V]⟩)) (Z+1) (X 11) m:=hM.Wa (by omega) fun id hid n e=>wA _ _ _ _ (by omega)
     obtain⟨x,Y',Z',F,hX,hnx',AY,W,To⟩:=mV and 69 (.inl ⟨rfl,rfl⟩) hM' (.inl rfl:QN _ _ (.sl 11 (qI (ZA c).1)) (ZA c).1) (fun id n k e e2=>by cases e2) (UT.small (by unfold zX;omega)) (af.small hs2 (by unfold zX;omega));have G:∀j,j<Z->(∀n,X 11≠.own j 0 n)->Y' j=Y j:=fun j hj q=>by rw[AY j (by omega) q (fun n e=>by cases e),wA _ _ _ _ (by omega)]
     have US:=fC and m (ZA c).1;obtain⟨idA2,I,R,E⟩:=C.at_ (by omega);injection R with R
     subst R;simp only[QF,vp.V]at AW J F;simp[M,N,H,A,B,h42,h43,HQ,U,hel,J,AW,D,F,hwk];exact⟨by omega,by omega,by rw[G 0 (by omega) (hM.box f (by decide))];exact f,by rw[G 1 (by omega) (hM.box d (by decide))];exact d,.inr ⟨O0,by omega,rfl,by rw[G O0 I (hM.box E (by simp))];exact E⟩,K.Wa (by omega) (fun id hid n e=>G id hid fun n'=>AL id n n' e),Q,_,hX,dt and UT hs2,by omega,fun id n n' e e2=>by have:=K.lt e;have:=W _ _ e2;omega,y⟩
   ·obtain rfl:k=l.length:=by omega
    rw[zE]at y;simp only[fG]at y;rw[y]at hj;simp only at hj;obtain⟨x,Y',Z',F,hX,hnx',AY,W,To⟩:=mV or 70 (.inr ⟨rfl,rfl⟩) K hM AL (hgo.small (by unfold zX;omega)) (UT.small (by unfold zX;omega));have US:=fC or o m;obtain⟨idA2,I,R,E⟩:=C.at_ (by omega);injection R with R
    subst R;simp[M,N,H,A,B,h42,h43,HQ,F,hwi];exact⟨by omega,SZ,by omega,by rw[AY 0 (by omega) (K.box f (by decide)) (hM.box f (by decide))];exact f,by rw[AY 1 (by omega) (K.box d (by decide)) (hM.box d (by decide))];exact d,.inr ⟨O0,by omega,by rw[SZ],by rw[AY O0 I (K.box E (by simp)) (hM.box E (by simp))];exact E⟩,_,hX,To,dt or hgo UT,by omega,hj⟩
  ·obtain rfl:i=done.length:=by omega
   rw[zE]at hj;simp only[du]at hj;rw[hj]at b;simp only at b;have S:=K.len;by_cases HR:(100:Int)<o.length
   ·rw[zl HR]at b;simp[M,N,A,B,S,HR,f,d,CX,b,qI,qP,f49]
   rw[zg HR]at b;simp[M,N,A,B,S,HR];obtain⟨w,UU⟩:=yX (X 8);rw[UU]at K Q;refine qA (fun j X Y Z=>X 2=.ref 0 0 0/\X 3=.ref 1 0 0/\X 8=w/\X 66=w/\X 67=int o.length/\X 68=int j/\6<=Z/\Y 0=some ⟨77,1,false,[[.nil]]⟩/\Y 1=some ⟨26,1,false,[[int 0]]⟩/\QN Y Z w o) o.length
    ⟨by simp[M],by simp[N],by simp[UU],by simp[UU],by simp,by simp,z,f,d,K⟩ ?_
   clear M N H A B z f d C K hi UU X Y Z S;rintro j X Y Z UK ⟨M,N,h8,h66,h67,h68,z,f,d,K⟩;by_cases ND:j<o.length
   ·have hwj:=wP j;rcases K with rfl|⟨rfl,rfl⟩|⟨id,hid,rfl,hb⟩
    ·exact absurd rfl (Q _ _)
    ·simp at ND
    ·obtain⟨s,hs⟩:=yX (o[j]);have OW:=hgo s (by rw[<-hs];exact zz ND);have hel:(qI o).length=o.length:=by simp[qI]
     have J:∀h:j<(qI o).length,(qI o)[j]=s.V:=fun h=>by simp[qI,hs]
     have Tp:(qI o).set j s.V=qI o:=by
      have h':j<(qI o).length:=by omega
      rw[<-J h'];exact List.set_getElem_self h'
     have hcp:∀Y Z,qN [.g k6] (RT Um) [.agg s.V] Y Z=some (.agg s.V,Y,Z):=fun Y Z=>CR Um s (.agg s.V) Y Z ⟨OW.1.small,OW.2.small⟩ (by simp[yt.V,Cut.V]) (by simp[yt.V,Cut.V]) (by simp[yt.V,Cut.V])
     have m1:¬id=Z:=by omega
     simp only[yt.V,Cut.V,qg,jh]at J hcp Tp;have i0:¬0=id:=fun e=>by rw[<-e]at hb;rw[hb]at f;simp at f
     have i1:¬1=id:=fun e=>by rw[<-e]at hb;rw[hb]at d;simp at d
     have n0:¬0=Z:=by omega
     have n1:¬1=Z:=by omega
     simp[M,N,h8,h66,h67,h68,ND,hel,hb,J,hcp,m1,hwj,Tp];exact⟨by omega,by omega,by simp[i0,n0,f],by simp[i1,n1,d],.inr (.inr ⟨id,by omega,by rw[hel],by simp⟩)⟩
   ·obtain rfl:j=o.length:=by omega
    rcases K with rfl|⟨rfl,rfl⟩|⟨id,hid,rfl,hb⟩
    ·exact absurd rfl (Q _ _)
    ·simp[M,N,h8,h66,h67,h68,f,d,CX,b,qP,qI,f49]
    ·have i0:¬id=0:=fun e=>by rw[e]at hb;rw[hb]at f;simp at f
     have i1:¬id=1:=fun e=>by rw[e]at hb;rw[hb]at d;simp at d
     have hfx:=dq o;simp only[Sh.EF,O.sl.injEq,true_and]at hfx;simp[M,N,h8,h66,h67,h68,f,d,hb,i0,i1,CX,b,qP,hfx,f49]
theorem aI:zh prog 49 (zp false [] (hP CX)):=
 cx (fn:=f49) Mu (wL func49) false [] _ fun args r h w S vs a=>by obtain⟨l,rfl,Y,rfl⟩:=zQ h;obtain⟨r0,b,c⟩:=dw l Y;exact⟨_,r0,a,by simp[f49],b,c⟩
end Go.Q
