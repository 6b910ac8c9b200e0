/- Lemmas. -/
import Derived.Test.YtfanbcfchamfjaaGreatDoorG7
set_option maxRecDepth 100000
set_option maxHeartbeats 4000000
open Go Proofs Proofs.YtfanbcfchamfjaaGreatDoor Proofs.Tryz RowKit AM SpanLaw Q Zz
namespace Go.Q
def uN:Ze:=⟨kD,xY,xY⟩
def er(a:za)(p:Part):Ze:=⟨a,p,xY⟩
def vo(w:za)(l:List za):Option (Ze×List za):=
 if(yG yB w).1=[]/\ZP (yG yB w).2=true then some (uN,l)
 else if(yG yB w).1≠[]/\(yG yB w).2=[]/\l≠[]then(match l with
  |r::l'=>if(qd r).2=true then some (er (yG yB w).1 (qd r).1,l')else none
  |[]=>none)
 else if(qd (yG yB w).2).2=true then some (er (yG yB w).1 (qd (yG yB w).2).1,l)else none
def yF:Nat->List za->Option (List Ze)
 | 0,_=>some []
 |_+1,[]=>some []
 |n+1,w::l=>match vo w l with
  |some (c,l')=>(yF n l').map (c::·)
  |none=>none
theorem MO{w:za}{l l':List za}{c:Ze}(h:vo w l=some (c,l')):l'.length<=l.length:=by
 unfold vo at h;split at h
 ·injection h with h;injection h with _ h;subst h;exact zk _
 ·split at h
  ·split at h
   ·split at h
    ·injection h with h;injection h with _ h;subst h;simp
    ·cases h
   ·cases h
  ·split at h
   ·injection h with h;injection h with _ h;subst h;exact zk _
   ·cases h
def bK(t:za):List Ze×Bool:=
 match wQ (qT t [32])with
 |[a,b,c]=>if b=[45]then([⟨[45],(qd a).1,(qd c).1⟩],(qd a).2&&(qd c).2)else(match yF 3 [a,b,c]with
  |some l=>(l,!l.isEmpty)
  |none=>([],false))
 |ws=>match yF ws.length ws with
  |some l=>(l,!l.isEmpty)
  |none=>([],false)
def Zh(l:List Ze):List zb:=l.map Ze.V
def r8(t:za):O:=.qZ [.sl 11 (Zh (bK t).1),q6 (bK t).2]
theorem r9:∀(a:List za) (s:za),(yG a s).2.length<=s.length
 |[],s=>zk _
 |g::l,s=>by
  simp only[yG];split
  ·simp
  ·exact r9 l s
noncomputable abbrev Calt:Ctx:=qf prog [(28,j5 [] I1),(158,yc Cdf f158),(160,hP (rQ jX)),(161,hP (FSP Sx)),(162,hP (FS ZP))]
theorem Sz:AM.Good Calt (fun g=>[162].contains g):=qI mixed ⟨ZO,by simp,dc,by simp,bC,by simp,lh,by simp,iJ,fun _=>zq _ _,trivial⟩
def Jg:O->Nat
 | .own _ _ n=>n
 |_=>0
def MP(a:List za)(rows:List zb)(st:St):Prop:=∃f rest l xs,rest.length<=f/\xs.length+rest.length<=a.length/\a.drop (a.length-rest.length)=rest/\(rest=[]/\st.σ 4=.sl 1 []\/st.σ 4=.own 0 (a.length-rest.length) rest.length) /\
 qR st.Y st.Z 199 11 (st.σ 9) xs/\(∀n,st.σ 9≠.own 0 0 n)/\xs.map (Ym rX)=Zh l/\1<=st.Z/\st.Y 0=some ⟨9,1,true,rows⟩/\yF a.length a=(yF f rest).map (l++·)
theorem sl1(Y:Hp)(rows:List zb)(o n:Nat)(a:Y 0=some ⟨9,1,true,rows⟩):y8 prog Y 39 (.own 0 o (n+1)) (some (some (int 1))) none=some (if n=0 then .sl 1 []else .own 0 (o+1) n):=by simp[y8,a,jZ]
theorem Zi{a rows}{f':Nat}{l':List za}{l:List Ze}{c:Ze}{xs:List zb}{b:zb}{st:St}{v4:O}(j:l'.length<=f')(q:xs.length+1+l'.length<=a.length)(e:a.drop (a.length-l'.length)=l')(k:st.σ 4=v4)(f:l'=[]/\v4=.sl 1 []\/v4=.own 0 (a.length-l'.length) l'.length)
  (m:qR st.Y st.Z 199 11 (st.σ 9) (xs++[b])) (g:∀n,st.σ 9≠.own 0 0 n) (d:Ym rX b=c.V) (h:xs.map (Ym rX)=Zh l) (i:1<=st.Z) (o:st.Y 0=some ⟨9,1,true,rows⟩) (p:yF a.length a=(yF f' l').map ((l++[c])++·)):MP a rows st:=
 ⟨f',l',l++[c],xs++[b],j,by simp;omega,e,by rw[k];exact f,m,g,by simp[h,d,Zh],i,o,p⟩
theorem uO(f:Nat):yF f []=some []:=by cases f<;>rfl
theorem dd(t:za)(ht:t.length+1<=zD):∃r0,zH Calt f132 [str t]=some r0/\yY r0 (r8 t):=by
 refine vW (sh:=.s 11 rX) rfl ?_;have hsp:=fun Y Z=>ZF t [32] Y Z (by omega) (by decide) (by decide)
 have hpl:∀p∈qT t [32],p.length+1<=zD:=fun p Y=>by have:=W5 Y;omega
 have hsm:x4 (qT t [32]):=⟨by have:=W6 (s:=t) (sep:=[32]) (by simp);omega,fun p Y=>by have:=hpl p Y;omega⟩;obtain⟨x,Y1,nx1,P1,hx,hnx,⟨pad,hb⟩,I8⟩:=Dp (qT t [32]) (zI (fun _=>none) 0 (some ⟨9,1,true,zA (qT t [32])⟩)) 1 0 hsm (by simp);subst hx;subst hnx;obtain⟨g,hws⟩:=yb (wQ (qT t [32]));have hwl:∀p∈g,p.length+1<=zD:=fun p Y=>hpl p (by rw[<-hws]at Y;exact(List.mem_filter.1 Y).1)
 rw[hws]at P1 hb;simp only[fQ]at P1;have C:g.length<=zD:=by
  have h1:=List.length_filter_le (fun x=>!rZ x) (qT t [32]);have h2:=W6 (s:=t) (sep:=[32]) (by simp);have h3:g.length=(wQ (qT t [32])).length:=by rw[hws]
  unfold wQ at h3;omega
 have I9:=fun(p:za) (Y:p.length+1<=zD) Y' Z=>VU jX p Y' Z Y
 simp[hsp,P1];by_cases hc:∃a c,g=[a,[45],c]
 ·obtain⟨a,c,rfl⟩:=hc;have ha:=fun Y' Z=>I9 a (hwl a (by simp)) Y' Z
  have hcc:=fun Y' Z=>I9 c (hwl c (by simp)) Y' Z
  simp only[jX,Part.V]at ha hcc;have m:r8 t=.qZ [.sl 11 (Zh [⟨[45],(qd a).1,(qd c).1⟩]),q6 ((qd a).2&&(qd c).2)]:=by simp only[r8,bK,hws,qh]
  rw[m];have hn:∀k,0<k->Y1 k=none:=fun k hk=>by rw[I8 k (by omega),zT _ _ _ _ (by omega)]
  simp[hb,ha,hcc,qi,qJ,zy,zR,zw,wJ,Zh,Ze.V,f132]
 ·have m:r8 t=(match yF g.length g with
   |some l=>.qZ [.sl 11 (Zh l),q6 (!l.isEmpty)]
   |none=>.qZ [.sl 11 [],q6 false]):=by
   have hR:bK t=(match yF g.length g with
    |some l=>(l,!l.isEmpty)
    |none=>([],false)):=by
    unfold bK;rw[hws]
    match g,hc with
    |[],_=>rfl
    |[_],_=>rfl
    |[_,_],_=>rfl
    |[a,b,c],hc=>
     have:¬b=[45]:=fun e=>hc ⟨a,c,by rw[e]⟩
     simp only[zj this];rfl
    |_::_::_::_::_,_=>rfl
   unfold r8;rw[hR];cases yF g.length g<;>rfl
  obtain⟨rows,Gb⟩:=yb (zA g++pad);have hrl:g.length<=rows.length:=by rw[<-Gb];simp
  have hat:∀k (h:k<g.length) (h':k<rows.length),rows[k]=[str g[k]]:=fun k h h'=>by subst Gb;rw[List.getElem_append_left (by simpa using h)];simp[zA]
  rw[Gb]at hb;clear Gb;by_cases h3:g.length=3
  ·have h31:=hat 1 (by omega) (by omega);have hne:(g[1]==[45])=false:=by
    match g,h3,hc with
    |[a,b,c],_,hc=>simpa using fun e=>hc ⟨a,c,by rw[e]⟩
   have h3l:1<rows.length:=by omega
   have h33:((g.length:Int)==3)=true:=by simp[h3]
   simp[hb,h33,h3,h31,hne,h3l];refine ba (MP g rows) (fun st=>Jg (st.σ 4)) ⟨g.length,g,[],[],zk _,by simp,by simp,.inr (by simp;try omega),.inl ⟨by simp,rfl⟩,by simp,rfl,by simp,by simpa using hb,by simp⟩ ?_;clear P1 I8 hsp;rintro⟨σ,Y,Z⟩ ⟨f,rest,l,xs,hf,La,I7,h4,Q,hO0,D,hnx,H,N⟩;simp only at h4 Q hO0 hnx H;cases rest with
   |nil=>
    rw[uO]at N;simp only[zY,wg]at N;rw[N]at m;rw[m];have P2:xs.length=l.length:=by have:=jy List.length D;simpa[Zh]using this
    have tx:(decide ((0:Int)<(xs.length:Int)))=!l.isEmpty:=by rw[P2];cases l<;>simp
    have hb2:(decide (0<xs.length))=!l.isEmpty:=by rw[P2];cases l<;>simp
    have Kn:σ 4=.sl 1 []\/σ 4=.own 0 g.length 0:=by
     rcases h4 with⟨_,h4⟩|h4
     ·exact .inl h4
     ·exact .inr (by simpa using h4)
    rcases Q with⟨h9,rfl⟩|⟨id,hid,h9,hb9⟩
    ·simp[Zh]at D;subst D;rcases Kn with Kn|Kn<;>simp[Kn,h9,wJ,Zh,f132]
    ·rcases Kn with Kn|Kn<;>simp[Kn,h9,hb9,tx,hb2,D,wJ,f132]
   |cons w l'=>
    obtain⟨f',rfl⟩:∃f',f=f'+1:=⟨f-1,by simp at hf;omega⟩;simp only[ze]at hf La I7 h4;obtain⟨o,ho⟩:=yb (g.length-(l'.length+1));rw[ho]at I7 h4;have Kn:σ 4=.own 0 o (l'.length+1):=by
     rcases h4 with⟨h,_⟩|h
     ·cases h
     ·exact h
    have hol:o<g.length:=by omega
    have A:o<rows.length:=by omega
    rw[zg hol]at I7;injection I7 with hdw I
    have u:rows[o]=[str w]:=by rw[hat o hol A,hdw]
    have hww:w.length+1<=zD:=hwl w (by rw[<-hdw];exact zo hol);have B:=fun Y' Z'=>iK Sx w Y' Z' (by omega) rfl
    simp only[Sx]at B;have R:(yG yB w).2.length+1<=zD:=by have:=r9 yB w;omega
    have y:=fun Y' Z'=>Zu ZP (yG yB w).2 Y' Z' (by omega)
    obtain⟨v4,hv4⟩:=yb (if l'.length=0 then O.sl 1 []else .own 0 (o+1) l'.length);have hs1:=fun Y' (hh:Y' 0=some _)=>sl1 Y' rows o l'.length hh
    rw[hv4]at hs1;have n:=hs1 Y H;have S:o+1=g.length-l'.length:=by omega
    have z:l'=[]/\v4=.sl 1 []\/v4=.own 0 (g.length-l'.length) l'.length:=by
     rw[<-hv4,<-S];by_cases h:l'.length=0
     ·exact .inl ⟨qQ.1 h,zl h⟩
     ·exact .inr (zj h)
    have T:Jg v4<l'.length+1:=by rcases z with⟨_,h⟩|h<;>rw[h]<;>simp[Jg]
    have hl4:KJ prog 39 v4=some (int l'.length):=by
     rcases z with⟨h1,h⟩|h
     ·subst h1;rw[h];simp
     ·rw[h];simp
    rw[S]at I;have IV:=fun c Q=>qR.jc (Y:=Y) (Z:=Z) (v:=σ 9) (xs:=xs) (P:=prog) (t:=191) (c:=c) Q Xx Xy Xz XA rfl (by omega) (by unfold maxLen;unfold zD at C;omega) (by unfold zD at C;omega)
    by_cases U:(yG yB w).1=[]/\ZP (yG yB w).2=true
    ·have J:vo w l'=some (uN,l'):=by unfold vo;rw[zl U]
     have i:yF g.length g=(yF f' l').map ((l++[uN])++·):=by rw[N];simp only[yF,J];cases yF f' l'<;>simp
     have P3:=IV [str kD,int 0,int 0,int 0,int 0,.nil,int 0,int 0,int 0,int 0,.nil] Q;obtain⟨hA1,hA2⟩:=U;simp only[kD]at P3;simp[Kn,H,A,u,B,y,n,hA1,hA2,P3,qi,qJ,zy,zR,zw];have n0:¬0=Z:=by omega
     have n1:¬0=Z+1:=by omega
     have n2:¬0=Z+2:=by omega
     have M:=fun Y'=>qK Q Y' 0 hO0
     exact⟨Zi (v4:=v4) (c:=uN) (f':=f') (l':=l') (l:=l) (xs:=xs) (by omega) (by omega) I (by simp) z (by simpa using qR.after) (by simp<;>omega) rfl D (by simp) (by simp[M,n0,n1,n2,H]) i,by simpa[Jg]using T⟩
    have n0:¬0=Z:=by omega
    have n1:¬0=Z+1:=by omega
    have n2:¬0=Z+2:=by omega
    have M:=fun Y'=>qK Q Y' 0 hO0
    by_cases W:(yG yB w).1=[]
    ·have E:((yG yB w).1==[])=true:=by simpa using W
     have F:(yG yB w).1.isEmpty=true:=by simpa using W
     have G:((yG yB w).1 != [])=false:=by simpa using W
     have hOp:ZP (yG yB w).2=false:=by
      cases h:ZP (yG yB w).2
      ·rfl
      ·exact absurd ⟨W,h⟩ U
     have q:=fun Y' Z'=>I9 (yG yB w).2 R Y' Z'
     simp only[jX,Part.V]at q;cases d:(qd (yG yB w).2).2
     ·have J:vo w l'=none:=by unfold vo;rw[zj U,zj (fun h=>h.1 W),zj (by rw[d];simp)]
      have i:yF g.length g=none:=by rw[N];simp only[yF,J];rfl
      rw[i]at m;simp[Kn,H,A,u,B,y,n,E,F,G,hOp,q,d,qi,qJ,m,Zh,wJ,f132]
     ·have J:vo w l'=some (er (yG yB w).1 (qd (yG yB w).2).1,l'):=by unfold vo;rw[zj U,zj (fun h=>h.1 W),zl d]
      have i:yF g.length g=(yF f' l').map ((l++[er (yG yB w).1 (qd (yG yB w).2).1])++·):=by rw[N];simp only[yF,J];cases yF f' l'<;>simp
      have j:=qR.jc (P:=prog) (t:=191) (c:=[str (yG yB w).1,int (qd (yG yB w).2).1.n0,int (qd (yG yB w).2).1.n1,int (qd (yG yB w).2).1.n2,int (qd (yG yB w).2).1.has,.sl 1 (zA (qd (yG yB w).2).1.pre),int 0,int 0,int 0,int 0,.nil]) (Q.more (some ⟨197,5,false,[(qd (yG yB w).2).1.V]⟩)) Xx Xy Xz XA rfl (by omega) (by unfold maxLen;unfold zD at C;omega) (by unfold zD at C;omega);simp only[Part.V]at j;simp[Kn,H,A,u,B,y,n,E,F,G,hOp,q,d,j,qi,qJ,zy,zR,zw];exact⟨Zi (v4:=v4) (c:=er (yG yB w).1 (qd (yG yB w).2).1) (f':=f') (l':=l') (l:=l) (xs:=xs) (by omega) (by omega) I (by simp) z (by simpa using qR.after) (by simp<;>omega) rfl D (by simp) (by simp[M,n0,n1,n2,H]) i,by simpa[Jg]using T⟩
    have E:=QA W;have F:(yG yB w).1.isEmpty=false:=by simpa using W
    have G:((yG yB w).1 != [])=true:=by simpa using W
    by_cases hR:(yG yB w).2=[]
    ·have K:((yG yB w).2==[])=true:=by simpa using hR
     have L:(yG yB w).2.isEmpty=true:=by simpa using hR
     by_cases hL:l'=[]
     ·have hLz:l'.length=0:=by rw[hL];rfl
      have hLp:¬0<l'.length:=by omega
      have hLq:¬(0:Int)<(l'.length:Int):=by omega
      have q:=fun Y' Z'=>I9 (yG yB w).2 R Y' Z'
      simp only[jX,Part.V]at q;cases d:(qd (yG yB w).2).2
      ·have J:vo w l'=none:=by unfold vo;rw[zj U,zj (fun h=>h.2.2 hL),zj (by rw[d];simp)]
       have i:yF g.length g=none:=by rw[N];simp only[yF,J];rfl
       rw[i]at m;simp[Kn,H,A,u,B,y,n,E,F,G,K,L,hl4,hLp,hLq,q,d,qi,qJ,m,Zh,wJ,f132]
      ·have J:vo w l'=some (er (yG yB w).1 (qd (yG yB w).2).1,l'):=by unfold vo;rw[zj U,zj (fun h=>h.2.2 hL),zl d]
       have i:yF g.length g=(yF f' l').map ((l++[er (yG yB w).1 (qd (yG yB w).2).1])++·):=by rw[N];simp only[yF,J];cases yF f' l'<;>simp
       have j:=qR.jc (P:=prog) (t:=191) (c:=[str (yG yB w).1,int (qd (yG yB w).2).1.n0,int (qd (yG yB w).2).1.n1,int (qd (yG yB w).2).1.n2,int (qd (yG yB w).2).1.has,.sl 1 (zA (qd (yG yB w).2).1.pre),int 0,int 0,int 0,int 0,.nil]) (Q.more (some ⟨197,5,false,[(qd (yG yB w).2).1.V]⟩)) Xx Xy Xz XA rfl (by omega) (by unfold maxLen;unfold zD at C;omega) (by unfold zD at C;omega);simp only[Part.V]at j;simp[Kn,H,A,u,B,y,n,E,F,G,K,L,hl4,hLp,hLq,q,d,j,qi,qJ,zy,zR,zw];exact⟨Zi (v4:=v4) (c:=er (yG yB w).1 (qd (yG yB w).2).1) (f':=f') (l':=l') (l:=l) (xs:=xs) (by omega) (by omega) I (by simp) z (by simpa using qR.after) (by simp<;>omega) rfl D (by simp) (by simp[M,n0,n1,n2,H]) i,by simpa[Jg]using T⟩
     ·obtain⟨r,l2,rfl⟩:∃r l2,l'=r::l2:=by
       cases l' with
       |nil=>exact absurd rfl hL
       |cons r l2=>exact⟨r,l2,rfl⟩
      have hv:v4=.own 0 (o+1) (l2.length+1):=by
       rcases z with⟨h,_⟩|h
       ·cases h
       ·rw[h,<-S];rfl
      subst hv;simp only[ze]at hf La ho Kn n S I T;have X:o+1<g.length:=by omega
      have EE:o+1<rows.length:=by omega
      rw[<-S,zg X]at I;injection I with P4 P5
      have B5:rows[o+1]=[str r]:=by rw[hat (o+1) X EE,P4]
      have ho2:o+1+1=g.length-l2.length:=by omega
      obtain⟨v5,hv5⟩:=yb (if l2.length=0 then O.sl 1 []else .own 0 (o+1+1) l2.length);have EF:=sl1 Y rows (o+1) l2.length H;rw[hv5]at EF;have P6:l2=[]/\v5=.sl 1 []\/v5=.own 0 (g.length-l2.length) l2.length:=by
       rw[<-hv5,<-ho2];by_cases h:l2.length=0
       ·exact .inl ⟨qQ.1 h,zl h⟩
       ·exact .inr (zj h)
      have hmu5:Jg v5<l2.length+1+1:=by rcases P6 with⟨_,h⟩|h<;>rw[h]<;>simp[Jg];omega
      rw[ho2]at P5;have BZ:(0:Int)<(l2.length:Int)+1:=by omega
      have B6:(0:Int)<(l2.length:Int)+1+1:=by omega
      have q:=fun Y' Z'=>I9 r (hwl r (by rw[<-P4];exact zo X)) Y' Z'
      simp only[jX,Part.V]at q;cases d:(qd r).2
      ·have J:vo w (r::l2)=none:=by unfold vo;rw[zj U,zl ⟨W,hR,by simp⟩];simp only[d];rfl
       have i:yF g.length g=none:=by rw[N];simp only[yF,J];rfl
       rw[i]at m;simp[Kn,H,A,u,B,y,n,EF,EE,B5,E,F,G,K,L,BZ,B6,q,d,qi,qJ,m,Zh,wJ,f132]
      ·have J:vo w (r::l2)=some (er (yG yB w).1 (qd r).1,l2):=by unfold vo;rw[zj U,zl ⟨W,hR,by simp⟩];simp only[d,qh]
       have i:yF g.length g=(yF f' l2).map ((l++[er (yG yB w).1 (qd r).1])++·):=by rw[N];simp only[yF,J];cases yF f' l2<;>simp
       have j:=qR.jc (P:=prog) (t:=191) (c:=[str (yG yB w).1,int (qd r).1.n0,int (qd r).1.n1,int (qd r).1.n2,int (qd r).1.has,.sl 1 (zA (qd r).1.pre),int 0,int 0,int 0,int 0,.nil]) (Q.more (some ⟨197,5,false,[(qd r).1.V]⟩)) Xx Xy Xz XA rfl (by omega) (by unfold maxLen;unfold zD at C;omega) (by unfold zD at C;omega);simp only[Part.V]at j;simp[Kn,H,A,u,B,y,n,EF,EE,B5,E,F,G,K,L,BZ,B6,q,d,j,qi,qJ,zy,zR,zw];exact⟨Zi (v4:=v5) (c:=er (yG yB w).1 (qd r).1) (f':=f') (l':=l2) (l:=l) (xs:=xs) (by omega) (by omega) P5 (by simp) P6 (by simpa using qR.after) (by simp<;>omega) rfl D (by simp) (by simp[M,n0,n1,n2,H]) i,by simpa[Jg]using hmu5⟩
    ·have K:=QA hR;have L:(yG yB w).2.isEmpty=false:=by simpa using hR
     have q:=fun Y' Z'=>I9 (yG yB w).2 R Y' Z'
     simp only[jX,Part.V]at q;cases d:(qd (yG yB w).2).2
     ·have J:vo w l'=none:=by unfold vo;rw[zj U,zj (fun h=>hR h.2.1),zj (by rw[d];simp)]
      have i:yF g.length g=none:=by rw[N];simp only[yF,J];rfl
      rw[i]at m;simp[Kn,H,A,u,B,y,n,E,F,G,K,L,q,d,qi,qJ,m,Zh,wJ,f132]
     ·have J:vo w l'=some (er (yG yB w).1 (qd (yG yB w).2).1,l'):=by unfold vo;rw[zj U,zj (fun h=>hR h.2.1),zl d]
      have i:yF g.length g=(yF f' l').map ((l++[er (yG yB w).1 (qd (yG yB w).2).1])++·):=by rw[N];simp only[yF,J];cases yF f' l'<;>simp
      have j:=qR.jc (P:=prog) (t:=191) (c:=[str (yG yB w).1,int (qd (yG yB w).2).1.n0,int (qd (yG yB w).2).1.n1,int (qd (yG yB w).2).1.n2,int (qd (yG yB w).2).1.has,.sl 1 (zA (qd (yG yB w).2).1.pre),int 0,int 0,int 0,int 0,.nil]) (Q.more (some ⟨197,5,false,[(qd (yG yB w).2).1.V]⟩)) Xx Xy Xz XA rfl (by omega) (by unfold maxLen;unfold zD at C;omega) (by unfold zD at C;omega);simp only[Part.V]at j;simp[Kn,H,A,u,B,y,n,E,F,G,K,L,q,d,j,qi,qJ,zy,zR,zw];exact⟨Zi (v4:=v4) (c:=er (yG yB w).1 (qd (yG yB w).2).1) (f':=f') (l':=l') (l:=l) (xs:=xs) (by omega) (by omega) I (by simp) z (by simpa using qR.after) (by simp<;>omega) rfl D (by simp) (by simp[M,n0,n1,n2,H]) i,by simpa[Jg]using T⟩
  ·have h33:((g.length:Int)==3)=false:=by simp;omega
   simp[hb,h33];refine ba (MP g rows) (fun st=>Jg (st.σ 4)) ⟨g.length,g,[],[],zk _,by simp,by simp,.inr (by simp;try omega),.inl ⟨by simp,rfl⟩,by simp,rfl,by simp,by simpa using hb,by simp⟩ ?_;clear P1 I8 hsp;rintro⟨σ,Y,Z⟩ ⟨f,rest,l,xs,hf,La,I7,h4,Q,hO0,D,hnx,H,N⟩;simp only at h4 Q hO0 hnx H;cases rest with
   |nil=>
    rw[uO]at N;simp only[zY,wg]at N;rw[N]at m;rw[m];have P2:xs.length=l.length:=by have:=jy List.length D;simpa[Zh]using this
    have tx:(decide ((0:Int)<(xs.length:Int)))=!l.isEmpty:=by rw[P2];cases l<;>simp
    have hb2:(decide (0<xs.length))=!l.isEmpty:=by rw[P2];cases l<;>simp
    have Kn:σ 4=.sl 1 []\/σ 4=.own 0 g.length 0:=by
     rcases h4 with⟨_,h4⟩|h4
     ·exact .inl h4
     ·exact .inr (by simpa using h4)
    rcases Q with⟨h9,rfl⟩|⟨id,hid,h9,hb9⟩
    ·simp[Zh]at D;subst D;rcases Kn with Kn|Kn<;>simp[Kn,h9,wJ,Zh,f132]
    ·rcases Kn with Kn|Kn<;>simp[Kn,h9,hb9,tx,hb2,D,wJ,f132]
   |cons w l'=>
    obtain⟨f',rfl⟩:∃f',f=f'+1:=⟨f-1,by simp at hf;omega⟩;simp only[ze]at hf La I7 h4;obtain⟨o,ho⟩:=yb (g.length-(l'.length+1));rw[ho]at I7 h4;have Kn:σ 4=.own 0 o (l'.length+1):=by
     rcases h4 with⟨h,_⟩|h
     ·cases h
     ·exact h
    have hol:o<g.length:=by omega
    have A:o<rows.length:=by omega
    rw[zg hol]at I7;injection I7 with hdw I
    have u:rows[o]=[str w]:=by rw[hat o hol A,hdw]
    have hww:w.length+1<=zD:=hwl w (by rw[<-hdw];exact zo hol);have B:=fun Y' Z'=>iK Sx w Y' Z' (by omega) rfl
    simp only[Sx]at B;have R:(yG yB w).2.length+1<=zD:=by have:=r9 yB w;omega
    have y:=fun Y' Z'=>Zu ZP (yG yB w).2 Y' Z' (by omega)
    obtain⟨v4,hv4⟩:=yb (if l'.length=0 then O.sl 1 []else .own 0 (o+1) l'.length);have hs1:=fun Y' (hh:Y' 0=some _)=>sl1 Y' rows o l'.length hh
    rw[hv4]at hs1;have n:=hs1 Y H;have S:o+1=g.length-l'.length:=by omega
    have z:l'=[]/\v4=.sl 1 []\/v4=.own 0 (g.length-l'.length) l'.length:=by
     rw[<-hv4,<-S];by_cases h:l'.length=0
     ·exact .inl ⟨qQ.1 h,zl h⟩
     ·exact .inr (zj h)
    have T:Jg v4<l'.length+1:=by rcases z with⟨_,h⟩|h<;>rw[h]<;>simp[Jg]
    have hl4:KJ prog 39 v4=some (int l'.length):=by
     rcases z with⟨h1,h⟩|h
     ·subst h1;rw[h];simp
     ·rw[h];simp
    rw[S]at I;have IV:=fun c Q=>qR.jc (Y:=Y) (Z:=Z) (v:=σ 9) (xs:=xs) (P:=prog) (t:=191) (c:=c) Q Xx Xy Xz XA rfl (by omega) (by unfold maxLen;unfold zD at C;omega) (by unfold zD at C;omega)
    by_cases U:(yG yB w).1=[]/\ZP (yG yB w).2=true
    ·have J:vo w l'=some (uN,l'):=by unfold vo;rw[zl U]
     have i:yF g.length g=(yF f' l').map ((l++[uN])++·):=by rw[N];simp only[yF,J];cases yF f' l'<;>simp
     have P3:=IV [str kD,int 0,int 0,int 0,int 0,.nil,int 0,int 0,int 0,int 0,.nil] Q;obtain⟨hA1,hA2⟩:=U;simp only[kD]at P3;simp[Kn,H,A,u,B,y,n,hA1,hA2,P3,qi,qJ,zy,zR,zw];have n0:¬0=Z:=by omega
     have n1:¬0=Z+1:=by omega
     have n2:¬0=Z+2:=by omega
     have M:=fun Y'=>qK Q Y' 0 hO0
     exact⟨Zi (v4:=v4) (c:=uN) (f':=f') (l':=l') (l:=l) (xs:=xs) (by omega) (by omega) I (by simp) z (by simpa using qR.after) (by simp<;>omega) rfl D (by simp) (by simp[M,n0,n1,n2,H]) i,by simpa[Jg]using T⟩
    have n0:¬0=Z:=by omega
    have n1:¬0=Z+1:=by omega
    have n2:¬0=Z+2:=by omega
    have M:=fun Y'=>qK Q Y' 0 hO0
    by_cases W:(yG yB w).1=[]
    ·have E:((yG yB w).1==[])=true:=by simpa using W
     have F:(yG yB w).1.isEmpty=true:=by simpa using W
     have G:((yG yB w).1 != [])=false:=by simpa using W
     have hOp:ZP (yG yB w).2=false:=by
      cases h:ZP (yG yB w).2
      ·rfl
      ·exact absurd ⟨W,h⟩ U
     have q:=fun Y' Z'=>I9 (yG yB w).2 R Y' Z'
     simp only[jX,Part.V]at q;cases d:(qd (yG yB w).2).2
     ·have J:vo w l'=none:=by unfold vo;rw[zj U,zj (fun h=>h.1 W),zj (by rw[d];simp)]
      have i:yF g.length g=none:=by rw[N];simp only[yF,J];rfl
      rw[i]at m;simp[Kn,H,A,u,B,y,n,E,F,G,hOp,q,d,qi,qJ,m,Zh,wJ,f132]
     ·have J:vo w l'=some (er (yG yB w).1 (qd (yG yB w).2).1,l'):=by unfold vo;rw[zj U,zj (fun h=>h.1 W),zl d]
      have i:yF g.length g=(yF f' l').map ((l++[er (yG yB w).1 (qd (yG yB w).2).1])++·):=by rw[N];simp only[yF,J];cases yF f' l'<;>simp
      have j:=qR.jc (P:=prog) (t:=191) (c:=[str (yG yB w).1,int (qd (yG yB w).2).1.n0,int (qd (yG yB w).2).1.n1,int (qd (yG yB w).2).1.n2,int (qd (yG yB w).2).1.has,.sl 1 (zA (qd (yG yB w).2).1.pre),int 0,int 0,int 0,int 0,.nil]) (Q.more (some ⟨197,5,false,[(qd (yG yB w).2).1.V]⟩)) Xx Xy Xz XA rfl (by omega) (by unfold maxLen;unfold zD at C;omega) (by unfold zD at C;omega);simp only[Part.V]at j;simp[Kn,H,A,u,B,y,n,E,F,G,hOp,q,d,j,qi,qJ,zy,zR,zw];exact⟨Zi (v4:=v4) (c:=er (yG yB w).1 (qd (yG yB w).2).1) (f':=f') (l':=l') (l:=l) (xs:=xs) (by omega) (by omega) I (by simp) z (by simpa using qR.after) (by simp<;>omega) rfl D (by simp) (by simp[M,n0,n1,n2,H]) i,by simpa[Jg]using T⟩
    have E:=QA W;have F:(yG yB w).1.isEmpty=false:=by simpa using W
    have G:((yG yB w).1 != [])=true:=by simpa using W
    by_cases hR:(yG yB w).2=[]
    ·have K:((yG yB w).2==[])=true:=by simpa using hR
     have L:(yG yB w).2.isEmpty=true:=by simpa using hR
     by_cases hL:l'=[]
     ·have hLz:l'.length=0:=by rw[hL];rfl
      have hLp:¬0<l'.length:=by omega
      have hLq:¬(0:Int)<(l'.length:Int):=by omega
      have q:=fun Y' Z'=>I9 (yG yB w).2 R Y' Z'
      simp only[jX,Part.V]at q;cases d:(qd (yG yB w).2).2
      ·have J:vo w l'=none:=by unfold vo;rw[zj U,zj (fun h=>h.2.2 hL),zj (by rw[d];simp)]
       have i:yF g.length g=none:=by rw[N];simp only[yF,J];rfl
       rw[i]at m;simp[Kn,H,A,u,B,y,n,E,F,G,K,L,hl4,hLp,hLq,q,d,qi,qJ,m,Zh,wJ,f132]
      ·have J:vo w l'=some (er (yG yB w).1 (qd (yG yB w).2).1,l'):=by unfold vo;rw[zj U,zj (fun h=>h.2.2 hL),zl d]
       have i:yF g.length g=(yF f' l').map ((l++[er (yG yB w).1 (qd (yG yB w).2).1])++·):=by rw[N];simp only[yF,J];cases yF f' l'<;>simp
       have j:=qR.jc (P:=prog) (t:=191) (c:=[str (yG yB w).1,int (qd (yG yB w).2).1.n0,int (qd (yG yB w).2).1.n1,int (qd (yG yB w).2).1.n2,int (qd (yG yB w).2).1.has,.sl 1 (zA (qd (yG yB w).2).1.pre),int 0,int 0,int 0,int 0,.nil]) (Q.more (some ⟨197,5,false,[(qd (yG yB w).2).1.V]⟩)) Xx Xy Xz XA rfl (by omega) (by unfold maxLen;unfold zD at C;omega) (by unfold zD at C;omega);simp only[Part.V]at j;simp[Kn,H,A,u,B,y,n,E,F,G,K,L,hl4,hLp,hLq,q,d,j,qi,qJ,zy,zR,zw];exact⟨Zi (v4:=v4) (c:=er (yG yB w).1 (qd (yG yB w).2).1) (f':=f') (l':=l') (l:=l) (xs:=xs) (by omega) (by omega) I (by simp) z (by simpa using qR.after) (by simp<;>omega) rfl D (by simp) (by simp[M,n0,n1,n2,H]) i,by simpa[Jg]using T⟩
     ·obtain⟨r,l2,rfl⟩:∃r l2,l'=r::l2:=by
       cases l' with
       |nil=>exact absurd rfl hL
       |cons r l2=>exact⟨r,l2,rfl⟩
      have hv:v4=.own 0 (o+1) (l2.length+1):=by
       rcases z with⟨h,_⟩|h
       ·cases h
       ·rw[h,<-S];rfl
      subst hv;simp only[ze]at hf La ho Kn n S I T;have X:o+1<g.length:=by omega
      have EE:o+1<rows.length:=by omega
      rw[<-S,zg X]at I;injection I with P4 P5
      have B5:rows[o+1]=[str r]:=by rw[hat (o+1) X EE,P4]
      have ho2:o+1+1=g.length-l2.length:=by omega
      obtain⟨v5,hv5⟩:=yb (if l2.length=0 then O.sl 1 []else .own 0 (o+1+1) l2.length);have EF:=sl1 Y rows (o+1) l2.length H;rw[hv5]at EF;have P6:l2=[]/\v5=.sl 1 []\/v5=.own 0 (g.length-l2.length) l2.length:=by
       rw[<-hv5,<-ho2];by_cases h:l2.length=0
       ·exact .inl ⟨qQ.1 h,zl h⟩
       ·exact .inr (zj h)
      have hmu5:Jg v5<l2.length+1+1:=by rcases P6 with⟨_,h⟩|h<;>rw[h]<;>simp[Jg];omega
      rw[ho2]at P5;have BZ:(0:Int)<(l2.length:Int)+1:=by omega
      have B6:(0:Int)<(l2.length:Int)+1+1:=by omega
      have q:=fun Y' Z'=>I9 r (hwl r (by rw[<-P4];exact zo X)) Y' Z'
      simp only[jX,Part.V]at q;cases d:(qd r).2
      ·have J:vo w (r::l2)=none:=by unfold vo;rw[zj U,zl ⟨W,hR,by simp⟩];simp only[d];rfl
       have i:yF g.length g=none:=by rw[N];simp only[yF,J];rfl
       rw[i]at m;simp[Kn,H,A,u,B,y,n,EF,EE,B5,E,F,G,K,L,BZ,B6,q,d,qi,qJ,m,Zh,wJ,f132]
      ·have J:vo w (r::l2)=some (er (yG yB w).1 (qd r).1,l2):=by unfold vo;rw[zj U,zl ⟨W,hR,by simp⟩];simp only[d,qh]
       have i:yF g.length g=(yF f' l2).map ((l++[er (yG yB w).1 (qd r).1])++·):=by rw[N];simp only[yF,J];cases yF f' l2<;>simp
       have j:=qR.jc (P:=prog) (t:=191) (c:=[str (yG yB w).1,int (qd r).1.n0,int (qd r).1.n1,int (qd r).1.n2,int (qd r).1.has,.sl 1 (zA (qd r).1.pre),int 0,int 0,int 0,int 0,.nil]) (Q.more (some ⟨197,5,false,[(qd r).1.V]⟩)) Xx Xy Xz XA rfl (by omega) (by unfold maxLen;unfold zD at C;omega) (by unfold zD at C;omega);simp only[Part.V]at j;simp[Kn,H,A,u,B,y,n,EF,EE,B5,E,F,G,K,L,BZ,B6,q,d,j,qi,qJ,zy,zR,zw];exact⟨Zi (v4:=v5) (c:=er (yG yB w).1 (qd r).1) (f':=f') (l':=l2) (l:=l) (xs:=xs) (by omega) (by omega) P5 (by simp) P6 (by simpa using qR.after) (by simp<;>omega) rfl D (by simp) (by simp[M,n0,n1,n2,H]) i,by simpa[Jg]using hmu5⟩
    ·have K:=QA hR;have L:(yG yB w).2.isEmpty=false:=by simpa using hR
     have q:=fun Y' Z'=>I9 (yG yB w).2 R Y' Z'
     simp only[jX,Part.V]at q;cases d:(qd (yG yB w).2).2
     ·have J:vo w l'=none:=by unfold vo;rw[zj U,zj (fun h=>hR h.2.1),zj (by rw[d];simp)]
      have i:yF g.length g=none:=by rw[N];simp only[yF,J];rfl
      rw[i]at m;simp[Kn,H,A,u,B,y,n,E,F,G,K,L,q,d,qi,qJ,m,Zh,wJ,f132]
     ·have J:vo w l'=some (er (yG yB w).1 (qd (yG yB w).2).1,l'):=by unfold vo;rw[zj U,zj (fun h=>hR h.2.1),zl d]
      have i:yF g.length g=(yF f' l').map ((l++[er (yG yB w).1 (qd (yG yB w).2).1])++·):=by rw[N];simp only[yF,J];cases yF f' l'<;>simp
      have j:=qR.jc (P:=prog) (t:=191) (c:=[str (yG yB w).1,int (qd (yG yB w).2).1.n0,int (qd (yG yB w).2).1.n1,int (qd (yG yB w).2).1.n2,int (qd (yG yB w).2).1.has,.sl 1 (zA (qd (yG yB w).2).1.pre),int 0,int 0,int 0,int 0,.nil]) (Q.more (some ⟨197,5,false,[(qd (yG yB w).2).1.V]⟩)) Xx Xy Xz XA rfl (by omega) (by unfold maxLen;unfold zD at C;omega) (by unfold zD at C;omega);simp only[Part.V]at j;simp[Kn,H,A,u,B,y,n,E,F,G,K,L,q,d,j,qi,qJ,zy,zR,zw];exact⟨Zi (v4:=v4) (c:=er (yG yB w).1 (qd (yG yB w).2).1) (f':=f') (l':=l') (l:=l) (xs:=xs) (by omega) (by omega) I (by simp) z (by simpa using qR.after) (by simp<;>omega) rfl D (by simp) (by simp[M,n0,n1,n2,H]) i,by simpa[Jg]using T⟩
theorem bL:zh prog 132 (hP (rQ r8)):=
 ie (fn:=f132) Sz (yt func132) false [] _ fun args r h w S vs a=>by obtain⟨l,rfl,Y,rfl⟩:=qc h;obtain⟨r0,b,c⟩:=dd l Y;exact⟨_,r0,a,by simp[f132],b,c⟩
noncomputable def Dq (s:js) (c:Cut):Bool:=decide (W7 s.lo c<=0)&&(s.Km||decide (W7 c s.hi<0))
def js.small(s:js):Prop:=s.lo.v.small/\s.hi.v.small
theorem lk(x y:Cut)(Y:Hp)(Z:Nat)(a:x.v.small)(b:y.v.small):wE [.g Z8,.g Z8] (Rt fun v w=>int (W7 v w)) [.agg x.V,.agg y.V] Y Z=some (int (W7 x y),Y,Z):=E7 x y (.agg x.V) (.agg y.V) Y Z (rY x) (rY y) (by simp only[zz,ML]) a b
noncomputable abbrev E9:Ctx:=qf prog [(169,wE [.g Z8,.g Z8] (Rt fun v w=>int (W7 v w)))]
theorem MQ:AM.Good E9 (fun g=>[169].contains g):=qI mixed ⟨Z9,fun _=>Z5 _ _,trivial⟩
theorem Dr:zh prog 194 (yc E9 f194):=Zg MQ func194
theorem MR(s:js)(c:Cut)(hs:s.small)(a:c.v.small)(Y:Hp)(Z id:Nat)(hid:id<Z)(b:Y id=some ⟨207,5,false,[c.V]⟩) :
  yc E9 f194 [.agg s.V,.ref id 0 0] Y Z=some (q6 (Dq s c),zI Y Z (some ⟨209,11,false,[s.V]⟩),Z+1):=by
 unfold yc;rw[zl (by simp[f194])];refine vD rfl ?_;have d:=fun Y Z=>lk s.lo c Y Z hs.1 a
 have e:=fun Y Z=>lk c s.hi Y Z a hs.2
 have f:¬id=Z:=by omega
 simp only[Cut.V]at d e b;by_cases g:W7 s.lo c<=0<;>cases h:s.Km <;>
  simp[js.V,Cut.V,d,e,b,f,g,h,Dq,f194]
noncomputable def de (c:Cut):Nat->List js->Int
 |_,[]=>-1
 |k,s::l=>if Dq s c=true then k else de c (k+1) l
theorem uP(c:Cut):∀(l:List js) (k:Nat),decide (0<=de c k l)=l.any (Dq · c)
 |[],k=>by simp[de]
 |s::l,k=>by
  by_cases h:Dq s c=true
  ·have e:de c k (s::l)=k:=by simp only[de,zl h]
   rw[e,VA,h];simp
  ·have e:de c k (s::l)=de c (k+1) l:=by simp only[de,zj h]
   rw[e,uP c l (k+1),VA,Bool.eq_false_iff.2 h];rfl
noncomputable abbrev SA:Ctx:=qf prog [(194,yc E9 f194)]
theorem SB:Gd SA:=qD mixed ⟨Dr,trivial⟩
theorem Hl:zh prog 218 (yc SA f218):=Zg SB func218
def Ru(id:Nat):O:=.fn (.func 194) [] [.ref id 0 0]
def MS(r:O)(Y:Hp)(Z:Nat)(x:O)(Y':Hp)(Z':Nat):Prop:=x=r/\Z<=Z'/\∀j,j<Z->Y' j=Y j
theorem SC(l:List js)(c:Cut)(y:l.length<=zD)(hs:∀s∈l,s.small)(z:c.v.small)(m:Hp)(i id:Nat)(hid:id<i)(A:m id=some ⟨207,5,false,[c.V]⟩) :
  ∃x Y' Z',yc SA f218 [.sl 11 (wv l),Ru id] m i=some (x,Y',Z')/\MS (int (de c 0 l)) m i x Y' Z':=by
 unfold yc;rw[zl (by simp[f218])];refine wB rfl ?_;unfold zD at y;have f:(wv l).length=l.length:=by simp[wv]
 simp[Ru,f];refine qu (fun k σ Y Z=>σ 0=.sl 11 (wv l)/\σ 1=Ru id/\σ 7=int l.length/\σ 8=int k/\i<=Z/\(∀j,j<i->Y j=m j)/\de c 0 l=de c k (l.drop k)) l.length ⟨by simp,by simp[Ru],by simp,by simp,zk _,fun _ _=>rfl,by simp⟩ ?_;rintro k σ Y Z B ⟨o,p,q,r,t,d,e⟩;by_cases b:k<l.length
 ·have w:=q8 k;have a:=MR l[k] c (hs _ (zo b)) z Y Z id (by omega) (by rw[d id hid];exact A);have g:∀h:k<(wv l).length,(wv l)[k]=l[k].V:=fun h=>by simp[wv]
  simp only[js.V,Cut.V,qC,ye]at a g;rw[zg b]at e;simp only[de]at e;cases n:Dq l[k] c
  ·rw[n,zj (by simp)]at e;rw[n]at a;simp[o,p,q,r,Ru,b,f,g,a,w];exact⟨b,by omega,fun j u=>by rw[zT _ _ _ _ (by omega)];exact d j u,e⟩
  ·rw[n,zl rfl]at e;rw[n]at a;simp[o,p,q,r,Ru,b,f,g,a,w,f218];exact⟨by rw[e],by omega,fun j u=>by rw[zT _ _ _ _ (by omega)];exact d j u⟩
 ·obtain rfl:k=l.length:=by omega
  rw[zp]at e;simp only[de]at e;simp[o,p,q,r,f218];exact⟨by rw[e],t,d⟩
noncomputable abbrev SD:Ctx:=qf prog [(218,yc SA f218)]
theorem SE:Gd SD:=qD mixed ⟨Hl,trivial⟩
theorem Hm:zh prog 193 (yc SD f193):=Zg SE func193
noncomputable def J5 (l:List js) (c:Cut):Bool:=l.any (Dq · c)
theorem SF(l:List js)(c:Cut)(e:l.length<=zD)(hs:∀s∈l,s.small)(f:c.v.small)(a:Hp)(b id:Nat)(hid:id<b)(g:a id=some ⟨207,5,false,[c.V]⟩) :
  ∃x Y' Z',yc SD f193 [.sl 11 (wv l),Ru id] a b=some (x,Y',Z')/\MS (q6 (J5 l c)) a b x Y' Z':=by
 unfold yc;rw[zl (by simp[f193])];refine wB rfl ?_;obtain⟨x,Y',Z',d,h,i,j⟩:=SC l c e hs f a b id hid g;subst h;have k:=uP c l 0;simp only[Ru]at d;simp[Ru,d,k,MS,J5,i,f193];exact j
noncomputable abbrev Ccov:Ctx:=qf prog [(193,yc SD f193)]
theorem SH:Gd Ccov:=qD mixed ⟨Hm,trivial⟩
def vp(l:List js):Prop:=l.length<=zD/\∀s∈l,s.small
theorem ll{a b:js}(h:a.V=b.V):a=b:=by obtain⟨⟨⟨s,t,u,v⟩,w⟩,⟨⟨x,y,z,A⟩,g⟩,i⟩:=a;obtain⟨⟨⟨B,C,D,E⟩,F⟩,⟨⟨G,H,I,J⟩,j⟩,k⟩:=b;simp only[js.V,Cut.V,qC,ye,zi,zF]at h;obtain⟨l,m,n,c,o,p,q,r,d,e,f⟩:=h;injection c with _ c;injection d with _ d;rw[qE l,qE m,qE n,kC c,WJ o,qE p,qE q,qE r,kC d,WJ e,WJ f]
theorem af{a b:List js}(h:wv a=wv b):a=b:=jJ (fun _ _ e=>ll e) h
noncomputable def FRC (f:List js->Cut->O):zb->Option O:=qt (α:=List js×Cut) (fun a=>[.sl 11 (wv a.1),.agg a.2.V]) (fun a=>vp a.1/\a.2.v.small) (fun a=>f a.1 a.2)
theorem zcD:∀a b:List js×Cut,[O.sl 11 (wv a.1),.agg a.2.V]=[O.sl 11 (wv b.1),.agg b.2.V]->a=b:=by rintro⟨f,g⟩ ⟨h,i⟩ e;simp only[zi,zF]at e;obtain⟨c,d⟩:=e;injection c with _ c;injection d with d;rw[af c,WL d]
theorem uQ(l:List js)(c:Cut)(a:vp l)(d:c.v.small):zH Ccov f170 [.sl 11 (wv l),.agg c.V]=some (q6 (J5 l c)):=by refine zs rfl ?_;obtain⟨x,Y',Z',b,e,f,g⟩:=SF l c a.1 a.2 d (zI (fun _=>none) 0 (some ⟨207,5,false,[c.V]⟩)) 1 0 (by omega) (by simp);subst e;simp only[Ru,Cut.V]at b;simp[Cut.V,b,jB,f170]
theorem sa:zh prog 170 (wE [.s 11 xP,.g Z8] (FRC fun l c=>q6 (J5 l c))):=
 jC (fn:=f170) SH (yt func170) _ _ fun args r h=>by obtain⟨⟨l,c⟩,rfl,⟨a,b⟩,rfl⟩:=qc h;exact⟨by simp[f170],_,uQ l c a b,yY.refl _⟩
structure TO {α:Type} (c:α->α->Int):Prop where
 refl:∀x,c x x=0
 flip:∀x y,c x y<0↔0<c y x
 tr:∀x y z,c x y<=0->c y z<=0->c x z<=0
theorem TO.le{α:Type}{c:α->α->Int}(h:TO c)(x y:α):c x y<=0↔0<=c y x:=by have:=h.flip y x;omega
theorem TO.eq{α:Type}{c:α->α->Int}(h:TO c)(x y:α):c x y=0↔c y x=0:=by have a:=h.flip y x;have b:=h.flip x y;omega
theorem TO.trans{α:Type}{c:α->α->Int}(h:TO c){x y z:α}(e:c x y<0)(b:c y z<0):c x z<0:=by
 have d:=h.tr x y z (by omega) (by omega);rcases Int.lt_or_eq_of_le d with a|a
 ·exact a
 ·have f:=(h.eq x z).1 a;have g:=h.tr z x y (by omega) (by omega);have:=(h.flip y z).1 b;omega
theorem TO.ntrans{α:Type}{c:α->α->Int}(h:TO c){x y z:α}(a:0<=c x y)(b:0<=c y z):0<=c x z:=
 (h.le z x).1 (h.tr z y x ((h.le z y).2 b) ((h.le y x).2 a))
theorem TO.pull{α a:Type}{c:a->a->Int}(h:TO c)(f:α->a):TO fun x y=>c (f x) (f y):=⟨fun _=>h.refl _,fun _ _=>h.flip _ _,fun _ _ _=>h.tr _ _ _⟩
def xm{α:Type}(c d:α->α->Int)(x y:α):Int:=if c x y=0 then d x y else c x y
theorem TO.lex{α:Type}{c d:α->α->Int}(f:TO c)(hd:TO d):TO (xm c d) where
 refl x:=by simp[xm,f.refl,hd.refl]
 flip x y:=by
  unfold xm;have g:=f.flip x y;have i:=f.flip y x;have l:=hd.flip x y;by_cases h:c x y=0
  ·rw[zl h,zl ((f.eq x y).1 h)];exact l
  ·rw[zj h,zj (fun e=>h ((f.eq x y).2 e))];exact g
 tr x y z:=by
  unfold xm;intro g i;by_cases a:c x y=0<;>by_cases b:c y z=0
  ·rw[zl a]at g;rw[zl b]at i;have j:=f.tr x y z (by omega) (by omega);have k:=f.tr z y x (by have:=(f.eq y z).1 b;omega) (by have:=(f.eq x y).1 a;omega);have m:=(f.le z x).1 k;rw[zl (by omega)];exact hd.tr x y z g i
  ·rw[zj b]at i;have j:=f.tr x y z (by omega) i;by_cases e:c x z=0
   ·exfalso;have k:=f.tr z x y (by have:=(f.eq x z).1 e;omega) (by omega);have:=(f.flip y z).1 (by omega);omega
   ·rw[zj e];exact j
  ·rw[zj a]at g;have j:=f.tr x y z g (by omega);by_cases e:c x z=0
   ·exfalso;have k:=f.tr y z x (by omega) (by have:=(f.eq x z).1 e;omega);have:=(f.flip x y).1 (by omega);omega
   ·rw[zj e];exact j
  ·rw[zj a]at g;rw[zj b]at i;have:=f.trans (x:=x) (y:=y) (z:=z) (by omega) (by omega);rw[zj (by omega)];omega
theorem fR{α:Type}{c:α->α->Int}(h:TO c):TO (jg c) where
 refl l:=by
  induction l with
  |nil=>rfl
  |cons x l f=>simp[jg,h.refl,f]
 flip a b:=by
  induction a generalizing b with
  |nil=>cases b<;>simp[jg]
  |cons x a f=>
   cases b with
   |nil=>simp[jg]
   |cons y b=>
    simp only[jg];by_cases e:c x y=0
    ·rw[zl e,zl ((h.eq x y).1 e)];exact f b
    ·rw[zj e,zj (fun m=>e ((h.eq x y).2 m))];exact h.flip x y
 tr a b d:=by
  induction a generalizing b d with
  |nil=>cases d<;>simp[jg]
  |cons x a f=>
   cases b with
   |nil=>simp[jg]
   |cons y b=>
    cases d with
    |nil=>simp[jg]
    |cons z d=>
     simp only[jg];intro g i;by_cases p:c x y=0<;>by_cases q:c y z=0
     ·rw[zl p]at g;rw[zl q]at i;have j:=h.tr x y z (by omega) (by omega);have k:=h.tr z y x (by have:=(h.eq y z).1 q;omega) (by have:=(h.eq x y).1 p;omega);have n:=(h.le z x).1 k;rw[zl (by omega)];exact f b d g i
     ·rw[zj q]at i;have j:=h.tr x y z (by omega) i;by_cases e:c x z=0
      ·exfalso;have k:=h.tr z x y (by have:=(h.eq x z).1 e;omega) (by omega);have:=(h.flip y z).1 (by omega);omega
      ·rw[zj e];exact j
     ·rw[zj p]at g;have j:=h.tr x y z g (by omega);by_cases e:c x z=0
      ·exfalso;have k:=h.tr y z x (by omega) (by have:=(h.eq x z).1 e;omega);have:=(h.flip x y).1 (by omega);omega
      ·rw[zj e];exact j
     ·rw[zj p]at g;rw[zj q]at i;have:=h.trans (x:=x) (y:=y) (z:=z) (by omega) (by omega);rw[zj (by omega)];omega
theorem ZA:TO yO:=⟨fun x=>by simp[yO],fun x y=>by unfold yO;split<;>split<;>(try split)<;>omega,fun x y z=>by unfold yO;repeat' split<;>omega⟩
theorem uR:∀a b:za,jU a b=jg (fun x y:UInt8=>yO x.toNat y.toNat) a b
 |[],[]=>rfl
 |[],_::_=>rfl
 |_::_,[]=>rfl
 |x::a,y::b=>by
  have f:=uR a b;simp only[jg];unfold jU at f⊢;simp only[Lib.compareBytes];rcases Nat.lt_trichotomy x.toNat y.toNat with h|h|h
  ·have c:x<y:=h;have e:yO x.toNat y.toNat=-1:=by unfold yO;rw[zl (by omega)]
   simp[c,e]
  ·have e:yO x.toNat y.toNat=0:=by unfold yO;rw[zj (by omega),zj (by omega)]
   have c:¬x<y:=by show¬x.toNat<y.toNat;omega
   have d:¬y<x:=by show¬y.toNat<x.toNat;omega
   simp[c,d,e,f]
  ·have c:¬x<y:=by show¬x.toNat<y.toNat;omega
   have d:y<x:=h;have e:yO x.toNat y.toNat=1:=by unfold yO;rw[zj (by omega),zl (by omega)]
   simp[c,d,e]
theorem ZB:TO jU:=by
 have:jU=jg (fun x y:UInt8=>yO x.toNat y.toNat):=by funext a b;exact uR a b
 rw[this];exact fR (ZA.pull fun x:UInt8=>(x.toNat:Int))
noncomputable def df (a:za):Int×Int×za×za:=if XF a=true then(0,(Lib.trimLeftB a 48).length,Lib.trimLeftB a 48,[])else(1,0,[],a)
theorem uS(a b:za):jw a b=xm (fun x y=>yO x.1 y.1) (xm (fun x y=>yO x.2.1 y.2.1) (xm (fun x y=>jU x.2.2.1 y.2.2.1) fun x y=>jU x.2.2.2 y.2.2.2)) (df a) (df b):=by
 unfold jw df xm;have r:=ZB.refl [];have e:yO 0 0=0:=rfl;have f:yO 1 1=0:=rfl;by_cases c:XF a=true<;>by_cases d:XF b=true
 ·simp only[c,d,qh,e,r,iU]
 ·simp[c,d,yO]
 ·simp[c,d,yO]
 ·simp[c,d,e,f,r]
theorem Dt:TO jw:=by
 have:jw=fun a b=>xm (fun x y=>yO x.1 y.1) (xm (fun x y=>yO x.2.1 y.2.1) (xm (fun x y=>jU x.2.2.1 y.2.2.1) fun x y=>jU x.2.2.2 y.2.2.2)) (df a) (df b):=by funext a b;exact uS a b
 rw[this];exact TO.pull (TO.lex (ZA.pull fun x:Int×Int×za×za=>x.1) (TO.lex (ZA.pull fun x:Int×Int×za×za=>x.2.1) (TO.lex (ZB.pull fun x:Int×Int×za×za=>x.2.2.1) (ZB.pull fun x:Int×Int×za×za=>x.2.2.2)))) df
def bM(v:vh):Int:=if v.pre.length=0 then 1 else 0
theorem MT(v w:vh):Xc v w=xm (fun x y=>yO x.a y.a) (xm (fun x y=>yO x.b y.b) (xm (fun x y=>yO x.c y.c) (xm (fun x y=>yO (bM x) (bM y)) fun x y=>jg jw x.pre y.pre))) v w:=by
 unfold Xc xm;by_cases d:yO v.a w.a=0
 ·by_cases e:yO v.b w.b=0
  ·by_cases f:yO v.c w.c=0
   ·simp only[iU,d,e,f,qh];by_cases p:v.pre.length=0<;>by_cases q:w.pre.length=0
    ·have g:v.pre=[]:=qQ.1 p;have h:w.pre=[]:=qQ.1 q;simp[bM,p,q,yO,g,h,jg]
    ·simp[bM,p,q,yO]
    ·simp[bM,p,q,yO]
    ·simp[bM,p,q,yO]
   ·simp[iU,d,e,f]
  ·simp[iU,d,e]
 ·simp[iU,d]
theorem zaD:TO Xc:=by
 have:Xc=xm (fun x y=>yO x.a y.a) (xm (fun x y=>yO x.b y.b) (xm (fun x y=>yO x.c y.c) (xm (fun x y=>yO (bM x) (bM y)) fun x y=>jg jw x.pre y.pre))):=by funext a b;exact MT a b
 rw[this];exact TO.lex (ZA.pull fun x:vh=>x.a) (TO.lex (ZA.pull fun x:vh=>x.b) (TO.lex (ZA.pull fun x:vh=>x.c) (TO.lex (ZA.pull bM) ((fR Dt).pull fun x:vh=>x.pre))))
def Hn(c:Cut):Int:=if c.after=true then 1 else 0
theorem MU(a b:Cut):W7 a b=xm (fun x y=>Xc x.v y.v) (fun x y=>yO (Hn x) (Hn y)) a b:=by
 unfold W7 xm;by_cases h:Xc a.v b.v=0
 ·simp only[h,qh];cases c:a.after<;>cases d:b.after<;>simp[Hn,c,d,yO]
 ·simp[h]
theorem gv:TO W7:=by
 have:W7=xm (fun x y=>Xc x.v y.v) (fun x y=>yO (Hn x) (Hn y)):=by funext a b;exact MU a b
 rw[this];exact TO.lex (zaD.pull fun x:Cut=>x.v) (ZA.pull Hn)
end Go.Q
namespace Go.Q
open Classical in
noncomputable def MV (x y:zb):Int:=if h:∃a b:Cut,x=a.V/\y=b.V then W7 (Classical.choose h) (Classical.choose (yz h))else 0
theorem WB(a b:Cut):MV a.V b.V=W7 a b:=by have h:∃c d:Cut,a.V=c.V/\b.V=d.V:=⟨a,b,rfl,rfl⟩;unfold MV;rw[dif_pos h];have e:=yz (yz h);exact congr (jy W7 (WL e.1).symm) (WL e.2).symm
def jM(l:List Cut):List zb:=l.map Cut.V
theorem MW(l:List Cut):Yl MV (jM l) where
 irrefl x d:=by obtain⟨a,_,rfl⟩:=zZ.1 d;rw[WB,gv.refl];exact Int.le_refl _
 trans x d y e z f:=by obtain⟨a,_,rfl⟩:=zZ.1 d;obtain⟨b,_,rfl⟩:=zZ.1 e;obtain⟨c,_,rfl⟩:=zZ.1 f;rw[WB,WB,WB];exact gv.trans
 ntrans x d y e z f:=by obtain⟨a,_,rfl⟩:=zZ.1 d;obtain⟨b,_,rfl⟩:=zZ.1 e;obtain⟨c,_,rfl⟩:=zZ.1 f;rw[WB,WB,WB];exact gv.ntrans
def SI(x:zb):Prop:=∃a:Cut,x=a.V/\a.v.small
theorem zcE:EU prog 169 5 MV SI:=by
 refine⟨fun args w=>?_,_,Z9,fun x y _ _ c d=>?_⟩
 ·have h:prog.funcs[169]?=some f169:=func169;simp[callFunc,h,f169]
 ·obtain⟨a,rfl,e⟩:=c;obtain⟨b,rfl,f⟩:=d;rw[WB];exact lk a b _ _ e f
open Classical in
noncomputable def Du (x:zb):Cut:=if h:∃a:Cut,x=a.V then Classical.choose h else jF
theorem MX(a:Cut):Du a.V=a:=by have h:∃c:Cut,a.V=c.V:=⟨a,rfl⟩;unfold Du;rw[dif_pos h];exact(WL (yz h)).symm
theorem bN(l:List Cut):(jM l).map Du=l:=by
 induction l with
 |nil=>rfl
 |cons a l b=>show Du a.V::(jM l).map Du=_;rw[MX,b]
theorem eu(l:List Cut):∃s:List Cut,Zf MV (jM l)=jM s/\s.Perm l/\s.Pairwise fun a b=>W7 a b<=0:=by
 have Y:=WW (MW l);have hs:=JL (MW l);have c:∀(r:List zb),(∀x∈r,∃a:Cut,x=a.V)->∃s:List Cut,r=jM s:=by
  intro r
  induction r with
  |nil=>intro _;exact⟨[],rfl⟩
  |cons x r d=>
   intro h;obtain⟨a,rfl⟩:=h x (by simp);obtain⟨s,rfl⟩:=d fun y f=>h y (by simp[f])
   exact⟨a::s,rfl⟩
 obtain⟨s,e⟩:=c (Zf MV (jM l)) fun x g=>by have:=Y.mem_iff.1 g;obtain⟨a,_,rfl⟩:=zZ.1 this;exact⟨a,rfl⟩
 rw[e]at Y hs;refine⟨s,e,?_,?_⟩
 ·have:=Y.map Du;rwa [bN,bN]at this
 ·rw[jM,F5]at hs;refine hs.imp fun{a b} h=>?_
  rw[WB]at h;exact(gv.le a b).2 h
end Go.Q
namespace Go.Q
def YB(out:List js)(c:Cut):List js:=match out.getLast? with
 |some s=>out.dropLast++[⟨s.lo,c,false⟩]
 |none=>out
def Ho(a:Cut->Bool)(st:Bool×List js)(c:Cut):Bool×List js:=(a c,if(a c&&!st.1)=true then st.2++[vg c]else if(!a c&&st.1)=true then YB st.2 c else st.2)
def tq(a:Cut->Bool)(l:List Cut)(st:Bool×List js):Bool×List js:=l.foldl (Ho a) st
def yN:List js->List Cut
 |[]=>[]
 |s::l=>(if s.Km=true then[s.lo]else[s.lo,s.hi])++yN l
theorem YW(a b:List js):yN (a++b)=yN a++yN b:=by
 induction a with
 |nil=>rfl
 |cons s a c=>simp only[qC,yN,c,z8]
theorem Ya(a:List js):(yN a).length<=2*a.length:=by
 induction a with
 |nil=>simp[yN]
 |cons s a b=>simp only[yN,zt,ze];split<;>simp<;>omega
theorem ag{Q:Cut->Prop}{a:List js}(h:∀s∈a,Q s.lo/\Q s.hi):∀c∈yN a,Q c:=by
 induction a with
 |nil=>intro c hc;cases hc
 |cons s a d=>
  intro c hc;obtain⟨b,e⟩:=h s (by simp);simp only[yN,wy]at hc;rcases hc with hc|hc
  ·split at hc
   ·rw[yf]at hc;rw[hc];exact b
   ·simp only[zx,wu,or_false]at hc;rcases hc with rfl|rfl
    ·exact b
    ·exact e
  ·exact d (fun x f=>h x (by simp[f])) c hc
noncomputable def YX (l:List Cut):List Cut:=(Zf MV (jM l)).map Du
theorem Dv(l:List Cut):Zf MV (jM l)=jM (YX l):=by obtain⟨s,h,_⟩:=eu l;unfold YX;rw[h,bN]
theorem QY(l:List Cut):(YX l).Perm l:=by obtain⟨s,h,a,_⟩:=eu l;unfold YX;rw[h,bN];exact a
noncomputable def Jh (f:Bool->Bool->Bool) (a b:List js):List js:=(tq (fun c=>f (J5 a c) (J5 b c)) (YX (yN a++yN b)) (false,[])).2
theorem uT(out:List js)(c:Cut):(YB out c).length=out.length:=by
 unfold YB;split
 ·rename_i s h;have:out≠[]:=by rintro rfl;cases h
  have:=KF.2 this;simp;omega
 ·rfl
theorem Fa(a:Cut->Bool):∀(l:List Cut) (st:Bool×List js),2*(tq a l st).2.length+(if st.1=true then 1 else 0)<=2*st.2.length+l.length+(if(tq a l st).1=true then 1 else 0)
 |[],st=>by show 2*st.2.length+(if st.1=true then 1 else 0)<=2*st.2.length+0+(if st.1=true then 1 else 0);omega
 |c::l,st=>by
  have b:=Fa a l (Ho a st c);have e:tq a (c::l) st=tq a l (Ho a st c):=rfl;rw[e];have hs:2*(Ho a st c).2.length+(if st.1=true then 1 else 0)<=2*st.2.length+1+(if(Ho a st c).1=true then 1 else 0):=by obtain⟨o,out⟩:=st;unfold Ho;cases a c<;>cases o<;>simp[uT]<;>omega
  simp only[ze];omega
theorem oK(f:Bool->Bool->Bool)(a b:List js):(Jh f a b).length<=a.length+b.length:=by have h:=Fa (fun c=>f (J5 a c) (J5 b c)) (YX (yN a++yN b)) (false,[]);have d:=(QY (yN a++yN b)).length_eq;have e:=Ya a;have g:=Ya b;rw[zt]at d;unfold Jh;simp only[zv,qz,zf]at h;split at h<;>omega
theorem uU{Q:Cut->Prop}{out:List js}{c:Cut}(h:∀s∈out,Q s.lo/\Q s.hi)(b:Q c):∀s∈YB out c,Q s.lo/\Q s.hi:=by
 unfold YB;split
 ·rename_i s hs;intro x a;rcases wy.1 a with a|a
  ·exact h x (List.dropLast_subset _ a)
  ·rw[yf]at a;rw[a];exact⟨(h s (List.mem_of_getLast? hs)).1,b⟩
 ·exact h
theorem Fb{Q:Cut->Prop}(b:Q Jy)(a:Cut->Bool):∀(l:List Cut) (st:Bool×List js),(∀c∈l,Q c)->(∀s∈st.2,Q s.lo/\Q s.hi)->∀s∈(tq a l st).2,Q s.lo/\Q s.hi
 |[],st,_,h=>h
 |c::l,st,d,h=>by
  refine Fb b a l (Ho a st c) (fun x f=>d x (by simp[f])) ?_;have e:=d c (by simp);unfold Ho;dsimp only;split
  ·intro s hs;rcases wy.1 hs with hs|hs
   ·exact h s hs
   ·rw[yf]at hs;rw[hs];exact⟨e,b⟩
  ·split
   ·exact uU h e
   ·exact h
theorem Hq{Q:Cut->Prop}(d:Q Jy)(f:Bool->Bool->Bool){a b:List js}(e:∀s∈a,Q s.lo/\Q s.hi)(g:∀s∈b,Q s.lo/\Q s.hi):∀s∈Jh f a b,Q s.lo/\Q s.hi:=
 Fb d _ _ _ (fun c i=>by
  have:=(QY _).mem_iff.1 i;rcases wy.1 this with h|h
  ·exact ag e c h
  ·exact ag g c h) (fun s hs=>by cases hs)
end Go.Q
namespace Go.AM
variable{dr:Prop}
def lp(p:List (Option Nat))(b:Blk):Blk:=⟨b.e,b.s,b.arr,b.es.map (Ym p)⟩
theorem kb.fixed{P:Program}{w:World}{S:Nat->Prop}{G:Nat->GI}{Z:Nat}{k:GI}{b:Blk}(h:kb P w S G Z k b)(f:0<k.s)(o:b.arr=true)(p:List (Option Nat)):kb P w S G Z k (lp p b):=by
 refine kb.kG f h.bs ⟨h.size f,fun c q=>?_,by simpa[lp]using h.fit f,?_⟩
 ·obtain⟨a,d,rfl⟩:=zZ.1 q;rw[vC];exact h.len f a d
 ·obtain⟨cur,r,t,v⟩:=h.row f;refine⟨cur,r,t,fun i j c A e l=>?_⟩;simp only[lp,qq]at e;obtain⟨a,d,rfl⟩:∃a,b.es[i]?=some a/\Ym p a=c:=by
   cases m:b.es[i]? with
   |none=>rw[m]at e;cases e
   |some a=>rw[m]at e;injection e with e;exact⟨a,rfl,e⟩
  have g:j<a.length:=by have:=(zd.1 l).1;rwa [vC]at this
  obtain⟨u,x,y,_,z⟩:=v i j a a[j] d (zm g);have n:=(xL p a).get (zm g) l _ _ _ (y o);exact⟨u,x,fun _=>n,.c n,z⟩
theorem kd.fixed{P:Program}{Y:Hp}{Z:Nat}{S:Nat->Prop}{G:Nat->GI}{w:World}{Y2:Hp}{g:Nat}{m:Nat->Prop}{j:Nat->GI}{n:World}(k:kd dr P Y Z S G w Y2 g m j n)
  {id:Nat} {b:Blk} (o:Y2 id=some b) (r:b.arr=true) (t:0<(j id).s) (p:List (Option Nat)):kd dr P Y Z S G w (zI Y2 id (some (lp p b))) g m j n:=by
 have d:∀k c,zI Y2 id (some (lp p b)) k=some c->∃f,Y2 k=some f:=fun k c q=>by
  by_cases e:k=id
  ·subst e;exact⟨b,o⟩
  ·rw[zc _ _ _ _ e]at q;exact⟨c,q⟩
 refine⟨⟨k.inv.st,fun i c a=>?_,fun i c a=>?_,fun i c a=>?_,fun i i' c u a l v=>?_,k.inv.aH⟩,k.up,k.loc,k.kO,k.from_,fun i c a=>?_,k.fr⟩
 ·obtain⟨f,h⟩:=d i c a;exact k.inv.top i f h
 ·by_cases e:i=id
  ·subst e;rw[qU]at a;injection a with a
   subst a;exact(k.inv.live i b o).fixed t r p
  ·rw[zc _ _ _ _ e]at a;exact k.inv.live i c a
 ·obtain⟨f,h⟩:=d i c a;exact k.inv.apart i f h
 ·obtain⟨f,h⟩:=d i c a;obtain⟨x,y⟩:=d i' u l;exact k.inv.inj i i' f x h y v
 ·obtain⟨f,h⟩:=d i c a;exact k.own i f h
def VZ(a:List Sh)(F:zb->Option (Option Blk)):AM.Spec:=j5 [] fun args=>F (eY a args)
def MY(p:List (Option Nat))(r:Option Blk)(x:O)(Y:Hp)(_:Nat):Prop:=match r with
 |none=>x=.nil
 |some b=>∃id a,x=.own id 0 a.es.length/\Y id=some a/\a.arr=true/\b=lp p a
section
variable{C:Ctx}{pf:FuncId->Bool}{f:FuncId}{fn:Func}{code:Code}
theorem nC(R:kl dr C pf)(l:XY C pf f fn)(z:List Sh)(p:List (Option Nat))(F:zb->Option (Option Blk))(T:∀args r,F args=some r->args.length<=fn.ntmps/\∃x Y Z,yR C fn args (fun _=>none) 0=some (x,Y,Z)/\MY p r x Y Z) :
  jl dr C.P f (VZ z F):=by
 obtain⟨_,l⟩:=l;refine⟨⟨fn,l.func,l.name,by rw[l.body];rfl⟩,?_⟩;intro args Y Z r Y' Z' h w S G vs W X;unfold VZ j5 at h;split at h
 ·rename_i aZ Y1 A;obtain⟨S1,g,t,_⟩:=yW (dr:=dr) W A X;have j:∀id b,Y1 id=some b->Y1 id=some b/\¬False:=fun id b h=>⟨h,fun h=>h⟩
  split at h
  ·rename_i m;obtain⟨B,x,hpe,nxe,n,d⟩:=T _ none m;injection h with h
   injection h with E h;injection h with H I;subst E;subst H;subst I;simp only[MY]at d;subst d;refine(ZD R l n B g.inv.st g.inv.aH (Ja (Z2 t))).mono fun e w' J=>?_
   obtain⟨v,S',G',K,L,a,M,o,q,_⟩:=J;have N:=VN (dr:=dr) (D:=fun _=>False) (Y2:=Y1) g.inv j (fun _ h=>h.elim) L a o (fun b Q=>(q b Q).imp (fun h=>h) .inr);have:=M.xV;subst this;exact⟨_,_,_,K,g.trans N,.c .nil⟩
  ·rename_i b m;obtain⟨B,x,hpe,nxe,n,d⟩:=T _ (some b) m;injection h with h
   injection h with E h;injection h with H I;subst E;subst H;subst I;obtain⟨id,s,rfl,hid,k,rfl⟩:=d;refine(ZD R l n B g.inv.st g.inv.aH (Ja (Z2 t))).mono fun e w' J=>?_
   obtain⟨v,S',G',K,L,a,M,o,q,u⟩:=J;have N:=gZ (dr:=dr) (D:=fun _=>False) (Y2:=Y1) g.inv j (fun _ h=>h.elim) L a o (fun b Q=>(q b Q).imp (fun h=>h) .inr) hid k (.inr (u id s hid));have y:=hC (Z:=Z) (G:=G) M;have U:=N.fixed (id:=Z) (by simp) k y.xl p;rw[show zI (zI Y1 Z (some s)) Z (some (lp p s))=zI Y1 Z (some (lp p s)) by funext i;unfold zI;split<;>rfl]at U;refine⟨_,_,_,K,g.trans U,?_⟩;rw[show(lp p s).es.length=s.es.length by simp[lp]];exact y
  ·cases h
 ·cases h
end
end Go.AM
namespace Go.Proofs
open Go.Shelf
def Tryz.IW:Go.Shelf.Ren:=⟨fun|6=>168|15=>191|14=>190|28=>215|29=>103|20=>207|21=>208|22=>209|23=>210|24=>211|25=>212|26=>213|27=>214|46=>233|47=>234|48=>235|49=>236|50=>237|57=>248|n=>n,fun|22=>236|24=>207|25=>239|3=>3|39=>163|0=>0|53=>161|55=>129|4=>4|46=>275|45=>274|50=>119|5=>5|9=>9|66=>288|70=>292|76=>305|77=>102|n=>n,fun|n=>n⟩
theorem Tryz.zbx:Go.Proofs.SlLaysF0.n6 prog Tryz.IW:={
 mixed:=by kernel_rfl
 f6:=⟨f168.name,by decide,yn func168⟩
 f14:=⟨f190.name,by decide,yn func190⟩
 f15:=yn func191
 f20:=⟨f207.name,by decide,yn func207⟩
 f21:=⟨f208.name,by decide,yn func208⟩
 f22:=⟨f209.name,by decide,yn func209⟩
 f23:=⟨f210.name,by decide,yn func210⟩
 f24:=⟨f211.name,by decide,yn func211⟩
 f25:=⟨f212.name,by decide,yn func212⟩
 f26:=⟨f213.name,by decide,yn func213⟩
 f27:=⟨f214.name,by decide,yn func214⟩
 f28:=yn func215
 f29:=yn func103
 f46:=⟨f233.name,by decide,yn func233⟩
 f47:=yn func234
 f48:=yn func235
 f49:=⟨f236.name,by decide,yn func236⟩
 f50:=⟨f237.name,by decide,yn func237⟩
 f57:=⟨f248.name,by decide,yn func248⟩
 t0:=underlying0
 a0:=isAgg0
 z0:=sizeOf0
 v0:=zeroValue0
 t3:=underlying3
 a3:=isAgg3
 z3:=sizeOf3
 v3:=zeroValue3
 t4:=underlying4
 a4:=isAgg4
 z4:=sizeOf4
 v4:=zeroValue4
 t5:=underlying5
 a5:=isAgg5
 z5:=sizeOf5
 v5:=zeroValue5
 t9:=underlying9
 a9:=isAgg9
 z9:=sizeOf9
 v9:=zeroValue9
 t22:=underlying236
 a22:=isAgg236
 z22:=sizeOf236
 v22:=zeroValue236
 t25:=underlying239
 a25:=isAgg239
 z25:=sizeOf239
 v25:=zeroValue239
 t39:=underlying163
 a39:=isAgg163
 z39:=sizeOf163
 v39:=zeroValue163
 t45:=underlying274
 a45:=isAgg274
 z45:=sizeOf274
 v45:=zeroValue274
 t46:=underlying275
 a46:=isAgg275
 z46:=sizeOf275
 v46:=zeroValue275
 t50:=underlying119
 a50:=isAgg119
 z50:=sizeOf119
 v50:=zeroValue119
 t53:=underlying161
 a53:=isAgg161
 z53:=sizeOf161
 v53:=zeroValue161
 t55:=underlying129
 a55:=isAgg129
 z55:=sizeOf129
 v55:=zeroValue129
 t66:=underlying288
 a66:=isAgg288
 z66:=sizeOf288
 v66:=zeroValue288
 t70:=underlying292
 a70:=isAgg292
 z70:=sizeOf292
 v70:=zeroValue292
 t76:=underlying305
 a76:=isAgg305
 z76:=sizeOf305
 v76:=zeroValue305
 t77:=underlying102
 a77:=isAgg102
 z77:=sizeOf102
 v77:=zeroValue102}
theorem Tryz.P7:rA prog 168 5:=⟨fun _ _ V e f h i g blk off cap d w j a k b c=>AnyQ.slices_SortFunc_eq Tryz.zbx 5 isAgg207 sizeOf207 V e f h i g #[] blk off cap d w j a k b c,
 fun p cap l w=>AnyF.slices_SortFunc_none Tryz.zbx p cap l w⟩
end Go.Proofs
namespace Go.Q
theorem lq:zh prog 168 (Y9 5 169 MV SI):=
 KX (by decide) ⟨_,func168,by kernel_rfl,by kernel_rfl⟩ Tryz.P7 zcE
noncomputable def FBB (f:Bool->Bool->Bool):zb->Option O:=qt (α:=Bool×Bool) (fun a=>[q6 a.1,q6 a.2]) (fun _=>True) (fun a=>q6 (f a.1 a.2))
theorem uW(f:Bool->Bool->Bool)(a b:Bool)(Y:Hp)(Z:Nat):hP (FBB f) [q6 a,q6 b] Y Z=some (q6 (f a b),Y,Z):=
 aK (a,b) _ _ rfl (fun x y e=>by obtain⟨c,d⟩:=x;obtain⟨g,h⟩:=y;simp only[zi,zF]at e;rw[WJ e.1,WJ e.2]) trivial (.inl rfl)
theorem uX:zh prog 136 (hP (FBB and)):=
 Z3 ku func136 false [] fun⟨a,b⟩ _=>⟨by simp[f136],_,zs rfl (by cases a<;>simp[jB,f136]),qP _⟩
theorem Dw:zh prog 137 (hP (FBB or)):=
 Z3 ku func137 false [] fun⟨a,b⟩ _=>⟨by simp[f137],_,zs rfl (by cases a<;>simp[jB,f137]),qP _⟩
theorem nD{Y:Hp}{Z:Nat}{v:O}{l:List Cut}(h:qR Y Z 207 5 v (jM l))(hs:∀c∈l,c.v.small)(k:l.length<4611686018427387904) :
  ∃Y',Y9 5 169 MV SI [v,.fn (.func 169) [] []] Y Z=some (.qZ [],Y',Z)/\qR Y' Z 207 5 v (jM (YX l))/\∀j,(∀n,v≠.own j 0 n)->Y' j=Y j:=by
 have a:(jM (YX l)).length=(jM l).length:=by have:=(QY l).length_eq;simpa[jM]using this
 rcases h with⟨rfl,m⟩|⟨id,f,rfl,b⟩
 ·refine⟨Y,rfl,.inl ⟨rfl,?_⟩,fun _ _=>rfl⟩;rw[m]at a;exact qQ.1 a
 ·by_cases d:(jM l).length=0
  ·refine⟨Y,by simp only[Y9,zl d],?_,fun _ _=>rfl⟩;have g:jM l=[]:=qQ.1 d;rw[g]at a b;have o:=qQ.1 a;rw[g,o];exact .inr ⟨id,f,rfl,b⟩
  ·refine⟨zI Y id (some ⟨207,5,true,jM (YX l)⟩),?_,.inr ⟨id,f,by rw[a],by simp⟩,fun j p=>zT _ _ _ _ fun e=>p (jM l).length (by subst e;rfl)⟩;unfold Y9;simp only[zj d,b];rw[zl ⟨rfl,rfl,rfl,by simp,by simpa[jM]using k,by simpa using MW l,fun x i=>by simp only[w8,wq]at i;obtain⟨c,q,rfl⟩:=zZ.1 i;exact⟨c,rfl,hs c q⟩⟩]
   simp[Dv]
theorem Hr{c:zb}{s:js}(h:Ym xP c=s.V):∃d k l m n o e,c=[int s.lo.v.a,int s.lo.v.b,int s.lo.v.c,d,q6 s.lo.after,k,l,m,n,o,e]/\n1 1 d=.sl 1 (zA s.lo.v.pre)/\d.wY=true:=by
 have f:=vC xP c;rw[h]at f;simp[js.V,Cut.V]at f
 match c,f with
 |[B,C,D,i,E,p,q,r,t,u,g],_=>simp[js.V,Cut.V]at h;obtain⟨w,x,y,j,z,F,G,H,I,J,A⟩:=h;subst w;subst x;subst y;subst z;refine⟨i,p,q,r,t,u,g,rfl,j,?_⟩;cases i<;>first|rfl|(simp[n1]at j)
theorem uY{out:List js}{m:Nat}(b:m<out.length)(h:out.length=m+1)(c:Cut):YB out c=out.set m ⟨out[m].lo,c,false⟩:=by
 unfold YB;have a:out≠[]:=by rintro rfl;simp at b
 rw[List.getLast?_eq_some_getLast a];have d:out.getLast a=out[m]:=by rw[List.getLast_eq_getElem];congr 1;omega
 simp only[d];apply List.ext_getElem
 ·simp;omega
 ·intro i f g;rw[List.getElem_set];split
  ·rename_i e;subst e;rw[List.getElem_append_right (by simp;omega)];simp
  ·rw[List.getElem_append_left (by simp at f⊢;omega)];simp
theorem MZ(a:Cut->Bool)(st:Bool×List js)(c:Cut)(h:st.1=true->st.2≠[]):(Ho a st c).1=true->(Ho a st c).2≠[]:=by obtain⟨o,out⟩:=st;unfold Ho;cases a c<;>cases o<;>simp at h⊢<;>assumption
theorem uZ(l:List js)(c:Cut)(Y:Hp)(Z:Nat)(b:vp l)(d:c.v.small):wE [.s 11 xP,.g Z8] (FRC fun l c=>q6 (J5 l c)) [.sl 11 (wv l),.agg c.V] Y Z=some (q6 (J5 l c),Y,Z):=
 xw (show zz Y [.sl 11 (wv l),.agg c.V]=some ([.sl 11 (wv l),.agg c.V],Y) by simp[Cut.V]) (by
  have e:(Sh.s 11 xP).fix (.sl 11 (wv l))=.sl 11 (wv l):=by simp only[Sh.PY,wv,ta];congr 1
  have f:(Sh.g Z8).fix (.agg c.V)=.agg c.V:=by simp[Cut.V]
  show FRC _ [(Sh.s 11 xP).fix (.sl 11 (wv l)),(Sh.g Z8).fix (.agg c.V)]=_;rw[e,f];exact qj (V:=fun a:List js×Cut=>[O.sl 11 (wv a.1),.agg a.2.V]) (a:=(l,c)) zcD ⟨b,d⟩) (.inl rfl)
noncomputable abbrev Ccmb:Ctx:=qf prog [(168,Y9 5 169 MV SI),(170,wE [.s 11 xP,.g Z8] (FRC fun l c=>q6 (J5 l c))),
 (136,hP (FBB and)),(137,hP (FBB or))]
theorem SJ:AM.Good Ccmb (fun g=>[170].contains g):=qI mixed ⟨lq,by simp,sa,fun _=>Z5 _ _,uX,by simp,Dw,by simp,trivial⟩
theorem Hs{l:List js}{k:Nat}(h:k<l.length):yN (l.take (k+1))=yN (l.take k)++(if l[k].Km=true then[l[k].lo]else[l[k].lo,l[k].hi]):=by rw[qb h,YW];simp[yN]
theorem M0(a:Cut->Bool){l:List Cut}{k:Nat}(h:k<l.length)(st:Bool×List js):tq a (l.take (k+1)) st=Ho a (tq a (l.take k) st) l[k]:=by unfold tq;rw[qb h,List.foldl_append];rfl
theorem Ht(a b:List Cut):jM (a++b)=jM a++jM b:=by simp[jM]
noncomputable def K7 (f:Bool->Bool->Bool) (a b:List js):Option Blk:=if Jh f a b=[]then none else some ⟨209,11,true,wv (Jh f a b)⟩
theorem Hu(i o n:Nat)(Y:Hp):vB (.own i o n) Y=zI Y i none:=rfl
theorem M1{Y:Hp}{Z e s:Nat}{v:O}{xs:List zb}(h:qR Y Z e s v xs){j:Nat}(a:Z<=j):∀n,v≠.own j 0 n:=by
 rcases h with⟨rfl,_⟩|⟨id,b,rfl,_⟩
 ·intro n e;cases e
 ·intro n e;injection e with e;omega
theorem bO(f:Bool->Bool->Bool)(hv:O)(PW:∀x y Y Z,jH Ccmb Y Z (some hv) [q6 x,q6 y]=some (q6 (f x y),Y,Z))(a b:List js)(ha:vp a)(hb:vp b) :
  ∃x Y Z,yR Ccmb f135 [.sl 11 (wv a),.sl 11 (wv b),hv] (fun _=>none) 0=some (x,Y,Z)/\MY xP (K7 f a b) x Y Z:=by
 refine wB rfl ?_;have hsa:=ha;have hsb:=hb;obtain⟨ha1,ha2⟩:=ha;obtain⟨tx,hb2⟩:=hb;unfold zD at ha1 tx;obtain⟨ls,hls⟩:∃ls:List (List js),[a,b]=ls:=⟨_,rfl⟩;obtain⟨rows,S⟩:∃rows:List zb,[[O.sl 11 (wv a)],[.sl 11 (wv b)]]=rows:=⟨_,rfl⟩;have K:∀i,i<2->∃l:List js,(yN (ls.take (i+1)).flatten=yN (ls.take i).flatten++yN l)/\rows[i]?=some [O.sl 11 (wv l)]/\l.length<=268435456/\(∀s∈l,s.small)/\(yN (ls.take i).flatten).length<=536870912:=by
  intro i hi;rw[<-hls,<-S];rcases(by omega:i=0\/i=1)with rfl|rfl
  ·exact⟨a,by simp[yN],rfl,ha1,ha2,by simp[yN]⟩
  ·exact⟨b,by simp[YW],rfl,tx,hb2,by have:=Ya a;simp;omega⟩
 simp[zy,zR,zw,S];refine qu (fun i σ Y Z=>σ 0=.sl 11 (wv a)/\σ 1=.sl 11 (wv b)/\σ 2=hv/\σ 19=.own 0 0 2/\σ 20=int 2/\σ 21=int i/\1<=Z/\Y 0=some ⟨167,1,true,rows⟩/\(∀n,σ 7≠.own 0 0 n)/\qR Y Z 207 5 (σ 7) (jM (yN (ls.take i).flatten))) 2
  ⟨by simp,by simp,by simp,by simp,by simp,by simp,by simp,by simp,by simp,.inl ⟨by simp,by simp[yN,jM]⟩⟩ ?_
 rintro i σ Y Z hi ⟨E,F,G,u,w,z,T,b0,L,A⟩;by_cases hlt:i<2
 ·obtain⟨l,hl,hr,hll,hls2,hcl⟩:=K i hlt;obtain⟨hr1,hr2⟩:=zd.1 hr;have hw:=q8 i;have p:(wv l).length=l.length:=by simp[wv]
  have hltI:(i:Int)<2:=by omega
  simp[E,F,G,u,w,z,hltI,hlt,b0,hr1,hr2,p];refine qu (fun k σ Y Z=>σ 0=.sl 11 (wv a)/\σ 1=.sl 11 (wv b)/\σ 2=hv/\σ 19=.own 0 0 2/\σ 20=int 2/\σ 21=int i/\1<=Z/\Y 0=some ⟨167,1,true,rows⟩/\(∀n,σ 7≠.own 0 0 n)/\qR Y Z 207 5 (σ 7) (jM (yN (ls.take i).flatten++yN (l.take k))) /\
   σ 25=.sl 11 (wv l)/\σ 26=int l.length/\σ 27=int k) l.length
   ⟨by simp[E],by simp[F],by simp[G],by simp[u],by simp[w],by simp[z],T,b0,by simpa using L,by simpa[yN]using A,by simp,by simp,by simp⟩ ?_
  clear E F G u w z T b0 L A hi σ Y Z;rintro k σ Y Z hk ⟨E,F,G,u,w,z,T,b0,L,A,h25,h26,h27⟩;by_cases j:k<l.length
  ·have H:=q8 k;have r:∀h:k<(wv l).length,(wv l)[k]=l[k].V:=fun h=>by simp[wv]
   have hcn:=Ya (l.take k);rw[fE]at hcn;have hct:=Hs j;obtain⟨xs,g⟩:=yb (jM (yN (ls.take i).flatten++yN (l.take k)));have B:xs.length<=1073741824+2:=by rw[<-g];simp[jM];omega
   rw[g]at A;have hE:jM (yN (ls.take i).flatten++yN (l.take (k+1)))=xs++(if l[k].Km=true then[l[k].lo]else[l[k].lo,l[k].hi]).map Cut.V:=by rw[hct,<-z8,Ht,g];rfl
   have hkn:=fun Y'=>qK A Y' Z (M1 A (zk _))
   have hk0:=fun Y'=>qK A Y' 0 L
   obtain⟨s,hs⟩:=yb (l[k]);rw[hs]at hct r hE;have q:=qR.jc (P:=prog) (t:=236) (c:=s.lo.V) (A.more (some ⟨209,11,false,[s.V]⟩)) L5 zaZ za0 za1 rfl (by omega) (by unfold maxLen;omega) (by omega);have U:=qR.after (Y:=zI Y Z (some ⟨209,11,false,[s.V]⟩)) (Z:=Z+1) (e:=207) (s:=5) (v:=σ 7) (xs:=xs) (c:=s.lo.V) (tmp:=some ⟨207,5,true,[s.lo.V]⟩);have C:=qR.jc (P:=prog) (t:=236) (c:=s.hi.V) U L5 zaZ za0 za1 rfl (by omega) (by simp;unfold maxLen;omega) (by simp;omega);rw[show(xs++[s.lo.V]).length=xs.length+1 by simp,z8,show[s.lo.V]++[s.hi.V]=[s.lo.V,s.hi.V]from rfl]at C;have W:=qR.after (Y:=zI (vB (σ 7) (zI (zI Y Z (some ⟨209,11,false,[s.V]⟩)) (Z+1) (some ⟨207,5,true,[s.lo.V]⟩))) (Z+1+1) (some ⟨207,5,true,xs++[s.lo.V]⟩)) (Z:=Z+1+2) (e:=207) (s:=5) (v:=.own (Z+1+1) 0 (xs.length+1)) (xs:=xs++[s.lo.V]) (c:=s.hi.V) (tmp:=some ⟨207,5,true,[s.hi.V]⟩);rw[show(xs++[s.lo.V]).length=xs.length+1 by simp,z8,show[s.lo.V]++[s.hi.V]=[s.lo.V,s.hi.V]from rfl]at W;simp only[js.V,Cut.V,qC,ye]at q C U W r;have m1:¬Z=Z+1+1:=by omega
   have m2:¬Z=Z+1+2:=by omega
   have m3:¬Z=Z+1+2+1:=by omega
   have n1:¬0=Z:=by omega
   have n2:¬0=Z+1:=by omega
   have n3:¬0=Z+2:=by omega
   have n4:¬0=Z+3:=by omega
   have n5:¬0=Z+4:=by omega
   cases M:s.Km
   ·rw[M]at hct;rw[M]at q C U W r;simp[E,F,G,u,w,z,h25,h26,h27,j,p,r,q,C,hkn,H,m1,m2,m3,zy,zR,zw];refine⟨by omega,?_,?_⟩
    ·simp[Hu,hk0,b0,n1]
    ·rw[hE,M];simp only[zv,qz,zG,ji,Cut.V];exact W
   ·rw[M]at hct;rw[M]at q C U W r;simp[E,F,G,u,w,z,h25,h26,h27,j,p,r,q,hkn,H,m1,m2,m3,zy,zR,zw];refine⟨by omega,?_,?_⟩
    ·simp[hk0,b0,n1]
    ·rw[hE,M];simp only[qh,zG,ji,Cut.V];exact U
  ·obtain rfl:k=l.length:=by omega
   rw[wq,<-hl]at A;simp[E,F,G,u,w,z,h25,h26,h27,hw];exact⟨by omega,T,b0,L,A⟩
 ·obtain rfl:i=2:=by omega
  have hls3:(ls.take 2).flatten=a++b:=by rw[<-hls];simp
  rw[hls3]at A;have hsm:∀c∈yN (a++b),c.v.small:=ag (Q:=fun c=>c.v.small) fun s hs=>by
   rcases wy.1 hs with h|h
   ·exact ha2 s h
   ·exact hb2 s h
  have hcl:=Ya (a++b);rw[zt]at hcl;obtain⟨Y',I,X,hfr'⟩:=nD A hsm (by omega);obtain⟨v,hv7⟩:=yb (σ 7);obtain⟨cs,BO⟩:=yb (YX (yN (a++b)));have hcsl:cs.length<=1073741824:=by rw[<-BO,(QY _).length_eq];omega
  have hcsm:∀c∈cs,c.v.small:=fun c hc=>hsm c ((QY _).mem_iff.1 (by rw[BO];exact hc))
  have PZ:Jh f a b=(tq (fun c=>f (J5 a c) (J5 b c)) cs (false,[])).2:=by rw[<-BO,YW];rfl
  obtain⟨is,his⟩:∃is:Cut->Bool,(fun c=>f (J5 a c) (J5 b c))=is:=⟨_,rfl⟩;have hisc:∀c,f (J5 a c) (J5 b c)=is c:=fun c=>by rw[<-his]
  rw[his]at PZ;rw[hv7]at I X;rw[BO]at X;clear A BO hsm K hls3;have hlen:=X.len L5;have p:(jM cs).length=cs.length:=by simp[jM]
  rw[p]at hlen;simp[E,F,G,u,w,z,hv7,I,hlen];refine qu (fun k σ Y Z=>σ 0=.sl 11 (wv a)/\σ 1=.sl 11 (wv b)/\σ 2=hv/\σ 48=v/\σ 49=int cs.length/\σ 50=int k/\qR Y Z 207 5 v (jM cs)/\∃xs,qR Y Z 209 11 (σ 12) xs/\xs.map (Ym xP)=wv (tq is (cs.take k) (false,[])).2 /\
    σ 13=q6 (tq is (cs.take k) (false,[])).1/\(∀id n m,v=.own id 0 n->σ 12≠.own id 0 m)/\((tq is (cs.take k) (false,[])).1=true->(tq is (cs.take k) (false,[])).2≠[])/\xs.length<=k/\(xs=[]->σ 12=.nil)) cs.length
   ⟨by simp[E],by simp[F],by simp[G],by simp,by simp,by simp,X,[],.inl ⟨by simp,rfl⟩,by simp[tq,wv],by simp[tq],by simp,by simp[tq],by simp,by simp⟩ ?_
  clear E F G u w z T b0 L X hi σ Y Z hlt I hlen hfr' hv7 Y';rintro k σ Y Z hk ⟨E,F,G,h48,h49,h50,A,xs,hX,g,N,IV,hop,hxk,hxn⟩;by_cases j:k<cs.length
  ·have H:=q8 k;obtain⟨id,hid,rfl,hh⟩:=A.at_ (by rw[p];omega);have o:=M0 is j (false,[]);obtain⟨st,hst0⟩:=yb (tq is (cs.take k) (false,[]));obtain⟨c,hc⟩:=yb (cs[k]);rw[hc,hst0]at o;rw[hst0]at g N hop;have hopn:=MZ is st c hop;have D:c.v.small:=hcsm c (by rw[<-hc];exact zo j);have r:∀h:k<(jM cs).length,(jM cs)[k]=c.V:=fun h=>by simp[jM,hc]
   have hca:=fun Y Z=>uZ a c Y Z hsa D
   have hcb:=fun Y Z=>uZ b c Y Z hsb D
   have d:=fun Y Z=>PW (J5 a c) (J5 b c) Y Z
   rw[hisc c]at d;simp only[Cut.V]at hca hcb r;have m0:¬id=Z:=by omega
   have m1:¬id=Z+1:=by omega
   have m2:¬id=Z+1+1:=by omega
   rw[p]at A;have hki:=fun Y'=>qK hX Y' id (fun n=>IV id _ n rfl)
   have hswS:Ho is st c=(is c,if(is c&&!st.1)=true then st.2++[vg c]else if(!is c&&st.1)=true then YB st.2 c else st.2):=rfl;rw[hswS]at o;rw[hswS]at hopn;simp only at hopn;obtain⟨op,out⟩:=st;simp only at g N hop hopn;cases hb:is c<;>cases op
   ·rw[hb]at d o;simp at o;simp[E,F,G,h48,h49,h50,p,j,hh,r,hca,hcb,d,N,H,m0,o];exact⟨by omega,A.more _,xs,hX.more _,g,fun i n m e _=>IV i _ m (by rw[e]),by omega,hxn⟩
   ·rw[hb]at d o;simp at o;have hne:=hop rfl;obtain⟨m,hm⟩:∃m,out.length=m+1:=⟨out.length-1,by have:=KF.2 hne;omega⟩;have B:xs.length=m+1:=by have:=jy List.length g;simp[wv]at this;omega
    obtain⟨R,hid2,J,Rz⟩:=hX.at_ (by omega);have zby:¬R=id:=fun e=>IV id _ _ rfl (by rw[J,e])
    have zg4:¬id=R:=fun e=>zby e.symm
    have p0:¬R=Z:=by omega
    rw[B]at J;have hlm:m<xs.length:=by omega
    have hlo:m<out.length:=by omega
    have hrm:Ym xP xs[m]=out[m].V:=by
     have e1:(xs.map (Ym xP))[m]?=(wv out)[m]?:=by rw[g]
     simp only[qq,zm hlm,wv,zm hlo,zY,qV]at e1;exact e1
    obtain⟨x3,x5,x6,x7,x8,x9,x10,K,hn3,zg5⟩:=Hr hrm;have wm:=wN (m:Int);have wm1:IntKind.i64.wrap ((m:Int)+1-1)=(m:Int):=by rw[wM (by omega) (by omega)];omega
    simp[E,F,G,h48,h49,h50,p,j,hh,r,hca,hcb,d,N,H,m0,o,J,Rz,p0,wm,wm1,hlm,K,zg5,yP];refine⟨by omega,.inr ⟨id,by omega,by rw[p],by simp[zg4,m0,hh]⟩,xs.set m [int out[m].lo.v.a,int out[m].lo.v.b,int out[m].lo.v.c,x3,q6 out[m].lo.after,int c.v.a,int c.v.b,int c.v.c,.sl 1 (zA c.v.pre),q6 c.after,q6 false],.inr ⟨R,by omega,by simp[B],by simp⟩,?_,fun i n k' e _ e2=>absurd (e2.trans e.symm) zby,by simp;omega,fun e=>by have:=jy List.length e;rw[List.length_set,B]at this;cases this⟩;rw[List.map_set,g,uY hlo hm c,wv,wv,List.map_set];simp[hn3,js.V,Cut.V]
   ·rw[hb]at d o;simp at o;have q:=qR.jc (P:=prog) (t:=167) (c:=[int c.v.a,int c.v.b,int c.v.c,.sl 1 (zA c.v.pre),q6 c.after,int 0,int 0,int 0,.nil,q6 false,q6 true]) (hX.more (some ⟨207,5,false,[c.V]⟩)) zf4 zf8 zf9 zga rfl (by omega) (by unfold maxLen;omega) (by omega);simp only[Cut.V]at q;simp[E,F,G,h48,h49,h50,p,j,hh,r,hca,hcb,d,N,H,m0,o,q,qi,qJ,zy,zR,zw];refine⟨by omega,.inr ⟨id,by omega,by rw[p],by simp[hki,hh,m0,m1,m2]⟩,xs++[[int c.v.a,int c.v.b,int c.v.c,.sl 1 (zA c.v.pre),q6 c.after,int 0,int 0,int 0,.nil,q6 false,q6 true]],by simpa using qR.after,?_,fun i n m e _ e2=>by omega,by simp;omega⟩;rw[yZ,g];simp[wv,vg,js.V,Cut.V,Jy,zA]
   ·rw[hb]at d o;simp at o;simp[E,F,G,h48,h49,h50,p,j,hh,r,hca,hcb,d,N,H,m0,o];exact⟨by omega,A.more _,xs,hX.more _,g,fun i n m e _=>IV i _ m (by rw[e]),hop rfl,by omega,hxn⟩
  ·obtain rfl:k=cs.length:=by omega
   rw[wq]at g;rw[<-PZ]at g;have B:xs.length=(Jh f a b).length:=by have:=jy List.length g;simpa[wv]using this
   simp[E,F,G,h48,h49,h50,f135];unfold K7;rcases hX with⟨J,rfl⟩|⟨R,hid2,J,Rz⟩
   ·rw[zl (qQ.1 B.symm)];exact J
   ·by_cases hz:Jh f a b=[]
    ·rw[zl hz];rw[hz]at B;exact hxn (qQ.1 B)
    ·rw[zj hz];refine⟨R,_,J,Rz,rfl,?_⟩;simp only[lp,g]
theorem lr(l:List js):(Sh.s 11 xP).fix (.sl 11 (wv l))=.sl 11 (wv l):=by simp only[Sh.PY,wv,ta];congr 1
noncomputable def u4:zb->Option (Option Blk):=fun args=>
 match qt (α:=List js×List js) (fun a=>[.sl 11 (wv a.1),.sl 11 (wv a.2),.fn (.func 136) [] []]) (fun a=>vp a.1/\vp a.2) (fun a=>K7 and a.1 a.2) args with
 |some r=>some r
 |none=>qt (α:=List js×List js) (fun a=>[.sl 11 (wv a.1),.sl 11 (wv a.2),.fn (.func 137) [] []]) (fun a=>vp a.1/\vp a.2) (fun a=>K7 or a.1 a.2) args
theorem Fc(g:O):∀a b:List js×List js,[O.sl 11 (wv a.1),.sl 11 (wv a.2),g]=[.sl 11 (wv b.1),.sl 11 (wv b.2),g]->a=b:=by rintro⟨f,h⟩ ⟨i,j⟩ e;simp only[zi,zF]at e;obtain⟨c,d⟩:=e;injection c with _ c;injection d with _ d;rw[af c,af d]
theorem nE:zh prog 135 (VZ [.s 11 xP,.s 11 xP] u4):=
 nC (fn:=f135) SJ (yt func135) _ xP _ fun args r h=>by
  unfold u4 at h;split at h
  ·rename_i r0 e;injection h with h;subst h
   obtain⟨⟨a,b⟩,rfl,⟨c,d⟩,rfl⟩:=qc e;exact⟨by simp[f135],bO and _ (fun x y Y Z=>by simp[uW]) a b c d⟩
  ·obtain⟨⟨a,b⟩,rfl,⟨c,d⟩,rfl⟩:=qc h;exact⟨by simp[f135],bO or _ (fun x y Y Z=>by simp[uW]) a b c d⟩
theorem u5(args:zb)(r:Option Blk)(h:X6 9 1 args=some r):args.length<=f195.ntmps/\∃x Y Z,yR C0 f195 args (fun _=>none) 0=some (x,Y,Z)/\hG r x Y Z:=by
 unfold X6 at h;split at h
 ·injection h with h;subst h;exact⟨by simp[f195],wB rfl (by simp[Qq,cH,f195,hG])⟩
 ·injection h with h;subst h;exact⟨by simp[f195],wB rfl (by simp[Qq,cH,f195,hG,zy,jG,AM.view,maxLen,zR,zw])⟩
 ·rename_i es;split at h
  ·rename_i d;obtain⟨rfl,a,b⟩:=d;injection h with h;subst h
   cases es with
   |nil=>exact absurd rfl a
   |cons c es=>
    unfold zD at b;simp at b;have e:es.length+1<=maxLen:=by unfold maxLen;omega
    have f:(es.length+1)*16<=140737488355328:=by omega
    refine⟨by simp[f195],wB rfl ?_⟩;simp[Qq,cH,f195,hG,zy,jG,AM.view,zR,zw,e,f]
  ·cases h
 ·cases h
theorem sb:zh prog 195 (j5 [] (X6 9 1)):=
 JI (fn:=f195) (code:=_) ku ⟨func195,by kernel_rfl,rfl,by kernel_rfl⟩ [] _ u5
def idV(v:vh):O:=.agg v.V
def idS(s:js):O:=.agg s.V
noncomputable def FVe (f:vh->O):zb->Option O:=qt (α:=vh) (fun v=>[.agg v.V]) (fun v=>v.pre.length<=zD) f
theorem u6(f:vh->O)(v:vh)(Y:Hp)(Z:Nat)(h:v.pre.length<=zD):wE [.g WZ] (FVe f) [.agg v.V] Y Z=some (f v,Y,Z):=
 xw (show zz Y [.agg v.V]=some ([.agg v.V],Y) by simp[vh.V]) (by
  have c:(Sh.g WZ).fix (.agg v.V)=.agg v.V:=by simp[vh.V]
  show FVe f [(Sh.g WZ).fix (.agg v.V)]=_;rw[c];exact qj (V:=fun v:vh=>[O.agg v.V]) (a:=v) (fun a b e=>by simp only[zi,zF]at e;injection e with e;exact bz e) h) (.inr (by simp[vh.V]))
noncomputable abbrev Ccpv:Ctx:=qf prog [(195,j5 [] (X6 9 1))]
theorem SK:Gd Ccpv:=qD mixed ⟨sb,trivial⟩
theorem dh(v:vh)(y:O)(f:ED 1 (zA v.pre) y)(h:v.pre.length<=zD):∃r0,zH Ccpv f171 [.agg [int v.a,int v.b,int v.c,y]]=some r0/\yY r0 (.agg v.V):=by
 obtain⟨a,b,c,p⟩:=v;refine JO (sh:=.g WZ) rfl ?_;simp only at h f;generalize e:zA p=T at f;have d:T.length<=zD:=by rw[<-e];simpa[zA]using h
 cases f with
 |nil=>simp[j5,jn,X6,ij,vh.V,e,f171]
 |em=>simp[j5,jn,X6,ij,vh.V,e,f171]
 |sl=>rename_i i es;simp only[ze]at d;simp[j5,jn,X6,ij,vh.V,e,d,f171]
theorem bP:zh prog 171 (wE [.g WZ] (FVe idV)):=
 ie (fn:=f171) SK (yt func171) false [] _ fun args r h w S vs c=>by obtain⟨v,e,d,rfl⟩:=qc h;have a:=Ja (hs:=[.g WZ]) c;rw[e]at a;obtain⟨u,f,i⟩:=VJ a;subst f;obtain⟨y,k,b⟩:=ud i (j:=3) (s:=1) (es:=zA v.pre) (by simp[vh.V]);obtain⟨r0,l,m⟩:=dh v y k d;exact⟨_,r0,.cons b .nil,by simp[f171],by simpa[vh.V]using l,m⟩
noncomputable def FSt (f:js->O):zb->Option O:=qt (α:=js) (fun s=>[.agg s.V]) js.small f
theorem M3(f:js->O)(s:js)(u:O)(Y:Hp)(Z:Nat)(h:s.small)(c:(Sh.g xP).fix u=.agg s.V)(d:z7 Y u=some (u,Y))(i:u.noOwn=true):wE [.g xP] (FSt f) [u] Y Z=some (f s,Y,Z):=
 xw (show zz Y [u]=some ([u],Y) by simp only[zz,d]) (by show FSt f [(Sh.g xP).fix u]=_;rw[c];exact qj (V:=fun v:js=>[O.agg v.V]) (a:=s) (fun a b e=>by simp only[zi,zF]at e;injection e with e;exact ll e) h) (.inr (by rw[yC,i];rfl))
noncomputable abbrev Ccps:Ctx:=qf prog [(171,wE [.g WZ] (FVe idV))]
theorem SL:AM.Good Ccps (fun g=>[171].contains g):=qI mixed ⟨bP,fun _=>Z5 _ _,trivial⟩
theorem di(s:js)(hs:s.small):zH Ccps f138 [.agg s.V]=some (.agg s.V):=by
 refine zs rfl ?_;have d:∀Y Z,wE [.g WZ] (FVe idV) [.agg [int s.lo.v.a,int s.lo.v.b,int s.lo.v.c,.sl 1 (zA s.lo.v.pre)]] Y Z=some (.agg [int s.lo.v.a,int s.lo.v.b,int s.lo.v.c,.sl 1 (zA s.lo.v.pre)],Y,Z):=fun Y Z=>u6 idV s.lo.v Y Z hs.1.1
 have e:∀Y Z,wE [.g WZ] (FVe idV) [.agg [int s.hi.v.a,int s.hi.v.b,int s.hi.v.c,.sl 1 (zA s.hi.v.pre)]] Y Z=some (.agg [int s.hi.v.a,int s.hi.v.b,int s.hi.v.c,.sl 1 (zA s.hi.v.pre)],Y,Z):=fun Y Z=>u6 idV s.hi.v Y Z hs.2.1
 simp[js.V,Cut.V,d,e,jB,f138,yP]
theorem bQ:zh prog 138 (wE [.g xP] (FSt idS)):=
 jC (fn:=f138) SL (yt func138) _ _ fun args r h=>by obtain⟨s,rfl,a,rfl⟩:=qc h;exact⟨by simp[f138],_,di s a,yY.refl _⟩
theorem Dx{l:za}{n:Int}(h:JX l=some n):0<=n/\n<=999999:=by
 unfold JX at h;split at h
 ·rename_i a;injection h with h
  obtain⟨b,c⟩:=uF a.1;obtain⟨m,d,e⟩:=JW l 0 c;have f:Lib.decNat l=some m:=by unfold Lib.decNat;rw[zj (by simpa using b)];exact d
  have g:m<10 ^ 6:=wV (by simpa using e) (mY (by omega) a.2);have i:n=(m:Int):=by rw[<-h];unfold rO;rw[f];rfl
  omega
 ·cases h
theorem Hv{v:vh}(h:JY v=0):(0<=v.a/\v.a<=999999)/\(0<=v.b/\v.b<=999999)/\(0<=v.c/\v.c<=999999)/\v.pre.length<=10/\∀p∈v.pre,ZG p=false:=by
 unfold JY at h;split at h
 ·rename_i d;simp only[xo,zn,z6]at d;split at h
  ·cases h
  ·rename_i g;split at h
   ·cases h
   ·rename_i e;refine⟨d.1,d.2.1,d.2.2,by omega,fun p Y=>?_⟩;cases f:ZG p with
    |false=>rfl
    |true=>exact absurd (List.any_eq_true.2 ⟨p,Y,f⟩) e
 ·cases h
theorem SM{t:za}{v:vh}(h:E4 t=some v):JY v=0:=by
 unfold E4 at h;split at h
 ·split at h
  ·split at h
   ·rename_i a;injection h with h
    rw[<-h];exact a
   ·cases h
  ·cases h
 ·cases h
theorem Dy{p:za}(h:ZG p=false):p.length<=20:=by simp only[ZG,Ju,XO]at h;omega
theorem Fe:∀(l:List za) (p q:Part) (i:Nat),xz p i l=some q->(0<=p.n0/\p.n0<=999999)/\(0<=p.n1/\p.n1<=999999)/\(0<=p.n2/\p.n2<=999999)/\0<=p.has/\p.has<=i/\(1<=i->1<=p.has)/\p.pre=[] ->
  (0<=q.n0/\q.n0<=999999)/\(0<=q.n1/\q.n1<=999999)/\(0<=q.n2/\q.n2<=999999)/\0<=q.has/\q.has<=i+l.length/\(1<=i+l.length->1<=q.has)/\q.pre=[]
 |[],p,q,i,h,Y=>by
  simp only[xz]at h;injection h with h
  subst h;simpa using Y
 |t::l,p,q,i,h,Y=>by
  simp only[xz]at h;split at h
  ·rename_i r hs;obtain⟨a,b,c,d,e,f,g⟩:=Y;have m:(0<=r.n0/\r.n0<=999999)/\(0<=r.n1/\r.n1<=999999)/\(0<=r.n2/\r.n2<=999999)/\0<=r.has/\r.has<=(i+1:Nat)/\(1<=i+1->1<=r.has)/\r.pre=[]:=by
    unfold j6 at hs;split at hs
    ·rename_i j;injection hs with hs
     obtain⟨n,k⟩:=Option.isSome_iff_exists.1 j.1;have o:=Dx k;rw[k]at hs;simp only[vx]at hs;subst hs;have s:=j.2;unfold Part.put;split<;>simp only<;>refine⟨?_,?_,?_,?_,?_,?_,g⟩<;>first|assumption|omega
    ·split at hs
     ·rename_i u;injection hs with hs
      subst hs;exact⟨a,b,c,d,by omega,fun _=>f (by omega),g⟩
     ·cases hs
   have:=Fe l r q (i+1) h m;rw[ze];refine⟨this.1,this.2.1,this.2.2.1,this.2.2.2.1,?_,?_,this.2.2.2.2.2.2⟩
   ·have:=this.2.2.2.2.1;omega
   ·intro _;exact this.2.2.2.2.2.1 (by omega)
  ·cases h
def YC(l:List za):Prop:=l.length<=10/\∀p∈l,ZG p=false
theorem YY{l:List za}(h:YC l):x4 l:=⟨by have:=h.1;unfold zD;omega,fun p Y=>by have:=Dy (h.2 p Y);unfold zD;omega⟩
theorem Hw(s sep:za):qT s sep≠[]:=by
 unfold qT Lib.split;intro h;cases a:Lib.count s sep with
 |zero=>rw[a]at h;cases h
 |succ n=>rw[a]at h;simp only[Lib.splitK]at h;split at h<;>cases h
theorem V0{t:za}(h:(qd t).2=true):(qd t).1.ok/\YC (qd t).1.pre:=by
 unfold qd at h⊢;split at h
 ·rename_i a;rw[zl a];split at h
  ·rename_i v i;obtain⟨b,c,d,e,f⟩:=Hv (SM i);exact⟨⟨b,c,d,⟨by simp,by simp⟩,YY ⟨e,f⟩⟩,e,f⟩
  ·cases h
 ·rename_i a;rw[zj a];split at h
  ·cases h
  ·rename_i j;rw[zj j];split at h
   ·rename_i p Y;have:=Fe _ xY p 0 Y (by simp[xY]);obtain⟨b,c,d,e,f,k,l⟩:=this;have m:=KF.2 (Hw t [46]);have g:YC p.pre:=by rw[l];exact⟨by simp,by simp⟩
    exact⟨⟨b,c,d,⟨k (by omega),by show p.has<=3;omega⟩,YY g⟩,g⟩
   ·cases h
def Ze.Qp(c:Ze):Prop:=c.sign.length<=3/\(c.sign=kD\/((c.p.ok/\YC c.p.pre)/\(c.sign=[45]->c.tu.ok/\YC c.tu.pre)))
theorem Ze.Qp.ok{c:Ze}(h:c.Qp):c.ok:=⟨by have:=h.1;unfold zD;omega,h.2.imp id fun⟨a,b⟩=>⟨a.1,fun e=>(b e).1⟩⟩
theorem u7:∀(a:List za) (s:za),(yG a s).1=[]\/(yG a s).1∈a
 |[],s=>.inl rfl
 |g::l,s=>by
  simp only[yG];split
  ·exact .inr (by simp)
  ·exact(u7 l s).imp id fun h=>by simp[h]
theorem M4{s:za}(h:s=[]\/s∈yB):s.length<=3/\s≠[45]:=by
 rcases h with rfl|h
 ·simp
 ·simp only[yB,zx,wu,or_false]at h;rcases h with rfl|rfl|rfl|rfl|rfl|rfl|rfl<;>simp
theorem Hy{w:za}{l l':List za}{c:Ze}(h:vo w l=some (c,l')):c.Qp/\l'.length<=l.length:=by
 refine⟨?_,MO h⟩;have a:=M4 (u7 yB w);unfold vo at h;split at h
 ·injection h with h;injection h with h _;subst h;exact⟨by simp[uN,kD],.inl rfl⟩
 ·split at h
  ·split at h
   ·split at h
    ·rename_i b;injection h with h;injection h with h _;subst h
     exact⟨a.1,.inr ⟨V0 b,fun e=>absurd e a.2⟩⟩
    ·cases h
   ·cases h
  ·split at h
   ·rename_i b;injection h with h;injection h with h _;subst h
    exact⟨a.1,.inr ⟨V0 b,fun e=>absurd e a.2⟩⟩
   ·cases h
theorem oL:∀(n:Nat) (a:List za) (l:List Ze),yF n a=some l->(∀c∈l,c.Qp)/\l.length<=a.length
 | 0,a,l,h=>by
  simp only[yF]at h;injection h with h;subst h
  exact⟨by simp,by simp⟩
 |n+1,[],l,h=>by
  simp only[yF]at h;injection h with h;subst h
  exact⟨by simp,by simp⟩
 |n+1,w::a,l,h=>by
  simp only[yF]at h;split at h
  ·rename_i c l' hs;obtain⟨e,g⟩:=Hy hs;cases b:yF n l' with
   |none=>rw[b]at h;cases h
   |some r=>
    rw[b]at h;simp only[zY,qV]at h;subst h;obtain⟨f,i⟩:=oL n l' r b;refine⟨fun x d=>?_,by simp;omega⟩;rcases zx.1 d with rfl|d
    ·exact e
    ·exact f x d
  ·cases h
theorem Hz{t:za}(h:(bK t).2=true):(∀c∈(bK t).1,c.Qp)/\(bK t).1.length<=t.length+1:=by
 have n:(wQ (qT t [32])).length<=t.length+1:=zM (List.length_filter_le _ _) (W6 (by simp));have f:∀d:List za,d=wQ (qT t [32])->((match yF d.length d with
   |some l=>(l,!l.isEmpty)
   |none=>([],false)):List Ze×Bool).2=true->(∀c∈((match yF d.length d with
   |some l=>(l,!l.isEmpty)
   |none=>([],false)):List Ze×Bool).1,c.Qp)/\((match yF d.length d with
   |some l=>(l,!l.isEmpty)
   |none=>([],false)):List Ze×Bool).1.length<=t.length+1:=by
  intro d e i;cases j:yF d.length d with
  |none=>rw[j]at i;cases i
  |some l=>obtain⟨o,k⟩:=oL _ _ _ j;exact⟨o,by rw[e]at k;exact zM k n⟩
 unfold bK at h⊢;split at h
 ·rename_i a b c e;split at h
  ·rename_i g;simp only[zn]at h;rw[zl g];refine⟨fun x m=>?_,by simp⟩;simp only[yf]at m;subst m;exact⟨by simp,.inr ⟨V0 h.1,fun _=>V0 h.2⟩⟩
  ·rename_i g;rw[zj g];have:=f [a,b,c] (by rw[e]) h;exact this
 ·exact f _ rfl h
def Cut.Qp(c:Cut):Prop:=YC c.v.pre
theorem Cut.Qp.small{c:Cut}(h:c.Qp):c.v.small:=YY h
theorem oM:Jy.Qp:=⟨by simp[Jy],by simp[Jy]⟩
theorem QZ:jF.Qp:=⟨by simp[jF],by simp[jF,ZG,nu,fe,QG,va,G6,pr]⟩
theorem K8(p:Part)(i:Nat):(xj p i).Qp:=by
 have h:(xj p i).v.pre=[[48]]:=by unfold xj;split<;>rfl
 have:=QZ;unfold Cut.Qp at this⊢;rw[h];exact this
theorem M5{p:Part}(h:YC p.pre):(Xd p).Qp:=h
theorem oN{p:Part}(h:YC p.pre):(YA p).Qp:=by
 unfold YA;split
 ·exact K8 _ _
 ·exact h
theorem Ji{a b:Cut}(c:a.Qp)(d:b.Qp):(I3 a b).length<=1/\∀s∈I3 a b,s.lo.Qp/\s.hi.Qp:=by
 unfold I3;split
 ·exact⟨by simp,by simp⟩
 ·refine⟨by simp,fun s hs=>?_⟩;simp only[yf]at hs;subst hs;exact⟨c,d⟩
theorem V1{a:Cut}(b:a.Qp):([vg a]:List js).length<=1/\∀s∈[vg a],s.lo.Qp/\s.hi.Qp:=by refine⟨by simp,fun s hs=>?_⟩;simp only[yf]at hs;subst hs;exact⟨b,oM⟩
theorem HA{c:Ze}(b:c.Qp):(WA c).1.length<=1/\∀s∈(WA c).1,s.lo.Qp/\s.hi.Qp:=by
 obtain⟨_,b⟩:=b;unfold WA;by_cases d:c.sign=kD
 ·rw[zl d];exact V1 QZ
 rw[zj d];obtain⟨⟨_,Y⟩,g⟩:=b.resolve_left d;have a:=M5 Y;have f:=oN Y;split
 ·exact V1 a
 split
 ·exact Ji QZ a
 split
 ·exact V1 f
 split
 ·exact Ji QZ f
 split
 ·rename_i e;exact Ji a (oN (g e).2)
 split
 ·exact Ji a (K8 _ _)
 split
 ·exact Ji a (K8 _ _)
 ·exact Ji a f
def eS(l:List js):Prop:=∀s∈l,s.lo.Qp/\s.hi.Qp
theorem eS.small{l:List js}(h:eS l)(a:l.length<=zD):vp l:=⟨a,fun s hs=>⟨(h s hs).1.small,(h s hs).2.small⟩⟩
theorem lu(f:Bool->Bool->Bool){a b:List js}(c:eS a)(d:eS b):eS (Jh f a b):=Hq oM f c d
def HB:List za->Option (List (List Ze))
 |[]=>some []
 |s::l=>if(bK s).2=true then(HB l).map ((bK s).1::·)else none
noncomputable def oO:List Ze->List js->Option (List js)
 |[],m=>some m
 |c::l,m=>if(WA c).2=true then oO l (Jh and m (WA c).1)else none
noncomputable def lv:List (List Ze)->List js->Option (List js)
 |[],o=>some o
 |l::a,o=>match oO l [vg jF]with
  |some m=>lv a (Jh or o m)
  |none=>none
noncomputable def YD (t:za):List js×Int:=if(400:Int)<t.length then([],2)else match HB (qT t [124,124])with
 |none=>([],10)
 |some a=>match lv a []with
  |none=>([],1)
  |some o=>if(100:Int)<o.length then([],2)else(o,0)
theorem u9:∀(l:List za) (d:List (List Ze)) (n:Nat),(∀s∈l,s.length<=n)->HB l=some d->(∀a∈d,(∀c∈a,c.Qp)/\a.length<=n+1)/\d.length=l.length
 |[],d,n,_,h=>by
  simp only[HB]at h;injection h with h;subst h
  exact⟨by simp,rfl⟩
 |s::l,d,n,e,h=>by
  simp only[HB]at h;split at h
  ·rename_i hs;cases b:HB l with
   |none=>rw[b]at h;cases h
   |some r=>
    rw[b]at h;simp only[zY,qV]at h;subst h;obtain⟨f,g⟩:=u9 l r n (fun x i=>e x (by simp[i])) b;obtain⟨j,k⟩:=Hz hs;have:=e s (by simp);refine⟨fun a b=>?_,by simp[g]⟩;rcases zx.1 b with rfl|b
    ·exact⟨j,by omega⟩
    ·exact f a b
  ·cases h
attribute [local go_sem] Oper.semAt_some
theorem Dz{P:Program}{g:FuncId}{F:zb->Option O}{us:List Value}{v:Value}(h:jl True P g (hP F))(d:hP F (us.map O.v) (fun _=>none) 0=some (.v v,fun _=>none,0))(f:∀u∈us,lit u=true){W:World}(l:F6 P W fun b=>b<W.heap.size) :
  Calls P g us.toArray W fun e i=>e=.returned v/\Fr True W (fun _=>False) i:=by
 have m:Zip (qg W (fun b=>b<W.heap.size) (fun _=>⟨0,0,0⟩) 0) (us.map O.v) us:=by
  induction us with
  |nil=>exact .nil
  |cons u us j=>exact .cons (.c (.v (f u (by simp)))) (by
    clear d;have:∀us:List Value,(∀u∈us,lit u=true)->Zip (qg W (fun b=>b<W.heap.size) (fun _=>⟨0,0,0⟩) 0) (us.map O.v) us:=by
     intro us
     induction us with
     |nil=>intro _;exact .nil
     |cons u us j=>intro h;exact .cons (.c (.v (h u (by simp)))) (j fun x a=>h x (by simp[a]))
    exact this us fun x a=>f x (by simp[a]))
 refine(h.2 _ _ _ _ _ _ d W (fun b=>b<W.heap.size) (fun _=>⟨0,0,0⟩) us (Y7 _ (fun b n=>n) l) m).mono fun e i o=>?_
 obtain⟨x,S',G',rfl,st,a⟩:=o;obtain⟨rfl,_⟩:=a.wZ;exact⟨rfl,⟨st.fr.os,st.fr.tape,st.fr.output,st.fr.size,st.fr.drawn,fun k p _=>st.fr.block k p fun⟨_,_,h,_⟩=>by cases h⟩⟩
theorem fS{W b:World}{L:Nat->Prop}(h:Fr True W L b){a:Addr}{v:Value}(c:W.cell? a=some v)(d:¬L a.block):b.cell? a=some v:=by rw[<-c];exact Vz (h.block _ (EJ c) d)
def Xe(l:List za):List Value:=l.map fun p=>.string ⟨p.toArray⟩
def M6(w:World)(b:Nat):Nat:=match w.cell? ⟨b,0,none⟩with
 |some (.string s)=>s.size
 |_=>0
def vf(w:World)(b:Nat)(v:Value):Prop:=∃cs ty,w.heap[b]?=some (.cells cs ty (0,0))/\cs[0]?=some v
theorem vf.cell{w:World}{b:Nat}{v:Value}(h:vf w b v):w.cell? ⟨b,0,none⟩=some v:=by obtain⟨cs,ty,a,c⟩:=h;simp[World.cell?,a,c]
theorem vf.free{w:World}{b:Nat}{v:Value}(h:vf w b v):w.frozen? ⟨b,0,none⟩=false:=by obtain⟨cs,ty,a,c⟩:=h;simp[World.frozen?,a]
theorem vf.same{w a:World}{b:Nat}{v:Value}(h:vf w b v)(e:a.heap[b]?=w.heap[b]?):vf a b v:=by obtain⟨cs,ty,c,d⟩:=h;exact⟨cs,ty,e.trans c,d⟩
theorem vf.lt{w:World}{b:Nat}{v:Value}(h:vf w b v):b<w.heap.size:=by obtain⟨cs,ty,a,c⟩:=h;exact(zU.1 a).1
theorem vf.set{w:World}{b:Nat}{v:Value}(u:Value)(h:vf w b v):vf (w.setCell ⟨b,0,none⟩ u) b u:=by obtain⟨cs,ty,a,c⟩:=h;have d:=(zU.1 c).1;refine⟨cs.setIfInBounds 0 u,ty,?_,by simp[d]⟩;simp[World.setCell,Zz,a]
theorem vf.P8{w:World}{b:Nat}(u:Value)(B:Nat->Prop)(a:B b):Fr True w B (w.setCell ⟨b,0,none⟩ u):=
 ⟨rfl,rfl,rfl,by simp[World.setCell],fun _=>zk _,fun k _ c=>by
  have:¬b=k:=fun e=>c (e ▸ a)
  simp[World.setCell,Zz,this]⟩
theorem vf.str{w:World}{b:Nat}{s:ByteArray}(h:vf w b (.string s)):M6 w b=s.size:=by unfold M6;rw[h.cell]
theorem sc(n l B1 B2 B3:Nat)(sep t:za)(hs1:1<=sep.length)(hs2:sep.length<=zD)(ht:t.length<=zD)(h12:B1≠B2)(h23:B3≠B2)(J Jx:List Value->World->Prop)
  (hJ:∀pre W W',J pre W->Fr True W (fun b=>b=B1\/b=B2\/b=B3) W'->J pre W') (hGl:∀pre W,J pre W->F6 prog W fun b=>b<W.heap.size)
  (hY:∀pre x W,J pre W->(Xe (qT t sep))[pre.length]?=some x->YieldAt Fence.wide n prog l #[x] W fun e W'=>(e=.returned (.bool true)/\J (pre++[x]) W'/\(∀b,(b=B1\/b=B2\/b=B3)->W'.heap[b]?=W.heap[b]?)/\W.heap.size<=W'.heap.size)\/(e=.returned (.bool false)/\Jx (pre++[x]) W'))
  (W:World) (h0:J [] W) (h1:W.cell? ⟨B1,0,none⟩=some (.string ⟨sep.toArray⟩)) (h2:vf W B2 (.string ⟨t.toArray⟩)) (h3:W.cell? ⟨B3,0,none⟩=some (.int .i64 0)) :
  CallsIn Fence.wide (n+1) prog 184 #[.func (.yield l) #[] #[],.pointer (some ⟨B1,0,none⟩),.pointer (some ⟨B2,0,none⟩),.pointer (some ⟨B3,0,none⟩)] W fun e W'=>(∃v,e=.returned v)/\(J (Xe (qT t sep)) W'\/∃pre,Jx pre W'):=by
 refine callsIn_of_wp func184 rfl trivial ?_ rfl;simp only[Tryz.ntmps184,List.size_toArray,ze,zf,Nat.reduceAdd,Nat.reduceSub,Array.replicate_succ,Array.replicate_zero,List.push_toArray,List.append_toArray,ye,qC];have h2c:=h2.cell;have hse:((sep.length:Int)==0)=false:=qM.2 (by omega)
 gi_wp2
 try simp only[hse]
 have hx:∀cur:za,cur.length<=zD->∀wr:World,F6 prog wr (fun b=>b<wr.heap.size)->Calls prog 79 #[.string ⟨cur.toArray⟩,.string ⟨sep.toArray⟩] wr fun e w'=>e=.returned (.int .i64 (Lib.index cur sep))/\Fr True wr (fun _=>False) w':=fun cur hc wr hg=>by exact Dz (us:=[.string ⟨cur.toArray⟩,.string ⟨sep.toArray⟩]) bl (Jb cur sep _ _ hc hs2) (by simp[lit]) hg
 gi_loopw [] (fun wr=>∃(done:List za) (cur:za),qT t sep=done++qT cur sep/\cur.length<=t.length/\J (Xe done) wr/\wr.cell? ⟨B1,0,none⟩=some (.string ⟨sep.toArray⟩)/\vf wr B2 (.string ⟨cur.toArray⟩)/\wr.cell? ⟨B3,0,none⟩=some (.int .i64 0))
  (fun wr=>M6 wr B2)
 case atStart=>exact⟨[],t,rfl,zk _,h0,h1,h2,h3⟩
 case round=>
  obtain⟨done,cur,hsp,hcl,hJs,c1,k2,c3⟩:=hrel;have c2:=k2.cell;have hg:=hGl _ _ hJs
  gi_wp2
  refine⟨trivial,Xl.2 ((hx cur (zM hcl ht) wr hg).mono ?_)⟩;rintro e w1 ⟨rfl,fr⟩;dsimp only;have d1:=fS fr c1 (fun h=>h);have m2:=k2.same (fr.block _ k2.lt fun h=>h);have d2:=m2.cell;have d3:=fS fr c3 (fun h=>h);have hJ1:=hJ _ _ _ hJs ⟨fr.os,fr.tape,fr.output,fr.size,fr.drawn,fun k hk _=>fr.block k hk fun h=>h⟩;have hel:(Xe done).length=done.length:=by simp[Xe]
  by_cases hneg:Lib.index cur sep<0
  ·have hsk:qT cur sep=[cur]:=by
    have hm:Lib.index cur sep=-1:=by
     rcases Lib.index_spec cur sep with⟨h,_⟩|⟨i,h,_⟩
     ·exact h
     ·omega
    unfold qT Lib.split;rw[Lib.count_miss hm];rfl
   have hu:(Xe (qT t sep))[(Xe done).length]?=some (.string ⟨cur.toArray⟩):=by rw[hsp,hsk,hel];simp[Xe]
   obtain⟨fn,tmps,assign,body,hy,hR⟩:=hY _ _ w1 hJ1 hu
   gi_wp2
   refine hR.mono ?_;rintro e W3 (⟨rfl,hJ3,hk3,hz3⟩|⟨rfl,hJx3⟩)
   ·gi_wp2
    go_end0
    refine⟨⟨_,rfl⟩,.inl ?_⟩;rw[hsp,hsk];simpa[Xe]using hJ3
   ·gi_wp2
    go_end0
    exact⟨⟨_,rfl⟩,.inr ⟨_,hJx3⟩⟩
  ·obtain⟨i,hi⟩:∃i:Nat,Lib.index cur sep=i:=⟨(Lib.index cur sep).toNat,by omega⟩;have hne:sep≠[]:=by rintro rfl;simp at hs1
   have hsk:qT cur sep=cur.take i::qT (cur.drop (i+sep.length)) sep:=by unfold qT Lib.split;rw[Lib.count_hit hne hi,cz 1,X2 hi]
   have htk:(cur.drop (i+sep.length)).take (cur.length-(i+sep.length))=cur.drop (i+sep.length):=qy (by simp);have hroom:=Lib.index_room cur sep (by omega);rw[hi]at hroom;unfold zD at ht hs2;have hwi:wrap64 (i:Int)=(i:Int):=by unfold wrap64;omega
   have hu:(Xe (qT t sep))[(Xe done).length]?=some (.string ⟨(cur.take i).toArray⟩):=by rw[hsp,hsk,hel];simp[Xe]
   obtain⟨fn,tmps,assign,body,hy,hR⟩:=hY _ _ w1 hJ1 hu;rw[hi]
   gi_wp2
   refine hR.mono ?_;rintro e W3 (⟨rfl,hJ3,hk3,hz3⟩|⟨rfl,hJx3⟩)
   ·have e1:W3.cell? ⟨B1,0,none⟩=some (.string ⟨sep.toArray⟩):=by rw[<-d1];exact Vz (hk3 B1 (.inl rfl))
    have o2:=m2.same (hk3 B2 (.inr (.inl rfl)));have e2:=o2.cell;have e4:=o2.free;have e3:W3.cell? ⟨B3,0,none⟩=some (.int .i64 0):=by rw[<-d3];exact Vz (hk3 B3 (.inr (.inr rfl)))
    gi_wp2
    go_roundw
    case rel=>
     refine⟨done++[cur.take i],cur.drop (i+sep.length),by rw[hsp,hsk];simp,by simp;omega,?_,?_,?_,?_⟩
     ·have:=hJ _ _ _ hJ3 (vf.P8 (w:=W3) (b:=B2) (.string ⟨(cur.drop (i+sep.length)).toArray⟩) (fun b=>b=B1\/b=B2\/b=B3) (.inr (.inl rfl)));simpa[Xe]using this
     ·exact fS (vf.P8 (w:=W3) (b:=B2) _ (fun b=>b=B2) rfl) e1 h12
     ·exact o2.set (.string ⟨(cur.drop (i+sep.length)).toArray⟩)
     ·exact fS (vf.P8 (w:=W3) (b:=B2) _ (fun b=>b=B2) rfl) e3 h23
    case measure=>have:=o2.set (.string ⟨(cur.drop (i+sep.length)).toArray⟩);rw[this.str,k2.str];simp;omega
   ·gi_wp2
    refine bodyPost_ret (results_none rfl _ _ _) rfl ?_;exact⟨⟨_,rfl⟩,.inr ⟨_,hJx3⟩⟩
def bR:ZV:=fun cap Y=>match cap with
 |[.ref b 0 0,.ref a 0 0,.ref c 0 0]=>match Y b,Y a,Y c with
  |some ⟨_,1,false,[[.v (.string sep)]]⟩,some ⟨_,1,false,[[.v (.string t)]]⟩,some ⟨_,1,false,[[.v (.int .i64 0)]]⟩=>
   if b≠a/\c≠a/\1<=sep.data.toList.length/\sep.data.toList.length<=zD/\t.data.toList.length<=zD then some ((qT t.data.toList sep.data.toList).map str,zI (zI (zI Y b none) a none) c none)else none
  |_,_,_=>none
 |_=>none
theorem dj{P:Program}{w:World}{S:Nat->Prop}{G:Nat->GI}{Y:Hp}{Z id e:Nat}{u:Value}(b:Inv P w S G Y Z)(c:Y id=some ⟨e,1,false,[[.v u]]⟩):vf w (G id).g u:=by have a:=b.live id _ c;have hs:(G id).s=1:=a.bs.symm;obtain⟨cur,d,j,f⟩:=a.row (by omega);obtain⟨x,h,i⟩:=f 0 0 [.v u] (.v u) rfl rfl;obtain⟨rfl,_⟩:=i.2.1.wZ;exact⟨cur,e,d,by simpa[hs]using h⟩
theorem DA:tW True prog 184 bR:=by
 refine⟨⟨_,func184,by kernel_rfl,by kernel_rfl⟩,fun cap Y Z xs Y1 h=>?_⟩;unfold bR at h;split at h
 case h_2=>cases h
 rename_i d c i3;split at h
 case h_2=>cases h
 rename_i e1 sep e2 t e3 s r u;split at h
 case isFalse=>cases h
 rename_i F;obtain⟨v,x,y,z,H⟩:=F;injection h with h
 injection h with I a;subst I;subst a;have f:∀id b,zI (zI (zI Y d none) c none) i3 none id=some b->Y id=some b/\id≠d/\id≠c/\id≠i3:=fun id b a=>by
  by_cases o:id=i3
  ·subst o;rw[qU]at a;cases a
  rw[zc _ _ _ _ o]at a;by_cases p:id=c
  ·subst p;rw[qU]at a;cases a
  rw[zc _ _ _ _ p]at a;by_cases q:id=d
  ·subst q;rw[qU]at a;cases a
  rw[zc _ _ _ _ q]at a;exact⟨a,q,p,o⟩
 refine⟨Xe (qT t.data.toList sep.data.toList),by simp[Xe],by simp[Xe,lit],fun id b a=>(f id b a).1,fun w S G vs j k=>?_⟩;obtain⟨v1,r1,rfl,K,k⟩:=k.jr;obtain⟨v2,r2,rfl,L,k⟩:=k.jr;obtain⟨v3,r3,rfl,M,k⟩:=k.jr;obtain rfl:=k.Jw;have N:=dj j s;have P:=dj j r;have Q:=dj j u;obtain⟨_,rfl⟩:=K.kW;obtain⟨_,rfl⟩:=L.kW;obtain⟨_,rfl⟩:=M.kW;have A:(G d).g≠(G c).g:=fun e=>v (j.inj _ _ _ _ s r e)
 have B:(G i3).g≠(G c).g:=fun e=>x (j.inj _ _ _ _ u r e)
 refine⟨fun b=>b=(G d).g\/b=(G c).g\/b=(G i3).g,?_,?_⟩
 ·have m:∀i blk,Y i=some blk->(i=d\/i=c\/i=i3)->jv Y G (G i).g/\KG S G (zI (zI (zI Y d none) c none) i3 none) (G i).g:=fun i blk a C=>
   ⟨⟨i,blk,a,rfl⟩,j.apart i blk a,fun id R hid e=>by
     obtain⟨T,q,p,o⟩:=f id R hid;have:=j.inj _ _ _ _ T a e;subst this;rcases C with h|h|h
     ·exact q h
     ·exact p h
     ·exact o h⟩
  rintro b (rfl|rfl|rfl)
  ·exact m d _ s (.inl rfl)
  ·exact m c _ r (.inr (.inl rfl))
  ·exact m i3 _ u (.inr (.inr rfl))
 ·intro n l J U X hJx D hY W h0 E _;have:=sc n l (G d).g (G c).g (G i3).g sep.data.toList t.data.toList y z H A B J U X D hY W h0 (N.same (E _ (.inl rfl))).cell (P.same (E _ (.inr (.inl rfl)))) (Q.same (E _ (.inr (.inr rfl)))).cell;simpa using this
end Go.Q
namespace Go.AM
def ah(P:Program)(l:Yu)(g:FuncId)(it:ZV):Ctx:=⟨P,lookup l,fun _=>[],fun _=>[],fun _=>false,fun _=>[],fun k=>if k=g then some it else none⟩
@[simp]theorem zgm(P:Program)(l:Yu)(g:FuncId)(it:ZV):(ah P l g it).P=P:=rfl
@[simp]theorem zgn(P:Program)(l:Yu)(k:FuncId)(it:ZV)(Y:Hp)(Z g:Nat)(x y xs:zb):jH (ah P l k it) Y Z (some (.fn (.func g) x y)) xs=(lookup l g).bind fun s=>s (x++xs++y) Y Z:=by unfold jH ah;simp only;cases lookup l g<;>rfl
@[simp]theorem M7(P:Program)(l:Yu)(k:FuncId)(it:ZV)(i:Nat)(a:Array Oper)(d:Bool)(st:St)(K:Exit->St->Prop):Zs (ah P l k it) (.region i a d) st K=gV (ah P l k it) a a.toList st (vy K):=QD _ i a d st K rfl rfl
theorem M8{P:Program}{l:Yu}{q:List Nat}{k:FuncId}{it:ZV}(b:P.follows .mixedOrders=true)(h:ub True P q l)(c:GH P k it):AM.Good (ah P l k it) (fun g=>q.contains g):=
 let g:=qI b h
 ⟨g.spec,g.quiet,g.mixed,(fun _ _ h=>by cases h),(fun j a h=>by
  have:(if j=k then some it else none)=some a:=h;split at this
  ·rename_i e;injection this with this
   subst this;subst e;exact c
  ·cases this)⟩
@[simp]theorem zio(C:Ctx)(b:Code)(K:Exit->St->Prop)(st:St):asgK C b K .normal st=Zs C b st K:=rfl
@[simp]theorem ziq(I:Nat->Hp->Nat->Prop)(k:Nat)(σ:Nat->O)(K:Exit->St->Prop)(st:St):rngK I k σ K .normal st=I (k+1) st.Y st.Z:=rfl
@[simp]theorem zir(I:Nat->Hp->Nat->Prop)(k:Nat)(σ:Nat->O)(K:Exit->St->Prop)(st:St):rngK I k σ K .ret st=K .ret ⟨σ,st.Y,st.Z⟩:=rfl
theorem wX{Y:Hp}{Z e s:Nat}{v:O}{xs:List zb}(h:qR Y Z e s v xs){j:Nat}{b:Blk}(a:Y j=some b)(c:b.arr=false):∀n,v≠.own j 0 n:=by
 rcases h with⟨rfl,_⟩|⟨id,f,rfl,d⟩
 ·intro n e;cases e
 ·intro n e;injection e with e
  subst e;rw[d]at a;injection a with a
  subst a;cases c
end Go.AM
namespace Go.Q
noncomputable def M9 (t:za):O:=.qZ [.sl 11 (wv (YD t).1),int (YD t).2]
theorem lx:zh prog 157 (yc C0 f157):=Zg ku func157
noncomputable abbrev Csq:Ctx:=qf prog [(157,yc C0 f157)]
theorem zcF:Gd Csq:=qD mixed ⟨lx,trivial⟩
theorem DB:zh prog 131 (yc Csq f131):=Zg zcF func131
def SN(t sep:za)(Y:Hp)(Z:Nat):Hp:=zI (zI (zI Y Z (some ⟨9,1,false,[[str t]]⟩)) (Z+1) (some ⟨9,1,false,[[str sep]]⟩)) (Z+1+1) (some ⟨3,1,false,[[int 0]]⟩)
theorem sd(t sep:za)(Y:Hp)(Z:Nat):yc C0 f157 [str t,str sep,int 0] Y Z=some (.fn (.func 184) [] [.ref (Z+1) 0 0,.ref Z 0 0,.ref (Z+1+1) 0 0],SN t sep Y Z,Z+1+1+1):=by unfold yc;rw[zl (by simp[f157])];refine vD rfl ?_;simp[SN,f157]
theorem Na(t sep:za)(Y:Hp)(Z:Nat):yc Csq f131 [str t,str sep] Y Z=some (.fn (.func 184) [] [.ref (Z+1) 0 0,.ref Z 0 0,.ref (Z+1+1) 0 0],SN t sep Y Z,Z+1+1+1):=by
 have a:=fun Y Z=>sd t sep Y Z
 unfold yc;rw[zl (by simp[f131])];refine vD rfl ?_;simp[a,f131]
def Y4(Y:Hp)(Z:Nat)(v:O)(m:List js):Prop:=v=.sl 11 (wv m)\/(v=.nil/\m=[])\/∃id,id<Z/\v=.own id 0 (wv m).length/\Y id=some ⟨209,11,true,wv m⟩
theorem Y4.frz{Y:Hp}{Z:Nat}{v:O}{m:List js}(h:Y4 Y Z v m):∃y Y1,z7 Y v=some (y,Y1)/\(Sh.s 11 xP).fix y=.sl 11 (wv m)/\(∀j,(∀n,v≠.own j 0 n)->Y1 j=Y j)/\∀j b,Y1 j=some b->Y j=some b:=by
 rcases h with rfl|⟨rfl,rfl⟩|⟨id,f,rfl,c⟩
 ·exact⟨_,Y,rfl,lr m,fun _ _=>rfl,fun _ _ h=>h⟩
 ·exact⟨_,Y,rfl,rfl,fun _ _=>rfl,fun _ _ h=>h⟩
 ·refine⟨.sl 11 (wv m),zI Y id none,by simp[c],lr m,fun j d=>zT _ _ _ _ fun e=>d _ (by subst e;rfl),fun j b a=>?_⟩;by_cases e:j=id
  ·subst e;rw[qU]at a;cases a
  ·rwa [zc _ _ _ _ e]at a
theorem Y4.kO{Y Y':Hp}{Z Z':Nat}{v:O}{m:List js}(h:Y4 Y Z v m)(d:Z<=Z')(a:∀id,id<Z->(∀n,v=.own id 0 n->Y' id=Y id)):Y4 Y' Z' v m:=by
 rcases h with rfl|⟨rfl,rfl⟩|⟨id,b,rfl,c⟩
 ·exact .inl rfl
 ·exact .inr (.inl ⟨rfl,rfl⟩)
 ·exact .inr (.inr ⟨id,by omega,rfl,by rw[a id b _ rfl];exact c⟩)
theorem Y4.len{Y:Hp}{Z:Nat}{v:O}{m:List js}(h:Y4 Y Z v m):KJ prog 167 v=some (int m.length):=by rcases h with rfl|⟨rfl,rfl⟩|⟨id,a,rfl,b⟩<;>simp[wv]
theorem Y4.box{Y:Hp}{Z:Nat}{v:O}{m:List js}(h:Y4 Y Z v m){j:Nat}{b:Blk}(a:Y j=some b)(c:b.e≠209):∀n,v≠.own j 0 n:=by
 rcases h with rfl|⟨rfl,rfl⟩|⟨id,f,rfl,d⟩
 ·intro n e;cases e
 ·intro n e;cases e
 ·intro n e;injection e with e
  subst e;rw[d]at a;injection a with a
  subst a;exact c rfl
theorem Y4.lt{Y:Hp}{Z:Nat}{v:O}{m:List js}(h:Y4 Y Z v m){j n:Nat}(e:v=.own j 0 n):j<Z:=by
 rcases h with rfl|⟨rfl,rfl⟩|⟨id,a,rfl,b⟩
 ·cases e
 ·cases e
 ·injection e with e;omega
theorem SO(c:Ze)(Y:Hp)(Z:Nat)(h:c.ok):wE [.g rX] (FCm YV) [.agg c.V] Y Z=some (YV c,Y,Z):=
 xw (show zz Y [.agg c.V]=some ([.agg c.V],Y) by simp[Ze.V]) (by
  have d:(Sh.g rX).fix (.agg c.V)=.agg c.V:=by simp[Ze.V]
  show FCm YV [(Sh.g rX).fix (.agg c.V)]=_;rw[d];exact qj (V:=fun v:Ze=>[O.agg v.V]) (a:=c) (fun a b e=>by simp only[zi,zF]at e;injection e with e;exact Hj e) h) (.inr (by simp[Ze.V]))
theorem Aa(f:Bool->Bool->Bool)(g:Nat)(C:(f=and/\g=136)\/(f=or/\g=137)){Y:Hp}{Z:Nat}{v w:O}{a b:List js}(D:Y4 Y Z v a)(E:Y4 Y Z w b)(h:∀id n k,v=.own id 0 n->w≠.own id 0 k)(t:vp a)(u:vp b) :
  ∃x Y' Z',VZ [.s 11 xP,.s 11 xP] u4 [v,w,.fn (.func g) [] []] Y Z=some (x,Y',Z')/\Y4 Y' Z' x (Jh f a b)/\Z<=Z'/\(∀j,j<Z->(∀n,v≠.own j 0 n)->(∀n,w≠.own j 0 n)->Y' j=Y j)/\(∀n j,x=.own j 0 n->Z<=j)/\∀s es,x≠.sl s es:=by
 obtain⟨y,Y1,F,G,i,_⟩:=D.frz;have l:Y4 Y1 Z w b:=E.kO (zk _) fun id _ n e=>i id fun H I=>h id H n I e
 obtain⟨z,Y2,J,K,A,_⟩:=l.frz;have d:zz Y [v,w,.fn (.func g) [] []]=some ([y,z,.fn (.func g) [] []],Y2):=by simp only[zz,F,J];rfl
 have B:u4 (eY [.s 11 xP,.s 11 xP] (jn [] [y,z,.fn (.func g) [] []]))=some (K7 f a b):=by
  show u4 [(Sh.s 11 xP).fix y,(Sh.s 11 xP).fix z,.fn (.func g) [] []]=_;rw[G,K];rcases C with⟨rfl,rfl⟩|⟨rfl,rfl⟩
  ·have:=qj (V:=fun a:List js×List js=>[O.sl 11 (wv a.1),.sl 11 (wv a.2),.fn (.func 136) [] []]) (pre:=fun a=>vp a.1/\vp a.2) (out:=fun a=>K7 and a.1 a.2) (a:=(a,b)) (Fc _) ⟨t,u⟩;unfold u4;rw[this]
  ·have:=qj (V:=fun a:List js×List js=>[O.sl 11 (wv a.1),.sl 11 (wv a.2),.fn (.func 137) [] []]) (pre:=fun a=>vp a.1/\vp a.2) (out:=fun a=>K7 or a.1 a.2) (a:=(a,b)) (Fc _) ⟨t,u⟩;have m:qt (α:=List js×List js) (fun a=>[O.sl 11 (wv a.1),.sl 11 (wv a.2),.fn (.func 136) [] []]) (fun a=>vp a.1/\vp a.2) (fun a=>K7 and a.1 a.2) [O.sl 11 (wv a),.sl 11 (wv b),.fn (.func 137) [] []]=none:=by
    cases L:qt (α:=List js×List js) (fun a=>[O.sl 11 (wv a.1),.sl 11 (wv a.2),.fn (.func 136) [] []]) (fun a=>vp a.1/\vp a.2) (fun a=>K7 and a.1 a.2) [O.sl 11 (wv a),.sl 11 (wv b),.fn (.func 137) [] []]with
    |none=>rfl
    |some r=>obtain⟨_,e,_⟩:=qc L;simp at e
   unfold u4;rw[m];exact this
 unfold VZ j5;by_cases o:Jh f a b=[]
 ·have c:=B;unfold K7 at c;rw[zl o]at c;simp only[d,c];exact⟨_,_,_,rfl,.inr (.inl ⟨rfl,o⟩),zk _,fun j _ p q=>(A j q).trans (i j p),fun n j e=>(by cases e),fun s es e=>(by cases e)⟩
 ·have c:=B;unfold K7 at c;rw[zj o]at c;simp only[d,c];exact⟨_,_,_,rfl,.inr (.inr ⟨Z,by omega,rfl,by simp⟩),by omega,fun j M p q=>by rw[zT _ _ _ _ (by omega)];exact(A j q).trans (i j p),fun n j e=>(by injection e with e;omega),fun s es e=>(by cases e)⟩
noncomputable abbrev Crrg:Ctx:=ah prog [(131,yc Csq f131),(132,hP (rQ r8)),(133,wE [] (XG ab)),(134,wE [.g rX] (FCm YV)),(135,VZ [.s 11 xP,.s 11 xP] u4),(138,wE [.g xP] (FSt idS))] 184 bR
theorem zcG:Gd Crrg:=M8 mixed ⟨DB,by simp,bL,by simp,Je,by simp,fi,by simp,nE,by simp,bQ,by simp,trivial⟩ DA
theorem ly(t:za)(ht:t.length+1<=zD):∃r0,zH Crrg f111 [str t]=some r0/\yY r0 (M9 t):=by
 refine vW (sh:=.s 11 xP) rfl ?_;by_cases S:(400:Int)<t.length
 ·have hv:YD t=([],2):=by unfold YD;rw[zl S]
  simp[S,M9,hv,wv,wJ,f111]
 have hsq:=fun Y Z=>Na t [124,124] Y Z
 obtain⟨a,r⟩:=yb (qT t [124,124]);have hpl:∀p∈a,p.length<=400:=fun p Y=>by have:=W5 (by rw[r];exact Y);omega
 have hpn:a.length<=401:=by have:=W6 (s:=t) (sep:=[124,124]) (by simp);rw[r]at this;omega
 have b:YD t=match HB a with
  |none=>([],10)
  |some ls=>match lv ls []with
   |none=>([],1)
   |some o=>if(100:Int)<o.length then([],2)else(o,0):=by unfold YD;rw[zj S,r]<;>rfl
 simp[S,hsq];refine GG (p:=23) (xs:=a.map str) rfl (by simp;exact⟨rfl,rfl⟩) (it:=bR) rfl (by simp[bR,SN,r];exact⟨⟨by decide,by omega⟩,rfl⟩) (fun k Y Z=>∃(v:O) (done:List (List Ze)),6<=Z/\Y 0=some ⟨167,1,false,[[.nil]]⟩/\Y 1=some ⟨27,1,false,[[int 0]]⟩/\Y 2=some ⟨187,1,false,[[v]]⟩ /\
   qR Y Z 191 1 v (done.map fun l=>[.sl 11 (Zh l)])/\done.length=k/\HB a=(HB (a.drop k)).map (done++·)) ?_ ?_ ?_
 ·exact⟨.nil,[],by simp,by simp,by simp,by simp,.inl ⟨rfl,rfl⟩,rfl,by rw[w8];cases HB a<;>rfl⟩
 ·rintro k Y Z hk ⟨v,done,y,f,d,b2,B,hdk,X⟩;have hk':k<a.length:=by simpa using hk
  have hpk:(a.map str)[k]=str a[k]:=by simp
  have hpkl:=hpl a[k] (zo hk');have halt:=fun Y Z=>VU r8 a[k] Y Z (by unfold zD;omega)
  simp only[r8]at halt;rw[hpk];rw[zg hk']at X;simp only[HB]at X;cases C:(bK a[k]).2
  ·rw[C]at X;simp only[zv,qz,Yj]at X;rw[X]at b;have n0:¬0=Z:=by omega
   have n1:¬1=Z:=by omega
   simp[halt,C,f,d,M9,b,wv,wJ,f111]
  ·rw[C]at X;simp only[qh]at X;have IV:=qR.jc (P:=prog) (t:=187) (c:=[.sl 11 (Zh (bK a[k]).1)]) B zaY zf5 zf6 zf7 rfl (by omega) (by simp[hdk];unfold maxLen;omega) (by simp[hdk];omega);have k0:=fun Y'=>qK B Y' 0 (wX B f rfl)
   have k1:=fun Y'=>qK B Y' 1 (wX B d rfl)
   have k2:=fun Y'=>qK B Y' 2 (wX B b2 rfl)
   have n0:¬0=Z:=by omega
   have n1:¬1=Z:=by omega
   have n2:¬2=Z:=by omega
   have n3:¬1=Z+1:=by omega
   have n4:¬2=Z+1:=by omega
   have n5:¬Z+1=2:=by omega
   simp[halt,C,f,d,b2,IV,k0,k1,k2,n0,n1,n2,n3,n4,n5,zy,zR,zw];refine⟨by omega,by rw[zT _ _ _ _ (by omega),k1,zT _ _ _ _ (by omega)];exact d,done++[(bK a[k]).1],.inr ⟨Z+1,by omega,by simp,by rw[zT _ _ _ _ (by omega)];simp⟩,by simp[hdk],?_⟩;rw[X];cases HB (a.drop (k+1))<;>simp
 ·rintro Y Z ⟨v,done,y,f,d,b2,B,hdk,X⟩;rw[wx]at hdk;rw[wx,zp]at X;simp only[HB,zY,wg]at X;obtain⟨zg6,hdl⟩:=u9 a done 400 hpl X;rw[X]at b;simp only at b;have hlen:=B.len zaY;rw[wx]at hlen;have hdn:done.length<=401:=by omega
  obtain⟨rows,K⟩:=yb (done.map (fun l=>[O.sl 11 (Zh l)]));rw[K]at B;have hrl:rows.length=done.length:=by rw[<-K];simp
  simp[b2,hlen];refine qu (fun i σ Y Z=>σ 2=.ref 0 0 0/\σ 3=.ref 1 0 0/\σ 35=v/\σ 36=int done.length/\σ 37=int i/\6<=Z/\Y 0=some ⟨167,1,false,[[.nil]]⟩/\Y 1=some ⟨27,1,false,[[int 0]]⟩ /\
    qR Y Z 191 1 v rows/\∃o,Y4 Y Z (σ 8) o/\(∀s es,σ 8≠.sl s es)/\eS o/\o.length<=i*500/\lv done []=lv (done.drop i) o) done.length
   ⟨by simp,by simp,by simp,by simp,by simp,y,f,d,B,[],.inr (.inl ⟨by simp,rfl⟩),by simp,(by intro s hs;cases hs),by simp,by simp⟩ ?_
  clear y f d b2 B hlen Y Z;rintro i σ Y Z hi ⟨L,M,G,z,A,y,f,d,B,o,J,N,hgo,hol,hj⟩;by_cases hlt:i<done.length
  ·obtain⟨idA,H,rfl,D⟩:=B.at_ (by omega);obtain⟨l,hl⟩:=yb (done[i]);have hri:∀h:i<rows.length,rows[i]=[O.sl 11 (Zh l)]:=fun h=>by
    have:rows[i]?=some [O.sl 11 (Zh l)]:=by rw[<-K,qq,zm hlt,hl];rfl
    rw[zm h]at this;injection this
   obtain⟨hgl,hll⟩:=zg6 l (by rw[<-hl];exact zo hlt);rw[zg hlt,hl]at hj;simp only[lv]at hj;have hev:∀(Y:Hp) (Z:Nat),wE [] (XG ab) [] Y Z=some (.sl 11 (wv [vg jF]),Y,Z):=fun Y Z=>J2 _ Y Z
   have hwi:=q8 i;have hel:(Zh l).length=l.length:=by simp[Zh]
   simp[L,M,G,z,A,hlt,hrl,D,hri,hev,hel];refine qu (fun k σ Y Z=>σ 2=.ref 0 0 0/\σ 3=.ref 1 0 0/\σ 35=.own idA 0 rows.length/\σ 36=int done.length/\σ 37=int i/\6<=Z/\Y 0=some ⟨167,1,false,[[.nil]]⟩/\Y 1=some ⟨27,1,false,[[int 0]]⟩ /\
     qR Y Z 191 1 (.own idA 0 rows.length) rows/\Y4 Y Z (σ 8) o/\(∀s es,σ 8≠.sl s es)/\σ 42=.sl 11 (Zh l)/\σ 43=int l.length/\σ 44=int k/\∃m,Y4 Y Z (σ 11) m/\eS m/\m.length<=k+1/\(∀id n n',σ 8=.own id 0 n->σ 11≠.own id 0 n')/\oO l [vg jF]=oO (l.drop k) m) l.length
    ⟨by simp[L],by simp[M],by simp[G,hrl],by simp[z],by simp[A],y,f,d,B,by simpa using J,by simpa using N,by simp,by simp,by simp,[vg jF],.inl (by simp),(V1 QZ).2,by simp,by simp,by simp⟩ ?_
   clear L M G z A y f d B J N hi D H σ Y Z;rintro k σ Y Z hk ⟨L,M,G,z,A,y,f,d,B,J,N,h42,h43,h44,m,hM,hgm,hml,IV,u⟩;by_cases T:k<l.length
   ·obtain⟨c,hc⟩:=yb (l[k]);have hcg:c.Qp:=hgl c (by rw[<-hc];exact zo T);obtain⟨hs1,hs2⟩:=HA hcg;have I:∀h:k<(Zh l).length,(Zh l)[k]=c.V:=fun h=>by simp[Zh,hc]
    have I6:=fun Y Z=>SO c Y Z hcg.ok
    have hwk:=q8 k;rw[zg T,hc]at u;simp only[oO]at u;have n0:¬0=Z:=by omega
    have n1:¬1=Z:=by omega
    cases C:(WA c).2
    ·rw[C]at u;simp only[zv,qz]at u;rw[u]at hj;simp only at hj;rw[hj]at b;simp only at b;simp only[YV,Ze.V]at I6 I;simp[L,M,G,z,A,h42,h43,h44,T,hel,I,I6,C,f,d,n0,n1,M9,b,wv,wJ,f111]
    ·rw[C]at u;simp only[qh]at u;have hM':Y4 (zI Y Z (some ⟨199,11,false,[c.V]⟩)) (Z+1) (σ 11) m:=hM.kO (by omega) fun id hid n e=>zT _ _ _ _ (by omega)
     obtain⟨x,Y',Z',E,hX,hnx',I8,U,hxs⟩:=Aa and 136 (.inl ⟨rfl,rfl⟩) hM' (.inl rfl:Y4 _ _ (.sl 11 (wv (WA c).1)) (WA c).1) (fun id n k e e2=>by cases e2) (hgm.small (by unfold zD;omega)) (eS.small hs2 (by unfold zD;omega));have F:∀j,j<Z->(∀n,σ 11≠.own j 0 n)->Y' j=Y j:=fun j hj q=>by rw[I8 j (by omega) q (fun n e=>by cases e),zT _ _ _ _ (by omega)]
     have hlm:=oK and m (WA c).1;obtain⟨idA2,H,Q,D⟩:=B.at_ (by omega);injection Q with Q
     subst Q;simp only[YV,Ze.V]at I6 I E;simp[L,M,G,z,A,h42,h43,h44,T,hel,I,I6,C,E,hwk];exact⟨by omega,by omega,by rw[F 0 (by omega) (hM.box f (by decide))];exact f,by rw[F 1 (by omega) (hM.box d (by decide))];exact d,.inr ⟨idA,by omega,rfl,by rw[F idA H (hM.box D (by simp))];exact D⟩,J.kO (by omega) (fun id hid n e=>F id hid fun n'=>IV id n n' e),N,_,hX,lu and hgm hs2,by omega,fun id n n' e e2=>by have:=J.lt e;have:=U _ _ e2;omega,u⟩
   ·obtain rfl:k=l.length:=by omega
    rw[zp]at u;simp only[oO]at u;rw[u]at hj;simp only at hj;obtain⟨x,Y',Z',E,hX,hnx',I8,U,hxs⟩:=Aa or 137 (.inr ⟨rfl,rfl⟩) J hM IV (hgo.small (by unfold zD;omega)) (hgm.small (by unfold zD;omega));have hlm:=oK or o m;obtain⟨idA2,H,Q,D⟩:=B.at_ (by omega);injection Q with Q
    subst Q;simp[L,M,G,z,A,h42,h43,h44,E,hwi];exact⟨by omega,hrl,by omega,by rw[I8 0 (by omega) (J.box f (by decide)) (hM.box f (by decide))];exact f,by rw[I8 1 (by omega) (J.box d (by decide)) (hM.box d (by decide))];exact d,.inr ⟨idA,by omega,by rw[hrl],by rw[I8 idA H (J.box D (by simp)) (hM.box D (by simp))];exact D⟩,_,hX,hxs,lu or hgo hgm,by omega,hj⟩
  ·obtain rfl:i=done.length:=by omega
   rw[zp]at hj;simp only[lv]at hj;rw[hj]at b;simp only at b;have R:=J.len;by_cases W:(100:Int)<o.length
   ·rw[zl W]at b;simp[L,M,z,A,R,W,f,d,M9,b,wv,wJ,f111]
   rw[zj W]at b;simp[L,M,z,A,R,W];obtain⟨w,hw8⟩:=yb (σ 8);rw[hw8]at J N;refine qu (fun j σ Y Z=>σ 2=.ref 0 0 0/\σ 3=.ref 1 0 0/\σ 8=w/\σ 66=w/\σ 67=int o.length/\σ 68=int j/\6<=Z/\Y 0=some ⟨167,1,false,[[.nil]]⟩/\Y 1=some ⟨27,1,false,[[int 0]]⟩/\Y4 Y Z w o) o.length
    ⟨by simp[L],by simp[M],by simp[hw8],by simp[hw8],by simp,by simp,y,f,d,J⟩ ?_
   clear L M G z A y f d B J hi hw8 σ Y Z R;rintro j σ Y Z hjl ⟨L,M,h8,h66,h67,h68,y,f,d,J⟩;by_cases hltj:j<o.length
   ·have hwj:=q8 j;rcases J with rfl|⟨rfl,rfl⟩|⟨id,hid,rfl,hb⟩
    ·exact absurd rfl (N _ _)
    ·simp at hltj
    ·obtain⟨s,hs⟩:=yb (o[j]);have hgs:=hgo s (by rw[<-hs];exact zo hltj);have hel:(wv o).length=o.length:=by simp[wv]
     have I:∀h:j<(wv o).length,(wv o)[j]=s.V:=fun h=>by simp[wv,hs]
     have hset:(wv o).set j s.V=wv o:=by
      have h':j<(wv o).length:=by omega
      rw[<-I h'];exact List.set_getElem_self h'
     have hcp:∀Y Z,wE [.g xP] (FSt idS) [.agg s.V] Y Z=some (.agg s.V,Y,Z):=fun Y Z=>M3 idS s (.agg s.V) Y Z ⟨hgs.1.small,hgs.2.small⟩ (by simp[js.V,Cut.V]) (by simp[js.V,Cut.V]) (by simp[js.V,Cut.V])
     have m1:¬id=Z:=by omega
     simp only[js.V,Cut.V,qC,ye]at I hcp hset;have i0:¬0=id:=fun e=>by rw[<-e]at hb;rw[hb]at f;simp at f
     have i1:¬1=id:=fun e=>by rw[<-e]at hb;rw[hb]at d;simp at d
     have n0:¬0=Z:=by omega
     have n1:¬1=Z:=by omega
     simp[L,M,h8,h66,h67,h68,hltj,hel,hb,I,hcp,m1,hwj,hset];exact⟨by omega,by omega,by simp[i0,n0,f],by simp[i1,n1,d],.inr (.inr ⟨id,by omega,by rw[hel],by simp⟩)⟩
   ·obtain rfl:j=o.length:=by omega
    rcases J with rfl|⟨rfl,rfl⟩|⟨id,hid,rfl,hb⟩
    ·exact absurd rfl (N _ _)
    ·simp[L,M,h8,h66,h67,h68,f,d,M9,b,wJ,wv,f111]
    ·have i0:¬id=0:=fun e=>by rw[e]at hb;rw[hb]at f;simp at f
     have i1:¬id=1:=fun e=>by rw[e]at hb;rw[hb]at d;simp at d
     have hfx:=lr o;simp only[Sh.PY,O.sl.injEq,true_and]at hfx;simp[L,M,h8,h66,h67,h68,f,d,hb,i0,i1,M9,b,wJ,hfx,f111]
theorem fk:zh prog 111 (hP (rQ M9)):=
 ie (fn:=f111) zcG (yt func111) false [] _ fun args r h w S vs a=>by obtain⟨l,rfl,Y,rfl⟩:=qc h;obtain⟨r0,b,c⟩:=ly l Y;exact⟨_,r0,a,by simp[f111],b,c⟩
end Go.Q
