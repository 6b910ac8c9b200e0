/- Lemmas. -/
import Derived.Test.YtdlbkbojibiiaaaGreatDoorRows
import Derived.Test.YtdlbkbojibiiaaaGreatDoorG7
import Derived.Test.YtdlbkbojibiiaaaGreatDoorG13
set_option maxRecDepth 8000
open Go Proofs Proofs.YtdlbkbojibiiaaaGreatDoor Proofs.Tryz RowKit AM SpanLaw Q Zz
namespace Go.Q
theorem len2{α:Type}:∀{l:List α},l.length=2->∃a b,l=[a,b]
 |[a,b],_=>⟨a,b,rfl⟩
theorem len5{α:Type}:∀{l:List α},l.length=5->∃a b c d e,l=[a,b,c,d,e]
 |[a,b,c,d,e],_=>⟨a,b,c,d,e,rfl⟩
theorem len6{α:Type}:∀{l:List α},l.length=6->∃a b c d e f,l=[a,b,c,d,e,f]
 |[a,b,c,d,e,f],_=>⟨a,b,c,d,e,f,rfl⟩
theorem mO{H:Type}:∀ds:List (DataW H),Rows.uptoBulkAll ds=(ds.map Rows.uptoBulk).sum
 |[]=>rfl
 |d::ds=>by simp[Rows.uptoBulkAll,mO ds]
theorem jI{H:Type}{d:DataW H}{ds:List (DataW H)}(h:(d=.nil/\ds=[])\/∃sp,d=.slice ds sp):(ds.map Rows.uptoBulk).sum+1<=Rows.uptoBulk d:=by
 rcases h with⟨rfl,rfl⟩|⟨sp,rfl⟩
 ·simp[Rows.uptoBulk]
 ·simp only[Rows.uptoBulk,mO];omega
theorem DQ:∀l:List qn,VG l=(l.map qn.vb).sum
 |[]=>rfl
 |v::l=>by simp[VG,DQ l]
theorem DR:∀l:List (za×qn),bZ l=(l.map fun a=>a.1.length+a.2.vb).sum
 |[]=>rfl
 |(a,v)::l=>by simp[bZ,DR l]
theorem sK{H:Type}{t ts:TypeId}(hs:ZL prog t=some [(ts,0,1),(61,1,5)])(i:prog.cellsOf t=6)(j:prog.underlying ts=some .string){n:Nat}
  (k:∀m,m<n->∀(d:DataW H) b,jK prog m 61 d b->∃v:qn,b=v.V/\v.vb<=Rows.uptoBulk d) {d:DataW H} {b:zb} (h:jK prog n t d b):∃a:za×qn,b=yD a/\a.1.length+a.2.vb<=Rows.uptoBulk d:=by
 obtain⟨m,ds,rfl,rfl,e,c⟩:=jE hs h;rw[i]at e;obtain⟨p,ds,rfl,l,c⟩:=qi c;obtain⟨q,ds,rfl,o,c⟩:=qi c;obtain rfl:=j6 c
 ·skip
  obtain⟨s,rfl,f,_⟩:=yw j l;obtain⟨v,g,r⟩:=k m (by omega) _ _ o;obtain⟨u,w,x,y,z,A,rfl⟩:=len6 e
  ·skip
   simp only[ym,yj,kU,zh,zD,jk]at f g;subst f;refine⟨(s,v),by rw[yD,<-g],?_⟩;simp only[Rows.uptoBulk,Rows.uptoBulkAll];omega
theorem A9{H:Type}:∀(n:Nat) (d:DataW H) g,jK prog n 61 d g->∃v:qn,g=v.V/\v.vb<=Rows.uptoBulk d:=by
 intro n
 induction n using Nat.strongRecOn with
 |ind n l=>
  intro d g h;obtain⟨m,ds,rfl,rfl,o,f⟩:=jE zkR h;rw[zbQ]at o;obtain⟨W,ds,rfl,B,f⟩:=qi f;obtain⟨X,ds,rfl,C,f⟩:=qi f;obtain⟨y2,ds,rfl,D,f⟩:=qi f;obtain⟨y3,ds,rfl,E,f⟩:=qi f;obtain⟨y4,ds,rfl,F,f⟩:=qi f;obtain rfl:=j6 f
  ·skip
   obtain⟨k,rfl,p,_⟩:=vk (k:=.i64) (by kernel_rfl) B;obtain⟨i,rfl,q,_⟩:=vk (k:=.i64) (by kernel_rfl) C;obtain⟨s,rfl,r,_⟩:=yw (by kernel_rfl) D;obtain⟨m3,G,I,J,K,t,_,L⟩:=jd (e:=61) (by kernel_rfl) E;obtain⟨u,M,N,P,Q,x,_,R⟩:=jd (e:=154) (by kernel_rfl) F;obtain rfl:u=m3:=by omega
   obtain⟨z,rfl,w3⟩:=jv (V:=qn.V) (w:=qn.vb) (b:=Rows.uptoBulk) (fun c y j=>l u (by omega) y c j.2) L;obtain⟨A,rfl,w4⟩:=jv (V:=yD) (w:=fun a=>a.1.length+a.2.vb) (b:=Rows.uptoBulk) (fun c y j=>sK zhK zbU (by kernel_rfl) (fun S T=>l S (by omega)) j.2) R;have g3:=jI K;have g4:=jI Q;obtain⟨p0,p1,p2,p3,p4,rfl⟩:=len5 o
   ·skip
    simp only[ym,yj,kU,zh,zD,jk]at p q r t x;subst p;subst q;subst r;subst t;subst x;refine⟨.mk k i s z A,by rw[Zj,zbQ,zbU];rfl,?_⟩;rw[Zp];show 1+s.length+VG z+bZ A<=_;rw[DQ,DR];simp only[Rows.uptoBulk,Rows.uptoBulkAll];omega
theorem len3{α:Type}:∀{l:List α},l.length=3->∃a b c,l=[a,b,c]
 |[a,b,c],_=>⟨a,b,c,rfl⟩
theorem len4{α:Type}:∀{l:List α},l.length=4->∃a b c d,l=[a,b,c,d]
 |[a,b,c,d],_=>⟨a,b,c,d,rfl⟩
theorem len7{α:Type}:∀{l:List α},l.length=7->∃a b c d e f g,l=[a,b,c,d,e,f,g]
 |[a,b,c,d,e,f,g],_=>⟨a,b,c,d,e,f,g,rfl⟩
theorem zkX{α:Type}:∀{l:List α},l.length=13->∃a b c d e f g h i j k m n,l=[a,b,c,d,e,f,g,h,i,j,k,m,n]
 |[a,b,c,d,e,f,g,h,i,j,k,m,n],_=>⟨a,b,c,d,e,f,g,h,i,j,k,m,n,rfl⟩
theorem Ox:∀l:List qO,lG l=(l.map qO.cb).sum
 |[]=>rfl
 |c::l=>by simp[lG,Ox l]
theorem Ba{H:Type}:∀(n:Nat) (d:DataW H) g,jK prog n 70 d g->∃c:qO,g=c.V/\c.cb<=Rows.uptoBulk d:=by
 intro n
 induction n using Nat.strongRecOn with
 |ind n z=>
  intro d g h;obtain⟨m,ds,rfl,rfl,j,f⟩:=jE zkT h;rw[zf2]at j;obtain⟨X,ds,rfl,A,f⟩:=qi f;obtain⟨y1,ds,rfl,B,f⟩:=qi f;obtain⟨y2,ds,rfl,C,f⟩:=qi f;obtain⟨y3,ds,rfl,D,f⟩:=qi f;obtain⟨y4,ds,rfl,E,f⟩:=qi f;obtain⟨y5,ds,rfl,F,f⟩:=qi f;obtain⟨y6,ds,rfl,G,f⟩:=qi f;obtain rfl:=j6 f
  ·skip
   obtain⟨k,rfl,l,_⟩:=vk (k:=.i64) (by kernel_rfl) A;obtain⟨a,rfl,q,_⟩:=yw (by kernel_rfl) B;obtain⟨o,rfl,r,_⟩:=vk (k:=.i64) (by kernel_rfl) C;obtain⟨I,J,K,L,M,s,_,N⟩:=jd (e:=61) (by kernel_rfl) D;obtain⟨p,rfl,t,_⟩:=yw (by kernel_rfl) E;obtain⟨u,rfl,v,_⟩:=yw (by kernel_rfl) F;obtain⟨P,Q,R,S,T,x,_,W⟩:=jd (e:=70) (by kernel_rfl) G;obtain⟨vs,rfl,w3⟩:=jv (V:=qn.V) (w:=qn.vb) (b:=Rows.uptoBulk) (fun c y i=>A9 I y c i.2) N;obtain⟨cs,rfl,w6⟩:=jv (V:=qO.V) (w:=qO.cb) (b:=Rows.uptoBulk) (fun c y i=>z P (by omega) y c i.2) W;have g3:=jI M;have g6:=jI T;obtain⟨p0,p1,p2,p3,p4,p5,p6,rfl⟩:=len7 j
   ·skip
    simp only[ym,yj,kU,zh,zD,jk]at l q r s t v x;subst l;subst q;subst r;subst s;subst t;subst v;subst x;refine⟨.mk k a o vs p u cs,by rw[qY,zbQ,zf2];rfl,?_⟩;rw[Qb];show 1+a.length+VG vs+p.length+u.length+lG cs<=_;rw[DQ,Ox];simp only[Rows.uptoBulk,Rows.uptoBulkAll];omega
theorem zbV{H:Type}{n:Nat}{d:DataW H}{c:zb}(h:jK prog n 115 d c):∃s:Sp,c=ja s/\1<=Rows.uptoBulk d:=by
 obtain⟨m,ds,rfl,rfl,f,e⟩:=jE zhH h;rw[zbR]at f;obtain⟨o,ds,rfl,j,e⟩:=qi e;obtain⟨p,ds,rfl,l,e⟩:=qi e;obtain rfl:=j6 e;obtain⟨a,rfl,g,_⟩:=vk (k:=.i64) (by kernel_rfl) j;obtain⟨b,rfl,i,_⟩:=vk (k:=.i64) (by kernel_rfl) l;obtain⟨q,r,rfl⟩:=len2 f
 ·skip
  simp only[ym,yj,kU,zh,zD,jk]at g i;subst g;subst i;exact⟨(a,b),rfl,by simp only[Rows.uptoBulk,Rows.uptoBulkAll];omega⟩
theorem zbW{H:Type}{n:Nat}{d:DataW H}{f:zb}(h:jK prog n 126 d f):∃s:Rg,f=QU s/\1<=Rows.uptoBulk d:=by
 obtain⟨m,ds,rfl,rfl,g,e⟩:=jE zhJ h;rw[zbT]at g;obtain⟨r,ds,rfl,o,e⟩:=qi e;obtain⟨t,ds,rfl,p,e⟩:=qi e;obtain⟨u,ds,rfl,q,e⟩:=qi e;obtain rfl:=j6 e;obtain⟨a,rfl,i,_⟩:=vk (k:=.i64) (by kernel_rfl) o;obtain⟨b,rfl,j,_⟩:=vk (k:=.i64) (by kernel_rfl) p;obtain⟨c,rfl,l,_⟩:=vk (k:=.i64) (by kernel_rfl) q;obtain⟨v,w,x,rfl⟩:=len3 g
 ·skip
  simp only[ym,yj,kU,zh,zD,jk]at i j l;subst i;subst j;subst l;exact⟨(a,b,c),rfl,by simp only[Rows.uptoBulk,Rows.uptoBulkAll];omega⟩
theorem H0{α:Type}(l:List α):(l.map fun _=>1).sum=l.length:=by
 induction l with
 |nil=>rfl
 |cons x l a=>simp only[wD,n9,a,zV];omega
theorem SG{H:Type}{n:Nat}{d:DataW H}{f:zb}(h:jK prog n 118 d f):∃s:yM,f=s.V/\s.cb<=Rows.uptoBulk d:=by
 obtain⟨m,ds,rfl,rfl,j,g⟩:=jE zhI h;rw[zbS]at j;obtain⟨A,ds,rfl,q,g⟩:=qi g;obtain⟨B,ds,rfl,r,g⟩:=qi g;obtain rfl:=j6 g;obtain⟨a,rfl,o,_⟩:=vk (k:=.i64) (by kernel_rfl) q;obtain⟨C,t,u,_,v,p,_,x⟩:=jd (e:=115) (by kernel_rfl) r;obtain⟨l,rfl,z⟩:=jv (V:=ja) (w:=fun _=>1) (b:=Rows.uptoBulk) (fun c y i=>zbV i.2) x;have D:=jI v;rw[H0]at z;obtain⟨E,F,rfl⟩:=len2 j
 ·skip
  simp only[ym,yj,kU,zh,zD,jk]at o p;subst o;subst p;refine⟨⟨a,l⟩,by rw[zbR];rfl,?_⟩;show 1+l.length<=_;simp only[Rows.uptoBulk,Rows.uptoBulkAll];omega
theorem SH{H:Type}{n:Nat}{d:DataW H}{f:zb}(h:jK prog n 50 d f):∃s:wL,f=s.V/\s.cb<=Rows.uptoBulk d:=by
 obtain⟨m,ds,rfl,rfl,g,e⟩:=jE zkQ h;rw[zf0]at g;obtain⟨r,ds,rfl,o,e⟩:=qi e;obtain⟨t,ds,rfl,p,e⟩:=qi e;obtain⟨u,ds,rfl,q,e⟩:=qi e;obtain rfl:=j6 e;obtain⟨a,rfl,i,_⟩:=yw (by kernel_rfl) o;obtain⟨b,rfl,j,_⟩:=yw (by kernel_rfl) p;obtain⟨c,rfl,l,_⟩:=vk (k:=.i64) (by kernel_rfl) q;obtain⟨v,w,x,rfl⟩:=len3 g
 ·skip
  simp only[ym,yj,kU,zh,zD,jk]at i j l;subst i;subst j;subst l;refine⟨⟨a,b,c⟩,rfl,?_⟩;show 1+a.length+b.length<=_;simp only[Rows.uptoBulk,Rows.uptoBulkAll];omega
theorem ek{H:Type}{n:Nat}{d:DataW H}{b:zb}(h:jK prog n 9 d b):∃s:za,b=[str s]/\1+s.length<=Rows.uptoBulk d:=by obtain⟨a,rfl,c,_⟩:=yw (by kernel_rfl) h;exact⟨a,c,by simp only[Rows.uptoBulk];omega⟩
theorem SI{H:Type}{n:Nat}{d:DataW H}{g:zb}(h:jK prog n 90 d g):∃s:vK,g=s.V/\s.cb<=Rows.uptoBulk d:=by
 obtain⟨m,ds,rfl,rfl,j,f⟩:=jE zkV h;rw[zf4]at j;obtain⟨D,ds,rfl,t,f⟩:=qi f;obtain⟨E,ds,rfl,u,f⟩:=qi f;obtain⟨F,ds,rfl,v,f⟩:=qi f;obtain⟨G,ds,rfl,x,f⟩:=qi f;obtain rfl:=j6 f;obtain⟨a,rfl,o,_⟩:=yw (by kernel_rfl) t;obtain⟨b,rfl,p,_⟩:=yw (by kernel_rfl) u;obtain⟨c,rfl,q,_⟩:=vk (k:=.i64) (by kernel_rfl) v;obtain⟨I,z,A,_,B,r,_,C⟩:=jd (e:=9) (by kernel_rfl) x;obtain⟨l,rfl,J⟩:=jv (V:=fun s:List UInt8=>[str s]) (w:=fun s:List UInt8=>1+s.length) (b:=Rows.uptoBulk) (fun c y i=>ek i.2) C;have K:=jI B;obtain⟨L,M,N,P,rfl⟩:=len4 j
 ·skip
  simp only[ym,yj,kU,zh,zD,jk]at o p q r;subst o;subst p;subst q;subst r;refine⟨⟨a,b,c,l⟩,by rw[cel9];rfl,?_⟩;show 1+a.length+b.length+(l.map fun s:List UInt8=>1+s.length).sum<=_;simp only[Rows.uptoBulk,Rows.uptoBulkAll];omega
theorem zbX{H:Type}{n:Nat}{d:DataW H}{i:zb}(h:jK prog n 74 d i):∃s:Xp,i=s.V/\s.cb<=Rows.uptoBulk d:=by
 obtain⟨m,ds,rfl,rfl,j,f⟩:=jE zkU h;rw[zf3]at j;obtain⟨X,ds,rfl,A,f⟩:=qi f;obtain⟨y1,ds,rfl,B,f⟩:=qi f;obtain⟨y2,ds,rfl,C,f⟩:=qi f;obtain⟨y3,ds,rfl,D,f⟩:=qi f;obtain⟨y4,ds,rfl,E,f⟩:=qi f;obtain⟨y5,ds,rfl,F,f⟩:=qi f;obtain⟨y6,ds,rfl,G,f⟩:=qi f;obtain rfl:=j6 f;obtain⟨a,rfl,k,_⟩:=yw (by kernel_rfl) A;obtain⟨b,rfl,l,_⟩:=yw (by kernel_rfl) B;obtain⟨c,rfl,o,_⟩:=yw (by kernel_rfl) C;obtain⟨p,q,w3⟩:=Ba _ _ _ D;obtain⟨r,rfl,t,_⟩:=yw (by kernel_rfl) E;obtain⟨m5,I,J,_,K,u,_,L⟩:=jd (e:=126) (by kernel_rfl) F;obtain⟨m6,M,N,_,P,v,_,Q⟩:=jd (e:=118) (by kernel_rfl) G;obtain⟨x,rfl,R⟩:=jv (V:=QU) (w:=fun _=>1) (b:=Rows.uptoBulk) (fun c y g=>zbW g.2) L;obtain⟨z,rfl,w6⟩:=jv (V:=yM.V) (w:=yM.cb) (b:=Rows.uptoBulk) (fun c y g=>SG g.2) Q;have g5:=jI K;have g6:=jI P;rw[H0]at R;obtain⟨p0,p1,p2,p3,p4,p5,p6,p7,p8,p9,S,T,W,rfl⟩:=zkX j
 ·skip
  simp only[ym,yj,kU,zh,zD,jk]at k l o q t u v;subst k;subst l;subst o;subst t;subst u;subst v;refine⟨⟨a,b,c,p,r,x,z⟩,by rw[Xp.V,<-q,zbT,zbS];rfl,?_⟩;show a.length+b.length+c.length+p.cb+r.length+x.length+(z.map yM.cb).sum<=_;simp only[Rows.uptoBulk,Rows.uptoBulkAll];omega
theorem zbY{H:Type}{n:Nat}{d:DataW H}{g:zb}(h:jK prog n 27 d g):∃s:Bk,g=s.V/\s.cb<=Rows.uptoBulk d:=by
 obtain⟨m,ds,rfl,rfl,i,f⟩:=jE zfY h;rw[zkO]at i;obtain⟨J,ds,rfl,q,f⟩:=qi f;obtain⟨K,ds,rfl,r,f⟩:=qi f;obtain⟨L,ds,rfl,t,f⟩:=qi f;obtain rfl:=j6 f;obtain⟨M,u,v,_,x,j,_,z⟩:=jd (e:=50) (by kernel_rfl) q;obtain⟨N,A,B,_,C,k,_,D⟩:=jd (e:=90) (by kernel_rfl) r;obtain⟨P,E,F,_,G,l,_,I⟩:=jd (e:=74) (by kernel_rfl) t;obtain⟨o,rfl,Q⟩:=jv (V:=wL.V) (w:=wL.cb) (b:=Rows.uptoBulk) (fun c y a=>SH a.2) z;obtain⟨p,rfl,R⟩:=jv (V:=vK.V) (w:=vK.cb) (b:=Rows.uptoBulk) (fun c y a=>SI a.2) D;obtain⟨l2,rfl,S⟩:=jv (V:=Xp.V) (w:=Xp.cb) (b:=Rows.uptoBulk) (fun c y a=>zbX a.2) I;have T:=jI x;have W:=jI C;have X:=jI G;obtain⟨p0,p1,p2,rfl⟩:=len3 i
 ·skip
  simp only[ym,yj,kU,zh,zD,jk]at j k l;subst j;subst k;subst l;refine⟨⟨o,p,l2⟩,by rw[zf0,zf4,zf3];rfl,?_⟩;show(o.map wL.cb).sum+(p.map vK.cb).sum+(l2.map Xp.cb).sum<=_;simp only[Rows.uptoBulk,Rows.uptoBulkAll];omega
theorem zkY{α:Type}:∀{l:List α},l.length=10->∃a b c d e f g h i j,l=[a,b,c,d,e,f,g,h,i,j]
 |[a,b,c,d,e,f,g,h,i,j],_=>⟨a,b,c,d,e,f,g,h,i,j,rfl⟩
theorem SJ{H:Type}{n:Nat}{d:DataW H}{i:zb}(h:jK prog n 95 d i):∃s:qa,i=s.V/\s.cb<=Rows.uptoBulk d:=by
 obtain⟨m,ds,rfl,rfl,j,f⟩:=jE zkW h;rw[zf5]at j;obtain⟨I,ds,rfl,t,f⟩:=qi f;obtain⟨J,ds,rfl,u,f⟩:=qi f;obtain⟨K,ds,rfl,v,f⟩:=qi f;obtain⟨L,ds,rfl,x,f⟩:=qi f;obtain rfl:=j6 f;obtain⟨a,rfl,k,_⟩:=yw (by kernel_rfl) t;obtain⟨M,z,A,_,B,l,_,C⟩:=jd (e:=9) (by kernel_rfl) u;obtain⟨N,D,E,_,F,o,_,G⟩:=jd (e:=9) (by kernel_rfl) v;obtain⟨p,q,P⟩:=Ba _ _ _ x;obtain⟨r,rfl,Q⟩:=jv (V:=fun s:List UInt8=>[str s]) (w:=fun s:List UInt8=>1+s.length) (b:=Rows.uptoBulk) (fun c y g=>ek g.2) C;obtain⟨l2,rfl,R⟩:=jv (V:=fun s:List UInt8=>[str s]) (w:=fun s:List UInt8=>1+s.length) (b:=Rows.uptoBulk) (fun c y g=>ek g.2) G;have S:=jI B;have T:=jI F;obtain⟨W,X,p2,p3,p4,p5,p6,p7,p8,p9,rfl⟩:=zkY j
 ·skip
  simp only[ym,yj,kU,zh,zD,jk]at k l o q;subst k;subst l;subst o;refine⟨⟨a,r,l2,p⟩,by rw[qa.V,<-q,cel9];rfl,?_⟩;show 1+a.length+(r.map fun s:List UInt8=>1+s.length).sum+(l2.map fun s:List UInt8=>1+s.length).sum+p.cb<=_;simp only[Rows.uptoBulk,Rows.uptoBulkAll];omega
theorem Nc{H:Type}{n:Nat}{d:DataW H}{f:O}(h:jK prog n 22 d [f]):∃l:List qa,f=.sl 10 (l.map qa.V)/\QZ l+1<=Rows.uptoBulk d:=by obtain⟨m,es,ds,rfl,g,a,_,z⟩:=jd zfX h;obtain⟨l,rfl,i⟩:=jv (V:=qa.V) (w:=qa.cb) (b:=Rows.uptoBulk) (fun c y e=>SJ e.2) z;have j:=jI g;simp only[zh,zD]at a;rw[zf5]at a;exact⟨l,a,by unfold QZ;omega⟩
theorem Nd{H:Type}{n:Nat}{d:DataW H}{f:zb}(h:jK prog n 30 d f):∃x:qL,f=x.V/\x.cb+1<=Rows.uptoBulk d:=by
 obtain⟨m,ds,rfl,rfl,j,g⟩:=jE zfZ h;rw[zkP]at j;obtain⟨z,ds,rfl,p,g⟩:=qi g;obtain⟨A,ds,rfl,q,g⟩:=qi g;obtain rfl:=j6 g
 ·skip
  obtain⟨s,rfl,k,_⟩:=yw (by kernel_rfl) p;obtain⟨B,es,r,rfl,t,o,_,u⟩:=jd (e:=63) (by kernel_rfl) q;obtain⟨l,rfl,C⟩:=jv (V:=yD) (w:=fun a=>a.1.length+a.2.vb) (b:=Rows.uptoBulk) (fun c y i=>sK zkS zf1 (by kernel_rfl) (fun v _=>A9 v) i.2) u;have D:=jI t;obtain⟨E,F,rfl⟩:=len2 j
  ·skip
   simp only[ym,yj,kU,zh,zD,jk]at k o;subst k;subst o;refine⟨⟨s,l⟩,by rw[qL.V,zf1],?_⟩;rw[JZ];show s.length+bZ l+1<=_;rw[DR];simp only[Rows.uptoBulk,Rows.uptoBulkAll];omega
end Go.Q
