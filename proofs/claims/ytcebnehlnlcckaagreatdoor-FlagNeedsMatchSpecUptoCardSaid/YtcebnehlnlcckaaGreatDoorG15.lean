/- Lemmas. -/
import Derived.Test.YtcebnehlnlcckaaGreatDoorRows
import Derived.Test.YtcebnehlnlcckaaGreatDoorG14
set_option maxRecDepth 8000
open Go Proofs Proofs.YtcebnehlnlcckaaGreatDoor Proofs.Tryz RowKit AM SpanLaw Q Zz
namespace Go.Q
theorem len2{α:Type}:∀{l:List α},l.length=2->∃a b,l=[a,b]
 |[a,b],_=>⟨a,b,rfl⟩
theorem len5{α:Type}:∀{l:List α},l.length=5->∃a b c d e,l=[a,b,c,d,e]
 |[a,b,c,d,e],_=>⟨a,b,c,d,e,rfl⟩
theorem len6{α:Type}:∀{l:List α},l.length=6->∃a b c d e f,l=[a,b,c,d,e,f]
 |[a,b,c,d,e,f],_=>⟨a,b,c,d,e,f,rfl⟩
theorem fK{H:Type}:∀ds:List (DataW H),Rows.uptoBulkAll ds=(ds.map Rows.uptoBulk).sum
 |[]=>rfl
 |d::ds=>by simp[Rows.uptoBulkAll,fK ds]
theorem jx{H:Type}{d:DataW H}{ds:List (DataW H)}(h:(d=.nil/\ds=[])\/∃sp,d=.slice ds sp):(ds.map Rows.uptoBulk).sum+1<=Rows.uptoBulk d:=by
 rcases h with⟨rfl,rfl⟩|⟨sp,rfl⟩
 ·simp[Rows.uptoBulk]
 ·simp only[Rows.uptoBulk,fK];omega
theorem gP:∀l:List qu,Ys l=(l.map qu.vb).sum
 |[]=>rfl
 |v::l=>by simp[Ys,gP l]
theorem Gg:∀l:List (za×qu),mS l=(l.map fun a=>a.1.length+a.2.vb).sum
 |[]=>rfl
 |(a,v)::l=>by simp[mS,Gg l]
theorem E1{H:Type}{t ts:TypeId}(hs:ZH prog t=some [(ts,0,1),(100,1,5)])(i:prog.cellsOf t=6)(j:prog.underlying ts=some .string){n:Nat}
  (k:∀m,m<n->∀(d:DataW H) b,je prog m 100 d b->∃v:qu,b=v.V/\v.vb<=Rows.uptoBulk d) {d:DataW H} {b:zb} (h:je prog n t d b):∃a:za×qu,b=kj a/\a.1.length+a.2.vb<=Rows.uptoBulk d:=by
 obtain⟨m,ds,rfl,rfl,e,c⟩:=jw hs h;rw[i]at e;obtain⟨p,ds,rfl,l,c⟩:=z7 c;obtain⟨q,ds,rfl,o,c⟩:=z7 c;obtain rfl:=jX c
 ·skip
  obtain⟨s,rfl,f,_⟩:=yK j l;obtain⟨v,g,r⟩:=k m (by omega) _ _ o;obtain⟨u,w,x,y,z,A,rfl⟩:=len6 e
  ·skip
   simp only[wS,yd,xt,zh,zA,jm]at f g;subst f;refine⟨(s,v),by rw[kj,<-g],?_⟩;simp only[Rows.uptoBulk,Rows.uptoBulkAll];omega
theorem pM{H:Type}:∀(n:Nat) (d:DataW H) g,je prog n 100 d g->∃v:qu,g=v.V/\v.vb<=Rows.uptoBulk d:=by
 intro n
 induction n using Nat.strongRecOn with
 |ind n l=>
  intro d g h;obtain⟨m,ds,rfl,rfl,o,f⟩:=jw za8 h;rw[tM]at o;obtain⟨W,ds,rfl,B,f⟩:=z7 f;obtain⟨X,ds,rfl,C,f⟩:=z7 f;obtain⟨y2,ds,rfl,D,f⟩:=z7 f;obtain⟨y3,ds,rfl,E,f⟩:=z7 f;obtain⟨y4,ds,rfl,F,f⟩:=z7 f;obtain rfl:=jX f
  ·skip
   obtain⟨k,rfl,p,_⟩:=vR (k:=.i64) (by kernel_rfl) B;obtain⟨i,rfl,q,_⟩:=vR (k:=.i64) (by kernel_rfl) C;obtain⟨s,rfl,r,_⟩:=yK (by kernel_rfl) D;obtain⟨m3,G,I,J,K,t,_,L⟩:=yR (e:=100) (by kernel_rfl) E;obtain⟨u,M,N,P,Q,x,_,R⟩:=yR (e:=143) (by kernel_rfl) F;obtain rfl:u=m3:=by omega
   obtain⟨z,rfl,w3⟩:=jb (V:=qu.V) (w:=qu.vb) (b:=Rows.uptoBulk) (fun c y j=>l u (by omega) y c j.2) L;obtain⟨A,rfl,w4⟩:=jb (V:=kj) (w:=fun a=>a.1.length+a.2.vb) (b:=Rows.uptoBulk) (fun c y j=>E1 zbb OU (by kernel_rfl) (fun S T=>l S (by omega)) j.2) R;have g3:=jx K;have g4:=jx Q;obtain⟨p0,p1,p2,p3,p4,rfl⟩:=len5 o
   ·skip
    simp only[wS,yd,xt,zh,zA,jm]at p q r t x;subst p;subst q;subst r;subst t;subst x;refine⟨.mk k i s z A,by rw[QE,tM,OU];rfl,?_⟩;rw[Ya];show 1+s.length+Ys z+mS A<=_;rw[gP,Gg];simp only[Rows.uptoBulk,Rows.uptoBulkAll];omega
theorem len3{α:Type}:∀{l:List α},l.length=3->∃a b c,l=[a,b,c]
 |[a,b,c],_=>⟨a,b,c,rfl⟩
theorem len4{α:Type}:∀{l:List α},l.length=4->∃a b c d,l=[a,b,c,d]
 |[a,b,c,d],_=>⟨a,b,c,d,rfl⟩
theorem len7{α:Type}:∀{l:List α},l.length=7->∃a b c d e f g,l=[a,b,c,d,e,f,g]
 |[a,b,c,d,e,f,g],_=>⟨a,b,c,d,e,f,g,rfl⟩
theorem Gh:∀l:List qW,mM l=(l.map qW.cb).sum
 |[]=>rfl
 |c::l=>by simp[mM,Gh l]
theorem pN{H:Type}:∀(n:Nat) (d:DataW H) g,je prog n 70 d g->∃c:qW,g=c.V/\c.cb<=Rows.uptoBulk d:=by
 intro n
 induction n using Nat.strongRecOn with
 |ind n z=>
  intro d g h;obtain⟨m,ds,rfl,rfl,j,f⟩:=jw zd6 h;rw[Uu]at j;obtain⟨X,ds,rfl,A,f⟩:=z7 f;obtain⟨y1,ds,rfl,B,f⟩:=z7 f;obtain⟨y2,ds,rfl,C,f⟩:=z7 f;obtain⟨y3,ds,rfl,D,f⟩:=z7 f;obtain⟨y4,ds,rfl,E,f⟩:=z7 f;obtain⟨y5,ds,rfl,F,f⟩:=z7 f;obtain⟨y6,ds,rfl,G,f⟩:=z7 f;obtain rfl:=jX f
  ·skip
   obtain⟨k,rfl,l,_⟩:=vR (k:=.i64) (by kernel_rfl) A;obtain⟨a,rfl,q,_⟩:=yK (by kernel_rfl) B;obtain⟨o,rfl,r,_⟩:=vR (k:=.i64) (by kernel_rfl) C;obtain⟨I,J,K,L,M,s,_,N⟩:=yR (e:=100) (by kernel_rfl) D;obtain⟨p,rfl,t,_⟩:=yK (by kernel_rfl) E;obtain⟨u,rfl,v,_⟩:=yK (by kernel_rfl) F;obtain⟨P,Q,R,S,T,x,_,W⟩:=yR (e:=70) (by kernel_rfl) G;obtain⟨vs,rfl,w3⟩:=jb (V:=qu.V) (w:=qu.vb) (b:=Rows.uptoBulk) (fun c y i=>pM I y c i.2) N;obtain⟨cs,rfl,w6⟩:=jb (V:=qW.V) (w:=qW.cb) (b:=Rows.uptoBulk) (fun c y i=>z P (by omega) y c i.2) W;have g3:=jx M;have g6:=jx T;obtain⟨p0,p1,p2,p3,p4,p5,p6,rfl⟩:=len7 j
   ·skip
    simp only[wS,yd,xt,zh,zA,jm]at l q r s t v x;subst l;subst q;subst r;subst s;subst t;subst v;subst x;refine⟨.mk k a o vs p u cs,by rw[q6,tM,Uu];rfl,?_⟩;rw[Jm];show 1+a.length+Ys vs+p.length+u.length+mM cs<=_;rw[gP,Gh];simp only[Rows.uptoBulk,Rows.uptoBulkAll];omega
theorem OW{H:Type}{n:Nat}{d:DataW H}{f:zb}(h:je prog n 151 d f):∃s:Rg,f=Vt s/\1<=Rows.uptoBulk d:=by
 obtain⟨m,ds,rfl,rfl,g,e⟩:=jw zbc h;rw[OV]at g;obtain⟨r,ds,rfl,o,e⟩:=z7 e;obtain⟨t,ds,rfl,p,e⟩:=z7 e;obtain⟨u,ds,rfl,q,e⟩:=z7 e;obtain rfl:=jX e;obtain⟨a,rfl,i,_⟩:=vR (k:=.i64) (by kernel_rfl) o;obtain⟨b,rfl,j,_⟩:=vR (k:=.i64) (by kernel_rfl) p;obtain⟨c,rfl,l,_⟩:=vR (k:=.i64) (by kernel_rfl) q;obtain⟨v,w,x,rfl⟩:=len3 g
 ·skip
  simp only[wS,yd,xt,zh,zA,jm]at i j l;subst i;subst j;subst l;exact⟨(a,b,c),rfl,by simp only[Rows.uptoBulk,Rows.uptoBulkAll];omega⟩
theorem OX{α:Type}(l:List α):(l.map fun _=>1).sum=l.length:=by
 induction l with
 |nil=>rfl
 |cons x l a=>simp only[wc,gR,a,zP];omega
theorem bf{H:Type}{n:Nat}{d:DataW H}{b:zb}(h:je prog n 9 d b):∃s:za,b=[str s]/\1+s.length<=Rows.uptoBulk d:=by obtain⟨a,rfl,c,_⟩:=yK (by kernel_rfl) h;exact⟨a,c,by simp only[Rows.uptoBulk];omega⟩
theorem zd8{α:Type}:∀{l:List α},l.length=10->∃a b c d e f g h i j,l=[a,b,c,d,e,f,g,h,i,j]
 |[a,b,c,d,e,f,g,h,i,j],_=>⟨a,b,c,d,e,f,g,h,i,j,rfl⟩
theorem I5{H:Type}{n:Nat}{d:DataW H}{i:zb}(h:je prog n 72 d i):∃s:qA,i=s.V/\s.cb<=Rows.uptoBulk d:=by
 obtain⟨m,ds,rfl,rfl,j,f⟩:=jw zd7 h;rw[Uv]at j;obtain⟨I,ds,rfl,t,f⟩:=z7 f;obtain⟨J,ds,rfl,u,f⟩:=z7 f;obtain⟨K,ds,rfl,v,f⟩:=z7 f;obtain⟨L,ds,rfl,x,f⟩:=z7 f;obtain rfl:=jX f;obtain⟨a,rfl,k,_⟩:=yK (by kernel_rfl) t;obtain⟨M,z,A,_,B,l,_,C⟩:=yR (e:=9) (by kernel_rfl) u;obtain⟨N,D,E,_,F,o,_,G⟩:=yR (e:=9) (by kernel_rfl) v;obtain⟨p,q,P⟩:=pN _ _ _ x;obtain⟨r,rfl,Q⟩:=jb (V:=fun s:List UInt8=>[str s]) (w:=fun s:List UInt8=>1+s.length) (b:=Rows.uptoBulk) (fun c y g=>bf g.2) C;obtain⟨l2,rfl,R⟩:=jb (V:=fun s:List UInt8=>[str s]) (w:=fun s:List UInt8=>1+s.length) (b:=Rows.uptoBulk) (fun c y g=>bf g.2) G;have S:=jx B;have T:=jx F;obtain⟨W,X,p2,p3,p4,p5,p6,p7,p8,p9,rfl⟩:=zd8 j
 ·skip
  simp only[wS,yd,xt,zh,zA,jm]at k l o q;subst k;subst l;subst o;refine⟨⟨a,r,l2,p⟩,by rw[qA.V,<-q,cel9];rfl,?_⟩;show 1+a.length+(r.map fun s:List UInt8=>1+s.length).sum+(l2.map fun s:List UInt8=>1+s.length).sum+p.cb<=_;simp only[Rows.uptoBulk,Rows.uptoBulkAll];omega
theorem zd9{α:Type}:∀{l:List α},l.length=11->∃a b c d e f g h i j k,l=[a,b,c,d,e,f,g,h,i,j,k]
 |[a,b,c,d,e,f,g,h,i,j,k],_=>⟨a,b,c,d,e,f,g,h,i,j,k,rfl⟩
theorem zea{α:Type}:∀{l:List α},l.length=12->∃a b c d e f g h i j k m,l=[a,b,c,d,e,f,g,h,i,j,k,m]
 |[a,b,c,d,e,f,g,h,i,j,k,m],_=>⟨a,b,c,d,e,f,g,h,i,j,k,m,rfl⟩
theorem pO{H:Type}{n:Nat}{d:DataW H}{g:zb}(h:je prog n 43 d g):∃s:JR,g=s.V/\s.cb<=Rows.uptoBulk d:=by
 obtain⟨m,ds,rfl,rfl,j,f⟩:=jw zd2 h;rw[zd3]at j;obtain⟨E,ds,rfl,t,f⟩:=z7 f;obtain⟨F,ds,rfl,u,f⟩:=z7 f;obtain⟨G,ds,rfl,v,f⟩:=z7 f;obtain⟨I,ds,rfl,x,f⟩:=z7 f;obtain rfl:=jX f;obtain⟨a,rfl,o,_⟩:=vR (k:=.i64) (by kernel_rfl) t;obtain⟨b,rfl,p,_⟩:=yK (by kernel_rfl) u;obtain⟨c,rfl,q,_⟩:=yK (by kernel_rfl) v;obtain⟨J,z,A,_,B,r,_,C⟩:=yR (e:=151) (by kernel_rfl) x;obtain⟨l,rfl,D⟩:=jb (V:=Vt) (w:=fun _=>1) (b:=Rows.uptoBulk) (fun c y i=>OW i.2) C;have K:=jx B;rw[OX]at D;obtain⟨L,M,N,P,rfl⟩:=len4 j
 ·skip
  simp only[wS,yd,xt,zh,zA,jm]at o p q r;subst o;subst p;subst q;subst r;refine⟨⟨a,b,c,l⟩,by rw[OV];rfl,?_⟩;show 1+b.length+c.length+l.length<=_;simp only[Rows.uptoBulk,Rows.uptoBulkAll];omega
theorem I6{H:Type}{n:Nat}{d:DataW H}{f:zb}(h:je prog n 109 d f):∃s:kB,f=s.V/\s.cb<=Rows.uptoBulk d:=by
 obtain⟨m,ds,rfl,rfl,j,g⟩:=jw za9 h;rw[OS]at j;obtain⟨z,ds,rfl,q,g⟩:=z7 g;obtain⟨A,ds,rfl,r,g⟩:=z7 g;obtain rfl:=jX g;obtain⟨a,rfl,o,_⟩:=vR (k:=.i64) (by kernel_rfl) q;obtain⟨B,t,u,_,v,p,_,x⟩:=yR (e:=9) (by kernel_rfl) r;obtain⟨l,rfl,C⟩:=jb (V:=fun s:List UInt8=>[str s]) (w:=fun s:List UInt8=>1+s.length) (b:=Rows.uptoBulk) (fun c y i=>bf i.2) x;have D:=jx v;obtain⟨E,F,rfl⟩:=len2 j
 ·skip
  simp only[wS,yd,xt,zh,zA,jm]at o p;subst o;subst p;refine⟨⟨a,l⟩,by rw[cel9];rfl,?_⟩;show 1+(l.map fun s:List UInt8=>1+s.length).sum<=_;simp only[Rows.uptoBulk,Rows.uptoBulkAll];omega
theorem I7{H:Type}{n:Nat}{d:DataW H}{c:zb}(h:je prog n 54 d c):∃s:jB,c=s.V/\s.cb<=Rows.uptoBulk d:=by
 obtain⟨m,ds,rfl,rfl,f,e⟩:=jw zd5 h;rw[Ut]at f;obtain⟨o,ds,rfl,j,e⟩:=z7 e;obtain⟨p,ds,rfl,l,e⟩:=z7 e;obtain rfl:=jX e;obtain⟨a,rfl,g,_⟩:=yK (by kernel_rfl) j;obtain⟨b,rfl,i,_⟩:=vR (k:=.i64) (by kernel_rfl) l;obtain⟨q,r,rfl⟩:=len2 f
 ·skip
  simp only[wS,yd,xt,zh,zA,jm]at g i;subst g;subst i;refine⟨⟨a,b⟩,rfl,?_⟩;show 1+a.length<=_;simp only[Rows.uptoBulk,Rows.uptoBulkAll];omega
theorem I8{H:Type}{n:Nat}{d:DataW H}{e:zb}(h:je prog n 111 d e):∃s:Zh,e=s.V/\s.cb<=Rows.uptoBulk d:=by
 obtain⟨m,ds,rfl,rfl,f,b⟩:=jw zba h;rw[OT]at f;obtain⟨r,ds,rfl,k,b⟩:=z7 b;obtain⟨t,ds,rfl,l,b⟩:=z7 b;obtain⟨u,ds,rfl,o,b⟩:=z7 b;obtain rfl:=jX b;obtain⟨a,rfl,g,_⟩:=yK (by kernel_rfl) k;obtain⟨c,i,v⟩:=pN _ _ _ l;obtain⟨s,j,w⟩:=pO o;obtain⟨x,y,z,A,B,C,D,E,F,G,p,q,rfl⟩:=zea f
 ·skip
  simp only[wS,yd,xt,zh,zA,jm]at g i j;subst g;refine⟨⟨a,c,s⟩,by rw[Zh.V,<-i,<-j];rfl,?_⟩;show 1+a.length+c.cb+s.cb<=_;simp only[Rows.uptoBulk,Rows.uptoBulkAll];omega
theorem I9{H:Type}{n:Nat}{d:DataW H}{i:zb}(h:je prog n 45 d i):∃s:wC,i=s.V/\s.cb<=Rows.uptoBulk d:=by
 obtain⟨m,ds,rfl,rfl,j,f⟩:=jw zd4 h;rw[Us]at j;obtain⟨y0,ds,rfl,C,f⟩:=z7 f;obtain⟨y1,ds,rfl,D,f⟩:=z7 f;obtain⟨y2,ds,rfl,E,f⟩:=z7 f;obtain⟨y3,ds,rfl,F,f⟩:=z7 f;obtain⟨y4,ds,rfl,G,f⟩:=z7 f;obtain⟨y5,ds,rfl,I,f⟩:=z7 f;obtain⟨y6,ds,rfl,J,f⟩:=z7 f;obtain⟨y7,ds,rfl,K,f⟩:=z7 f;obtain rfl:=jX f;obtain⟨a,rfl,l,_⟩:=yK (by kernel_rfl) C;obtain⟨b,rfl,p⟩:=E0 (by kernel_rfl) D;obtain⟨L,M,N,_,P,q,_,Q⟩:=yR (e:=100) (by kernel_rfl) E;obtain⟨o,rfl,r,_⟩:=vR (k:=.i64) (by kernel_rfl) F;obtain⟨m4,R,S,_,T,t,_,W⟩:=yR (e:=54) (by kernel_rfl) G;obtain⟨m5,X,ds5,_,b5,u,_,z5⟩:=yR (e:=109) (by kernel_rfl) I;obtain⟨m6,es6,ds6,_,b6,v,_,z6⟩:=yR (e:=111) (by kernel_rfl) J;obtain⟨s,x,w7⟩:=pO K;obtain⟨l2,rfl,w2⟩:=jb (V:=qu.V) (w:=qu.vb) (b:=Rows.uptoBulk) (fun c y g=>pM L y c g.2) Q;obtain⟨z,rfl,w4⟩:=jb (V:=jB.V) (w:=jB.cb) (b:=Rows.uptoBulk) (fun c y g=>I7 g.2) W;obtain⟨A,rfl,w5⟩:=jb (V:=kB.V) (w:=kB.cb) (b:=Rows.uptoBulk) (fun c y g=>I6 g.2) z5;obtain⟨B,rfl,w6⟩:=jb (V:=Zh.V) (w:=Zh.cb) (b:=Rows.uptoBulk) (fun c y g=>I8 g.2) z6;have g2:=jx P;have g4:=jx T;have g5:=jx b5;have g6:=jx b6;obtain⟨p0,p1,p2,p3,p4,p5,p6,p7,p8,p9,p10,rfl⟩:=zd9 j
 ·skip
  simp only[wS,yd,xt,zh,zA,jm]at l p q r t u v x;subst l;subst p;subst q;subst r;subst t;subst u;subst v;refine⟨⟨a,b,l2,o,z,A,B,s⟩,by rw[wC.V,<-x,tM,Ut,OS,OT];rfl,?_⟩;show 1+a.length+Ys l2+(z.map jB.cb).sum+(A.map kB.cb).sum+(B.map Zh.cb).sum+s.cb<=_;rw[gP];simp only[Rows.uptoBulk,Rows.uptoBulkAll];omega
theorem La{H:Type}{n:Nat}{d:DataW H}{f:zb}(h:je prog n 25 d f):∃s:ky,f=s.V/\s.cb<=Rows.uptoBulk d:=by
 obtain⟨m,ds,rfl,rfl,i,g⟩:=jw Ur h;rw[zd1]at i;obtain⟨C,ds,rfl,p,g⟩:=z7 g;obtain⟨D,ds,rfl,q,g⟩:=z7 g;obtain rfl:=jX g;obtain⟨E,r,t,_,u,j,_,v⟩:=yR (e:=72) (by kernel_rfl) p;obtain⟨F,x,z,_,A,k,_,B⟩:=yR (e:=45) (by kernel_rfl) q;obtain⟨l,rfl,G⟩:=jb (V:=qA.V) (w:=qA.cb) (b:=Rows.uptoBulk) (fun c y a=>I5 a.2) v;obtain⟨o,rfl,I⟩:=jb (V:=wC.V) (w:=wC.cb) (b:=Rows.uptoBulk) (fun c y a=>I9 a.2) B;have J:=jx u;have K:=jx A;obtain⟨L,M,rfl⟩:=len2 i
 ·skip
  simp only[wS,yd,xt,zh,zA,jm]at j k;subst j;subst k;refine⟨⟨l,o⟩,by rw[Uv,Us];rfl,?_⟩;show Jg l+(o.map wC.cb).sum<=_;unfold Jg;simp only[Rows.uptoBulk,Rows.uptoBulkAll];omega
end Go.Q
