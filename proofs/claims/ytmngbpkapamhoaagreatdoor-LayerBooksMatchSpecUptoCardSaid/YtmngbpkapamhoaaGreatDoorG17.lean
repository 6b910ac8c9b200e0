/- Lemmas. -/
import Derived.Test.YtmngbpkapamhoaaGreatDoorRows
import Derived.Test.YtmngbpkapamhoaaGreatDoorG13
import Derived.Test.YtmngbpkapamhoaaGreatDoorG16
set_option maxRecDepth 8000
open Go Proofs Proofs.YtmngbpkapamhoaaGreatDoor Proofs.Tryz RowKit AM SpanLaw Q Zz
namespace Go.Q
theorem len2{α:Type}:∀{l:List α},l.length=2->∃a b,l=[a,b]
 |[a,b],_=>⟨a,b,rfl⟩
theorem len5{α:Type}:∀{l:List α},l.length=5->∃a b c d e,l=[a,b,c,d,e]
 |[a,b,c,d,e],_=>⟨a,b,c,d,e,rfl⟩
theorem len6{α:Type}:∀{l:List α},l.length=6->∃a b c d e f,l=[a,b,c,d,e,f]
 |[a,b,c,d,e,f],_=>⟨a,b,c,d,e,f,rfl⟩
theorem lQ{H:Type}:∀ds:List (DataW H),Rows.uptoBulkAll ds=(ds.map Rows.uptoBulk).sum
 |[]=>rfl
 |d::ds=>by simp[Rows.uptoBulkAll,lQ ds]
theorem j8{H:Type}{d:DataW H}{ds:List (DataW H)}(h:(d=.nil/\ds=[])\/∃sp,d=.slice ds sp):(ds.map Rows.uptoBulk).sum+1<=Rows.uptoBulk d:=by
 rcases h with⟨rfl,rfl⟩|⟨sp,rfl⟩
 ·simp[Rows.uptoBulk]
 ·simp only[Rows.uptoBulk,lQ];omega
theorem CQ:∀l:List qu,Vg l=(l.map qu.vb).sum
 |[]=>rfl
 |v::l=>by simp[Vg,CQ l]
theorem MC:∀l:List (za×qu),lT l=(l.map fun a=>a.1.length+a.2.vb).sum
 |[]=>rfl
 |(a,v)::l=>by simp[lT,MC l]
theorem Lo{H:Type}{t ts:TypeId}(hs:Qv prog t=some [(ts,0,1),(145,1,5)])(i:prog.cellsOf t=6)(j:prog.underlying ts=some .string){n:Nat}
  (k:∀m,m<n->∀(d:DataW H) b,jU prog m 145 d b->∃v:qu,b=v.V/\v.vb<=Rows.uptoBulk d) {d:DataW H} {b:zb} (h:jU prog n t d b):∃a:za×qu,b=kI a/\a.1.length+a.2.vb<=Rows.uptoBulk d:=by
 obtain⟨m,ds,rfl,rfl,e,c⟩:=j7 hs h;rw[i]at e;obtain⟨p,ds,rfl,l,c⟩:=qg c;obtain⟨q,ds,rfl,o,c⟩:=qg c;obtain rfl:=kG c
 ·skip
  obtain⟨s,rfl,f,_⟩:=yW j l;obtain⟨v,g,r⟩:=k m (by omega) _ _ o;obtain⟨u,w,x,y,z,A,rfl⟩:=len6 e
  ·skip
   simp only[wY,yE,kV,zj,zG,jq]at f g;subst f;refine⟨(s,v),by rw[kI,<-g],?_⟩;simp only[Rows.uptoBulk,Rows.uptoBulkAll];omega
theorem Pk{H:Type}:∀(n:Nat) (d:DataW H) g,jU prog n 145 d g->∃v:qu,g=v.V/\v.vb<=Rows.uptoBulk d:=by
 intro n
 induction n using Nat.strongRecOn with
 |ind n l=>
  intro d g h;obtain⟨m,ds,rfl,rfl,o,f⟩:=j7 zfD h;rw[Ln]at o;obtain⟨U,ds,rfl,B,f⟩:=qg f;obtain⟨W,ds,rfl,C,f⟩:=qg f;obtain⟨X,ds,rfl,D,f⟩:=qg f;obtain⟨y3,ds,rfl,E,f⟩:=qg f;obtain⟨y4,ds,rfl,F,f⟩:=qg f;obtain rfl:=kG f
  ·skip
   obtain⟨k,rfl,p,_⟩:=vK (k:=.i64) (by kernel_rfl) B;obtain⟨i,rfl,q,_⟩:=vK (k:=.i64) (by kernel_rfl) C;obtain⟨s,rfl,r,_⟩:=yW (by kernel_rfl) D;obtain⟨m3,G,I,J,K,t,_,L⟩:=jx (e:=145) (by kernel_rfl) E;obtain⟨u,M,N,P,Q,x,_,R⟩:=jx (e:=184) (by kernel_rfl) F;obtain rfl:u=m3:=by omega
   obtain⟨z,rfl,w3⟩:=jH (V:=qu.V) (w:=qu.vb) (b:=Rows.uptoBulk) (fun c y j=>l u (by omega) y c j.2) L;obtain⟨A,rfl,w4⟩:=jH (V:=kI) (w:=fun a=>a.1.length+a.2.vb) (b:=Rows.uptoBulk) (fun c y j=>Lo zfE UT (by kernel_rfl) (fun S T=>l S (by omega)) j.2) R;have g3:=j8 K;have g4:=j8 Q;obtain⟨p0,p1,p2,p3,p4,rfl⟩:=len5 o
   ·skip
    simp only[wY,yE,kV,zj,zG,jq]at p q r t x;subst p;subst q;subst r;subst t;subst x;refine⟨.mk k i s z A,by rw[Qm,Ln,UT];rfl,?_⟩;rw[Wg];show 1+s.length+Vg z+lT A<=_;rw[CQ,MC];simp only[Rows.uptoBulk,Rows.uptoBulkAll];omega
theorem len3{α:Type}:∀{l:List α},l.length=3->∃a b c,l=[a,b,c]
 |[a,b,c],_=>⟨a,b,c,rfl⟩
theorem len4{α:Type}:∀{l:List α},l.length=4->∃a b c d,l=[a,b,c,d]
 |[a,b,c,d],_=>⟨a,b,c,d,rfl⟩
theorem len7{α:Type}:∀{l:List α},l.length=7->∃a b c d e f g,l=[a,b,c,d,e,f,g]
 |[a,b,c,d,e,f,g],_=>⟨a,b,c,d,e,f,g,rfl⟩
theorem ziG{α:Type}:∀{l:List α},l.length=13->∃a b c d e f g h i j k m n,l=[a,b,c,d,e,f,g,h,i,j,k,m,n]
 |[a,b,c,d,e,f,g,h,i,j,k,m,n],_=>⟨a,b,c,d,e,f,g,h,i,j,k,m,n,rfl⟩
theorem MD:∀l:List qO,iG l=(l.map qO.cb).sum
 |[]=>rfl
 |c::l=>by simp[iG,MD l]
theorem Al{H:Type}:∀(n:Nat) (d:DataW H) g,jU prog n 53 d g->∃c:qO,g=c.V/\c.cb<=Rows.uptoBulk d:=by
 intro n
 induction n using Nat.strongRecOn with
 |ind n z=>
  intro d g h;obtain⟨m,ds,rfl,rfl,j,f⟩:=j7 ziA h;rw[zdO]at j;obtain⟨W,ds,rfl,A,f⟩:=qg f;obtain⟨X,ds,rfl,B,f⟩:=qg f;obtain⟨y2,ds,rfl,C,f⟩:=qg f;obtain⟨y3,ds,rfl,D,f⟩:=qg f;obtain⟨y4,ds,rfl,E,f⟩:=qg f;obtain⟨y5,ds,rfl,F,f⟩:=qg f;obtain⟨y6,ds,rfl,G,f⟩:=qg f;obtain rfl:=kG f
  ·skip
   obtain⟨k,rfl,l,_⟩:=vK (k:=.i64) (by kernel_rfl) A;obtain⟨a,rfl,q,_⟩:=yW (by kernel_rfl) B;obtain⟨o,rfl,r,_⟩:=vK (k:=.i64) (by kernel_rfl) C;obtain⟨I,J,K,L,M,s,_,N⟩:=jx (e:=145) (by kernel_rfl) D;obtain⟨p,rfl,t,_⟩:=yW (by kernel_rfl) E;obtain⟨u,rfl,v,_⟩:=yW (by kernel_rfl) F;obtain⟨P,Q,R,S,T,x,_,U⟩:=jx (e:=53) (by kernel_rfl) G;obtain⟨vs,rfl,w3⟩:=jH (V:=qu.V) (w:=qu.vb) (b:=Rows.uptoBulk) (fun c y i=>Pk I y c i.2) N;obtain⟨cs,rfl,w6⟩:=jH (V:=qO.V) (w:=qO.cb) (b:=Rows.uptoBulk) (fun c y i=>z P (by omega) y c i.2) U;have g3:=j8 M;have g6:=j8 T;obtain⟨p0,p1,p2,p3,p4,p5,p6,rfl⟩:=len7 j
   ·skip
    simp only[wY,yE,kV,zj,zG,jq]at l q r s t v x;subst l;subst q;subst r;subst s;subst t;subst v;subst x;refine⟨.mk k a o vs p u cs,by rw[we,Ln,zdO];rfl,?_⟩;rw[Wh];show 1+a.length+Vg vs+p.length+u.length+iG cs<=_;rw[CQ,MD];simp only[Rows.uptoBulk,Rows.uptoBulkAll];omega
theorem UU{H:Type}{n:Nat}{d:DataW H}{c:zb}(h:jU prog n 65 d c):∃s:Sp,c=jP s/\1<=Rows.uptoBulk d:=by
 obtain⟨m,ds,rfl,rfl,f,e⟩:=j7 ziE h;rw[zdS]at f;obtain⟨o,ds,rfl,j,e⟩:=qg e;obtain⟨p,ds,rfl,l,e⟩:=qg e;obtain rfl:=kG e;obtain⟨a,rfl,g,_⟩:=vK (k:=.i64) (by kernel_rfl) j;obtain⟨b,rfl,i,_⟩:=vK (k:=.i64) (by kernel_rfl) l;obtain⟨q,r,rfl⟩:=len2 f
 ·skip
  simp only[wY,yE,kV,zj,zG,jq]at g i;subst g;subst i;exact⟨(a,b),rfl,by simp only[Rows.uptoBulk,Rows.uptoBulkAll];omega⟩
theorem UW{H:Type}{n:Nat}{d:DataW H}{f:zb}(h:jU prog n 60 d f):∃s:Rg,f=Qq s/\1<=Rows.uptoBulk d:=by
 obtain⟨m,ds,rfl,rfl,g,e⟩:=j7 ziC h;rw[zdQ]at g;obtain⟨r,ds,rfl,o,e⟩:=qg e;obtain⟨t,ds,rfl,p,e⟩:=qg e;obtain⟨u,ds,rfl,q,e⟩:=qg e;obtain rfl:=kG e;obtain⟨a,rfl,i,_⟩:=vK (k:=.i64) (by kernel_rfl) o;obtain⟨b,rfl,j,_⟩:=vK (k:=.i64) (by kernel_rfl) p;obtain⟨c,rfl,l,_⟩:=vK (k:=.i64) (by kernel_rfl) q;obtain⟨v,w,x,rfl⟩:=len3 g
 ·skip
  simp only[wY,yE,kV,zj,zG,jq]at i j l;subst i;subst j;subst l;exact⟨(a,b,c),rfl,by simp only[Rows.uptoBulk,Rows.uptoBulkAll];omega⟩
theorem Gm{α:Type}(l:List α):(l.map fun _=>1).sum=l.length:=by
 induction l with
 |nil=>rfl
 |cons x l a=>simp only[z6,yo,a,zx];omega
theorem Pl{H:Type}{n:Nat}{d:DataW H}{f:zb}(h:jU prog n 63 d f):∃s:yz,f=s.V/\s.cb<=Rows.uptoBulk d:=by
 obtain⟨m,ds,rfl,rfl,j,g⟩:=j7 ziD h;rw[zdR]at j;obtain⟨A,ds,rfl,q,g⟩:=qg g;obtain⟨B,ds,rfl,r,g⟩:=qg g;obtain rfl:=kG g;obtain⟨a,rfl,o,_⟩:=vK (k:=.i64) (by kernel_rfl) q;obtain⟨C,t,u,_,v,p,_,x⟩:=jx (e:=65) (by kernel_rfl) r;obtain⟨l,rfl,z⟩:=jH (V:=jP) (w:=fun _=>1) (b:=Rows.uptoBulk) (fun c y i=>UU i.2) x;have D:=j8 v;rw[Gm]at z;obtain⟨E,F,rfl⟩:=len2 j
 ·skip
  simp only[wY,yE,kV,zj,zG,jq]at o p;subst o;subst p;refine⟨⟨a,l⟩,by rw[zdS];rfl,?_⟩;show 1+l.length<=_;simp only[Rows.uptoBulk,Rows.uptoBulkAll];omega
theorem Pm{H:Type}{n:Nat}{d:DataW H}{f:zb}(h:jU prog n 47 d f):∃s:w9,f=s.V/\s.cb<=Rows.uptoBulk d:=by
 obtain⟨m,ds,rfl,rfl,g,e⟩:=j7 ziy h;rw[zdM]at g;obtain⟨r,ds,rfl,o,e⟩:=qg e;obtain⟨t,ds,rfl,p,e⟩:=qg e;obtain⟨u,ds,rfl,q,e⟩:=qg e;obtain rfl:=kG e;obtain⟨a,rfl,i,_⟩:=yW (by kernel_rfl) o;obtain⟨b,rfl,j,_⟩:=yW (by kernel_rfl) p;obtain⟨c,rfl,l,_⟩:=vK (k:=.i64) (by kernel_rfl) q;obtain⟨v,w,x,rfl⟩:=len3 g
 ·skip
  simp only[wY,yE,kV,zj,zG,jq]at i j l;subst i;subst j;subst l;refine⟨⟨a,b,c⟩,rfl,?_⟩;show 1+a.length+b.length<=_;simp only[Rows.uptoBulk,Rows.uptoBulkAll];omega
theorem dE{H:Type}{n:Nat}{d:DataW H}{b:zb}(h:jU prog n 9 d b):∃s:za,b=[str s]/\1+s.length<=Rows.uptoBulk d:=by obtain⟨a,rfl,c,_⟩:=yW (by kernel_rfl) h;exact⟨a,c,by simp only[Rows.uptoBulk];omega⟩
theorem Pn{H:Type}{n:Nat}{d:DataW H}{g:zb}(h:jU prog n 49 d g):∃s:vi,g=s.V/\s.cb<=Rows.uptoBulk d:=by
 obtain⟨m,ds,rfl,rfl,j,f⟩:=j7 ziz h;rw[zdN]at j;obtain⟨D,ds,rfl,t,f⟩:=qg f;obtain⟨E,ds,rfl,u,f⟩:=qg f;obtain⟨F,ds,rfl,v,f⟩:=qg f;obtain⟨G,ds,rfl,x,f⟩:=qg f;obtain rfl:=kG f;obtain⟨a,rfl,o,_⟩:=yW (by kernel_rfl) t;obtain⟨b,rfl,p,_⟩:=yW (by kernel_rfl) u;obtain⟨c,rfl,q,_⟩:=vK (k:=.i64) (by kernel_rfl) v;obtain⟨I,z,A,_,B,r,_,C⟩:=jx (e:=9) (by kernel_rfl) x;obtain⟨l,rfl,J⟩:=jH (V:=fun s:List UInt8=>[str s]) (w:=fun s:List UInt8=>1+s.length) (b:=Rows.uptoBulk) (fun c y i=>dE i.2) C;have K:=j8 B;obtain⟨L,M,N,P,rfl⟩:=len4 j
 ·skip
  simp only[wY,yE,kV,zj,zG,jq]at o p q r;subst o;subst p;subst q;subst r;refine⟨⟨a,b,c,l⟩,by rw[cel9];rfl,?_⟩;show 1+a.length+b.length+(l.map fun s:List UInt8=>1+s.length).sum<=_;simp only[Rows.uptoBulk,Rows.uptoBulkAll];omega
theorem UX{H:Type}{n:Nat}{d:DataW H}{i:zb}(h:jU prog n 57 d i):∃s:Xp,i=s.V/\s.cb<=Rows.uptoBulk d:=by
 obtain⟨m,ds,rfl,rfl,j,f⟩:=j7 ziB h;rw[zdP]at j;obtain⟨W,ds,rfl,A,f⟩:=qg f;obtain⟨X,ds,rfl,B,f⟩:=qg f;obtain⟨y2,ds,rfl,C,f⟩:=qg f;obtain⟨y3,ds,rfl,D,f⟩:=qg f;obtain⟨y4,ds,rfl,E,f⟩:=qg f;obtain⟨y5,ds,rfl,F,f⟩:=qg f;obtain⟨y6,ds,rfl,G,f⟩:=qg f;obtain rfl:=kG f;obtain⟨a,rfl,k,_⟩:=yW (by kernel_rfl) A;obtain⟨b,rfl,l,_⟩:=yW (by kernel_rfl) B;obtain⟨c,rfl,o,_⟩:=yW (by kernel_rfl) C;obtain⟨p,q,w3⟩:=Al _ _ _ D;obtain⟨r,rfl,t,_⟩:=yW (by kernel_rfl) E;obtain⟨m5,I,J,_,K,u,_,L⟩:=jx (e:=60) (by kernel_rfl) F;obtain⟨m6,M,N,_,P,v,_,Q⟩:=jx (e:=63) (by kernel_rfl) G;obtain⟨x,rfl,R⟩:=jH (V:=Qq) (w:=fun _=>1) (b:=Rows.uptoBulk) (fun c y g=>UW g.2) L;obtain⟨z,rfl,w6⟩:=jH (V:=yz.V) (w:=yz.cb) (b:=Rows.uptoBulk) (fun c y g=>Pl g.2) Q;have g5:=j8 K;have g6:=j8 P;rw[Gm]at R;obtain⟨p0,p1,p2,p3,p4,p5,p6,p7,p8,p9,S,T,U,rfl⟩:=ziG j
 ·skip
  simp only[wY,yE,kV,zj,zG,jq]at k l o q t u v;subst k;subst l;subst o;subst t;subst u;subst v;refine⟨⟨a,b,c,p,r,x,z⟩,by rw[Xp.V,<-q,zdQ,zdR];rfl,?_⟩;show a.length+b.length+c.length+p.cb+r.length+x.length+(z.map yz.cb).sum<=_;simp only[Rows.uptoBulk,Rows.uptoBulkAll];omega
theorem UY{H:Type}{n:Nat}{d:DataW H}{g:zb}(h:jU prog n 27 d g):∃s:Bk,g=s.V/\s.cb<=Rows.uptoBulk d:=by
 obtain⟨m,ds,rfl,rfl,i,f⟩:=j7 zdL h;rw[zix]at i;obtain⟨J,ds,rfl,q,f⟩:=qg f;obtain⟨K,ds,rfl,r,f⟩:=qg f;obtain⟨L,ds,rfl,t,f⟩:=qg f;obtain rfl:=kG f;obtain⟨M,u,v,_,x,j,_,z⟩:=jx (e:=47) (by kernel_rfl) q;obtain⟨N,A,B,_,C,k,_,D⟩:=jx (e:=49) (by kernel_rfl) r;obtain⟨P,E,F,_,G,l,_,I⟩:=jx (e:=57) (by kernel_rfl) t;obtain⟨o,rfl,Q⟩:=jH (V:=w9.V) (w:=w9.cb) (b:=Rows.uptoBulk) (fun c y a=>Pm a.2) z;obtain⟨p,rfl,R⟩:=jH (V:=vi.V) (w:=vi.cb) (b:=Rows.uptoBulk) (fun c y a=>Pn a.2) D;obtain⟨l2,rfl,S⟩:=jH (V:=Xp.V) (w:=Xp.cb) (b:=Rows.uptoBulk) (fun c y a=>UX a.2) I;have T:=j8 x;have U:=j8 C;have W:=j8 G;obtain⟨X,p1,p2,rfl⟩:=len3 i
 ·skip
  simp only[wY,yE,kV,zj,zG,jq]at j k l;subst j;subst k;subst l;refine⟨⟨o,p,l2⟩,by rw[zdM,zdN,zdP];rfl,?_⟩;show(o.map w9.cb).sum+(p.map vi.cb).sum+(l2.map Xp.cb).sum<=_;simp only[Rows.uptoBulk,Rows.uptoBulkAll];omega
theorem ziH{α:Type}:∀{l:List α},l.length=10->∃a b c d e f g h i j,l=[a,b,c,d,e,f,g,h,i,j]
 |[a,b,c,d,e,f,g,h,i,j],_=>⟨a,b,c,d,e,f,g,h,i,j,rfl⟩
theorem Po{H:Type}{n:Nat}{d:DataW H}{i:zb}(h:jU prog n 82 d i):∃s:qU,i=s.V/\s.cb<=Rows.uptoBulk d:=by
 obtain⟨m,ds,rfl,rfl,j,f⟩:=j7 ziF h;rw[zdT]at j;obtain⟨I,ds,rfl,t,f⟩:=qg f;obtain⟨J,ds,rfl,u,f⟩:=qg f;obtain⟨K,ds,rfl,v,f⟩:=qg f;obtain⟨L,ds,rfl,x,f⟩:=qg f;obtain rfl:=kG f;obtain⟨a,rfl,k,_⟩:=yW (by kernel_rfl) t;obtain⟨M,z,A,_,B,l,_,C⟩:=jx (e:=9) (by kernel_rfl) u;obtain⟨N,D,E,_,F,o,_,G⟩:=jx (e:=9) (by kernel_rfl) v;obtain⟨p,q,P⟩:=Al _ _ _ x;obtain⟨r,rfl,Q⟩:=jH (V:=fun s:List UInt8=>[str s]) (w:=fun s:List UInt8=>1+s.length) (b:=Rows.uptoBulk) (fun c y g=>dE g.2) C;obtain⟨l2,rfl,R⟩:=jH (V:=fun s:List UInt8=>[str s]) (w:=fun s:List UInt8=>1+s.length) (b:=Rows.uptoBulk) (fun c y g=>dE g.2) G;have S:=j8 B;have T:=j8 F;obtain⟨U,W,X,p3,p4,p5,p6,p7,p8,p9,rfl⟩:=ziH j
 ·skip
  simp only[wY,yE,kV,zj,zG,jq]at k l o q;subst k;subst l;subst o;refine⟨⟨a,r,l2,p⟩,by rw[qU.V,<-q,cel9];rfl,?_⟩;show 1+a.length+(r.map fun s:List UInt8=>1+s.length).sum+(l2.map fun s:List UInt8=>1+s.length).sum+p.cb<=_;simp only[Rows.uptoBulk,Rows.uptoBulkAll];omega
theorem Lp{H:Type}{n:Nat}{d:DataW H}{f:O}(h:jU prog n 22 d [f]):∃l:List qU,f=.sl 10 (l.map qU.V)/\bH l+1<=Rows.uptoBulk d:=by obtain⟨m,es,ds,rfl,g,a,_,z⟩:=jx zdK h;obtain⟨l,rfl,i⟩:=jH (V:=qU.V) (w:=qU.cb) (b:=Rows.uptoBulk) (fun c y e=>Po e.2) z;have j:=j8 g;simp only[zj,zG]at a;rw[zdT]at a;exact⟨l,a,by unfold bH;omega⟩
end Go.Q
