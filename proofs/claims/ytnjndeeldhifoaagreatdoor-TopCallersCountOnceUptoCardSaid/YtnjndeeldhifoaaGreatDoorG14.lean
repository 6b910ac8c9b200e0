/- Lemmas. -/
import Derived.Test.YtnjndeeldhifoaaGreatDoorRows
import Derived.Test.YtnjndeeldhifoaaGreatDoorG9
import Derived.Test.YtnjndeeldhifoaaGreatDoorG13
set_option maxRecDepth 8000
open Go Proofs Proofs.YtnjndeeldhifoaaGreatDoor Proofs.Tryz RowKit AM SpanLaw Q Zz
namespace Go.Q
theorem Ss{α:Type}:∀{l:List α},l.length=2->∃a b,l=[a,b]
 |[a,b],_=>⟨a,b,rfl⟩
theorem len5{α:Type}:∀{l:List α},l.length=5->∃a b c d e,l=[a,b,c,d,e]
 |[a,b,c,d,e],_=>⟨a,b,c,d,e,rfl⟩
theorem len6{α:Type}:∀{l:List α},l.length=6->∃a b c d e f,l=[a,b,c,d,e,f]
 |[a,b,c,d,e,f],_=>⟨a,b,c,d,e,f,rfl⟩
theorem aP{H:Type}:∀ds:List (DataW H),Rows.uptoBulkAll ds=(ds.map Rows.uptoBulk).sum
 |[]=>rfl
 |d::ds=>by simp[Rows.uptoBulkAll,aP ds]
theorem ym{H:Type}{d:DataW H}{ds:List (DataW H)}(h:(d=.nil/\ds=[])\/∃sp,d=.slice ds sp):(ds.map Rows.uptoBulk).sum+1<=Rows.uptoBulk d:=by
 rcases h with⟨rfl,rfl⟩|⟨sp,rfl⟩
 ·simp[Rows.uptoBulk]
 ·simp only[Rows.uptoBulk,aP];omega
theorem mL:∀l:List qp,Ju l=(l.map qp.vb).sum
 |[]=>rfl
 |v::l=>by simp[Ju,mL l]
theorem mM:∀l:List (za×qp),V8 l=(l.map fun a=>a.1.length+a.2.vb).sum
 |[]=>rfl
 |(a,v)::l=>by simp[V8,mM l]
theorem fe{H:Type}{t ts:TypeId}(hs:vk prog t=some [(ts,0,1),(94,1,5)])(i:prog.cellsOf t=6)(j:prog.underlying ts=some .string){n:Nat}
  (k:∀m,m<n->∀(d:DataW H) b,yz prog m 94 d b->∃v:qp,b=v.V/\v.vb<=Rows.uptoBulk d) {d:DataW H} {b:zb} (h:yz prog n t d b):∃a:za×qp,b=wS a/\a.1.length+a.2.vb<=Rows.uptoBulk d:=by
 obtain⟨m,ds,rfl,rfl,e,c⟩:=yx hs h;rw[i]at e;obtain⟨p,ds,rfl,l,c⟩:=zI c;obtain⟨q,ds,rfl,o,c⟩:=zI c;obtain rfl:=yO c
 ·skip
  obtain⟨s,rfl,f,_⟩:=wy j l;obtain⟨v,g,r⟩:=k m (by omega) _ _ o;obtain⟨u,w,x,y,z,A,rfl⟩:=len6 e
  ·skip
   simp only[wZ,wi,jQ,zc,zs,yf]at f g;subst f;refine⟨(s,v),by rw[wS,<-g],?_⟩;simp only[Rows.uptoBulk,Rows.uptoBulkAll];omega
theorem iE{H:Type}:∀(n:Nat) (d:DataW H) g,yz prog n 94 d g->∃v:qp,g=v.V/\v.vb<=Rows.uptoBulk d:=by
 intro n
 induction n using Nat.strongRecOn with
 |ind n l=>
  intro d g h;obtain⟨m,ds,rfl,rfl,o,f⟩:=yx zbp h;rw[Ii]at o;obtain⟨W,ds,rfl,B,f⟩:=zI f;obtain⟨X,ds,rfl,C,f⟩:=zI f;obtain⟨y2,ds,rfl,D,f⟩:=zI f;obtain⟨y3,ds,rfl,E,f⟩:=zI f;obtain⟨y4,ds,rfl,F,f⟩:=zI f;obtain rfl:=yO f
  ·skip
   obtain⟨k,rfl,p,_⟩:=ji (k:=.i64) (by kernel_rfl) B;obtain⟨i,rfl,q,_⟩:=ji (k:=.i64) (by kernel_rfl) C;obtain⟨s,rfl,r,_⟩:=wy (by kernel_rfl) D;obtain⟨m3,G,I,J,K,t,_,L⟩:=wV (e:=94) (by kernel_rfl) E;obtain⟨u,M,N,P,Q,x,_,R⟩:=wV (e:=168) (by kernel_rfl) F;obtain rfl:u=m3:=by omega
   obtain⟨z,rfl,w3⟩:=ya (V:=qp.V) (w:=qp.vb) (b:=Rows.uptoBulk) (fun c y j=>l u (by omega) y c j.2) L;obtain⟨A,rfl,w4⟩:=ya (V:=wS) (w:=fun a=>a.1.length+a.2.vb) (b:=Rows.uptoBulk) (fun c y j=>fe Sr Io (by kernel_rfl) (fun S T=>l S (by omega)) j.2) R;have g3:=ym K;have g4:=ym Q;obtain⟨p0,p1,p2,p3,p4,rfl⟩:=len5 o
   ·skip
    simp only[wZ,wi,jQ,zc,zs,yf]at p q r t x;subst p;subst q;subst r;subst t;subst x;refine⟨.mk k i s z A,by rw[vD,Ii,Io];rfl,?_⟩;rw[Kf];show 1+s.length+Ju z+V8 A<=_;rw[mL,mM];simp only[Rows.uptoBulk,Rows.uptoBulkAll];omega
theorem Su{α:Type}:∀{l:List α},l.length=3->∃a b c,l=[a,b,c]
 |[a,b,c],_=>⟨a,b,c,rfl⟩
theorem len4{α:Type}:∀{l:List α},l.length=4->∃a b c d,l=[a,b,c,d]
 |[a,b,c,d],_=>⟨a,b,c,d,rfl⟩
theorem len7{α:Type}:∀{l:List α},l.length=7->∃a b c d e f g,l=[a,b,c,d,e,f,g]
 |[a,b,c,d,e,f,g],_=>⟨a,b,c,d,e,f,g,rfl⟩
theorem zbr{α:Type}:∀{l:List α},l.length=13->∃a b c d e f g h i j k m n,l=[a,b,c,d,e,f,g,h,i,j,k,m,n]
 |[a,b,c,d,e,f,g,h,i,j,k,m,n],_=>⟨a,b,c,d,e,f,g,h,i,j,k,m,n,rfl⟩
theorem Bu:∀l:List qT,En l=(l.map qT.cb).sum
 |[]=>rfl
 |c::l=>by simp[En,Bu l]
theorem iF{H:Type}:∀(n:Nat) (d:DataW H) g,yz prog n 66 d g->∃c:qT,g=c.V/\c.cb<=Rows.uptoBulk d:=by
 intro n
 induction n using Nat.strongRecOn with
 |ind n z=>
  intro d g h;obtain⟨m,ds,rfl,rfl,j,f⟩:=yx zbm h;rw[OS]at j;obtain⟨X,ds,rfl,A,f⟩:=zI f;obtain⟨y1,ds,rfl,B,f⟩:=zI f;obtain⟨y2,ds,rfl,C,f⟩:=zI f;obtain⟨y3,ds,rfl,D,f⟩:=zI f;obtain⟨y4,ds,rfl,E,f⟩:=zI f;obtain⟨y5,ds,rfl,F,f⟩:=zI f;obtain⟨y6,ds,rfl,G,f⟩:=zI f;obtain rfl:=yO f
  ·skip
   obtain⟨k,rfl,l,_⟩:=ji (k:=.i64) (by kernel_rfl) A;obtain⟨a,rfl,q,_⟩:=wy (by kernel_rfl) B;obtain⟨o,rfl,r,_⟩:=ji (k:=.i64) (by kernel_rfl) C;obtain⟨I,J,K,L,M,s,_,N⟩:=wV (e:=94) (by kernel_rfl) D;obtain⟨p,rfl,t,_⟩:=wy (by kernel_rfl) E;obtain⟨u,rfl,v,_⟩:=wy (by kernel_rfl) F;obtain⟨P,Q,R,S,T,x,_,W⟩:=wV (e:=66) (by kernel_rfl) G;obtain⟨vs,rfl,w3⟩:=ya (V:=qp.V) (w:=qp.vb) (b:=Rows.uptoBulk) (fun c y i=>iE I y c i.2) N;obtain⟨cs,rfl,w6⟩:=ya (V:=qT.V) (w:=qT.cb) (b:=Rows.uptoBulk) (fun c y i=>z P (by omega) y c i.2) W;have g3:=ym M;have g6:=ym T;obtain⟨p0,p1,p2,p3,p4,p5,p6,rfl⟩:=len7 j
   ·skip
    simp only[wZ,wi,jQ,zc,zs,yf]at l q r s t v x;subst l;subst q;subst r;subst s;subst t;subst v;subst x;refine⟨.mk k a o vs p u cs,by rw[wY,Ii,OS];rfl,?_⟩;rw[Kj];show 1+a.length+Ju vs+p.length+u.length+En cs<=_;rw[mL,Bu];simp only[Rows.uptoBulk,Rows.uptoBulkAll];omega
theorem Ip{H:Type}{n:Nat}{d:DataW H}{c:zb}(h:yz prog n 59 d c):∃s:Sp,c=wc s/\1<=Rows.uptoBulk d:=by
 obtain⟨m,ds,rfl,rfl,f,e⟩:=yx zbl h;rw[OR]at f;obtain⟨o,ds,rfl,j,e⟩:=zI e;obtain⟨p,ds,rfl,l,e⟩:=zI e;obtain rfl:=yO e;obtain⟨a,rfl,g,_⟩:=ji (k:=.i64) (by kernel_rfl) j;obtain⟨b,rfl,i,_⟩:=ji (k:=.i64) (by kernel_rfl) l;obtain⟨q,r,rfl⟩:=Ss f
 ·skip
  simp only[wZ,wi,jQ,zc,zs,yf]at g i;subst g;subst i;exact⟨(a,b),rfl,by simp only[Rows.uptoBulk,Rows.uptoBulkAll];omega⟩
theorem Iq{H:Type}{n:Nat}{d:DataW H}{f:zb}(h:yz prog n 145 d f):∃s:Rg,f=Q6 s/\1<=Rows.uptoBulk d:=by
 obtain⟨m,ds,rfl,rfl,g,e⟩:=yx Sq h;rw[Im]at g;obtain⟨r,ds,rfl,o,e⟩:=zI e;obtain⟨t,ds,rfl,p,e⟩:=zI e;obtain⟨u,ds,rfl,q,e⟩:=zI e;obtain rfl:=yO e;obtain⟨a,rfl,i,_⟩:=ji (k:=.i64) (by kernel_rfl) o;obtain⟨b,rfl,j,_⟩:=ji (k:=.i64) (by kernel_rfl) p;obtain⟨c,rfl,l,_⟩:=ji (k:=.i64) (by kernel_rfl) q;obtain⟨v,w,x,rfl⟩:=Su g
 ·skip
  simp only[wZ,wi,jQ,zc,zs,yf]at i j l;subst i;subst j;subst l;exact⟨(a,b,c),rfl,by simp only[Rows.uptoBulk,Rows.uptoBulkAll];omega⟩
theorem rS{α:Type}(l:List α):(l.map fun _=>1).sum=l.length:=by
 induction l with
 |nil=>rfl
 |cons x l a=>simp only[z6,Jt,a,zU];omega
theorem Ee{H:Type}{n:Nat}{d:DataW H}{f:zb}(h:yz prog n 73 d f):∃s:y0,f=s.V/\s.cb<=Rows.uptoBulk d:=by
 obtain⟨m,ds,rfl,rfl,j,g⟩:=yx zbo h;rw[OU]at j;obtain⟨A,ds,rfl,q,g⟩:=zI g;obtain⟨B,ds,rfl,r,g⟩:=zI g;obtain rfl:=yO g;obtain⟨a,rfl,o,_⟩:=ji (k:=.i64) (by kernel_rfl) q;obtain⟨C,t,u,_,v,p,_,x⟩:=wV (e:=59) (by kernel_rfl) r;obtain⟨l,rfl,z⟩:=ya (V:=wc) (w:=fun _=>1) (b:=Rows.uptoBulk) (fun c y i=>Ip i.2) x;have D:=ym v;rw[rS]at z;obtain⟨E,F,rfl⟩:=Ss j
 ·skip
  simp only[wZ,wi,jQ,zc,zs,yf]at o p;subst o;subst p;refine⟨⟨a,l⟩,by rw[OR];rfl,?_⟩;show 1+l.length<=_;simp only[Rows.uptoBulk,Rows.uptoBulkAll];omega
theorem Ef{H:Type}{n:Nat}{d:DataW H}{f:zb}(h:yz prog n 101 d f):∃s:yq,f=s.V/\s.cb<=Rows.uptoBulk d:=by
 obtain⟨m,ds,rfl,rfl,g,e⟩:=yx Sl h;rw[Ij]at g;obtain⟨r,ds,rfl,o,e⟩:=zI e;obtain⟨t,ds,rfl,p,e⟩:=zI e;obtain⟨u,ds,rfl,q,e⟩:=zI e;obtain rfl:=yO e;obtain⟨a,rfl,i,_⟩:=wy (by kernel_rfl) o;obtain⟨b,rfl,j,_⟩:=wy (by kernel_rfl) p;obtain⟨c,rfl,l,_⟩:=ji (k:=.i64) (by kernel_rfl) q;obtain⟨v,w,x,rfl⟩:=Su g
 ·skip
  simp only[wZ,wi,jQ,zc,zs,yf]at i j l;subst i;subst j;subst l;refine⟨⟨a,b,c⟩,rfl,?_⟩;show 1+a.length+b.length<=_;simp only[Rows.uptoBulk,Rows.uptoBulkAll];omega
theorem KY{H:Type}{n:Nat}{d:DataW H}{b:zb}(h:yz prog n 9 d b):∃s:za,b=[str s]/\1+s.length<=Rows.uptoBulk d:=by obtain⟨a,rfl,c,_⟩:=wy (by kernel_rfl) h;exact⟨a,c,by simp only[Rows.uptoBulk];omega⟩
theorem Eg{H:Type}{n:Nat}{d:DataW H}{g:zb}(h:yz prog n 132 d g):∃s:Z5,g=s.V/\s.cb<=Rows.uptoBulk d:=by
 obtain⟨m,ds,rfl,rfl,j,f⟩:=yx Sn h;rw[Il]at j;obtain⟨D,ds,rfl,t,f⟩:=zI f;obtain⟨E,ds,rfl,u,f⟩:=zI f;obtain⟨F,ds,rfl,v,f⟩:=zI f;obtain⟨G,ds,rfl,x,f⟩:=zI f;obtain rfl:=yO f;obtain⟨a,rfl,o,_⟩:=wy (by kernel_rfl) t;obtain⟨b,rfl,p,_⟩:=wy (by kernel_rfl) u;obtain⟨c,rfl,q,_⟩:=ji (k:=.i64) (by kernel_rfl) v;obtain⟨I,z,A,_,B,r,_,C⟩:=wV (e:=9) (by kernel_rfl) x;obtain⟨l,rfl,J⟩:=ya (V:=fun s:List UInt8=>[str s]) (w:=fun s:List UInt8=>1+s.length) (b:=Rows.uptoBulk) (fun c y i=>KY i.2) C;have K:=ym B;obtain⟨L,M,N,P,rfl⟩:=len4 j
 ·skip
  simp only[wZ,wi,jQ,zc,zs,yf]at o p q r;subst o;subst p;subst q;subst r;refine⟨⟨a,b,c,l⟩,by rw[cel9];rfl,?_⟩;show 1+a.length+b.length+(l.map fun s:List UInt8=>1+s.length).sum<=_;simp only[Rows.uptoBulk,Rows.uptoBulkAll];omega
theorem Ir{H:Type}{n:Nat}{d:DataW H}{i:zb}(h:yz prog n 70 d i):∃s:Xp,i=s.V/\s.cb<=Rows.uptoBulk d:=by
 obtain⟨m,ds,rfl,rfl,j,f⟩:=yx zbn h;rw[OT]at j;obtain⟨X,ds,rfl,A,f⟩:=zI f;obtain⟨y1,ds,rfl,B,f⟩:=zI f;obtain⟨y2,ds,rfl,C,f⟩:=zI f;obtain⟨y3,ds,rfl,D,f⟩:=zI f;obtain⟨y4,ds,rfl,E,f⟩:=zI f;obtain⟨y5,ds,rfl,F,f⟩:=zI f;obtain⟨y6,ds,rfl,G,f⟩:=zI f;obtain rfl:=yO f;obtain⟨a,rfl,k,_⟩:=wy (by kernel_rfl) A;obtain⟨b,rfl,l,_⟩:=wy (by kernel_rfl) B;obtain⟨c,rfl,o,_⟩:=wy (by kernel_rfl) C;obtain⟨p,q,w3⟩:=iF _ _ _ D;obtain⟨r,rfl,t,_⟩:=wy (by kernel_rfl) E;obtain⟨m5,I,J,_,K,u,_,L⟩:=wV (e:=145) (by kernel_rfl) F;obtain⟨m6,M,N,_,P,v,_,Q⟩:=wV (e:=73) (by kernel_rfl) G;obtain⟨x,rfl,R⟩:=ya (V:=Q6) (w:=fun _=>1) (b:=Rows.uptoBulk) (fun c y g=>Iq g.2) L;obtain⟨z,rfl,w6⟩:=ya (V:=y0.V) (w:=y0.cb) (b:=Rows.uptoBulk) (fun c y g=>Ee g.2) Q;have g5:=ym K;have g6:=ym P;rw[rS]at R;obtain⟨p0,p1,p2,p3,p4,p5,p6,p7,p8,p9,S,T,W,rfl⟩:=zbr j
 ·skip
  simp only[wZ,wi,jQ,zc,zs,yf]at k l o q t u v;subst k;subst l;subst o;subst t;subst u;subst v;refine⟨⟨a,b,c,p,r,x,z⟩,by rw[Xp.V,<-q,Im,OU];rfl,?_⟩;show a.length+b.length+c.length+p.cb+r.length+x.length+(z.map y0.cb).sum<=_;simp only[Rows.uptoBulk,Rows.uptoBulkAll];omega
theorem Is{H:Type}{n:Nat}{d:DataW H}{g:zb}(h:yz prog n 27 d g):∃s:Bk,g=s.V/\s.cb<=Rows.uptoBulk d:=by
 obtain⟨m,ds,rfl,rfl,i,f⟩:=yx OP h;rw[zbi]at i;obtain⟨J,ds,rfl,q,f⟩:=zI f;obtain⟨K,ds,rfl,r,f⟩:=zI f;obtain⟨L,ds,rfl,t,f⟩:=zI f;obtain rfl:=yO f;obtain⟨M,u,v,_,x,j,_,z⟩:=wV (e:=101) (by kernel_rfl) q;obtain⟨N,A,B,_,C,k,_,D⟩:=wV (e:=132) (by kernel_rfl) r;obtain⟨P,E,F,_,G,l,_,I⟩:=wV (e:=70) (by kernel_rfl) t;obtain⟨o,rfl,Q⟩:=ya (V:=yq.V) (w:=yq.cb) (b:=Rows.uptoBulk) (fun c y a=>Ef a.2) z;obtain⟨p,rfl,R⟩:=ya (V:=Z5.V) (w:=Z5.cb) (b:=Rows.uptoBulk) (fun c y a=>Eg a.2) D;obtain⟨l2,rfl,S⟩:=ya (V:=Xp.V) (w:=Xp.cb) (b:=Rows.uptoBulk) (fun c y a=>Ir a.2) I;have T:=ym x;have W:=ym C;have X:=ym G;obtain⟨p0,p1,p2,rfl⟩:=Su i
 ·skip
  simp only[wZ,wi,jQ,zc,zs,yf]at j k l;subst j;subst k;subst l;refine⟨⟨o,p,l2⟩,by rw[Ij,Il,OT];rfl,?_⟩;show(o.map yq.cb).sum+(p.map Z5.cb).sum+(l2.map Xp.cb).sum<=_;simp only[Rows.uptoBulk,Rows.uptoBulkAll];omega
theorem zbs{α:Type}:∀{l:List α},l.length=10->∃a b c d e f g h i j,l=[a,b,c,d,e,f,g,h,i,j]
 |[a,b,c,d,e,f,g,h,i,j],_=>⟨a,b,c,d,e,f,g,h,i,j,rfl⟩
theorem Eh{H:Type}{n:Nat}{d:DataW H}{i:zb}(h:yz prog n 120 d i):∃s:qN,i=s.V/\s.cb<=Rows.uptoBulk d:=by
 obtain⟨m,ds,rfl,rfl,j,f⟩:=yx Sm h;rw[Ik]at j;obtain⟨I,ds,rfl,t,f⟩:=zI f;obtain⟨J,ds,rfl,u,f⟩:=zI f;obtain⟨K,ds,rfl,v,f⟩:=zI f;obtain⟨L,ds,rfl,x,f⟩:=zI f;obtain rfl:=yO f;obtain⟨a,rfl,k,_⟩:=wy (by kernel_rfl) t;obtain⟨M,z,A,_,B,l,_,C⟩:=wV (e:=9) (by kernel_rfl) u;obtain⟨N,D,E,_,F,o,_,G⟩:=wV (e:=9) (by kernel_rfl) v;obtain⟨p,q,P⟩:=iF _ _ _ x;obtain⟨r,rfl,Q⟩:=ya (V:=fun s:List UInt8=>[str s]) (w:=fun s:List UInt8=>1+s.length) (b:=Rows.uptoBulk) (fun c y g=>KY g.2) C;obtain⟨l2,rfl,R⟩:=ya (V:=fun s:List UInt8=>[str s]) (w:=fun s:List UInt8=>1+s.length) (b:=Rows.uptoBulk) (fun c y g=>KY g.2) G;have S:=ym B;have T:=ym F;obtain⟨W,X,p2,p3,p4,p5,p6,p7,p8,p9,rfl⟩:=zbs j
 ·skip
  simp only[wZ,wi,jQ,zc,zs,yf]at k l o q;subst k;subst l;subst o;refine⟨⟨a,r,l2,p⟩,by rw[qN.V,<-q,cel9];rfl,?_⟩;show 1+a.length+(r.map fun s:List UInt8=>1+s.length).sum+(l2.map fun s:List UInt8=>1+s.length).sum+p.cb<=_;simp only[Rows.uptoBulk,Rows.uptoBulkAll];omega
theorem u6{H:Type}{n:Nat}{d:DataW H}{f:O}(h:yz prog n 22 d [f]):∃l:List qN,f=.sl 10 (l.map qN.V)/\bm l+1<=Rows.uptoBulk d:=by obtain⟨m,es,ds,rfl,g,a,_,z⟩:=wV OO h;obtain⟨l,rfl,i⟩:=ya (V:=qN.V) (w:=qN.cb) (b:=Rows.uptoBulk) (fun c y e=>Eh e.2) z;have j:=ym g;simp only[zc,zs]at a;rw[Ik]at a;exact⟨l,a,by unfold bm;omega⟩
theorem u7{H:Type}{n:Nat}{d:DataW H}{f:zb}(h:yz prog n 37 d f):∃x:qf,f=x.V/\x.cb+1<=Rows.uptoBulk d:=by
 obtain⟨m,ds,rfl,rfl,j,g⟩:=yx zbk h;rw[OQ]at j;obtain⟨z,ds,rfl,p,g⟩:=zI g;obtain⟨A,ds,rfl,q,g⟩:=zI g;obtain rfl:=yO g
 ·skip
  obtain⟨s,rfl,k,_⟩:=wy (by kernel_rfl) p;obtain⟨B,es,r,rfl,t,o,_,u⟩:=wV (e:=96) (by kernel_rfl) q;obtain⟨l,rfl,C⟩:=ya (V:=wS) (w:=fun a=>a.1.length+a.2.vb) (b:=Rows.uptoBulk) (fun c y i=>fe zbq OV (by kernel_rfl) (fun v _=>iE v) i.2) u;have D:=ym t;obtain⟨E,F,rfl⟩:=Ss j
  ·skip
   simp only[wZ,wi,jQ,zc,zs,yf]at k o;subst k;subst o;refine⟨⟨s,l⟩,by rw[qf.V,OV],?_⟩;rw[XO];show s.length+V8 l+1<=_;rw[mM];simp only[Rows.uptoBulk,Rows.uptoBulkAll];omega
theorem ff:∀l:List qf,l.length<=(l.map fun x=>x.cb+1).sum/\∀x∈l,x.cb+1<=(l.map fun x=>x.cb+1).sum
 |[]=>⟨zi _,fun x h=>by cases h⟩
 |a::l=>by
  obtain⟨d,c⟩:=ff l;simp only[z6,Jt,zU];refine⟨by omega,fun x b=>?_⟩;rcases zC.1 b with rfl|b
  ·omega
  ·have:=c x b;omega
theorem rT{H:Type}{n:Nat}{d:DataW H}{g:O}(h:yz prog n 28 d [g]):∃l:List qf,g=.sl 2 (l.map qf.V)/\(l.map fun x=>x.cb+1).sum+1<=Rows.uptoBulk d:=by obtain⟨m,es,ds,rfl,i,a,_,z⟩:=wV (e:=37) (by kernel_rfl) h;obtain⟨l,rfl,j⟩:=ya (V:=qf.V) (w:=fun x:qf=>x.cb+1) (b:=Rows.uptoBulk) (fun c y f=>u7 f.2) z;have k:=ym i;simp only[zc,zs]at a;rw[OQ]at a;exact⟨l,a,by omega⟩
end Go.Q
