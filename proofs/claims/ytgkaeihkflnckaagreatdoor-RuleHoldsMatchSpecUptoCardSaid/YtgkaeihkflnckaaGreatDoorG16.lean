/- Lemmas. -/
import Derived.Test.YtgkaeihkflnckaaGreatDoorRows
import Derived.Test.YtgkaeihkflnckaaGreatDoorG15
set_option maxRecDepth 8000
open Go Proofs Proofs.YtgkaeihkflnckaaGreatDoor Proofs.Tryz RowKit AM SpanLaw Q Zz
namespace Go.Q
theorem len2{α:Type}:∀{l:List α},l.length=2->∃a b,l=[a,b]
 |[a,b],_=>⟨a,b,rfl⟩
theorem len5{α:Type}:∀{l:List α},l.length=5->∃a b c d e,l=[a,b,c,d,e]
 |[a,b,c,d,e],_=>⟨a,b,c,d,e,rfl⟩
theorem len6{α:Type}:∀{l:List α},l.length=6->∃a b c d e f,l=[a,b,c,d,e,f]
 |[a,b,c,d,e,f],_=>⟨a,b,c,d,e,f,rfl⟩
theorem hZ{H:Type}:∀ds:List (DataW H),Rows.uptoBulkAll ds=(ds.map Rows.uptoBulk).sum
 |[]=>rfl
 |d::ds=>by simp[Rows.uptoBulkAll,hZ ds]
theorem xY{H:Type}{d:DataW H}{ds:List (DataW H)}(h:(d=.nil/\ds=[])\/∃sp,d=.slice ds sp):(ds.map Rows.uptoBulk).sum+1<=Rows.uptoBulk d:=by
 rcases h with⟨rfl,rfl⟩|⟨sp,rfl⟩
 ·simp[Rows.uptoBulk]
 ·simp only[Rows.uptoBulk,hZ];omega
theorem AK:∀l:List qa,Kd l=(l.map qa.vb).sum
 |[]=>rfl
 |v::l=>by simp[Kd,AK l]
theorem AL:∀l:List (za×qa),ak l=(l.map fun a=>a.1.length+a.2.vb).sum
 |[]=>rfl
 |(a,v)::l=>by simp[ak,AL l]
theorem oO{H:Type}{t ts:TypeId}(hs:JG prog t=some [(ts,0,1),(57,1,5)])(i:prog.cellsOf t=6)(j:prog.underlying ts=some .string){n:Nat}
  (k:∀m,m<n->∀(d:DataW H) b,jP prog m 57 d b->∃v:qa,b=v.V/\v.vb<=Rows.uptoBulk d) {d:DataW H} {b:zb} (h:jP prog n t d b):∃a:za×qa,b=yk a/\a.1.length+a.2.vb<=Rows.uptoBulk d:=by
 obtain⟨m,ds,rfl,rfl,e,c⟩:=QD hs h;rw[i]at e;obtain⟨p,ds,rfl,l,c⟩:=wL c;obtain⟨q,ds,rfl,o,c⟩:=wL c;obtain rfl:=WJ c
 ·skip
  obtain⟨s,rfl,f,_⟩:=vd j l;obtain⟨v,g,r⟩:=k m (by omega) _ _ o;obtain⟨u,w,x,y,z,A,rfl⟩:=len6 e
  ·skip
   simp only[ke,xZ,Er,zk,zI,ti]at f g;subst f;refine⟨(s,v),by rw[yk,<-g],?_⟩;simp only[Rows.uptoBulk,Rows.uptoBulkAll];omega
theorem tf{H:Type}:∀(n:Nat) (d:DataW H) g,jP prog n 57 d g->∃v:qa,g=v.V/\v.vb<=Rows.uptoBulk d:=by
 intro n
 induction n using Nat.strongRecOn with
 |ind n l=>
  intro d g h;obtain⟨m,ds,rfl,rfl,o,f⟩:=QD zf6 h;rw[Sa]at o;obtain⟨W,ds,rfl,B,f⟩:=wL f;obtain⟨X,ds,rfl,C,f⟩:=wL f;obtain⟨y2,ds,rfl,D,f⟩:=wL f;obtain⟨y3,ds,rfl,E,f⟩:=wL f;obtain⟨y4,ds,rfl,F,f⟩:=wL f;obtain rfl:=WJ f
  ·skip
   obtain⟨k,rfl,p,_⟩:=ag (k:=.i64) (by kernel_rfl) B;obtain⟨i,rfl,q,_⟩:=ag (k:=.i64) (by kernel_rfl) C;obtain⟨s,rfl,r,_⟩:=vd (by kernel_rfl) D;obtain⟨m3,G,I,J,K,t,_,L⟩:=vZ (e:=57) (by kernel_rfl) E;obtain⟨u,M,N,P,Q,x,_,R⟩:=vZ (e:=129) (by kernel_rfl) F;obtain rfl:u=m3:=by omega
   obtain⟨z,rfl,w3⟩:=xg (V:=qa.V) (w:=qa.vb) (b:=Rows.uptoBulk) (fun c y j=>l u (by omega) y c j.2) L;obtain⟨A,rfl,w4⟩:=xg (V:=yk) (w:=fun a=>a.1.length+a.2.vb) (b:=Rows.uptoBulk) (fun c y j=>oO zdd Sb (by kernel_rfl) (fun S T=>l S (by omega)) j.2) R;have g3:=xY K;have g4:=xY Q;obtain⟨p0,p1,p2,p3,p4,rfl⟩:=len5 o
   ·skip
    simp only[ke,xZ,Er,zk,zI,ti]at p q r t x;subst p;subst q;subst r;subst t;subst x;refine⟨.mk k i s z A,by rw[xu,Sa,Sb];rfl,?_⟩;rw[xz];show 1+s.length+Kd z+ak A<=_;rw[AK,AL];simp only[Rows.uptoBulk,Rows.uptoBulkAll];omega
theorem len3{α:Type}:∀{l:List α},l.length=3->∃a b c,l=[a,b,c]
 |[a,b,c],_=>⟨a,b,c,rfl⟩
theorem len4{α:Type}:∀{l:List α},l.length=4->∃a b c d,l=[a,b,c,d]
 |[a,b,c,d],_=>⟨a,b,c,d,rfl⟩
theorem len7{α:Type}:∀{l:List α},l.length=7->∃a b c d e f g,l=[a,b,c,d,e,f,g]
 |[a,b,c,d,e,f,g],_=>⟨a,b,c,d,e,f,g,rfl⟩
theorem zhW{α:Type}:∀{l:List α},l.length=13->∃a b c d e f g h i j k m n,l=[a,b,c,d,e,f,g,h,i,j,k,m,n]
 |[a,b,c,d,e,f,g,h,i,j,k,m,n],_=>⟨a,b,c,d,e,f,g,h,i,j,k,m,n,rfl⟩
theorem ID:∀l:List qe,aD l=(l.map qe.cb).sum
 |[]=>rfl
 |c::l=>by simp[aD,ID l]
theorem th{H:Type}:∀(n:Nat) (d:DataW H) g,jP prog n 26 d g->∃c:qe,g=c.V/\c.cb<=Rows.uptoBulk d:=by
 intro n
 induction n using Nat.strongRecOn with
 |ind n z=>
  intro d g h;obtain⟨m,ds,rfl,rfl,j,f⟩:=QD zbz h;rw[zbA]at j;obtain⟨X,ds,rfl,A,f⟩:=wL f;obtain⟨y1,ds,rfl,B,f⟩:=wL f;obtain⟨y2,ds,rfl,C,f⟩:=wL f;obtain⟨y3,ds,rfl,D,f⟩:=wL f;obtain⟨y4,ds,rfl,E,f⟩:=wL f;obtain⟨y5,ds,rfl,F,f⟩:=wL f;obtain⟨y6,ds,rfl,G,f⟩:=wL f;obtain rfl:=WJ f
  ·skip
   obtain⟨k,rfl,l,_⟩:=ag (k:=.i64) (by kernel_rfl) A;obtain⟨a,rfl,q,_⟩:=vd (by kernel_rfl) B;obtain⟨o,rfl,r,_⟩:=ag (k:=.i64) (by kernel_rfl) C;obtain⟨I,J,K,L,M,s,_,N⟩:=vZ (e:=57) (by kernel_rfl) D;obtain⟨p,rfl,t,_⟩:=vd (by kernel_rfl) E;obtain⟨u,rfl,v,_⟩:=vd (by kernel_rfl) F;obtain⟨P,Q,R,S,T,x,_,W⟩:=vZ (e:=26) (by kernel_rfl) G;obtain⟨vs,rfl,w3⟩:=xg (V:=qa.V) (w:=qa.vb) (b:=Rows.uptoBulk) (fun c y i=>tf I y c i.2) N;obtain⟨cs,rfl,w6⟩:=xg (V:=qe.V) (w:=qe.cb) (b:=Rows.uptoBulk) (fun c y i=>z P (by omega) y c i.2) W;have g3:=xY M;have g6:=xY T;obtain⟨p0,p1,p2,p3,p4,p5,p6,rfl⟩:=len7 j
   ·skip
    simp only[ke,xZ,Er,zk,zI,ti]at l q r s t v x;subst l;subst q;subst r;subst s;subst t;subst v;subst x;refine⟨.mk k a o vs p u cs,by rw[wi,Sa,zbA];rfl,?_⟩;rw[Zm];show 1+a.length+Kd vs+p.length+u.length+aD cs<=_;rw[AK,ID];simp only[Rows.uptoBulk,Rows.uptoBulkAll];omega
theorem zf8{α:Type}(l:List α):(l.map fun _=>1).sum=l.length:=by
 induction l with
 |nil=>rfl
 |cons x l a=>simp only[we,zhX,a,zO];omega
theorem oP{H:Type}{n:Nat}{d:DataW H}{b:zb}(h:jP prog n 9 d b):∃s:za,b=[str s]/\1+s.length<=Rows.uptoBulk d:=by obtain⟨a,rfl,c,_⟩:=vd (by kernel_rfl) h;exact⟨a,c,by simp only[Rows.uptoBulk];omega⟩
theorem zf9{α:Type}:∀{l:List α},l.length=10->∃a b c d e f g h i j,l=[a,b,c,d,e,f,g,h,i,j]
 |[a,b,c,d,e,f,g,h,i,j],_=>⟨a,b,c,d,e,f,g,h,i,j,rfl⟩
theorem Nb{H:Type}{n:Nat}{d:DataW H}{i:zb}(h:jP prog n 48 d i):∃s:qd,i=s.V/\s.cb<=Rows.uptoBulk d:=by
 obtain⟨m,ds,rfl,rfl,j,f⟩:=QD zf5 h;rw[zbC]at j;obtain⟨I,ds,rfl,t,f⟩:=wL f;obtain⟨J,ds,rfl,u,f⟩:=wL f;obtain⟨K,ds,rfl,v,f⟩:=wL f;obtain⟨L,ds,rfl,x,f⟩:=wL f;obtain rfl:=WJ f;obtain⟨a,rfl,k,_⟩:=vd (by kernel_rfl) t;obtain⟨M,z,A,_,B,l,_,C⟩:=vZ (e:=9) (by kernel_rfl) u;obtain⟨N,D,E,_,F,o,_,G⟩:=vZ (e:=9) (by kernel_rfl) v;obtain⟨p,q,P⟩:=th _ _ _ x;obtain⟨r,rfl,Q⟩:=xg (V:=fun s:List UInt8=>[str s]) (w:=fun s:List UInt8=>1+s.length) (b:=Rows.uptoBulk) (fun c y g=>oP g.2) C;obtain⟨l2,rfl,R⟩:=xg (V:=fun s:List UInt8=>[str s]) (w:=fun s:List UInt8=>1+s.length) (b:=Rows.uptoBulk) (fun c y g=>oP g.2) G;have S:=xY B;have T:=xY F;obtain⟨W,X,p2,p3,p4,p5,p6,p7,p8,p9,rfl⟩:=zf9 j
 ·skip
  simp only[ke,xZ,Er,zk,zI,ti]at k l o q;subst k;subst l;subst o;refine⟨⟨a,r,l2,p⟩,by rw[qd.V,<-q,cel9];rfl,?_⟩;show 1+a.length+(r.map fun s:List UInt8=>1+s.length).sum+(l2.map fun s:List UInt8=>1+s.length).sum+p.cb<=_;simp only[Rows.uptoBulk,Rows.uptoBulkAll];omega
theorem Hl{H:Type}{n:Nat}{d:DataW H}{f:O}(h:jP prog n 22 d [f]):∃l:List qd,f=.sl 10 (l.map qd.V)/\x4 l+1<=Rows.uptoBulk d:=by obtain⟨m,es,ds,rfl,g,a,_,z⟩:=vZ zby h;obtain⟨l,rfl,i⟩:=xg (V:=qd.V) (w:=qd.cb) (b:=Rows.uptoBulk) (fun c y e=>Nb e.2) z;have j:=xY g;simp only[zk,zI]at a;rw[zbC]at a;exact⟨l,a,by unfold x4;omega⟩
theorem Hm{H:Type}{n:Nat}{d:DataW H}{f:zb}(h:jP prog n 29 d f):∃x:qY,f=x.V/\x.cb+1<=Rows.uptoBulk d:=by
 obtain⟨m,ds,rfl,rfl,j,g⟩:=QD zbB h;rw[zf4]at j;obtain⟨z,ds,rfl,p,g⟩:=wL g;obtain⟨A,ds,rfl,q,g⟩:=wL g;obtain rfl:=WJ g
 ·skip
  obtain⟨s,rfl,k,_⟩:=vd (by kernel_rfl) p;obtain⟨B,es,r,rfl,t,o,_,u⟩:=vZ (e:=59) (by kernel_rfl) q;obtain⟨l,rfl,C⟩:=xg (V:=yk) (w:=fun a=>a.1.length+a.2.vb) (b:=Rows.uptoBulk) (fun c y i=>oO zf7 zbD (by kernel_rfl) (fun v _=>tf v) i.2) u;have D:=xY t;obtain⟨E,F,rfl⟩:=len2 j
  ·skip
   simp only[ke,xZ,Er,zk,zI,ti]at k o;subst k;subst o;refine⟨⟨s,l⟩,by rw[qY.V,zbD],?_⟩;rw[V7];show s.length+ak l+1<=_;rw[AL];simp only[Rows.uptoBulk,Rows.uptoBulkAll];omega
end Go.Q
