/- Lemmas. -/
import Derived.Test.YtmdpcoooleipcaaGreatDoorRows
import Derived.Test.YtmdpcoooleipcaaGreatDoorG10
import Derived.Test.YtmdpcoooleipcaaGreatDoorG13
set_option maxRecDepth 8000
open Go Proofs Proofs.YtmdpcoooleipcaaGreatDoor Proofs.Tryz RowKit AM SpanLaw Q Zz
namespace Go.Q
theorem len5{α:Type}:∀{l:List α},l.length=5->∃a b c d e,l=[a,b,c,d,e]
 |[a,b,c,d,e],_=>⟨a,b,c,d,e,rfl⟩
theorem len6{α:Type}:∀{l:List α},l.length=6->∃a b c d e f,l=[a,b,c,d,e,f]
 |[a,b,c,d,e,f],_=>⟨a,b,c,d,e,f,rfl⟩
theorem ab{H:Type}:∀ds:List (DataW H),Rows.uptoBulkAll ds=(ds.map Rows.uptoBulk).sum
 |[]=>rfl
 |d::ds=>by simp[Rows.uptoBulkAll,ab ds]
theorem W0{H:Type}{d:DataW H}{ds:List (DataW H)}(h:(d=.nil/\ds=[])\/∃a,d=.slice ds a):(ds.map Rows.uptoBulk).sum+1<=Rows.uptoBulk d:=by
 rcases h with⟨rfl,rfl⟩|⟨a,rfl⟩
 ·simp[Rows.uptoBulk]
 ·simp only[Rows.uptoBulk,ab];omega
theorem iU:∀l:List Val,kf l=(l.map Val.vb).sum
 |[]=>rfl
 |v::l=>by simp[kf,iU l]
theorem ti:∀l:List (za×Val),QM l=(l.map fun a=>a.1.length+a.2.vb).sum
 |[]=>rfl
 |(a,v)::l=>by simp[QM,ti l]
theorem rV{H:Type}{t ts:TypeId}(hs:KF prog t=some [(ts,0,1),(48,1,5)])(i:prog.cellsOf t=6)(j:prog.underlying ts=some .string){n:Nat}
  (k:∀m,m<n->∀(d:DataW H) b,jw prog m 48 d b->∃v:Val,b=v.V/\v.vb<=Rows.uptoBulk d) {d:DataW H} {b:zb} (h:jw prog n t d b):∃a:za×Val,b=q6 a/\a.1.length+a.2.vb<=Rows.uptoBulk d:=by
 obtain⟨m,ds,rfl,rfl,e,c⟩:=WZ hs h;rw[i]at e;obtain⟨p,ds,rfl,l,c⟩:=wR c;obtain⟨q,ds,rfl,o,c⟩:=wR c;obtain rfl:=Jb c
 ·skip
  obtain⟨s,rfl,f,_⟩:=vd j l;obtain⟨v,g,r⟩:=k m (by omega) _ _ o;obtain⟨u,w,x,y,z,A,rfl⟩:=len6 e
  ·skip
   simp only[jd,xS,List.take_zero,zn,z7,zaz]at f g;subst f;refine⟨(s,v),by rw[q6,<-g],?_⟩;simp only[Rows.uptoBulk,Rows.uptoBulkAll];omega
theorem AG{H:Type}:∀(n:Nat) (d:DataW H) g,jw prog n 48 d g->∃v:Val,g=v.V/\v.vb<=Rows.uptoBulk d:=by
 intro n
 induction n using Nat.strongRecOn with
 |ind n l=>
  intro d g h;obtain⟨m,ds,rfl,rfl,o,f⟩:=WZ Sw h;rw[Ep]at o;obtain⟨U,ds,rfl,B,f⟩:=wR f;obtain⟨W,ds,rfl,C,f⟩:=wR f;obtain⟨y2,ds,rfl,D,f⟩:=wR f;obtain⟨y3,ds,rfl,E,f⟩:=wR f;obtain⟨y4,ds,rfl,F,f⟩:=wR f;obtain rfl:=Jb f
  ·skip
   obtain⟨k,rfl,p,_⟩:=JH (k:=.i64) (by kernel_rfl) B;obtain⟨i,rfl,q,_⟩:=JH (k:=.i64) (by kernel_rfl) C;obtain⟨s,rfl,r,_⟩:=vd (by kernel_rfl) D;obtain⟨m3,G,I,J,K,t,_,L⟩:=Qv (e:=48) (by kernel_rfl) E;obtain⟨u,M,N,P,Q,x,_,R⟩:=Qv (e:=65) (by kernel_rfl) F;obtain rfl:u=m3:=by omega
   obtain⟨z,rfl,w3⟩:=Z6 (V:=Val.V) (w:=Val.vb) (b:=Rows.uptoBulk) (fun c y j=>l u (by omega) y c j.2) L;obtain⟨A,rfl,w4⟩:=Z6 (V:=q6) (w:=fun a=>a.1.length+a.2.vb) (b:=Rows.uptoBulk) (fun c y j=>rV Sx IU (by kernel_rfl) (fun S T=>l S (by omega)) j.2) R;have g3:=W0 K;have g4:=W0 Q;obtain⟨p0,p1,p2,p3,p4,rfl⟩:=len5 o
   ·skip
    simp only[jd,xS,List.take_zero,zn,z7,zaz]at p q r t x;subst p;subst q;subst r;subst t;subst x;refine⟨.mk k i s z A,by rw[wa,Ep,IU];rfl,?_⟩;rw[xa];show 1+s.length+kf z+QM A<=_;rw[iU,ti];simp only[Rows.uptoBulk,Rows.uptoBulkAll];omega
theorem len7{α:Type}:∀{l:List α},l.length=7->∃a b c d e f g,l=[a,b,c,d,e,f,g]
 |[a,b,c,d,e,f,g],_=>⟨a,b,c,d,e,f,g,rfl⟩
theorem tj:∀l:List Cnd,JT l=(l.map Cnd.cb).sum
 |[]=>rfl
 |c::l=>by simp[JT,tj l]
theorem AH{H:Type}:∀(n:Nat) (d:DataW H) g,jw prog n 25 d g->∃c:Cnd,g=c.V/\c.cb<=Rows.uptoBulk d:=by
 intro n
 induction n using Nat.strongRecOn with
 |ind n z=>
  intro d g h;obtain⟨m,ds,rfl,rfl,j,f⟩:=WZ IP h;rw[IQ]at j;obtain⟨W,ds,rfl,A,f⟩:=wR f;obtain⟨y1,ds,rfl,B,f⟩:=wR f;obtain⟨y2,ds,rfl,C,f⟩:=wR f;obtain⟨y3,ds,rfl,D,f⟩:=wR f;obtain⟨y4,ds,rfl,E,f⟩:=wR f;obtain⟨y5,ds,rfl,F,f⟩:=wR f;obtain⟨y6,ds,rfl,G,f⟩:=wR f;obtain rfl:=Jb f
  ·skip
   obtain⟨k,rfl,l,_⟩:=JH (k:=.i64) (by kernel_rfl) A;obtain⟨a,rfl,q,_⟩:=vd (by kernel_rfl) B;obtain⟨o,rfl,r,_⟩:=JH (k:=.i64) (by kernel_rfl) C;obtain⟨I,J,K,L,M,s,_,N⟩:=Qv (e:=48) (by kernel_rfl) D;obtain⟨p,rfl,t,_⟩:=vd (by kernel_rfl) E;obtain⟨u,rfl,v,_⟩:=vd (by kernel_rfl) F;obtain⟨P,Q,R,S,T,x,_,U⟩:=Qv (e:=25) (by kernel_rfl) G;obtain⟨vs,rfl,w3⟩:=Z6 (V:=Val.V) (w:=Val.vb) (b:=Rows.uptoBulk) (fun c y i=>AG I y c i.2) N;obtain⟨cs,rfl,w6⟩:=Z6 (V:=Cnd.V) (w:=Cnd.cb) (b:=Rows.uptoBulk) (fun c y i=>z P (by omega) y c i.2) U;have g3:=W0 M;have g6:=W0 T;obtain⟨p0,p1,p2,p3,p4,p5,p6,rfl⟩:=len7 j
   ·skip
    simp only[jd,xS,List.take_zero,zn,z7,zaz]at l q r s t v x;subst l;subst q;subst r;subst s;subst t;subst v;subst x;refine⟨.mk k a o vs p u cs,by rw[qC,Ep,IQ];rfl,?_⟩;rw[ZT];show 1+a.length+kf vs+p.length+u.length+JT cs<=_;rw[iU,tj];simp only[Rows.uptoBulk,Rows.uptoBulkAll];omega
end Go.Q
