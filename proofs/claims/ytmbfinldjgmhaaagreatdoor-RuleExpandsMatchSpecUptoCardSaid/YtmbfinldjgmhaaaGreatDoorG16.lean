/- Lemmas. -/
import Derived.Test.YtmbfinldjgmhaaaGreatDoorRows
import Derived.Test.YtmbfinldjgmhaaaGreatDoorG15
set_option maxRecDepth 8000
open Go Proofs Proofs.YtmbfinldjgmhaaaGreatDoor Proofs.Tryz RowKit AM SpanLaw Q Zz
namespace Go.Q
theorem len2{α:Type}:∀{l:List α},l.length=2->∃a b,l=[a,b]
 |[a,b],_=>⟨a,b,rfl⟩
theorem len5{α:Type}:∀{l:List α},l.length=5->∃a b c d e,l=[a,b,c,d,e]
 |[a,b,c,d,e],_=>⟨a,b,c,d,e,rfl⟩
theorem len6{α:Type}:∀{l:List α},l.length=6->∃a b c d e f,l=[a,b,c,d,e,f]
 |[a,b,c,d,e,f],_=>⟨a,b,c,d,e,f,rfl⟩
theorem gy{H:Type}:∀ds:List (DataW H),Rows.uptoBulkAll ds=(ds.map Rows.uptoBulk).sum
 |[]=>rfl
 |d::ds=>by simp[Rows.uptoBulkAll,gy ds]
theorem Ze{H:Type}{d:DataW H}{ds:List (DataW H)}(h:(d=.nil/\ds=[])\/∃sp,d=.slice ds sp):(ds.map Rows.uptoBulk).sum+1<=Rows.uptoBulk d:=by
 rcases h with⟨rfl,rfl⟩|⟨sp,rfl⟩
 ·simp[Rows.uptoBulk]
 ·simp only[Rows.uptoBulk,gy];omega
theorem Ay:∀l:List zZ,JI l=(l.map zZ.vb).sum
 |[]=>rfl
 |v::l=>by simp[JI,Ay l]
theorem Az:∀l:List (za×zZ),dI l=(l.map fun a=>a.1.length+a.2.vb).sum
 |[]=>rfl
 |(a,v)::l=>by simp[dI,Az l]
theorem oC{H:Type}{t ts:TypeId}(hs:JF prog t=some [(ts,0,1),(52,1,5)])(i:prog.cellsOf t=6)(j:prog.underlying ts=some .string){n:Nat}
  (k:∀m,m<n->∀(d:DataW H) b,j6 prog m 52 d b->∃v:zZ,b=v.V/\v.vb<=Rows.uptoBulk d) {d:DataW H} {b:zb} (h:j6 prog n t d b):∃a:za×zZ,b=ya a/\a.1.length+a.2.vb<=Rows.uptoBulk d:=by
 obtain⟨m,ds,rfl,rfl,e,c⟩:=QD hs h;rw[i]at e;obtain⟨p,ds,rfl,l,c⟩:=wM c;obtain⟨q,ds,rfl,o,c⟩:=wM c;obtain rfl:=WA c
 ·skip
  obtain⟨s,rfl,f,_⟩:=kT j l;obtain⟨v,g,r⟩:=k m (by omega) _ _ o;obtain⟨u,w,x,y,z,A,rfl⟩:=len6 e
  ·skip
   simp only[kc,Zf,zfH,zl,zM,sR]at f g;subst f;refine⟨(s,v),by rw[ya,<-g],?_⟩;simp only[Rows.uptoBulk,Rows.uptoBulkAll];omega
theorem sP{H:Type}:∀(n:Nat) (d:DataW H) g,j6 prog n 52 d g->∃v:zZ,g=v.V/\v.vb<=Rows.uptoBulk d:=by
 intro n
 induction n using Nat.strongRecOn with
 |ind n l=>
  intro d g h;obtain⟨m,ds,rfl,rfl,o,f⟩:=QD zfu h;rw[Rf]at o;obtain⟨W,ds,rfl,B,f⟩:=wM f;obtain⟨X,ds,rfl,C,f⟩:=wM f;obtain⟨y2,ds,rfl,D,f⟩:=wM f;obtain⟨y3,ds,rfl,E,f⟩:=wM f;obtain⟨y4,ds,rfl,F,f⟩:=wM f;obtain rfl:=WA f
  ·skip
   obtain⟨k,rfl,p,_⟩:=X7 (k:=.i64) (by kernel_rfl) B;obtain⟨i,rfl,q,_⟩:=X7 (k:=.i64) (by kernel_rfl) C;obtain⟨s,rfl,r,_⟩:=kT (by kernel_rfl) D;obtain⟨m3,G,I,J,K,t,_,L⟩:=vX (e:=52) (by kernel_rfl) E;obtain⟨u,M,N,P,Q,x,_,R⟩:=vX (e:=78) (by kernel_rfl) F;obtain rfl:u=m3:=by omega
   obtain⟨z,rfl,w3⟩:=xf (V:=zZ.V) (w:=zZ.vb) (b:=Rows.uptoBulk) (fun c y j=>l u (by omega) y c j.2) L;obtain⟨A,rfl,w4⟩:=xf (V:=ya) (w:=fun a=>a.1.length+a.2.vb) (b:=Rows.uptoBulk) (fun c y j=>oC zfw zaW (by kernel_rfl) (fun S T=>l S (by omega)) j.2) R;have g3:=Ze K;have g4:=Ze Q;obtain⟨p0,p1,p2,p3,p4,rfl⟩:=len5 o
   ·skip
    simp only[kc,Zf,zfH,zl,zM,sR]at p q r t x;subst p;subst q;subst r;subst t;subst x;refine⟨.mk k i s z A,by rw[vJ,Rf,zaW];rfl,?_⟩;rw[xD];show 1+s.length+JI z+dI A<=_;rw[Ay,Az];simp only[Rows.uptoBulk,Rows.uptoBulkAll];omega
theorem MB{α:Type}:∀{l:List α},l.length=3->∃a b c,l=[a,b,c]
 |[a,b,c],_=>⟨a,b,c,rfl⟩
theorem MC{α:Type}:∀{l:List α},l.length=4->∃a b c d,l=[a,b,c,d]
 |[a,b,c,d],_=>⟨a,b,c,d,rfl⟩
theorem len7{α:Type}:∀{l:List α},l.length=7->∃a b c d e f g,l=[a,b,c,d,e,f,g]
 |[a,b,c,d,e,f,g],_=>⟨a,b,c,d,e,f,g,rfl⟩
theorem HR:∀l:List zG,ay l=(l.map zG.cb).sum
 |[]=>rfl
 |c::l=>by simp[ay,HR l]
theorem sQ{H:Type}:∀(n:Nat) (d:DataW H) g,j6 prog n 26 d g->∃c:zG,g=c.V/\c.cb<=Rows.uptoBulk d:=by
 intro n
 induction n using Nat.strongRecOn with
 |ind n z=>
  intro d g h;obtain⟨m,ds,rfl,rfl,j,f⟩:=QD zaS h;rw[zaT]at j;obtain⟨X,ds,rfl,A,f⟩:=wM f;obtain⟨y1,ds,rfl,B,f⟩:=wM f;obtain⟨y2,ds,rfl,C,f⟩:=wM f;obtain⟨y3,ds,rfl,D,f⟩:=wM f;obtain⟨y4,ds,rfl,E,f⟩:=wM f;obtain⟨y5,ds,rfl,F,f⟩:=wM f;obtain⟨y6,ds,rfl,G,f⟩:=wM f;obtain rfl:=WA f
  ·skip
   obtain⟨k,rfl,l,_⟩:=X7 (k:=.i64) (by kernel_rfl) A;obtain⟨a,rfl,q,_⟩:=kT (by kernel_rfl) B;obtain⟨o,rfl,r,_⟩:=X7 (k:=.i64) (by kernel_rfl) C;obtain⟨I,J,K,L,M,s,_,N⟩:=vX (e:=52) (by kernel_rfl) D;obtain⟨p,rfl,t,_⟩:=kT (by kernel_rfl) E;obtain⟨u,rfl,v,_⟩:=kT (by kernel_rfl) F;obtain⟨P,Q,R,S,T,x,_,W⟩:=vX (e:=26) (by kernel_rfl) G;obtain⟨vs,rfl,w3⟩:=xf (V:=zZ.V) (w:=zZ.vb) (b:=Rows.uptoBulk) (fun c y i=>sP I y c i.2) N;obtain⟨cs,rfl,w6⟩:=xf (V:=zG.V) (w:=zG.cb) (b:=Rows.uptoBulk) (fun c y i=>z P (by omega) y c i.2) W;have g3:=Ze M;have g6:=Ze T;obtain⟨p0,p1,p2,p3,p4,p5,p6,rfl⟩:=len7 j
   ·skip
    simp only[kc,Zf,zfH,zl,zM,sR]at l q r s t v x;subst l;subst q;subst r;subst s;subst t;subst v;subst x;refine⟨.mk k a o vs p u cs,by rw[zI,Rf,zaT];rfl,?_⟩;rw[xG];show 1+a.length+JI vs+p.length+u.length+ay cs<=_;rw[Ay,HR];simp only[Rows.uptoBulk,Rows.uptoBulkAll];omega
theorem oD{H:Type}{n:Nat}{d:DataW H}{b:zb}(h:j6 prog n 9 d b):∃s:za,b=[str s]/\1+s.length<=Rows.uptoBulk d:=by obtain⟨a,rfl,c,_⟩:=kT (by kernel_rfl) h;exact⟨a,c,by simp only[Rows.uptoBulk];omega⟩
theorem zfy{α:Type}:∀{l:List α},l.length=10->∃a b c d e f g h i j,l=[a,b,c,d,e,f,g,h,i,j]
 |[a,b,c,d,e,f,g,h,i,j],_=>⟨a,b,c,d,e,f,g,h,i,j,rfl⟩
theorem Mw{H:Type}{n:Nat}{d:DataW H}{i:zb}(h:j6 prog n 56 d i):∃s:qd,i=s.V/\s.cb<=Rows.uptoBulk d:=by
 obtain⟨m,ds,rfl,rfl,j,f⟩:=QD zfv h;rw[zaV]at j;obtain⟨I,ds,rfl,t,f⟩:=wM f;obtain⟨J,ds,rfl,u,f⟩:=wM f;obtain⟨K,ds,rfl,v,f⟩:=wM f;obtain⟨L,ds,rfl,x,f⟩:=wM f;obtain rfl:=WA f;obtain⟨a,rfl,k,_⟩:=kT (by kernel_rfl) t;obtain⟨M,z,A,_,B,l,_,C⟩:=vX (e:=9) (by kernel_rfl) u;obtain⟨N,D,E,_,F,o,_,G⟩:=vX (e:=9) (by kernel_rfl) v;obtain⟨p,q,P⟩:=sQ _ _ _ x;obtain⟨r,rfl,Q⟩:=xf (V:=fun s:List UInt8=>[str s]) (w:=fun s:List UInt8=>1+s.length) (b:=Rows.uptoBulk) (fun c y g=>oD g.2) C;obtain⟨l2,rfl,R⟩:=xf (V:=fun s:List UInt8=>[str s]) (w:=fun s:List UInt8=>1+s.length) (b:=Rows.uptoBulk) (fun c y g=>oD g.2) G;have S:=Ze B;have T:=Ze F;obtain⟨W,X,p2,p3,p4,p5,p6,p7,p8,p9,rfl⟩:=zfy j
 ·skip
  simp only[kc,Zf,zfH,zl,zM,sR]at k l o q;subst k;subst l;subst o;refine⟨⟨a,r,l2,p⟩,by rw[qd.V,<-q,cel9];rfl,?_⟩;show 1+a.length+(r.map fun s:List UInt8=>1+s.length).sum+(l2.map fun s:List UInt8=>1+s.length).sum+p.cb<=_;simp only[Rows.uptoBulk,Rows.uptoBulkAll];omega
theorem Gt{H:Type}{n:Nat}{d:DataW H}{f:O}(h:j6 prog n 22 d [f]):∃l:List qd,f=.sl 10 (l.map qd.V)/\Qb l+1<=Rows.uptoBulk d:=by obtain⟨m,es,ds,rfl,g,a,_,z⟩:=vX zaR h;obtain⟨l,rfl,i⟩:=xf (V:=qd.V) (w:=qd.cb) (b:=Rows.uptoBulk) (fun c y e=>Mw e.2) z;have j:=Ze g;simp only[zl,zM]at a;rw[zaV]at a;exact⟨l,a,by unfold Qb;omega⟩
theorem Gu{H:Type}{n:Nat}{d:DataW H}{f:zb}(h:j6 prog n 29 d f):∃x:yu,f=x.V/\x.cb+1<=Rows.uptoBulk d:=by
 obtain⟨m,ds,rfl,rfl,j,g⟩:=QD zaU h;rw[zft]at j;obtain⟨z,ds,rfl,p,g⟩:=wM g;obtain⟨A,ds,rfl,q,g⟩:=wM g;obtain rfl:=WA g
 ·skip
  obtain⟨s,rfl,k,_⟩:=kT (by kernel_rfl) p;obtain⟨B,es,r,rfl,t,o,_,u⟩:=vX (e:=84) (by kernel_rfl) q;obtain⟨l,rfl,C⟩:=xf (V:=ya) (w:=fun a=>a.1.length+a.2.vb) (b:=Rows.uptoBulk) (fun c y i=>oC zfx zaX (by kernel_rfl) (fun v _=>sP v) i.2) u;have D:=Ze t;obtain⟨E,F,rfl⟩:=len2 j
  ·skip
   simp only[kc,Zf,zfH,zl,zM,sR]at k o;subst k;subst o;refine⟨⟨s,l⟩,by rw[yu.V,zaX],?_⟩;rw[mJ];show s.length+dI l+1<=_;rw[Az];simp only[Rows.uptoBulk,Rows.uptoBulkAll];omega
end Go.Q
