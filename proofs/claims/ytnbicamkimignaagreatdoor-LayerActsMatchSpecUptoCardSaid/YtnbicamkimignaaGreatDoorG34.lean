/- Lemmas. -/
import Derived.Test.YtnbicamkimignaaGreatDoorRows
import Derived.Test.YtnbicamkimignaaGreatDoorG33
set_option maxRecDepth 8000
open Go Proofs Proofs.YtnbicamkimignaaGreatDoor Proofs.Tryz RowKit AM SpanLaw Q Zz
namespace Go.Q
theorem len2{α:Type}:∀{l:List α},l.length=2→∃a b,l=[a,b]
 |[a,b],_=>⟨a,b,rfl⟩
theorem len5{α:Type}:∀{l:List α},l.length=5→∃a b c d e,l=[a,b,c,d,e]
 |[a,b,c,d,e],_=>⟨a,b,c,d,e,rfl⟩
theorem len6{α:Type}:∀{l:List α},l.length=6→∃a b c d e f,l=[a,b,c,d,e,f]
 |[a,b,c,d,e,f],_=>⟨a,b,c,d,e,f,rfl⟩
theorem iC{H:Type}:∀ds:List (DataW H),Rows.uptoBulkAll ds=(ds.map Rows.uptoBulk).sum
 |[]=>rfl
 |d::ds=>by simp[Rows.uptoBulkAll,iC ds]
theorem vl{H:Type}{d:DataW H}{ds:List (DataW H)}(h:(d=.nil∧ds=[])∨∃a,d=.slice ds a):(ds.map Rows.uptoBulk).sum+1≤Rows.uptoBulk d:=by
 rcases h with⟨rfl,rfl⟩|⟨a,rfl⟩
 ·simp[Rows.uptoBulk]
 ·simp only[Rows.uptoBulk,iC];omega
theorem BM:∀l:List qE,Jf l=(l.map qE.vb).sum
 |[]=>rfl
 |v::l=>by simp[Jf,BM l]
theorem Lh:∀l:List (za×qE),KX l=(l.map fun a=>a.1.length+a.2.vb).sum
 |[]=>rfl
 |(a,v)::l=>by simp[KX,Lh l]
theorem H4{H:Type}{t ts:TypeId}(hs:QQ prog t=some [(ts,0,1),(136,1,5)])(i:prog.cellsOf t=6)(j:prog.underlying ts=some .string){n:Nat}
  (k:∀m,m<n→∀(d:DataW H) b,jZ prog m 136 d b→∃v:qE,b=v.V∧v.vb≤Rows.uptoBulk d) {d:DataW H} {b:zc} (h:jZ prog n t d b):∃a:za×qE,b=yu a∧a.1.length+a.2.vb≤Rows.uptoBulk d:=by
 obtain⟨m,ds,rfl,rfl,e,c⟩:=ko hs h;rw[i]at e;obtain⟨p,ds,rfl,l,c⟩:=qD c;obtain⟨q,ds,rfl,o,c⟩:=qD c;obtain rfl:=kX c
 ·skip
  obtain⟨s,rfl,f,_⟩:=yW j l;obtain⟨v,g,r⟩:=k m (by omega) _ _ o;obtain⟨u,w,x,y,z,A,rfl⟩:=len6 e
  ·skip
   simp only[yj,yE,xH,zh,zK,jL]at f g;subst f;refine⟨(s,v),by rw[yu,←g],?_⟩;simp only[Rows.uptoBulk,Rows.uptoBulkAll];omega
theorem NW{H:Type}:∀(n:Nat) (d:DataW H) g,jZ prog n 136 d g→∃v:qE,g=v.V∧v.vb≤Rows.uptoBulk d:=by
 intro n
 induction n using Nat.strongRecOn with
 |ind n l=>
  intro d g h;obtain⟨m,ds,rfl,rfl,o,f⟩:=ko zeH h;rw[H3]at o;obtain⟨U,ds,rfl,B,f⟩:=qD f;obtain⟨W,ds,rfl,C,f⟩:=qD f;obtain⟨X,ds,rfl,D,f⟩:=qD f;obtain⟨y3,ds,rfl,E,f⟩:=qD f;obtain⟨y4,ds,rfl,F,f⟩:=qD f;obtain rfl:=kX f
  ·skip
   obtain⟨k,rfl,p,_⟩:=kC (k:=.i64) (by kernel_rfl) B;obtain⟨i,rfl,q,_⟩:=kC (k:=.i64) (by kernel_rfl) C;obtain⟨s,rfl,r,_⟩:=yW (by kernel_rfl) D;obtain⟨m3,G,I,J,K,t,_,L⟩:=ky (e:=136) (by kernel_rfl) E;obtain⟨u,M,N,P,Q,x,_,R⟩:=ky (e:=171) (by kernel_rfl) F;obtain rfl:u=m3:=by omega
   obtain⟨z,rfl,w3⟩:=kI (V:=qE.V) (w:=qE.vb) (b:=Rows.uptoBulk) (fun c y j=>l u (by omega) y c j.2) L;obtain⟨A,rfl,w4⟩:=kI (V:=yu) (w:=fun a=>a.1.length+a.2.vb) (b:=Rows.uptoBulk) (fun c y j=>H4 zeI S8 (by kernel_rfl) (fun S T=>l S (by omega)) j.2) R;have g3:=vl K;have g4:=vl Q;obtain⟨p0,p1,p2,p3,p4,rfl⟩:=len5 o
   ·skip
    simp only[yj,yE,xH,zh,zK,jL]at p q r t x;subst p;subst q;subst r;subst t;subst x;refine⟨.mk k i s z A,by rw[Z2,H3,S8];rfl,?_⟩;rw[QW];show 1+s.length+Jf z+KX A≤_;rw[BM,Lh];simp only[Rows.uptoBulk,Rows.uptoBulkAll];omega
theorem BU{α:Type}:∀{l:List α},l.length=3→∃a b c,l=[a,b,c]
 |[a,b,c],_=>⟨a,b,c,rfl⟩
theorem Ia{α:Type}:∀{l:List α},l.length=4→∃a b c d,l=[a,b,c,d]
 |[a,b,c,d],_=>⟨a,b,c,d,rfl⟩
theorem len7{α:Type}:∀{l:List α},l.length=7→∃a b c d e f g,l=[a,b,c,d,e,f,g]
 |[a,b,c,d,e,f,g],_=>⟨a,b,c,d,e,f,g,rfl⟩
theorem zhX{α:Type}:∀{l:List α},l.length=13→∃a b c d e f g h i j k m n,l=[a,b,c,d,e,f,g,h,i,j,k,m,n]
 |[a,b,c,d,e,f,g,h,i,j,k,m,n],_=>⟨a,b,c,d,e,f,g,h,i,j,k,m,n,rfl⟩
theorem Li:∀l:List wV,cO l=(l.map wV.cb).sum
 |[]=>rfl
 |c::l=>by simp[cO,Li l]
theorem NX{H:Type}:∀(n:Nat) (d:DataW H) g,jZ prog n 30 d g→∃c:wV,g=c.V∧c.cb≤Rows.uptoBulk d:=by
 intro n
 induction n using Nat.strongRecOn with
 |ind n z=>
  intro d g h;obtain⟨m,ds,rfl,rfl,j,f⟩:=ko zhS h;rw[zcW]at j;obtain⟨W,ds,rfl,A,f⟩:=qD f;obtain⟨X,ds,rfl,B,f⟩:=qD f;obtain⟨y2,ds,rfl,C,f⟩:=qD f;obtain⟨y3,ds,rfl,D,f⟩:=qD f;obtain⟨y4,ds,rfl,E,f⟩:=qD f;obtain⟨y5,ds,rfl,F,f⟩:=qD f;obtain⟨y6,ds,rfl,G,f⟩:=qD f;obtain rfl:=kX f
  ·skip
   obtain⟨k,rfl,l,_⟩:=kC (k:=.i64) (by kernel_rfl) A;obtain⟨a,rfl,q,_⟩:=yW (by kernel_rfl) B;obtain⟨o,rfl,r,_⟩:=kC (k:=.i64) (by kernel_rfl) C;obtain⟨I,J,K,L,M,s,_,N⟩:=ky (e:=136) (by kernel_rfl) D;obtain⟨p,rfl,t,_⟩:=yW (by kernel_rfl) E;obtain⟨u,rfl,v,_⟩:=yW (by kernel_rfl) F;obtain⟨P,Q,R,S,T,x,_,U⟩:=ky (e:=30) (by kernel_rfl) G;obtain⟨vs,rfl,w3⟩:=kI (V:=qE.V) (w:=qE.vb) (b:=Rows.uptoBulk) (fun c y i=>NW I y c i.2) N;obtain⟨cs,rfl,w6⟩:=kI (V:=wV.V) (w:=wV.cb) (b:=Rows.uptoBulk) (fun c y i=>z P (by omega) y c i.2) U;have g3:=vl M;have g6:=vl T;obtain⟨p0,p1,p2,p3,p4,p5,p6,rfl⟩:=len7 j
   ·skip
    simp only[yj,yE,xH,zh,zK,jL]at l q r s t v x;subst l;subst q;subst r;subst s;subst t;subst v;subst x;refine⟨.mk k a o vs p u cs,by rw[yU,H3,zcW];rfl,?_⟩;rw[VX];show 1+a.length+Jf vs+p.length+u.length+cO cs≤_;rw[BM,Li];simp only[Rows.uptoBulk,Rows.uptoBulkAll];omega
theorem S9{H:Type}{n:Nat}{d:DataW H}{c:zc}(h:jZ prog n 82 d c):∃s:Sp,c=zM s∧1≤Rows.uptoBulk d:=by
 obtain⟨m,ds,rfl,rfl,f,e⟩:=ko zhW h;rw[zc2]at f;obtain⟨o,ds,rfl,j,e⟩:=qD e;obtain⟨p,ds,rfl,l,e⟩:=qD e;obtain rfl:=kX e;obtain⟨a,rfl,g,_⟩:=kC (k:=.i64) (by kernel_rfl) j;obtain⟨b,rfl,i,_⟩:=kC (k:=.i64) (by kernel_rfl) l;obtain⟨q,r,rfl⟩:=len2 f
 ·skip
  simp only[yj,yE,xH,zh,zK,jL]at g i;subst g;subst i;exact⟨(a,b),rfl,by simp only[Rows.uptoBulk,Rows.uptoBulkAll];omega⟩
theorem Ta{H:Type}{n:Nat}{d:DataW H}{f:zc}(h:jZ prog n 101 d f):∃s:Rg,f=xv s∧1≤Rows.uptoBulk d:=by
 obtain⟨m,ds,rfl,rfl,g,e⟩:=ko zeG h;rw[S7]at g;obtain⟨r,ds,rfl,o,e⟩:=qD e;obtain⟨t,ds,rfl,p,e⟩:=qD e;obtain⟨u,ds,rfl,q,e⟩:=qD e;obtain rfl:=kX e;obtain⟨a,rfl,i,_⟩:=kC (k:=.i64) (by kernel_rfl) o;obtain⟨b,rfl,j,_⟩:=kC (k:=.i64) (by kernel_rfl) p;obtain⟨c,rfl,l,_⟩:=kC (k:=.i64) (by kernel_rfl) q;obtain⟨v,w,x,rfl⟩:=BU g
 ·skip
  simp only[yj,yE,xH,zh,zK,jL]at i j l;subst i;subst j;subst l;exact⟨(a,b,c),rfl,by simp only[Rows.uptoBulk,Rows.uptoBulkAll];omega⟩
theorem Fi{α:Type}(l:List α):(l.map fun _=>1).sum=l.length:=by
 induction l with
 |nil=>rfl
 |cons x l a=>simp only[qF,lS,a,qa];omega
theorem NY{H:Type}{n:Nat}{d:DataW H}{f:zc}(h:jZ prog n 54 d f):∃s:wc,f=s.V∧s.cb≤Rows.uptoBulk d:=by
 obtain⟨m,ds,rfl,rfl,j,g⟩:=ko zhT h;rw[zcZ]at j;obtain⟨A,ds,rfl,q,g⟩:=qD g;obtain⟨B,ds,rfl,r,g⟩:=qD g;obtain rfl:=kX g;obtain⟨a,rfl,o,_⟩:=kC (k:=.i64) (by kernel_rfl) q;obtain⟨C,t,u,_,v,p,_,x⟩:=ky (e:=82) (by kernel_rfl) r;obtain⟨l,rfl,z⟩:=kI (V:=zM) (w:=fun _=>1) (b:=Rows.uptoBulk) (fun c y i=>S9 i.2) x;have D:=vl v;rw[Fi]at z;obtain⟨E,F,rfl⟩:=len2 j
 ·skip
  simp only[yj,yE,xH,zh,zK,jL]at o p;subst o;subst p;refine⟨⟨a,l⟩,by rw[zc2];rfl,?_⟩;show 1+l.length≤_;simp only[Rows.uptoBulk,Rows.uptoBulkAll];omega
theorem NZ{H:Type}{n:Nat}{d:DataW H}{f:zc}(h:jZ prog n 61 d f):∃s:wh,f=s.V∧s.cb≤Rows.uptoBulk d:=by
 obtain⟨m,ds,rfl,rfl,g,e⟩:=ko zhU h;rw[zc0]at g;obtain⟨r,ds,rfl,o,e⟩:=qD e;obtain⟨t,ds,rfl,p,e⟩:=qD e;obtain⟨u,ds,rfl,q,e⟩:=qD e;obtain rfl:=kX e;obtain⟨a,rfl,i,_⟩:=yW (by kernel_rfl) o;obtain⟨b,rfl,j,_⟩:=yW (by kernel_rfl) p;obtain⟨c,rfl,l,_⟩:=kC (k:=.i64) (by kernel_rfl) q;obtain⟨v,w,x,rfl⟩:=BU g
 ·skip
  simp only[yj,yE,xH,zh,zK,jL]at i j l;subst i;subst j;subst l;refine⟨⟨a,b,c⟩,rfl,?_⟩;show 1+a.length+b.length≤_;simp only[Rows.uptoBulk,Rows.uptoBulkAll];omega
theorem H5{H:Type}{n:Nat}{d:DataW H}{b:zc}(h:jZ prog n 9 d b):∃s:za,b=[str s]∧1+s.length≤Rows.uptoBulk d:=by obtain⟨a,rfl,c,_⟩:=yW (by kernel_rfl) h;exact⟨a,c,by simp only[Rows.uptoBulk];omega⟩
theorem N0{H:Type}{n:Nat}{d:DataW H}{g:zc}(h:jZ prog n 71 d g):∃s:yI,g=s.V∧s.cb≤Rows.uptoBulk d:=by
 obtain⟨m,ds,rfl,rfl,j,f⟩:=ko zhV h;rw[zc1]at j;obtain⟨D,ds,rfl,t,f⟩:=qD f;obtain⟨E,ds,rfl,u,f⟩:=qD f;obtain⟨F,ds,rfl,v,f⟩:=qD f;obtain⟨G,ds,rfl,x,f⟩:=qD f;obtain rfl:=kX f;obtain⟨a,rfl,o,_⟩:=yW (by kernel_rfl) t;obtain⟨b,rfl,p,_⟩:=yW (by kernel_rfl) u;obtain⟨c,rfl,q,_⟩:=kC (k:=.i64) (by kernel_rfl) v;obtain⟨I,z,A,_,B,r,_,C⟩:=ky (e:=9) (by kernel_rfl) x;obtain⟨l,rfl,J⟩:=kI (V:=fun s:List UInt8=>[str s]) (w:=fun s:List UInt8=>1+s.length) (b:=Rows.uptoBulk) (fun c y i=>H5 i.2) C;have K:=vl B;obtain⟨L,M,N,P,rfl⟩:=Ia j
 ·skip
  simp only[yj,yE,xH,zh,zK,jL]at o p q r;subst o;subst p;subst q;subst r;refine⟨⟨a,b,c,l⟩,by rw[cel9];rfl,?_⟩;show 1+a.length+b.length+(l.map fun s:List UInt8=>1+s.length).sum≤_;simp only[Rows.uptoBulk,Rows.uptoBulkAll];omega
theorem Fj{H:Type}{n:Nat}{d:DataW H}{i:zc}(h:jZ prog n 34 d i):∃s:Xp,i=s.V∧s.cb≤Rows.uptoBulk d:=by
 obtain⟨m,ds,rfl,rfl,j,f⟩:=ko zcX h;rw[zcY]at j;obtain⟨W,ds,rfl,A,f⟩:=qD f;obtain⟨X,ds,rfl,B,f⟩:=qD f;obtain⟨y2,ds,rfl,C,f⟩:=qD f;obtain⟨y3,ds,rfl,D,f⟩:=qD f;obtain⟨y4,ds,rfl,E,f⟩:=qD f;obtain⟨y5,ds,rfl,F,f⟩:=qD f;obtain⟨y6,ds,rfl,G,f⟩:=qD f;obtain rfl:=kX f;obtain⟨a,rfl,k,_⟩:=yW (by kernel_rfl) A;obtain⟨b,rfl,l,_⟩:=yW (by kernel_rfl) B;obtain⟨c,rfl,o,_⟩:=yW (by kernel_rfl) C;obtain⟨p,q,w3⟩:=NX _ _ _ D;obtain⟨r,rfl,t,_⟩:=yW (by kernel_rfl) E;obtain⟨m5,I,J,_,K,u,_,L⟩:=ky (e:=101) (by kernel_rfl) F;obtain⟨m6,M,N,_,P,v,_,Q⟩:=ky (e:=54) (by kernel_rfl) G;obtain⟨x,rfl,R⟩:=kI (V:=xv) (w:=fun _=>1) (b:=Rows.uptoBulk) (fun c y g=>Ta g.2) L;obtain⟨z,rfl,w6⟩:=kI (V:=wc.V) (w:=wc.cb) (b:=Rows.uptoBulk) (fun c y g=>NY g.2) Q;have g5:=vl K;have g6:=vl P;rw[Fi]at R;obtain⟨p0,p1,p2,p3,p4,p5,p6,p7,p8,p9,S,T,U,rfl⟩:=zhX j
 ·skip
  simp only[yj,yE,xH,zh,zK,jL]at k l o q t u v;subst k;subst l;subst o;subst t;subst u;subst v;refine⟨⟨a,b,c,p,r,x,z⟩,by rw[Xp.V,←q,S7,zcZ];rfl,?_⟩;show a.length+b.length+c.length+p.cb+r.length+x.length+(z.map wc.cb).sum≤_;simp only[Rows.uptoBulk,Rows.uptoBulkAll];omega
theorem Tb{H:Type}{n:Nat}{d:DataW H}{g:zc}(h:jZ prog n 26 d g):∃s:Bk,g=s.V∧s.cb≤Rows.uptoBulk d:=by
 obtain⟨m,ds,rfl,rfl,i,f⟩:=ko zcV h;rw[zhR]at i;obtain⟨K,ds,rfl,r,f⟩:=qD f;obtain⟨L,ds,rfl,t,f⟩:=qD f;obtain⟨M,ds,rfl,u,f⟩:=qD f;obtain rfl:=kX f;obtain⟨N,v,x,_,z,j,_,A⟩:=ky (e:=61) (by kernel_rfl) r;obtain⟨P,B,C,_,D,k,_,E⟩:=ky (e:=71) (by kernel_rfl) t;obtain⟨Q,F,G,_,I,l,_,J⟩:=ky (e:=34) (by kernel_rfl) u;obtain⟨o,rfl,R⟩:=kI (V:=wh.V) (w:=wh.cb) (b:=Rows.uptoBulk) (fun c y a=>NZ a.2) A;obtain⟨p,rfl,S⟩:=kI (V:=yI.V) (w:=yI.cb) (b:=Rows.uptoBulk) (fun c y a=>N0 a.2) E;obtain⟨q,rfl,T⟩:=kI (V:=Xp.V) (w:=Xp.cb) (b:=Rows.uptoBulk) (fun c y a=>Fj a.2) J;have U:=vl z;have W:=vl D;have X:=vl I;obtain⟨p0,p1,p2,rfl⟩:=BU i
 ·skip
  simp only[yj,yE,xH,zh,zK,jL]at j k l;subst j;subst k;subst l;refine⟨⟨o,p,q⟩,by rw[zc0,zc1,zcY];rfl,?_⟩;show(o.map wh.cb).sum+(p.map yI.cb).sum+(q.map Xp.cb).sum≤_;simp only[Rows.uptoBulk,Rows.uptoBulkAll];omega
end Go.Q
