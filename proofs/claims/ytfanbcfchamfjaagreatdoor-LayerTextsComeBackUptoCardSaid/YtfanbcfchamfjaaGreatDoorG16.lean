/- Lemmas. -/
import Derived.Test.YtfanbcfchamfjaaGreatDoorRows
import Derived.Test.YtfanbcfchamfjaaGreatDoorG15
set_option maxRecDepth 8000
open Go Proofs Proofs.YtfanbcfchamfjaaGreatDoor Proofs.Tryz RowKit AM SpanLaw Q Zz
namespace Go.Q
theorem len2{α:Type}:∀{l:List α},l.length=2->∃a b,l=[a,b]
 |[a,b],_=>⟨a,b,rfl⟩
theorem len5{α:Type}:∀{l:List α},l.length=5->∃a b c d e,l=[a,b,c,d,e]
 |[a,b,c,d,e],_=>⟨a,b,c,d,e,rfl⟩
theorem len6{α:Type}:∀{l:List α},l.length=6->∃a b c d e f,l=[a,b,c,d,e,f]
 |[a,b,c,d,e,f],_=>⟨a,b,c,d,e,f,rfl⟩
theorem eO{H:Type}:∀ds:List (DataW H),Rows.uptoBulkAll ds=(ds.map Rows.uptoBulk).sum
 |[]=>rfl
 |d::ds=>by simp[Rows.uptoBulkAll,eO ds]
theorem kE{H:Type}{d:DataW H}{ds:List (DataW H)}(h:(d=.nil/\ds=[])\/∃a,d=.slice ds a):(ds.map Rows.uptoBulk).sum+1<=Rows.uptoBulk d:=by
 rcases h with⟨rfl,rfl⟩|⟨a,rfl⟩
 ·simp[Rows.uptoBulk]
 ·simp only[Rows.uptoBulk,eO];omega
theorem sY:∀l:List Val,kz l=(l.map Val.vb).sum
 |[]=>rfl
 |v::l=>by simp[kz,sY l]
theorem F2:∀l:List (za×Val),ZU l=(l.map fun a=>a.1.length+a.2.vb).sum
 |[]=>rfl
 |(a,v)::l=>by simp[ZU,F2 l]
theorem Ez{H:Type}{t ts:TypeId}(hs:Qi prog t=some [(ts,0,1),(112,1,5)])(i:prog.cellsOf t=6)(j:prog.underlying ts=some .string){n:Nat}
  (k:∀m,m<n->∀(d:DataW H) b,jR prog m 112 d b->∃v:Val,b=v.V/\v.vb<=Rows.uptoBulk d) {d:DataW H} {b:zb} (h:jR prog n t d b):∃a:za×Val,b=wa a/\a.1.length+a.2.vb<=Rows.uptoBulk d:=by
 obtain⟨m,ds,rfl,rfl,e,c⟩:=jY hs h;rw[i]at e;obtain⟨p,ds,rfl,l,c⟩:=ql c;obtain⟨q,ds,rfl,o,c⟩:=ql c;obtain rfl:=kx c
 ·skip
  obtain⟨s,rfl,f,_⟩:=yI j l;obtain⟨v,g,r⟩:=k m (by omega) _ _ o;obtain⟨u,w,x,y,z,A,rfl⟩:=len6 e
  ·skip
   simp only[w8,yh,jq,zi,zF,jt]at f g;subst f;refine⟨(s,v),by rw[wa,<-g],?_⟩;simp only[Rows.uptoBulk,Rows.uptoBulkAll];omega
theorem IJ{H:Type}:∀(n:Nat) (d:DataW H) g,jR prog n 112 d g->∃v:Val,g=v.V/\v.vb<=Rows.uptoBulk d:=by
 intro n
 induction n using Nat.strongRecOn with
 |ind n l=>
  intro d g h;obtain⟨m,ds,rfl,rfl,o,f⟩:=jY zdB h;rw[Ey]at o;obtain⟨U,ds,rfl,B,f⟩:=ql f;obtain⟨W,ds,rfl,C,f⟩:=ql f;obtain⟨X,ds,rfl,D,f⟩:=ql f;obtain⟨y3,ds,rfl,E,f⟩:=ql f;obtain⟨y4,ds,rfl,F,f⟩:=ql f;obtain rfl:=kx f
  ·skip
   obtain⟨k,rfl,p,_⟩:=kQ (k:=.i64) (by kernel_rfl) B;obtain⟨i,rfl,q,_⟩:=kQ (k:=.i64) (by kernel_rfl) C;obtain⟨s,rfl,r,_⟩:=yI (by kernel_rfl) D;obtain⟨m3,G,I,J,K,t,_,L⟩:=ka (e:=112) (by kernel_rfl) E;obtain⟨u,M,N,P,Q,x,_,R⟩:=ka (e:=149) (by kernel_rfl) F;obtain rfl:u=m3:=by omega
   obtain⟨z,rfl,w3⟩:=kg (V:=Val.V) (w:=Val.vb) (b:=Rows.uptoBulk) (fun c y j=>l u (by omega) y c j.2) L;obtain⟨A,rfl,w4⟩:=kg (V:=wa) (w:=fun a=>a.1.length+a.2.vb) (b:=Rows.uptoBulk) (fun c y j=>Ez zdC PG (by kernel_rfl) (fun S T=>l S (by omega)) j.2) R;have g3:=kE K;have g4:=kE Q;obtain⟨p0,p1,p2,p3,p4,rfl⟩:=len5 o
   ·skip
    simp only[w8,yh,jq,zi,zF,jt]at p q r t x;subst p;subst q;subst r;subst t;subst x;refine⟨.mk k i s z A,by rw[wW,Ey,PG];rfl,?_⟩;rw[ZN];show 1+s.length+kz z+ZU A<=_;rw[sY,F2];simp only[Rows.uptoBulk,Rows.uptoBulkAll];omega
theorem len3{α:Type}:∀{l:List α},l.length=3->∃a b c,l=[a,b,c]
 |[a,b,c],_=>⟨a,b,c,rfl⟩
theorem len4{α:Type}:∀{l:List α},l.length=4->∃a b c d,l=[a,b,c,d]
 |[a,b,c,d],_=>⟨a,b,c,d,rfl⟩
theorem len7{α:Type}:∀{l:List α},l.length=7->∃a b c d e f g,l=[a,b,c,d,e,f,g]
 |[a,b,c,d,e,f,g],_=>⟨a,b,c,d,e,f,g,rfl⟩
theorem zgS{α:Type}:∀{l:List α},l.length=13->∃a b c d e f g h i j k m n,l=[a,b,c,d,e,f,g,h,i,j,k,m,n]
 |[a,b,c,d,e,f,g,h,i,j,k,m,n],_=>⟨a,b,c,d,e,f,g,h,i,j,k,m,n,rfl⟩
theorem F4:∀l:List Cnd,Wm l=(l.map Cnd.cb).sum
 |[]=>rfl
 |c::l=>by simp[Wm,F4 l]
theorem IK{H:Type}:∀(n:Nat) (d:DataW H) g,jR prog n 54 d g->∃c:Cnd,g=c.V/\c.cb<=Rows.uptoBulk d:=by
 intro n
 induction n using Nat.strongRecOn with
 |ind n z=>
  intro d g h;obtain⟨m,ds,rfl,rfl,j,f⟩:=jY zgN h;rw[zbl]at j;obtain⟨W,ds,rfl,A,f⟩:=ql f;obtain⟨X,ds,rfl,B,f⟩:=ql f;obtain⟨y2,ds,rfl,C,f⟩:=ql f;obtain⟨y3,ds,rfl,D,f⟩:=ql f;obtain⟨y4,ds,rfl,E,f⟩:=ql f;obtain⟨y5,ds,rfl,F,f⟩:=ql f;obtain⟨y6,ds,rfl,G,f⟩:=ql f;obtain rfl:=kx f
  ·skip
   obtain⟨k,rfl,l,_⟩:=kQ (k:=.i64) (by kernel_rfl) A;obtain⟨a,rfl,q,_⟩:=yI (by kernel_rfl) B;obtain⟨o,rfl,r,_⟩:=kQ (k:=.i64) (by kernel_rfl) C;obtain⟨I,J,K,L,M,s,_,N⟩:=ka (e:=112) (by kernel_rfl) D;obtain⟨p,rfl,t,_⟩:=yI (by kernel_rfl) E;obtain⟨u,rfl,v,_⟩:=yI (by kernel_rfl) F;obtain⟨P,Q,R,S,T,x,_,U⟩:=ka (e:=54) (by kernel_rfl) G;obtain⟨vs,rfl,w3⟩:=kg (V:=Val.V) (w:=Val.vb) (b:=Rows.uptoBulk) (fun c y i=>IJ I y c i.2) N;obtain⟨cs,rfl,w6⟩:=kg (V:=Cnd.V) (w:=Cnd.cb) (b:=Rows.uptoBulk) (fun c y i=>z P (by omega) y c i.2) U;have g3:=kE M;have g6:=kE T;obtain⟨p0,p1,p2,p3,p4,p5,p6,rfl⟩:=len7 j
   ·skip
    simp only[w8,yh,jq,zi,zF,jt]at l q r s t v x;subst l;subst q;subst r;subst s;subst t;subst v;subst x;refine⟨.mk k a o vs p u cs,by rw[qH,Ey,zbl];rfl,?_⟩;rw[Wr];show 1+a.length+kz vs+p.length+u.length+Wm cs<=_;rw[sY,F4];simp only[Rows.uptoBulk,Rows.uptoBulkAll];omega
theorem PH{H:Type}{n:Nat}{d:DataW H}{c:zb}(h:jR prog n 66 d c):∃s:Sp,c=ki s/\1<=Rows.uptoBulk d:=by
 obtain⟨m,ds,rfl,rfl,f,e⟩:=jY zgR h;rw[zbp]at f;obtain⟨o,ds,rfl,j,e⟩:=ql e;obtain⟨p,ds,rfl,l,e⟩:=ql e;obtain rfl:=kx e;obtain⟨a,rfl,g,_⟩:=kQ (k:=.i64) (by kernel_rfl) j;obtain⟨b,rfl,i,_⟩:=kQ (k:=.i64) (by kernel_rfl) l;obtain⟨q,r,rfl⟩:=len2 f
 ·skip
  simp only[w8,yh,jq,zi,zF,jt]at g i;subst g;subst i;exact⟨(a,b),rfl,by simp only[Rows.uptoBulk,Rows.uptoBulkAll];omega⟩
theorem PI{H:Type}{n:Nat}{d:DataW H}{f:zb}(h:jR prog n 61 d f):∃s:Rg,f=kc s/\1<=Rows.uptoBulk d:=by
 obtain⟨m,ds,rfl,rfl,g,e⟩:=jY zgP h;rw[zbn]at g;obtain⟨r,ds,rfl,o,e⟩:=ql e;obtain⟨t,ds,rfl,p,e⟩:=ql e;obtain⟨u,ds,rfl,q,e⟩:=ql e;obtain rfl:=kx e;obtain⟨a,rfl,i,_⟩:=kQ (k:=.i64) (by kernel_rfl) o;obtain⟨b,rfl,j,_⟩:=kQ (k:=.i64) (by kernel_rfl) p;obtain⟨c,rfl,l,_⟩:=kQ (k:=.i64) (by kernel_rfl) q;obtain⟨v,w,x,rfl⟩:=len3 g
 ·skip
  simp only[w8,yh,jq,zi,zF,jt]at i j l;subst i;subst j;subst l;exact⟨(a,b,c),rfl,by simp only[Rows.uptoBulk,Rows.uptoBulkAll];omega⟩
theorem BG{α:Type}(l:List α):(l.map fun _=>1).sum=l.length:=by
 induction l with
 |nil=>rfl
 |cons x l a=>simp only[zG,jT,a,ze];omega
theorem IL{H:Type}{n:Nat}{d:DataW H}{f:zb}(h:jR prog n 64 d f):∃s:yk,f=s.V/\s.cb<=Rows.uptoBulk d:=by
 obtain⟨m,ds,rfl,rfl,j,g⟩:=jY zgQ h;rw[zbo]at j;obtain⟨A,ds,rfl,q,g⟩:=ql g;obtain⟨B,ds,rfl,r,g⟩:=ql g;obtain rfl:=kx g;obtain⟨a,rfl,o,_⟩:=kQ (k:=.i64) (by kernel_rfl) q;obtain⟨C,t,u,_,v,p,_,x⟩:=ka (e:=66) (by kernel_rfl) r;obtain⟨l,rfl,z⟩:=kg (V:=ki) (w:=fun _=>1) (b:=Rows.uptoBulk) (fun c y i=>PH i.2) x;have D:=kE v;rw[BG]at z;obtain⟨E,F,rfl⟩:=len2 j
 ·skip
  simp only[w8,yh,jq,zi,zF,jt]at o p;subst o;subst p;refine⟨⟨a,l⟩,by rw[zbp];rfl,?_⟩;show 1+l.length<=_;simp only[Rows.uptoBulk,Rows.uptoBulkAll];omega
theorem IM{H:Type}{n:Nat}{d:DataW H}{f:zb}(h:jR prog n 48 d f):∃s:yp,f=s.V/\s.cb<=Rows.uptoBulk d:=by
 obtain⟨m,ds,rfl,rfl,g,e⟩:=jY zgL h;rw[zbj]at g;obtain⟨r,ds,rfl,o,e⟩:=ql e;obtain⟨t,ds,rfl,p,e⟩:=ql e;obtain⟨u,ds,rfl,q,e⟩:=ql e;obtain rfl:=kx e;obtain⟨a,rfl,i,_⟩:=yI (by kernel_rfl) o;obtain⟨b,rfl,j,_⟩:=yI (by kernel_rfl) p;obtain⟨c,rfl,l,_⟩:=kQ (k:=.i64) (by kernel_rfl) q;obtain⟨v,w,x,rfl⟩:=len3 g
 ·skip
  simp only[w8,yh,jq,zi,zF,jt]at i j l;subst i;subst j;subst l;refine⟨⟨a,b,c⟩,rfl,?_⟩;show 1+a.length+b.length<=_;simp only[Rows.uptoBulk,Rows.uptoBulkAll];omega
theorem EA{H:Type}{n:Nat}{d:DataW H}{b:zb}(h:jR prog n 9 d b):∃s:za,b=[str s]/\1+s.length<=Rows.uptoBulk d:=by obtain⟨a,rfl,c,_⟩:=yI (by kernel_rfl) h;exact⟨a,c,by simp only[Rows.uptoBulk];omega⟩
theorem IP{H:Type}{n:Nat}{d:DataW H}{g:zb}(h:jR prog n 50 d g):∃s:y7,g=s.V/\s.cb<=Rows.uptoBulk d:=by
 obtain⟨m,ds,rfl,rfl,j,f⟩:=jY zgM h;rw[zbk]at j;obtain⟨D,ds,rfl,t,f⟩:=ql f;obtain⟨E,ds,rfl,u,f⟩:=ql f;obtain⟨F,ds,rfl,v,f⟩:=ql f;obtain⟨G,ds,rfl,x,f⟩:=ql f;obtain rfl:=kx f;obtain⟨a,rfl,o,_⟩:=yI (by kernel_rfl) t;obtain⟨b,rfl,p,_⟩:=yI (by kernel_rfl) u;obtain⟨c,rfl,q,_⟩:=kQ (k:=.i64) (by kernel_rfl) v;obtain⟨I,z,A,_,B,r,_,C⟩:=ka (e:=9) (by kernel_rfl) x;obtain⟨l,rfl,J⟩:=kg (V:=fun s:List UInt8=>[str s]) (w:=fun s:List UInt8=>1+s.length) (b:=Rows.uptoBulk) (fun c y i=>EA i.2) C;have K:=kE B;obtain⟨L,M,N,P,rfl⟩:=len4 j
 ·skip
  simp only[w8,yh,jq,zi,zF,jt]at o p q r;subst o;subst p;subst q;subst r;refine⟨⟨a,b,c,l⟩,by rw[cel9];rfl,?_⟩;show 1+a.length+b.length+(l.map fun s:List UInt8=>1+s.length).sum<=_;simp only[Rows.uptoBulk,Rows.uptoBulkAll];omega
theorem PJ{H:Type}{n:Nat}{d:DataW H}{i:zb}(h:jR prog n 58 d i):∃s:Xp,i=s.V/\s.cb<=Rows.uptoBulk d:=by
 obtain⟨m,ds,rfl,rfl,j,f⟩:=jY zgO h;rw[zbm]at j;obtain⟨W,ds,rfl,A,f⟩:=ql f;obtain⟨X,ds,rfl,B,f⟩:=ql f;obtain⟨y2,ds,rfl,C,f⟩:=ql f;obtain⟨y3,ds,rfl,D,f⟩:=ql f;obtain⟨y4,ds,rfl,E,f⟩:=ql f;obtain⟨y5,ds,rfl,F,f⟩:=ql f;obtain⟨y6,ds,rfl,G,f⟩:=ql f;obtain rfl:=kx f;obtain⟨a,rfl,k,_⟩:=yI (by kernel_rfl) A;obtain⟨b,rfl,l,_⟩:=yI (by kernel_rfl) B;obtain⟨c,rfl,o,_⟩:=yI (by kernel_rfl) C;obtain⟨p,q,w3⟩:=IK _ _ _ D;obtain⟨r,rfl,t,_⟩:=yI (by kernel_rfl) E;obtain⟨m5,I,J,_,K,u,_,L⟩:=ka (e:=61) (by kernel_rfl) F;obtain⟨m6,M,N,_,P,v,_,Q⟩:=ka (e:=64) (by kernel_rfl) G;obtain⟨x,rfl,R⟩:=kg (V:=kc) (w:=fun _=>1) (b:=Rows.uptoBulk) (fun c y g=>PI g.2) L;obtain⟨z,rfl,w6⟩:=kg (V:=yk.V) (w:=yk.cb) (b:=Rows.uptoBulk) (fun c y g=>IL g.2) Q;have g5:=kE K;have g6:=kE P;rw[BG]at R;obtain⟨p0,p1,p2,p3,p4,p5,p6,p7,p8,p9,S,T,U,rfl⟩:=zgS j
 ·skip
  simp only[w8,yh,jq,zi,zF,jt]at k l o q t u v;subst k;subst l;subst o;subst t;subst u;subst v;refine⟨⟨a,b,c,p,r,x,z⟩,by rw[Xp.V,<-q,zbn,zbo];rfl,?_⟩;show a.length+b.length+c.length+p.cb+r.length+x.length+(z.map yk.cb).sum<=_;simp only[Rows.uptoBulk,Rows.uptoBulkAll];omega
theorem PK{H:Type}{n:Nat}{d:DataW H}{g:zb}(h:jR prog n 26 d g):∃s:Bk,g=s.V/\s.cb<=Rows.uptoBulk d:=by
 obtain⟨m,ds,rfl,rfl,i,f⟩:=jY zbi h;rw[zgK]at i;obtain⟨J,ds,rfl,q,f⟩:=ql f;obtain⟨K,ds,rfl,r,f⟩:=ql f;obtain⟨L,ds,rfl,t,f⟩:=ql f;obtain rfl:=kx f;obtain⟨M,u,v,_,x,j,_,z⟩:=ka (e:=48) (by kernel_rfl) q;obtain⟨N,A,B,_,C,k,_,D⟩:=ka (e:=50) (by kernel_rfl) r;obtain⟨P,E,F,_,G,l,_,I⟩:=ka (e:=58) (by kernel_rfl) t;obtain⟨o,rfl,Q⟩:=kg (V:=yp.V) (w:=yp.cb) (b:=Rows.uptoBulk) (fun c y a=>IM a.2) z;obtain⟨p,rfl,R⟩:=kg (V:=y7.V) (w:=y7.cb) (b:=Rows.uptoBulk) (fun c y a=>IP a.2) D;obtain⟨l2,rfl,S⟩:=kg (V:=Xp.V) (w:=Xp.cb) (b:=Rows.uptoBulk) (fun c y a=>PJ a.2) I;have T:=kE x;have U:=kE C;have W:=kE G;obtain⟨X,p1,p2,rfl⟩:=len3 i
 ·skip
  simp only[w8,yh,jq,zi,zF,jt]at j k l;subst j;subst k;subst l;refine⟨⟨o,p,l2⟩,by rw[zbj,zbk,zbm];rfl,?_⟩;show(o.map yp.cb).sum+(p.map y7.cb).sum+(l2.map Xp.cb).sum<=_;simp only[Rows.uptoBulk,Rows.uptoBulkAll];omega
end Go.Q
