/- Lemmas. -/
import Derived.Test.YtnbicamkimignaaGreatDoorG22
set_option maxRecDepth 100000
set_option maxHeartbeats 4000000
open Go Proofs Proofs.YtnbicamkimignaaGreatDoor Proofs.Tryz RowKit AM SpanLaw Q Zz
open Go.IntKind renaming i64→i6
namespace Go.AM
theorem tx:∀z:zc,z.length=3→∃a b c,z=[a,b,c]
 |[a,b,c],_=>⟨a,b,c,rfl⟩
theorem zei:∀z:zc,z.length=13→∃a b c d e f g h i j k l m,z=[a,b,c,d,e,f,g,h,i,j,k,l,m]
 |[a,b,c,d,e,f,g,h,i,j,k,l,m],_=>⟨a,b,c,d,e,f,g,h,i,j,k,l,m,rfl⟩
theorem J4{x:O}(h:x.wY=true):x.cells=[x]:=by cases x<;>first|rfl|cases h
theorem xo.len{P:Program}{Y:Hp}{lo a e s:Nat}{r:O}{es:List zc}{t:TypeId}(h:xo Y lo a e s r es)(b:yK P t=some e):Qr P t r=some (.v (.int .i64 es.length)):=by rcases h with⟨rfl,rfl⟩|⟨_,id,_,_,rfl,_⟩<;>simp[b]
theorem xo.at_{Y:Hp}{lo a e s:Nat}{r:O}{es:List zc}(h:xo Y lo a e s r es)(b:0<es.length):∃id,lo≤id∧id<a∧r=.own id 0 es.length∧Y id=some ⟨e,s,true,es⟩:=by
 rcases h with⟨rfl,_⟩|⟨_,h⟩
 ·simp at b
 ·exact h
theorem kZ.ZC{L:List Tmp}{f:St}{d:Nat→O}{Y':Hp}{l:Nat}(h:kZ L f)(m:IX f.Y f.Z Y' l)(hs:∀s∈L,d s=f.σ s)(p:∀s∈L,s<zB:=by decide):kZ L ⟨d,Y',l⟩:=fun s g=>by obtain⟨⟨q,r⟩,_⟩:=h s g;refine⟨⟨fun id o n e=>q id o n (by rw[←hs s g];exact e),fun id i j e=>?_⟩,fun k=>absurd (p s g) (Fo.2 k)⟩;obtain⟨a,blk,b,c⟩:=r id i j (by rw[←hs s g];exact e);exact⟨zlO a m.1,blk,m.2 id blk a b c,c⟩
end Go.AM
namespace Go.Q
noncomputable abbrev Rw:Ctx:=qb prog [(72,Wn 54 2),(84,Wn 82 2)]
theorem zaG:AM.Good Rw (fun g=>([]:List Nat).contains g):=zI mixed ⟨ib,by simp,Hl,by simp,trivial⟩
theorem gg:zg prog 62 (KL (wP Rw f62)):=ic (wZ (code:=_) zaG ⟨func62,by kernel_rfl,rfl,by kernel_rfl⟩)
theorem n9(ps:List wc)(u:ps.length≤zG)(hs:∀p∈ps,p.qS.length≤zG)(Y0:Hp)(Z0:Nat) :
  ∃r Y' d,wP Rw f62 [.sl 2 (ps.map wc.V)] Y0 Z0=some (r,Y',d)∧Z0≤d∧xo Y' Z0 d 54 2 r (ps.map wc.V)∧∀j,j<Z0→Y' j=Y0 j:=by
 unfold wP;rw[zf (by simp[f62])];refine zT (R:=fun r Y' d=>Z0≤d∧xo Y' Z0 d 54 2 r (ps.map wc.V)∧∀j,j<Z0→Y' j=Y0 j) rfl ?_;obtain⟨n,Y1,I,v,J⟩:=Y4 54 2 (ps.map wc.V) Y0 Z0 (by simpa using u);have f:Qr prog 32 n=some (int ps.length):=by have:=v.len (P:=prog) (t:=32) (by rfl);simpa using this
 simp[I,f];refine zQ (fun k g Y Z=>g 0=n∧g 7=n∧g 8=int ps.length∧g 9=int k∧Z0+1≤Z∧xo Y Z0 (Z0+1) 54 2 n (ps.map wc.V)∧∀j,j<Z0→Y j=Y0 j) ps.length
  ⟨by simp,by simp,by simp,by simp,ze _,v,fun j w=>J j (by omega)⟩ ?_
 rintro k g Y Z T ⟨x,y,z,A,o,B,i⟩;unfold zG at u;by_cases a:k<ps.length
 ·obtain⟨p,b⟩:∃p,ps[k]=p:=⟨_,rfl⟩;have q:p∈ps:=by rw[←b];exact zm a
  have K:i6.wrap ((k:Int)+1)=(k:Int)+1:=zn (by omega) (by omega);obtain⟨id,U,W,C,D⟩:=B.at_ (by simp;omega);obtain rfl:id=Z0:=by omega
  simp only[qO]at C;obtain⟨c,l⟩:∃h,qZ Y Z (some ⟨54,2,false,[p.V]⟩)=h:=⟨_,rfl⟩;obtain⟨X,Y2,L,M,E⟩:=Y4 82 2 (p.qS.map zM) c (Z+1) (by simpa using hs p q);obtain⟨s,N,F⟩:=M.Lt;have G:c id=some ⟨54,2,true,ps.map wc.V⟩:=by rw[←l,zw _ _ _ _ (by omega)];exact D
  have H:Y2 id=some ⟨54,2,true,ps.map wc.V⟩:=by rw[E id (by omega)];exact G
  have Q:s id=some ⟨54,2,true,ps.map wc.V⟩:=by rw[F id (by omega)];exact H
  have m:(ps.map wc.V).set k [int p.at_,.sl 2 (p.qS.map zM)]=ps.map wc.V:=by
   have:[int p.at_,.sl 2 (p.qS.map zM)]=(ps.map wc.V)[k]'(by simpa using a):=by simp[b,wc.V]
   rw[this,List.set_getElem_self]
  have S:c Z=some ⟨54,2,false,[[int p.at_,.sl 2 (p.qS.map zM)]]⟩:=by rw[←l,jd];rfl
  simp only[wc.V]at l;simp[-qf,x,y,z,A,C,D,a,b,wc.V,l,S,L,N,G,H,Q,m,K];refine⟨a,by omega,.inr ⟨fun e=>by simp at e;subst e;simp at a,id,ze _,Nat.lt_succ_self _,by simp,by simp⟩,fun j w=>?_⟩;rw[zw _ _ _ _ (by omega),F j (by omega),E j (by omega),←l,zw _ _ _ _ (by omega)];exact i j w
 ·obtain rfl:k=ps.length:=by omega
  simp[x,y,z,A,f62];exact⟨by omega,B.same (ze _) o fun _ _ _=>rfl,i⟩
theorem lg{ps:List wc}{Y0:Hp}{Z0:Nat}(d:ps.length≤zG)(hs:∀p∈ps,p.qS.length≤zG) :
  ∃r Y' a,KL (wP Rw f62) [.sl 2 (ps.map wc.V)] Y0 Z0=some (r,Y',a)∧Z0≤a∧xo Y' Z0 a 54 2 r (ps.map wc.V)∧∀j,j<Z0→Y' j=Y0 j:=by
 obtain⟨r,Y',a,e,b,f,c⟩:=n9 ps d hs Y0 Z0;exact⟨r,Y',a,Ea e (Eb b c),b,f,c⟩
noncomputable abbrev Cce:Ctx:=Wo prog [(60,zi false [] (FC (fun v=>.agg v.V) zG)),(61,Wn 101 3),(62,KL (wP Rw f62))] (fun|1=>[1,3,6,9]|_=>[]) [60,61,62]
theorem zej:AM.Good Cce (fun g=>([]:List Nat).contains g):=XR mixed ⟨AK zG,by simp,Hk,by simp,gg,by simp,trivial⟩ ⟨fun _=>xO _ _ _,fun _=>Y5 _ _,fun _=>tt _,trivial⟩
theorem WL:zg prog 20 (KL (wP Cce f20)):=ic (wZ (code:=_) zej ⟨func20,by kernel_rfl,rfl,by kernel_rfl⟩)
theorem Y6(x:Xp)(hx:x.cb≤zG)(Y0:Hp)(Z0:Nat) :
  ∃r Y' b,KL (wP Cce f20) [.agg x.V] Y0 Z0=some (r,Y',b)∧Z0≤b∧(∃a,r=.agg a∧a6 Y' Z0 b x a)∧∀j,j<Z0→Y' j=Y0 j:=by
 have G:x.cb=x.name.length+x.qi.length+x.flag.length+x.cond.cb+x.qI.length+x.jX.length+wg wc.cb x.zs:=rfl;have A:=qJ vG x.zs;have q:∀p∈x.zs,p.qS.length≤zG:=fun p Y=>by have:=yg (f:=wc.cb) Y;have H:p.cb=1+p.qS.length:=rfl;omega
 suffices h:∃r Y' b,wP Cce f20 [.agg x.V] Y0 Z0=some (r,Y',b)∧Z0≤b∧(∃a,r=.agg a∧a6 Y' Z0 b x a)∧∀j,j<Z0→Y' j=Y0 j by obtain⟨r,Y',b,c,d,s,B⟩:=h;exact⟨r,Y',b,Ea c (Eb d B),d,s,B⟩
 unfold wP;rw[zf (by simp[f20])];refine zT (R:=fun r Y' b=>Z0≤b∧(∃a,r=.agg a∧a6 Y' Z0 b x a)∧∀j,j<Z0→Y' j=Y0 j) rfl ?_;have g:=fun Y Z=>Vc (fun v=>.agg v.V) zG x.cond Y Z ⟨by omega,by omega⟩
 refine QK (fun e Y Z=>e 1=.ref Z0 0 0∧e 2=.ref (Z0+1) 0 0∧e 3=.yb []∧e 6=.yb []∧e 9=.yb []∧Y Z0=some ⟨34,13,false,[x.V]⟩∧(∃z,Y (Z0+1)=some ⟨34,13,false,[z]⟩∧z.length=13)∧Z=Z0+2∧∀j,j<Z0→Y j=Y0 j) ?_ ?_
 ·simp[zZ];exact fun j C=>by rw[zw _ _ _ _ (by omega),zw _ _ _ _ (by omega)]
 rintro e Y Z ⟨c,d,s,I,J,m,⟨z,K,L⟩,rfl,t⟩;obtain⟨z0,z1,z2,z3,z4,z5,z6,z7,z8,z9,M,N,P,rfl⟩:=zei z L;obtain⟨Q,u,S,D,w⟩:=Y4 101 3 (x.jX.map xv) Y (Z0+2) (by rw[qO];omega);obtain⟨T,U,W,X,b2,E,n⟩:=lg (ps:=x.zs) (Y0:=u) (Z0:=Z0+2+1) (by omega) q;have o:=w Z0 (by omega);have ca:=w (Z0+1) (by omega);have y:=n Z0 (by omega);have F:=n (Z0+1) (by omega);rw[m]at o;rw[o]at y;rw[ca,K]at F;have k:=D.cell;have l:=E.cell;rw[zZ]at m o y;rw[yU]at g;rw[c8,kh (ki (id:=Z0) (i:=0) (j:=0) (by simp[c]) (by simp) (by simp;exact m) rfl (kj (by simp;exact s) (kj (by simp;exact I) (kj (by simp;exact J) (kH _)))))];simp[c,d,m,o,g,S,X,y,F,k,l,J4 k,J4 l,f20];refine⟨by omega,⟨Z0+2+1,Q,T,by simp[yU],by omega,b2,D.wide.same (by omega) (ze _) fun j c d=>?_,E.same (ze _) (ze _) fun j c d=>?_⟩,fun j C=>?_⟩
 ·rw[zw _ _ _ _ (by omega),zw _ _ _ _ (by omega),n j (by omega)]
 ·rw[zw _ _ _ _ (by omega),zw _ _ _ _ (by omega)]
 ·rw[zw _ _ _ _ (by omega),zw _ _ _ _ (by omega),n j (by omega),w j (by omega),t j C]
theorem AL:zg prog 66 (Wn 9 1):=Qa dE
noncomputable abbrev Cxb:Ctx:=Wo prog [(63,Wn 61 3),(64,Wn 71 4),(65,ec (Wn 34 13)),(66,Wn 9 1),(20,KL (wP Cce f20))] (fun|1=>[1,7,10,13]|5=>[1,4,27,30]|10=>[1,6,44]|_=>[]) [63,64,65,66,20]
theorem zek:AM.Good Cxb (fun g=>([]:List Nat).contains g):=XR mixed ⟨Hi,by simp,Hj,by simp,hZ nZ,by simp,AL,by simp,WL,by simp,trivial⟩ ⟨fun _=>Y5 _ _,fun _=>Y5 _ _,fun _=>tw (Y5 _ _),fun _=>Y5 _ _,fun _=>tt _,trivial⟩
theorem V2:zg prog 22 (wP Cxb f22):=wZ (code:=_) zek ⟨func22,by kernel_rfl,rfl,by kernel_rfl⟩
def J5(b:Bk)(y:O):O:=.agg [.sl 3 (b.zk.map wh.V),.sl 4 (b.holds.map yI.V),y]
def oa(Y:Hp)(lo d:Nat)(b:Bk)(r:O):Prop:=∃l rl rh rx,r=.agg [rl,rh,rx]∧lo≤l∧l+2≤d∧Q0 Y l (l+1) 61 3 rl (b.zk.map wh.V)∧Q0 Y (l+1) (l+2) 71 4 rh (b.holds.map yI.V) ∧
 ((b.zE=[]∧rx=.nil)∨∃a c,rx=.own (l+2) 0 b.zE.length∧l+2<c∧Y (l+2)=some ⟨34,13,false,a⟩∧Qm Y c d b.zE a)
theorem a6.wid{Y:Hp}{lo a c:Nat}{x:Xp}{row:zc}(h:a6 Y lo c x row)(d:a≤lo):a6 Y a c x row:=by obtain⟨b,f,g,e,l,i,j,k⟩:=h;exact⟨b,f,g,e,by omega,i,j.same d (ze _) fun _ _ _=>rfl,k⟩
theorem a6.cells{Y:Hp}{lo b:Nat}{x:Xp}{a:zc}(h:a6 Y lo b x a):a.length=13∧a.all O.wY=true:=by obtain⟨c,f,g,rfl,i,j,d,e⟩:=h;rw[yU];simp[d.cell,e.cell]
theorem bI(b:Bk)(y:O)(hy:vw 13 (b.zE.map Xp.V) y)(hbl:b.cb≤zG)(Y0:Hp)(Z0:Nat) :
  ∃r Y' Z',wP Cxb f22 [J5 b y] Y0 Z0=some (r,Y',Z')∧Z0≤Z'∧oa Y' Z0 Z' b r∧∀j,j<Z0→Y' j=Y0 j:=by
 have Om:b.cb=wg wh.cb b.zk+wg yI.cb b.holds+wg Xp.cb b.zE:=rfl;have TN:=qJ xa b.zk;have hleH:=qJ JF b.holds;have TR:=qJ ZG b.zE;have TS:zG=2097152:=rfl;unfold wP;rw[zf (by simp[f22])];refine zT (R:=fun r Y' Z'=>Z0≤Z'∧oa Y' Z0 Z' b r∧∀j,j<Z0→Y' j=Y0 j) rfl ?_;refine QK (fun d Y Z=>d 1=.ref Z0 0 0∧d 2=.ref (Z0+1) 0 0∧d 7=.yb []∧d 10=.yb []∧d 13=.yb []∧d 27=.yb []∧d 30=.yb []∧d 44=.yb []∧Y Z0=some ⟨26,3,false,[[.sl 3 (b.zk.map wh.V),.sl 4 (b.holds.map yI.V),y]]⟩∧(∃z,Y (Z0+1)=some ⟨26,3,false,[z]⟩∧z.length=3)∧Z=Z0+2∧∀j,j<Z0→Y j=Y0 j) ?_ ?_
 ·simp[J5,hy.cell];exact fun j o=>by rw[zw _ _ _ _ (by omega),zw _ _ _ _ (by omega)]
 rintro d Y Z ⟨h1,h2,h7,h10,h13,Uc,h30,h44,Q,⟨z,hc,hz⟩,rfl,N6⟩;obtain⟨z0,z1,z2,rfl⟩:=tx z hz;obtain⟨rl,hpl,l1,l2,l3⟩:=Y4 61 3 (b.zk.map wh.V) Y (Z0+2) (by rw[qO];omega);obtain⟨rh,hph,g1,g2,g3⟩:=Y4 71 4 (b.holds.map yI.V) hpl (Z0+3) (by rw[qO];omega);obtain⟨rx,u,nxx,x1,x2,x3,x4⟩:=Ec (e:=34) hy hph (Z0+4) (by rw[qO];omega);have S:hpl Z0=some ⟨26,3,false,[[.sl 3 (b.zk.map wh.V),.sl 4 (b.holds.map yI.V),y]]⟩:=by rw[l3 Z0 (by omega)];exact Q
 have hbh:hph Z0=some ⟨26,3,false,[[.sl 3 (b.zk.map wh.V),.sl 4 (b.holds.map yI.V),y]]⟩:=by rw[g3 Z0 (by omega)];exact S
 have hbx:u Z0=some ⟨26,3,false,[[.sl 3 (b.zk.map wh.V),.sl 4 (b.holds.map yI.V),y]]⟩:=by rw[x4 Z0 (by omega),g3 Z0 (by omega),l3 Z0 (by omega)];exact Q
 have hcx:u (Z0+1)=some ⟨26,3,false,[[z0,z1,z2]]⟩:=by rw[x4 _ (by omega),g3 _ (by omega),l3 _ (by omega)];exact hc
 have G:=l2.cell;have H:=g2.cell;have hrx:rx.wY=true:=by rcases x3 with⟨_,rfl⟩|⟨rfl,_⟩<;>rfl
 have l2':xo u (Z0+2) (Z0+3) 61 3 rl (b.zk.map wh.V):=l2.same (ze _) (ze _) fun j a c=>by rw[x4 j (by omega),g3 j (by omega)]
 have g2':xo u (Z0+3) (Z0+4) 71 4 rh (b.holds.map yI.V):=g2.same (ze _) (ze _) fun j a c=>by rw[x4 j (by omega)]
 have hfrx:∀j,j<Z0→u j=Y0 j:=fun j o=>by rw[x4 j (by omega),g3 j (by omega),l3 j (by omega),N6 j o]
 have lenh:Qr prog 23 rh=some (int b.holds.length):=by have:=g2.len (P:=prog) (t:=23) (by rfl);simpa using this
 have lenx:Qr prog 24 rx=some (int b.zE.length):=by
  rcases x3 with⟨h0,rfl⟩|⟨rfl,_⟩
  ·simp at h0;simp[h0]
  ·simp
 obtain⟨T,hN⟩:∃h,qZ u Z0 (some (⟨26,3,false,[[rl,rh,rx]]⟩:jz))=h:=⟨_,rfl⟩;have hNb:T Z0=some ⟨26,3,false,[[rl,rh,rx]]⟩:=by rw[←hN,jd]
 have v:∀j,j≠Z0→T j=u j:=fun j o=>by rw[←hN,zw _ _ _ _ o]
 rw[c8,kh (ki (id:=Z0) (i:=0) (j:=0) (by simp[h1]) (by simp) (by simp;exact Q) rfl (kj (by simp;exact h7) (kj (by simp;exact h10) (kj (by simp;exact h13) (kH _)))))];simp[h1,h2,Q,S,hbh,l1,g1,x1,hbx,hcx,G,H,hrx,J4 G,J4 H,J4 hrx,lenh,hN,hNb];refine zQ (fun k d Y Z=>d 1=.ref Z0 0 0∧d 2=.ref (Z0+1) 0 0∧d 20=rh∧d 21=int b.holds.length∧d 22=int k∧d 44=.yb []∧nxx≤Z∧(∀j,j<nxx→Y j=T j)∧kZ [27,30] ⟨d,Y,Z⟩) b.holds.length
  ⟨by simp[h1],by simp[h2],by simp,by simp,by simp,by simp[h44],ze _,fun _ _=>rfl,kj (by simp;exact Uc) (kj (by simp;exact h30) (kH _))⟩ ?_
 rintro k σ1 Y1 l hk ⟨U,k2,I,J,K,k44,knx,p,kR⟩;have ob:Y1 Z0=some ⟨26,3,false,[[rl,rh,rx]]⟩:=by rw[p _ (by omega)];exact hNb
 by_cases g:k<b.holds.length
 ·obtain⟨q,hq⟩:∃q,b.holds[k]=q:=⟨_,rfl⟩;have hqm:q∈b.holds:=by rw[←hq];exact zm g
  have hqc:=yg (f:=yI.cb) hqm;have hqe:q.cb=1+q.name.length+q.qI.length+wg (fun s:List UInt8=>1+s.length) q.zk:=rfl;have hql:=qJ (f:=fun s:List UInt8=>1+s.length) (fun _=>by omega) q.zk;have hw:i6.wrap ((k:Int)+1)=(k:Int)+1:=zn (by omega) (by omega);obtain⟨id,i1,i2,i3,i4⟩:=g2'.at_ (by simp;omega);obtain rfl:id=Z0+3:=by omega
  simp only[qO]at i3;have o4:Y1 (Z0+3)=some ⟨71,4,true,b.holds.map yI.V⟩:=by rw[p _ (by omega),v _ (by omega)];exact i4
  obtain⟨n,L⟩:∃h,qZ Y1 l (some ⟨71,4,false,[q.V]⟩)=h:=⟨_,rfl⟩;have W:n l=some ⟨71,4,false,[[str q.name,str q.qI,int q.buckets,.sl 1 (qd q.zk)]]⟩:=by rw[←L,jd];rfl
  have F:∀j,j≠l→n j=Y1 j:=fun j o=>by rw[←L,zw _ _ _ _ o]
  have X:n Z0=some ⟨26,3,false,[[rl,rh,rx]]⟩:=by rw[F _ (by omega)];exact ob
  have b4:n (Z0+3)=some ⟨71,4,true,b.holds.map yI.V⟩:=by rw[F _ (by omega)];exact o4
  obtain⟨r2,Y2,d1,d2,d3⟩:=Y4 9 1 (qd q.zk) n (l+1) (by simp;omega);obtain⟨hp3,f1,f2⟩:=d2.Lt;have c4:Y2 (Z0+3)=some ⟨71,4,true,b.holds.map yI.V⟩:=by rw[d3 _ (by omega)];exact b4
  have e4:hp3 (Z0+3)=some ⟨71,4,true,b.holds.map yI.V⟩:=by rw[f2 _ (by omega)];exact c4
  have A:(b.holds.map yI.V).set k [str q.name,str q.qI,int q.buckets,.sl 1 (qd q.zk)]=b.holds.map yI.V:=by
   have:[str q.name,str q.qI,int q.buckets,.sl 1 (qd q.zk)]=(b.holds.map yI.V)[k]'(by simpa using g):=by simp[hq,yI.V]
   rw[this,List.set_getElem_self]
  simp only[yI.V]at L;simp[U,k2,I,J,K,i3,o4,g,hq,yI.V,L];rw[kh (ki (id:=Z0) (i:=0) (j:=0) (by simp[U]) (by simp;omega) (by simp;exact X) rfl (ki (id:=l) (i:=0) (j:=0) (by simp) (by simp) (by simp;exact W) rfl (kR.ZC ⟨ja _,fun id blk hid Q _=>(by rw[F _ (by simp at hid;omega)];exact Q)⟩ (by simp))))];simp[-qf,g,hq,yI.V,U,k2,I,J,K,i3,X,W,d1,f1,b4,c4,e4,A,hw];refine⟨g,by simp[k44],by omega,fun j o=>?_,?_⟩
  ·by_cases hj3:j=Z0+3
   ·subst hj3;rw[jd,v _ (by omega)];exact i4.symm
   ·rw[zw _ _ _ _ hj3,f2 j (by omega),d3 j (by omega),F j (by omega)];exact p j o
  ·refine ki (id:=Z0) (i:=0) (j:=1) (by simp) (by simp;omega) (by simp;rw[f2 _ (by omega),d3 _ (by omega)];exact X) rfl (ki (id:=l) (i:=0) (j:=3) (by simp) (by simp;omega) (by simp only;rw[zw _ _ _ _ (by omega),f2 _ (by omega),d3 _ (by omega)];exact W) rfl (kH _))
 obtain rfl:k=b.holds.length:=by omega
 have oc:Y1 (Z0+1)=some ⟨26,3,false,[[z0,z1,z2]]⟩:=by rw[p _ (by omega),v _ (by omega)];exact hcx
 have hcl:∀Y':Hp,(∀j,j<Z0+4→j≠Z0+1→Y' j=Y1 j)→xo Y' (Z0+2) (Z0+2+1) 61 3 rl (b.zk.map wh.V)∧xo Y' (Z0+2+1) (Z0+2+2) 71 4 rh (b.holds.map yI.V)∧∀j,j<Z0→Y' j=Y0 j:=fun Y' hh=>
  ⟨l2'.same (ze _) (ze _) fun j a c=>by rw[hh j (by omega) (by omega),p j (by omega),v j (by omega)],g2'.same (ze _) (ze _) fun j a c=>by rw[hh j (by omega) (by omega),p j (by omega),v j (by omega)],fun j o=>by rw[hh j (by omega) (by omega),p j (by omega),v j (by omega),hfrx j o]⟩
 rcases x3 with⟨hx0,rfl⟩|⟨rfl,x3a,x3b⟩
 ·have hx0:b.zE=[]:=by simpa using hx0
  simp[U,k2,I,J,K,ob];refine zQ (fun k d Y Z=>d 1=.ref Z0 0 0∧d 2=.ref (Z0+1) 0 0∧d 38=int 0∧d 39=int 0∧Y=Y1∧Z=l) 0 ⟨by simp[U],by simp[k2],by simp,by simp,rfl,rfl⟩ ?_;rintro k d Y Z hk ⟨m1,m2,B,C,rfl,rfl⟩;simp[m1,m2,B,C,ob,oc,G,H,f22];obtain⟨w1,w2,w3⟩:=hcl (qZ Y (Z0+1) (some ⟨26,3,false,[[rl,rh,.nil]]⟩)) fun j o w=>zw Y (Z0+1) j _ w
  exact⟨by omega,⟨Z0+2,rl,rh,.nil,rfl,by omega,by omega,w1.wide,w2.wide,.inl ⟨hx0,rfl⟩⟩,w3⟩
 ·simp only[qO]at lenx;have hxb:Y1 (Z0+4)=some ⟨34,13,false,b.zE.map Xp.V⟩:=by rw[p _ (by omega),v _ (by omega)];exact x3b
  simp[U,k2,I,J,K,ob];refine zQ (fun k d Y Z=>d 1=.ref Z0 0 0∧d 2=.ref (Z0+1) 0 0∧d 37=.own (Z0+4) 0 b.zE.length∧d 38=int b.zE.length∧d 39=int k∧l≤Z∧(∀j,j<l→j≠Z0+4→Y j=Y1 j)∧kZ [44] ⟨d,Y,Z⟩∧∃m,Y (Z0+4)=some ⟨34,13,false,m++(b.zE.drop k).map Xp.V⟩∧Qm Y l Z (b.zE.take k) m) b.zE.length
   ⟨by simp[U],by simp[k2],by simp,by simp,by simp,ze _,fun _ _ _=>rfl,kj (by simp;exact k44) (kH _),[],by simpa using hxb,ze _,rfl⟩ ?_
  rintro k d Y Z hk ⟨m1,m2,m37,B,C,mnx,M,mR,m,mb,mx⟩;have pb:Y Z0=some ⟨26,3,false,[[rl,rh,.own (Z0+4) 0 b.zE.length]]⟩:=by rw[M _ (by omega) (by omega)];simpa using ob
  have pc:Y (Z0+1)=some ⟨26,3,false,[[z0,z1,z2]]⟩:=by rw[M _ (by omega) (by omega)];exact oc
  have D:=mx.len;rw[yM,rV hk]at D;by_cases g:k<b.zE.length
  ·obtain⟨x,hx⟩:∃x,b.zE[k]=x:=⟨_,rfl⟩;have hxm:x∈b.zE:=by rw[←hx];exact zm g
   have Tn:=yg (f:=Xp.cb) hxm;have hw:i6.wrap ((k:Int)+1)=(k:Int)+1:=zn (by omega) (by omega);obtain⟨es,N⟩:∃es,m++(b.zE.drop k).map Xp.V=es:=⟨_,rfl⟩;rw[N]at mb;rw[zd g,hx,qF]at N;have E:es[k]?=some x.V:=by rw[←N,qg (by omega),D,Nat.sub_self];rfl
   obtain⟨n,L⟩:∃h,qZ Y Z (some ⟨34,13,false,[x.V]⟩)=h:=⟨_,rfl⟩;have W:n Z=some ⟨34,13,false,[x.V]⟩:=by rw[←L,jd]
   have F:∀j,j≠Z→n j=Y j:=fun j o=>by rw[←L,zw _ _ _ _ o]
   have X:n Z0=some ⟨26,3,false,[[rl,rh,.own (Z0+4) 0 b.zE.length]]⟩:=by rw[F _ (by omega)];exact pb
   obtain⟨r,Y2,Ol,d1,d2,⟨row,rfl,d3⟩,d4⟩:=Y6 x (by omega) n (Z+1);have be:Y2 (Z0+4)=some ⟨34,13,false,es⟩:=by rw[d4 _ (by omega),F _ (by omega)];exact mb
   obtain⟨c1,c2⟩:=d3.cells;have A:es.set k row=(m++[row])++(b.zE.drop (k+1)).map Xp.V:=by rw[←N,zeN _ _ (by omega),D,Nat.sub_self];simp
   rw[zZ]at E L W d1;simp[m1,m2,m37,B,C,mb,g,E,L];rw[kh (ki (id:=Z0) (i:=0) (j:=0) (by simp[m1]) (by simp;omega) (by simp;exact X) rfl (ki (id:=Z) (i:=0) (j:=0) (by simp) (by simp) (by simp;exact W) rfl (mR.ZC ⟨ja _,fun id blk hid Q _=>(by rw[F _ (by simp at hid;omega)];exact Q)⟩ (by simp))))];simp[-List.all_eq_true,m1,m2,m37,B,C,g,X,W,d1,be,E,c1,c2,A,hw];refine⟨g,by omega,fun j o w=>?_,?_,m++[row],by simp,?_⟩
   ·rw[zw _ _ _ _ w,d4 j (by omega),F j (by omega)];exact M j o w
   ·exact ki (id:=Z0) (i:=0) (j:=2) (by simp) (by simp only;omega) (by simp only;rw[zw _ _ _ _ (by omega),d4 _ (by omega)];exact X) rfl (kH _)
   ·rw[qx g,hx];refine Qm.snoc (mx.same fun j h1 h2=>?_) (by omega) ((d3.same fun j h1 h2=>?_).wid (ja _))
    ·rw[zw _ _ _ _ (by omega),d4 j (by omega),F j (by omega)]
    ·rw[zw _ _ _ _ (by omega)]
  ·obtain rfl:k=b.zE.length:=by omega
   rw[zl,kp,yh]at mb;rw[yk]at mx;simp[m1,m2,m37,B,C,pb,pc,G,H,f22];obtain⟨hpE,hE⟩:∃h,qZ Y (Z0+1) (some (⟨26,3,false,[[rl,rh,.own (Z0+4) 0 b.zE.length]]⟩:jz))=h:=⟨_,rfl⟩;have eo:∀j,j≠Z0+1→hpE j=Y j:=fun j o=>by rw[←hE,zw _ _ _ _ o]
   rw[hE];obtain⟨w1,w2,w3⟩:=hcl hpE fun j o w=>by rw[eo j w,M j (by omega) (by omega)]
   exact⟨by omega,⟨Z0+2,rl,rh,_,rfl,by omega,by omega,w1.wide,w2.wide,.inr ⟨m,l,rfl,by omega,by rw[eo _ (by omega)];exact mb,mx.same fun j h1 h2=>eo j (by omega)⟩⟩,w3⟩
def Hn(Y:Hp)(lo a:Nat)(b:Bk)(r:O):Prop:=∃l rl rh rx,r=.agg [rl,rh,rx]∧lo≤l∧l+2≤a∧Q0 Y l (l+1) 61 3 rl (b.zk.map wh.V)∧Q0 Y (l+1) (l+2) 71 4 rh (b.holds.map yI.V) ∧
 ((b.zE=[]∧rx=.nil)∨l+2<a∧rx=.own (l+2) 0 b.zE.length∧Y (l+2)=some ⟨34,13,true,b.zE.map Xp.V⟩)
theorem VD{Y:Hp}{lo a e s:Nat}{r:O}{es:List zc}(h:Q0 Y lo a e s r es):WK Y r=some Y:=by
 rcases h with rfl|⟨rfl,rfl⟩|⟨c,id,d,f,rfl,b⟩
 ·rfl
 ·rfl
 ·simp[WK,b]
theorem tz{n:AM.Spec}{b:Bk}{args:zc}{Y0:Hp}{Z0:Nat}(h:∃r Y' a,n args Y0 Z0=some (r,Y',a)∧Z0≤a∧oa Y' Z0 a b r∧∀j,j<Z0→Y' j=Y0 j) :
  ∃r Y' a,XQ n args Y0 Z0=some (r,Y',a)∧Z0≤a∧Hn Y' Z0 a b r∧∀j,j<Z0→Y' j=Y0 j:=by
 obtain⟨r,Y',a,o,p,⟨l,rl,rh,rx,rfl,q,s,e,f,v⟩,t⟩:=h;rcases v with⟨w,rfl⟩|⟨d,x,rfl,E,u,i⟩
 ·refine⟨_,Y',a,?_,p,⟨l,rl,rh,.nil,rfl,q,s,e,f,.inl ⟨w,rfl⟩⟩,t⟩;unfold XQ;rw[o];simp only[zS,Wm,VD e,VD f,(show WK Y' .nil=some Y' from rfl),zH]
 ·have y:=i.le;have k:=i.len;obtain⟨c,z,g⟩:=i.freeze;have A:c (l+2)=some ⟨34,13,false,d⟩:=by rw[g _ (by omega)];exact u
  have m:WK Y' (.own (l+2) 0 b.zE.length)=some (qZ c (l+2) (some ⟨34,13,true,b.zE.map Xp.V⟩)):=by simp[WK,u,k,z,A]
  refine⟨_,qZ c (l+2) (some ⟨34,13,true,b.zE.map Xp.V⟩),a,?_,p,⟨l,rl,rh,_,rfl,q,s,e.same (ze _) (ze _) fun j B C=>?_,f.same (ze _) (ze _) fun j B C=>?_,.inr ⟨by omega,rfl,by rw[jd]⟩⟩,fun j D=>?_⟩
  ·unfold XQ;rw[o];simp only[zS,Wm,VD e,VD f,m,zH]
  ·rw[zw _ _ _ _ (by omega),g j (by omega)]
  ·rw[zw _ _ _ _ (by omega),g j (by omega)]
  ·rw[zw _ _ _ _ (by omega),g j (by omega),t j D]
theorem od(b:Bk)(y:O)(d:vw 13 (b.zE.map Xp.V) y)(a:b.cb≤zG)(Y0:Hp)(Z0:Nat) :
  ∃r Y' c,XQ (wP Cxb f22) [J5 b y] Y0 Z0=some (r,Y',c)∧Z0≤c∧Hn Y' Z0 c b r∧∀j,j<Z0→Y' j=Y0 j:=tz (bI b y d a Y0 Z0)
theorem gh:zg prog 22 (XQ (wP Cxb f22)):=ia V2
theorem ee{b:Bk}{y:O}(a:vw 13 (b.zE.map Xp.V) y):Sh.fix (.g Qk) (J5 b y)=.agg b.V:=by unfold Bk.V J5;generalize b.zE.map Xp.V=es at a;cases a<;>rfl
theorem ef{b:Bk}{y:O}(a:vw 13 (b.zE.map Xp.V) y)(Y:Hp):qf Y (J5 b y)=some (J5 b y,Y):=by unfold J5;generalize b.zE.map Xp.V=es at a;cases a<;>rfl
theorem az{b:Bk}{y:O}(a:vw 13 (b.zE.map Xp.V) y):O.noOwn (J5 b y)=true:=by unfold J5;generalize b.zE.map Xp.V=es at a;cases a<;>rfl
theorem MT{b:Bk}{y:O}(c:vw 13 (b.zE.map Xp.V) y)(Y:Hp)(Z:Nat)(h:b.cb≤zG):qh [.g Qk] (pF fun b=>int (qQ b)) [J5 b y] Y Z=some (int (qQ b),Y,Z):=
 ju (show zA Y [J5 b y]=some ([J5 b y],Y) by simp only[zA,ef c]) (by simp only[YR,ee c];exact zJ (V:=fun b:Bk=>[.agg b.V]) (a:=b) (fun a b e=>by simp only[zh,zK,O.agg.injEq]at e;exact vk e) h) (.inl rfl)
theorem rn{b:Bk}{y:O}(c:vw 13 (b.zE.map Xp.V) y)(s t:za)(n:Int)(Y:Hp)(Z:Nat)(h:okB b s):qh [.g Qk] (MP fun b s t n=>.sl 2 ((jY b s t n).map zM)) [J5 b y,str s,str t,int n] Y Z=some (.sl 2 ((jY b s t n).map zM),Y,Z):=
 ju (show zA Y [J5 b y,str s,str t,int n]=some ([J5 b y,str s,str t,int n],Y) by simp only[zA,ef c];rfl) (by
  simp only[YR,ee c];exact zJ (V:=fun a:Bk×za×za×Int=>[.agg a.1.V,str a.2.1,str a.2.2.1,int a.2.2.2]) (a:=(b,s,t,n)) (fun x y e=>by obtain⟨d,f,i,j⟩:=x;obtain⟨k,l,m,o⟩:=y;simp only[zh,zK,O.agg.injEq]at e;rw[vk e.1,wx e.2.1,wx e.2.2.1,qn e.2.2.2]) h) (.inr (by simp only[qN,az c];rfl))
theorem Ho:zg prog 14 (qh [.s 13 []] MD):=
 wo (fn:=f14) (zI (q:=[]) mixed ⟨th,by simp,trivial⟩:AM.Good CofX _) ⟨_,func14,by kernel_rfl,rfl,by kernel_rfl⟩ _ _ fun args r h=>by
  obtain⟨⟨l,s⟩,rfl,a,rfl⟩:=zr h;have b:=fun Y Z=>tf l s Y Z a
  exact⟨by simp[f14],_,zo rfl (by simp[b,wH,f14]),.refl _⟩
theorem MU{l:List Xp}{y:O}(b:vw 13 (l.map Xp.V) y)(s:za)(Y:Hp)(Z:Nat)(h:l.length≤zG):qh [.s 13 []] MD [y,str s] Y Z=some (.yb [int (vd (l.map Xp.name) s).1,wq (vd (l.map Xp.name) s).2],Y,Z):=by
 have d:YR [.s 13 []] [y,str s]=[.sl 13 (l.map Xp.V),str s]:=by
  generalize l.map Xp.V=es at b;cases b
  ·rfl
  ·rfl
  ·rename_i c es;have:∀l:List zc,l.map (Z4 [])=l:=fun l=>by
    induction l with
    |nil=>rfl
    |cons a l f=>rw[qF,f];cases a<;>rfl
   simp only[YR,Sh.eT,this]
 exact ju (show zA Y [y,str s]=some ([y,str s],Y) by simp only[zA,b.frz];rfl) (by
  rw[d];exact zJ (V:=fun a:List Xp×za=>[.sl 13 (a.1.map Xp.V),str a.2]) (a:=(l,s)) (fun x y e=>by obtain⟨g,i⟩:=x;obtain⟨j,k⟩:=y;simp only[zh,zK,O.sl.injEq,ab]at e;rw[y7 (fun _ _=>xQ) e.1,wx e.2]) h) (.inl rfl)
theorem oe{Y:Hp}{lo a e s:Nat}{r:O}{es:List zc}(h:Q0 Y lo a e s r es):∃Y',Zq Y r=some (.sl s es,Y')∧∀j,j<lo∨a≤j→Y' j=Y j:=by
 rcases h with rfl|⟨rfl,rfl⟩|⟨c,id,d,f,rfl,b⟩
 ·exact⟨Y,rfl,fun _ _=>rfl⟩
 ·exact⟨Y,rfl,fun _ _=>rfl⟩
 ·refine⟨qZ Y id none,?_,fun j g=>qY _ _ _ _ (by omega)⟩;simp[Zq,we,b]
theorem ie:zg prog 26 (bH (zi false [] (pF fun b=>yX (yD b)))):=zlX Hg
theorem VE{Y:Hp}{Z l:Nat}{rl rh rx:O}{b:Bk}(k:Q0 Y l (l+1) 61 3 rl (b.zk.map wh.V))(m:Q0 Y (l+1) (l+2) 71 4 rh (b.holds.map yI.V))
  (n:∀h:Hp,(∀j,j<l∨l+2≤j→h j=Y j)→∃Y',Zq h rx=some (.sl 13 (b.zE.map Xp.V),Y')∧∀j,j<l→Y' j=h j) (o:b.cb≤zG) :
  ∃Y',bH (zi false [] (pF fun b=>yX (yD b))) [.agg [rl,rh,rx]] Y Z=some (yX (yD b),Y',Z)∧∀j,j<l→Y' j=Y j:=by
 obtain⟨d,p,e⟩:=oe k;obtain⟨f,q,g⟩:=oe (m.same (Y':=d) (ze _) (ze _) fun j a b=>e j (.inr (by omega)));obtain⟨c,r,s⟩:=n f fun j i=>by rw[g j (by omega),e j (by omega)]
 refine⟨c,?_,fun j i=>by rw[s j i,g j (by omega),e j (by omega)]⟩;have hd:Y3 Y [.agg [rl,rh,rx]]=some ([.agg b.V],c):=by simp only[Y3,lP,YJ,p,q,r,zS,zH,Bk.V]
 unfold bH;rw[hd];simp only[zS];exact XJ (fun b=>yX (yD b)) b c Z o
theorem Eg{α:Type}(f:α→Nat)(a b:List α):wg f (a++b)=wg f a+wg f b:=by simp[wg]
theorem MV{α:Type}{f:α→Nat}{a b:List α}(h:a.Perm b):wg f a=wg f b:=by unfold wg;exact(h.map f).sum_nat
theorem Eh{α:Type}{f:α→Nat}:∀{l:List α} {i:Nat} {x y:α},l[i]?=some x→wg f (l.set i y)+f x=wg f l+f y
 |[],i,x,y,h=>by simp at h
 |z::l,0,x,y,h=>by simp at h;subst h;simp only[wg,List.set_cons_zero,qF,lS];omega
 |z::l,i+1,x,y,h=>by have:=Eh (f:=f) (l:=l) (i:=i) (x:=x) (y:=y) (by simpa using h);simp only[wg,List.set_cons_succ,qF,lS]at *;omega
theorem Rx(n:Int)(l:List Sp):wc.cb ⟨n,l⟩=1+l.length:=rfl
theorem zaH(x:Xp)(n:Int)(l:List Sp):(x.more n l).cb=x.cb+1+l.length:=by
 have a:(x.more n l).cb=x.name.length+x.qi.length+x.flag.length+x.cond.cb+x.qI.length+x.jX.length+wg wc.cb (x.zs++[⟨n,l⟩]):=rfl;have b:x.cb=x.name.length+x.qi.length+x.flag.length+x.cond.cb+x.qI.length+x.jX.length+wg wc.cb x.zs:=rfl;have c:wg wc.cb [(⟨n,l⟩:wc)]=1+l.length:=by simp[wg,Rx]
 rw[a,b,Eg,c];omega
theorem Ry(x:Xp)(n:Int)(l:List Sp):(x.begun n l).cb≤x.cb+1+l.length:=by
 have a:(x.begun n l).cb=x.name.length+x.qi.length+x.flag.length+x.cond.cb+x.qI.length+x.jX.length+wg wc.cb [⟨n,l⟩]:=rfl;have b:x.cb=x.name.length+x.qi.length+x.flag.length+x.cond.cb+x.qI.length+x.jX.length+wg wc.cb x.zs:=rfl;have c:wg wc.cb [(⟨n,l⟩:wc)]=1+l.length:=by simp[wg,Rx]
 rw[a,b,c];omega
theorem Rz(b:Bk):b.cb=wg wh.cb b.zk+wg yI.cb b.holds+wg Xp.cb b.zE:=rfl
theorem xP:wJ.cb=0:=rfl
theorem Hq(b:Bk)(e:Xp)(n:Int)(l:List Sp):Bk.cb ⟨b.zk,b.holds,jR (b.zE++[e.begun n l])⟩≤b.cb+e.cb+1+l.length:=by
 have h:=MV (f:=Xp.cb) (YB (b.zE++[e.begun n l])).2.1;have a:wg Xp.cb [e.begun n l]=(e.begun n l).cb:=by simp[wg]
 rw[Eg,a]at h;have c:=Ry e n l;rw[Rz,Rz];simp only;omega
theorem og(b:Bk)(i:Nat)(n:Int)(l:List Sp):(b.put i n l).cb≤b.cb+1+l.length:=by
 cases a:b.zE[i]? with
 |none=>
  have:b.put i n l=b:=by unfold Bk.put;rw[a]
  rw[this];omega
 |some x=>have c:=AG a n l;have d:=Eh (f:=Xp.cb) (y:=x.more n l) a;rw[zaH]at d;have e:(b.put i n l).cb=wg wh.cb b.zk+wg yI.cb b.holds+wg Xp.cb (b.put i n l).zE:=rfl;rw[e,c,Rz];omega
theorem ig:∀(l:List Sp) (n:Int),(wS l n).length≤l.length
 |[],_=>ze _
 |s::l,n=>by
  rw[wS];split
  ·simp
  ·have:=ig l (n-min n (s.2-s.1));simp only[qa];omega
theorem tA(l:List Sp)(n:Int)(h:j7 l):(wS l n).length≤100000:=zC (ig l n) h.2.2.2
theorem RA{b:Bk}{e:Xp}{n at_:Int}:(yp b e n at_).1.cb≤b.cb+e.cb+100001:=by
 by_cases h:(yp b e n at_).2=0
 ·obtain⟨a,_,_,_,c,_⟩:=Rt h;rw[c];have d:=Hq b e at_ (wS (jY b e.qi [] at_) n);have f:=tA (jY b e.qi [] at_) n (XL a _ _ _);simp only;omega
 ·rw[Rs h,xP];omega
theorem Ei{a f:List Sp}(b:j7 a)(c:j7 f):j7 (Wh a f):=by obtain⟨d,e⟩:=cn b c;exact VC d fun k g=>((e k).1 g).elim (Yx b) (Yx c)
theorem zaI{b:Bk}{s:za}{n at_:Int}:(kF b s n at_).1.cb≤b.cb+100001:=by
 by_cases h:(kF b s n at_).2=0
 ·obtain⟨x,a,c,d,r,m,e⟩:=zaE h;rw[m];obtain⟨i,o⟩:∃i,(vd (b.zE.map Xp.name) s).1=i:=⟨_,rfl⟩;rw[o]at c e⊢;obtain⟨L,p⟩:∃L,Wh (jq [] at_ x.zs) (wS (vY (jY b x.qi s at_) (jq [] at_ x.zs)) n)=L:=⟨_,rfl⟩;rw[p]at e⊢;have f:i<b.zE.length:=(zq.1 c).1;have q:(b.put i at_ L).zE[i]?=some (x.more at_ L):=by rw[AG c];simp[f]
  have g:w7 L=0:=jO ((Wl e).2.1 _ (zO q)).1 ⟨at_,L⟩ (by simp[Xp.more]);have:=(xM g).2.2.2;have:=og b i at_ L;simp only;omega
 ·have j:(kF b s n at_).1=wJ:=by
   unfold kF at h⊢;split at h
   case isFalse k=>rw[zj k]
   rename_i k;rw[zf k];split at h
   ·rfl
   ·rename_i x c;split at h
    ·rename_i a;rw[zf a]
    ·rename_i a;rw[zj a];split at h
     case isFalse l=>rw[zj l]
     rename_i l;rw[zf l];split at h
     ·rename_i d;rw[zf d]
     ·rename_i d;rw[zj d];exact IU h
  rw[j,xP];omega
noncomputable def lh:zc→Option O:=qv (α:=Bk×Nat×Int×List Sp) (fun a=>[.agg a.1.V,int a.2.1,int a.2.2.1,.sl 2 (a.2.2.2.map zM)]) (fun a=>a.1.cb+1+a.2.2.2.length≤zG∧∃x,a.1.zE[a.2.1]?=some x∧x.zs≠[]) (fun a=>yX (yD (a.1.put a.2.1 a.2.2.1 a.2.2.2)))
theorem tB(b:Bk)(i:Nat)(at_:Int)(l:List Sp)(Y:Hp)(Z:Nat)(h:b.cb+1+l.length≤zG∧∃x,b.zE[i]?=some x∧x.zs≠[]):zi false [] lh [.agg b.V,int i,int at_,.sl 2 (l.map zM)] Y Z=some (yX (yD (b.put i at_ l)),Y,Z):=
 qe (Y1:=Y) (show zA Y [.agg b.V,int i,int at_,.sl 2 (l.map zM)]=some ([.agg b.V,int i,int at_,.sl 2 (l.map zM)],Y) by simp only[zA,jW];rfl) (zJ (V:=fun a:Bk×Nat×Int×List Sp=>[.agg a.1.V,int a.2.1,int a.2.2.1,.sl 2 (a.2.2.2.map zM)]) (a:=(b,i,at_,l)) (fun x y e=>by obtain⟨k,c,m,d⟩:=x;obtain⟨n,f,o,g⟩:=y;simp only[zh,zK,O.agg.injEq,O.sl.injEq,ab]at e;have p:=qn e.2.1;have j:d=g:=jE (zD (O.sl 2) e.2.2.2);rw[vk e.1,(show c=f by omega),qn e.2.2.1,j]) h) (.inr (by simp only[qN,xh];rfl))
theorem RB:∀z:zc,z.length=12→∃a b c d e f g h i j k l,z=[a,b,c,d,e,f,g,h,i,j,k,l]
 |[a,b,c,d,e,f,g,h,i,j,k,l],_=>⟨a,b,c,d,e,f,g,h,i,j,k,l,rfl⟩
noncomputable abbrev Cchd:Ctx:=qb prog [(22,wP Cxb f22),(26,bH (zi false [] (pF fun b=>yX (yD b))))]
theorem IY:AM.Good Cchd (fun g=>([]:List Nat).contains g):=zI mixed ⟨V2,by simp,ie,by simp,trivial⟩
theorem ei(b:Bk)(i:Nat)(at_:Int)(l:List Sp)(x:Xp)(hb:b.cb+1+l.length≤zG)(w:b.zE[i]?=some x)(D:x.zs≠[]):zz Cchd f44 [.agg b.V,int i,int at_,.sl 2 (l.map zM)]=some (yX (yD (b.put i at_ l))):=by
 have TS:zG=2097152:=rfl;have d:i<b.zE.length:=(zq.1 w).1;have E:=zO w;have Tn:=yg (f:=Xp.cb) E;have Om:b.cb=wg wh.cb b.zk+wg yI.cb b.holds+wg Xp.cb b.zE:=rfl;have TR:=qJ ZG b.zE;have hxe:x.cb=x.name.length+x.qi.length+x.flag.length+x.cond.cb+x.qI.length+x.jX.length+wg wc.cb x.zs:=rfl;have hxpl:=qJ vG x.zs;have p:=AG w at_ l;have hpcb:=og b i at_ l;have F:x.zs.length+1≤maxLen:=by unfold maxLen;omega
 have G:(x.zs.length+1)*32≤140737488355328:=by omega
 refine zo rfl ?_;refine QK (fun o Y Z=>o 1=int i∧o 2=int at_∧o 3=.sl 2 (l.map zM)∧o 4=.ref 0 0 0∧o 8=.ref 1 0 0∧Y 0=some ⟨26,3,false,[b.V]⟩∧(∃z,Y 1=some ⟨26,3,false,[z]⟩∧z.length=3)∧Z=2) ?_ ?_
 ·simp[Bk.V]
 rintro o Y Z ⟨h1,h2,h3,h4,h8,s,⟨z,hc,hz⟩,rfl⟩;obtain⟨z0,z1,z2,rfl⟩:=tx z hz;have H:vw 13 (b.zE.map Xp.V) (.sl 13 (b.zE.map Xp.V)):=by
  cases he:b.zE with
  |nil=>rw[he]at d;simp at d
  |cons y ys=>exact .sl
 obtain⟨r,Y',a,r1,r2,⟨q,rl,rh,rx,rfl,a1,a2,a3,a4,a5⟩,r4⟩:=bI b _ H (by omega) Y 2;rcases a5 with⟨e0,_⟩|⟨e,mid,rfl,e1,e2,I⟩
 ·rw[e0]at d;simp at d
 have hle:=I.le;have J:=I.len;obtain⟨c,cells,c1,c2,c3,c4,c5,c6⟩:=I.grown w D;obtain⟨K,L,M,N,P,Q,R,S,T,U,k,m,rfl⟩:=RB cells c2;have t:Y' 1=some ⟨26,3,false,[[z0,z1,z2]]⟩:=by rw[r4 1 (by omega)];exact hc
 obtain⟨g,u⟩:∃h:Hp,qZ (qZ (qZ (qZ (qZ Y' a (some (⟨26,3,false,[[rl,rh,.own (q+2) 0 b.zE.length]]⟩:jz))) (a+1) (some (⟨54,2,true,[[int at_,.sl 2 (l.map zM)]]⟩:jz))) c none) (a+1+1) (some (⟨54,2,true,x.zs.map wc.V++[[int at_,.sl 2 (l.map zM)]]⟩:jz))) (q+2) (some (⟨34,13,false,e.set i [K,L,M,N,P,Q,R,S,T,U,k,m,.own (a+1+1) 0 (x.zs.length+1)]⟩:jz))=h:=⟨_,rfl⟩;have A:∀j,j<a→j≠c→j≠q+2→g j=Y' j:=fun j W C X=>by rw[←u,zw _ _ _ _ X,zw _ _ _ _ (by omega),zw _ _ _ _ C,zw _ _ _ _ (by omega),zw _ _ _ _ (by omega)]
 have zb:g a=some ⟨26,3,false,[[rl,rh,.own (q+2) 0 b.zE.length]]⟩:=by rw[←u,zw _ _ _ _ (by omega),zw _ _ _ _ (by omega),zw _ _ _ _ (by omega),zw _ _ _ _ (by omega),jd]
 have zx:g (q+2)=some ⟨34,13,false,e.set i [K,L,M,N,P,Q,R,S,T,U,k,m,.own (a+1+1) 0 (x.zs.length+1)]⟩:=by rw[←u,jd]
 have zp:g (a+1+1)=some ⟨54,2,true,(x.zs++[(⟨at_,l⟩:wc)]).map wc.V⟩:=by rw[←u,zw _ _ _ _ (by omega),jd,yz];rfl
 obtain⟨hpF,m1,m2⟩:=VE (Z:=a+1+1+1) (rl:=rl) (rh:=rh) (rx:=.own (q+2) 0 b.zE.length) (b:=b.put i at_ l) (Y:=g) (l:=q) (a3.same (ze _) (ze _) fun j W C=>A j (by omega) (by omega) (by omega)) (a4.same (ze _) (ze _) fun j W C=>A j (by omega) (by omega) (by omega)) (fun h hh=>by obtain⟨hpG,n1,n2⟩:=c6 (qZ h (q+2) none) (a+1+1) (x.zs++[(⟨at_,l⟩:wc)]) (fun j W C X=>by rw[zw _ _ _ _ (by omega),hh j (by omega),A j (by omega) X (by omega)]) (by omega) (by rw[zw _ _ _ _ (by omega),hh _ (by omega)];exact zp);refine⟨hpG,?_,fun j hj=>by rw[n2 j (by omega),zw _ _ _ _ (by omega)]⟩;have v:=hh (q+2) (by omega);rw[zx]at v;have n:(b.put i at_ l).zE=b.zE.set i (x.FE (x.zs++[(⟨at_,l⟩:wc)])):=p;rw[n];simp only[ye,qa,vV,q9,wN]at n1;simp[Zq,v,J,n1]) (by omega)
 have hF1:hpF 1=some ⟨26,3,false,[[z0,z1,z2]]⟩:=by rw[m2 1 (by omega),A 1 (by omega) (by omega) (by omega)];exact t
 obtain⟨⟨B,f⟩,hR⟩:∃r,yD (b.put i at_ l)=r:=⟨_,rfl⟩;have N4:yX (B,f)=.yb [.agg [.sl 3 (B.zk.map wh.V),.sl 4 (B.holds.map yI.V),.sl 13 (B.zE.map Xp.V)],int f]:=rfl;rw[hR,N4]at m1⊢;simp only[J5,Bk.V]at r1 s;have H9:e[i]?=some [K,L,M,N,P,Q,R,S,T,U,k,m,.own c 0 x.zs.length]:=c1;have k1:¬q+2=a:=by omega
 have k2:¬q+2=a+1:=by omega
 have k3:¬q+2=c:=by omega
 have k4:¬c=a:=by omega
 have k5:¬c=a+1:=by omega
 have k6:¬q+2=a+1+1:=by omega
 have k7:¬q=a:=by omega
 have k8:¬q+1=a:=by omega
 simp[zR,qc,zv,zN,zy,wU,Xb,AM.view,h1,h2,h3,h4,h8,s,t,r1,F,G,a3.cell,a4.cell,e2,c5,d,H9,k1,k2,k3,k4,k5,k6,k7,k8,u,zb,m1,hF1,wH,f44]
theorem bJ:zg prog 44 (zi false [] lh):=
 jD (fn:=f44) IY ⟨_,func44,by kernel_rfl,rfl,by kernel_rfl⟩ false [] _ fun args r h w S vs a=>by obtain⟨⟨b,i,n,l⟩,rfl,⟨c,x,d,e⟩,rfl⟩:=zr h;exact⟨_,_,a,zC (ze 4) (by decide),ei b i n l x c d e,fun _ _ _ h=>h⟩
noncomputable def RC:zc→Option O:=qv (α:=Bk×Xp×Int×Int) (fun a=>[.agg a.1.V,.agg a.2.1.V,int a.2.2.1,int a.2.2.2]) (fun a=>a.1.cb+a.2.1.cb+100001≤zG) (fun a=>yX (yp a.1 a.2.1 a.2.2.1 a.2.2.2))
theorem MW(b:Bk)(e:Xp)(n m:Int)(Y:Hp)(Z:Nat)(h:b.cb+e.cb+100001≤zG):zi false [] RC [.agg b.V,.agg e.V,int n,int m] Y Z=some (yX (yp b e n m),Y,Z):=
 qe (Y1:=Y) (show zA Y [.agg b.V,.agg e.V,int n,int m]=some ([.agg b.V,.agg e.V,int n,int m],Y) by simp only[zA,jW,Qh];rfl) (zJ (V:=fun a:Bk×Xp×Int×Int=>[.agg a.1.V,.agg a.2.1.V,int a.2.2.1,int a.2.2.2]) (a:=(b,e,n,m)) (fun x y e=>by obtain⟨c,d,f,g⟩:=x;obtain⟨i,j,k,l⟩:=y;simp only[zh,zK,O.agg.injEq]at e;rw[vk e.1,xQ e.2.1,qn e.2.2.1,qn e.2.2.2]) h) (.inr (by simp only[qN,xh,XI];rfl))
noncomputable abbrev zcN:Ctx:=qb prog [(13,qh [.g Qk] (pF fun b=>int (qQ b))),(14,qh [.s 13 []] MD),(15,zi false [] GX),(16,zi false [] (F3 jg)),(17,zi false [] (fK vT)),(18,qh [.g Qk] (MP fun b s t n=>.sl 2 ((jY b s t n).map zM))),(19,zi false [] (FP (fun l=>int (wM l)) fun l=>j7 l)),(20,KL (wP Cce f20)),(21,zi false [] (Mu (fun l n=>.sl 2 ((wS l n).map zM)) fun l n=>j7 l∧0≤n∧n≤100000)),(22,XQ (wP Cxb f22)),(23,KA 13 24 cfX domX),(26,bH (zi false [] (pF fun b=>yX (yD b))))]
theorem RD:AM.Good zcN (fun g=>([]:List Nat).contains g):=zI mixed ⟨Hh,by simp,Ho,by simp,KH,by simp,kV,by simp,VA,by simp,nY,by simp,ck,by simp,WL,by simp,XF,by simp,gh,by simp,D5,by simp,ie,by simp,trivial⟩
theorem zaJ{H:Hp}{N lo:Nat}{rx:O}{xs:List Xp}{E:zc}(c:(xs=[]∧rx=.nil)∨lo<N∧rx=.own lo 0 xs.length∧H lo=some ⟨34,13,true,xs.map Xp.V⟩)(b:H N=some ⟨34,13,true,[E]⟩)(k:xs.length+1≤4194304) :
  ∃a,wU prog H (N+1) 24 24 rx (.own N 0 1)=some (.own (N+1) 0 (xs.length+1),a,N+1+1)∧a (N+1)=some ⟨34,13,true,xs.map Xp.V++[E]⟩∧∀j,j<N+1→(j=lo→rx=.nil)→a j=H j:=by
 have d:xs.length+1≤maxLen:=by unfold maxLen;omega
 have f:(xs.length+1)*224≤140737488355328:=by omega
 rcases c with⟨rfl,rfl⟩|⟨l,rfl,g⟩
 ·exact⟨qZ H (N+1) (some ⟨34,13,true,[E]⟩),by simp[wU,Xb,AM.view,b,maxLen],by simp,fun j h _=>zw _ _ _ _ (by omega)⟩
 ·refine⟨qZ (qZ H lo none) (N+1) (some ⟨34,13,true,xs.map Xp.V++[E]⟩),by simp[wU,Xb,AM.view,b,g,d,f],by simp,fun j h i=>?_⟩;have:j≠lo:=fun e=>by have:=i e;cases this
  rw[zw _ _ _ _ (by omega),zw _ _ _ _ this]
theorem Hr(b:Bk)(e:Xp)(n at_:Int)(y:O)(hy:vw 13 (b.zE.map Xp.V) y)(hb:b.cb+e.cb+100001≤zG) :
  ∃r0,zz zcN Tryz.f4 [J5 b y,.agg e.V,int n,int at_]=some r0∧qM r0 (yX (yp b e n at_)):=by
 have TS:zG=2097152:=rfl;have Om:b.cb=wg wh.cb b.zk+wg yI.cb b.holds+wg Xp.cb b.zE:=rfl;have TN:=qJ xa b.zk;have TR:=qJ ZG b.zE;refine yv rfl ?_;refine QK (fun σ Y Z=>σ 2=int n∧σ 3=int at_∧σ 4=.ref 0 0 0∧σ 5=.ref 1 0 0∧σ 8=.ref 2 0 0∧Y 0=some ⟨26,3,false,[[.sl 3 (b.zk.map wh.V),.sl 4 (b.holds.map yI.V),y]]⟩∧Y 1=some ⟨34,13,false,[e.V]⟩∧(∃z,Y 2=some ⟨26,3,false,[z]⟩∧z.length=3)∧Z=3) ?_ ?_
 ·simp[J5,zZ,hy.cell]
 rintro σ Y Z ⟨u,G,R,S,T,k,d,⟨z,J,hz⟩,rfl⟩;obtain⟨z0,z1,z2,rfl⟩:=tx z hz;have i:=fun Y Z=>MT hy Y Z (by omega)
 have o:=fun Y Z=>MU hy e.name Y Z (by omega)
 have p:=fun Y Z=>KG b.zk e.qi Y Z (by omega)
 simp only[J5]at i;by_cases A:qQ b=0
 case neg=>
  have s:yp b e n at_=(wJ,qQ b):=by unfold yp;rw[zj A]
  have H9:(qQ b != 0)=true:=by simpa using A
  rw[s];simp[zR,qc,u,G,R,S,T,k,d,J,i,H9,Tryz.f4];exact⟨_,by simp,qy _⟩
 simp only[A]at i;obtain⟨⟨ix,is⟩,U⟩:∃r,vd (b.zE.map Xp.name) e.name=r:=⟨_,rfl⟩;obtain⟨⟨il,ly⟩,hL⟩:∃r,vd (b.zk.map wh.name) e.qi=r:=⟨_,rfl⟩;simp only[U]at o;simp only[hL]at p;rw[zZ]at d;by_cases t:e.zs=[]
 case neg=>
  have s:yp b e n at_=(wJ,3):=by unfold yp;rw[zf A,zj t]
  have c2':0<e.zs.length:=kz.2 t;rw[s];simp[zR,qc,u,G,R,S,T,k,d,J,i,o,p,c2',Tryz.f4];exact⟨_,by simp,qy _⟩
 cases C:is
 case true=>
  have s:yp b e n at_=(wJ,7):=by unfold yp;rw[zf A,zf t,U];simp only;rw[zf C]
  rw[s];simp[zR,qc,u,G,R,S,T,k,d,J,i,o,p,t,C,Tryz.f4];exact⟨_,by simp,qy _⟩
 cases D:jg n 1 100000
 case false=>
  have s:yp b e n at_=(wJ,1):=by unfold yp;rw[zf A,zf t,U];simp only;rw[zj (by simp[C]),zj (by simp[D])]
  rw[s];simp[zR,qc,u,G,R,S,T,k,d,J,i,o,p,t,C,D,Tryz.f4];exact⟨_,by simp,qy _⟩
 cases K:ly
 case false=>
  have s:yp b e n at_=(wJ,5):=by unfold yp;rw[zf A,zf t,U,hL];simp only;rw[zj (by simp[C]),zf D,zj (by simp[K])]
  rw[s];simp[zR,qc,u,G,R,S,T,k,d,J,i,o,p,t,C,D,K,Tryz.f4];exact⟨_,by simp,qy _⟩
 cases c6:vT at_
 case false=>
  have s:yp b e n at_=(wJ,1):=by unfold yp;rw[zf A,zf t,U,hL];simp only;rw[zj (by simp[C]),zf D,zf K,zj (by simp[c6])]
  rw[s];simp[zR,qc,u,G,R,S,T,k,d,J,i,o,p,t,C,D,K,c6,Tryz.f4];exact⟨_,by simp,qy _⟩
 have W:=fun Y Z=>rn hy e.qi [] at_ Y Z ⟨by omega,A,by rw[hL];exact K⟩
 obtain⟨Fr,L⟩:∃Fr,jY b e.qi [] at_=Fr:=⟨_,rfl⟩;have F:j7 Fr:=by rw[←L];exact XL A _ _ _
 simp only[J5,L]at W;have hsz:=fun Y Z=>Yw (fun l=>int (wM l)) (fun l=>j7 l) Fr Y Z F
 have hn:=(ZA n 1 100000).1 D;by_cases c7:wM Fr<n
 ·have s:yp b e n at_=(wJ,9):=by unfold yp;rw[zf A,zf t,U,hL];simp only;rw[zj (by simp[C]),zf D,zf K,zf c6,L,zf c7]
  rw[s];simp[zR,qc,u,G,R,S,T,k,d,J,i,o,p,t,C,D,K,c6,W,hsz,c7,Tryz.f4];exact⟨_,by simp,qy _⟩
 obtain⟨f,hf⟩:∃f,wS Fr n=f:=⟨_,rfl⟩;obtain⟨o1,o2,o3⟩:=KK F (n:=n) (by omega) (by omega);rw[hf]at o1 o2 o3;have hfi:=fun Y Z=>ZR (fun l n=>.sl 2 ((wS l n).map zM)) (fun l n=>j7 l∧0≤n∧n≤100000) Fr n Y Z ⟨F,by omega,by omega⟩
 simp only[hf]at hfi;obtain⟨I,X⟩:∃I,e.begun at_ f=I:=⟨_,rfl⟩;have s:yp b e n at_=yD ⟨b.zk,b.holds,jR (b.zE++[I])⟩:=by unfold yp;rw[zf A,zf t,U,hL];simp only;rw[zj (by simp[C]),zf D,zf K,zf c6,L,zj c7,hf,X]
 have rW:Bk.cb ⟨b.zk,b.holds,jR (b.zE++[I])⟩≤zG:=by have h1:=Hq b e at_ f;have u:=o1.2.2.2;rw[X]at h1;omega
 obtain⟨r,hpA,c,d1,d2,⟨row,rfl,mid,w,rp,rfl,d3,d4,d5,d6⟩,d7⟩:=Y6 e (by omega) Y 3;have To:[str e.name,str e.qi,str e.flag]++e.cond.V++[str e.qI,w,rp]=[str e.name,str e.qi,str e.flag,int e.cond.kind,str e.cond.attr,int e.cond.op,.sl 5 (e.cond.yY.map qE.V),str e.cond.pat,str e.cond.name,.sl 7 (e.cond.args.map wV.V),str e.qI,w,rp]:=by rw[yU];rfl
 rw[zZ,To]at d1;obtain⟨HA,hHA⟩:∃h:Hp,qZ hpA c (some (⟨34,13,false,[[str e.name,str e.qi,str e.flag,int e.cond.kind,str e.cond.attr,int e.cond.op,.sl 5 (e.cond.yY.map qE.V),str e.cond.pat,str e.cond.name,.sl 7 (e.cond.args.map wV.V),str e.qI,w,rp]]⟩:jz))=h:=⟨_,rfl⟩;obtain⟨HB0,x⟩:∃h:Hp,qZ HA (c+1) (some (⟨54,2,true,[[int at_,.sl 2 (f.map zM)]]⟩:jz))=h:=⟨_,rfl⟩;have bs1:zv prog HA (c+1) 32 1 [(0,.agg [int at_,.sl 2 (f.map zM)])]=some (.own (c+1) 0 1,HB0,c+1+1):=by rw[←x];simp[zv,zN,zy]
 have bA:HB0 c=some ⟨34,13,false,[[str e.name,str e.qi,str e.flag,int e.cond.kind,str e.cond.attr,int e.cond.op,.sl 5 (e.cond.yY.map qE.V),str e.cond.pat,str e.cond.name,.sl 7 (e.cond.args.map wV.V),str e.qI,w,rp]]⟩:=by rw[←x,zw _ _ _ _ (by omega),←hHA,jd]
 obtain⟨HB,M⟩:∃h:Hp,qZ HB0 c (some (⟨34,13,false,[[str e.name,str e.qi,str e.flag,int e.cond.kind,str e.cond.attr,int e.cond.op,.sl 5 (e.cond.yY.map qE.V),str e.cond.pat,str e.cond.name,.sl 7 (e.cond.args.map wV.V),str e.qI,w,.own (c+1) 0 1]]⟩:jz))=h:=⟨_,rfl⟩;have oB:∀j,j<c→HB j=hpA j:=fun j hj=>by rw[←M,zw _ _ _ _ (by omega),←x,zw _ _ _ _ (by omega),←hHA,zw _ _ _ _ (by omega)]
 have bB:HB c=some ⟨34,13,false,[[str e.name,str e.qi,str e.flag,int e.cond.kind,str e.cond.attr,int e.cond.op,.sl 5 (e.cond.yY.map qE.V),str e.cond.pat,str e.cond.name,.sl 7 (e.cond.args.map wV.V),str e.qI,w,.own (c+1) 0 1]]⟩:=by rw[←M,jd]
 have pB:HB (c+1)=some ⟨54,2,true,[[int at_,.sl 2 (f.map zM)]]⟩:=by rw[←M,zw _ _ _ _ (by omega),←x,jd]
 have hB0:HB 0=some ⟨26,3,false,[[.sl 3 (b.zk.map wh.V),.sl 4 (b.holds.map yI.V),y]]⟩:=by rw[oB 0 (by omega),d7 0 (by omega)];exact k
 have hB2:HB 2=some ⟨26,3,false,[[z0,z1,z2]]⟩:=by rw[oB 2 (by omega),d7 2 (by omega)];exact J
 obtain⟨r,hpC,a,s1,s2,⟨q,rl,rh,rx,rfl,q1,q2,q3,q4,q5⟩,s4⟩:=od b y hy (by omega) HB (c+1+1);simp only[J5]at s1;have hrx:rx.wY=true:=by rcases q5 with⟨_,rfl⟩|⟨_,rfl,_⟩<;>rfl
 obtain⟨P,hHC⟩:∃h:Hp,qZ hpC a (some (⟨26,3,false,[[rl,rh,rx]]⟩:jz))=h:=⟨_,rfl⟩;have oC:∀j,j≠a→P j=hpC j:=fun j hj=>by rw[←hHC,zw _ _ _ _ hj]
 have bC:P a=some ⟨26,3,false,[[rl,rh,rx]]⟩:=by rw[←hHC,jd]
 have xC:P c=some ⟨34,13,false,[[str e.name,str e.qi,str e.flag,int e.cond.kind,str e.cond.attr,int e.cond.op,.sl 5 (e.cond.yY.map qE.V),str e.cond.pat,str e.cond.name,.sl 7 (e.cond.args.map wV.V),str e.qI,w,.own (c+1) 0 1]]⟩:=by rw[oC _ (by omega),s4 _ (by omega)];exact bB
 have pC:P (c+1)=some ⟨54,2,true,[[int at_,.sl 2 (f.map zM)]]⟩:=by rw[oC _ (by omega),s4 _ (by omega)];exact pB
 have rC:Q0 P 3 mid 101 3 w (e.jX.map xv):=d5.same (ze _) (ze _) fun j g1 g2=>by rw[oC _ (by omega),s4 _ (by omega),oB _ (by omega)]
 have xR:a6 P 3 (c+1+1) I ([str e.name,str e.qi,str e.flag]++e.cond.V++[str e.qI,w,.own (c+1) 0 1]):=by rw[←X];exact⟨mid,w,.own (c+1) 0 1,rfl,by omega,by omega,rC,.inr ⟨by simp[Xp.begun],c+1,by omega,by omega,rfl,pC⟩⟩
 obtain⟨hpD,f1,f2⟩:=xR.freeze;have zib:[str e.name,str e.qi,str e.flag]++e.cond.V++[str e.qI,w,.own (c+1) 0 1]=[str e.name,str e.qi,str e.flag,int e.cond.kind,str e.cond.attr,int e.cond.op,.sl 5 (e.cond.yY.map qE.V),str e.cond.pat,str e.cond.name,.sl 7 (e.cond.args.map wV.V),str e.qI,w,.own (c+1) 0 1]:=by rw[yU];rfl
 rw[zib]at f1;obtain⟨E,hE⟩:∃E,I.V=E:=⟨_,rfl⟩;have hEl:E.length=13:=by rw[←hE,zZ];rfl
 have hEc:E.all O.wY=true:=by rw[←hE,zZ];rfl
 rw[hE]at f1;obtain⟨HD,hHD⟩:∃h:Hp,qZ hpD (a+1) (some (⟨34,13,true,[E]⟩:jz))=h:=⟨_,rfl⟩;have bs2:zv prog P (a+1) 24 1 [(0,.agg [str e.name,str e.qi,str e.flag,int e.cond.kind,str e.cond.attr,int e.cond.op,.sl 5 (e.cond.yY.map qE.V),str e.cond.pat,str e.cond.name,.sl 7 (e.cond.args.map wV.V),str e.qI,w,.own (c+1) 0 1])]=some (.own (a+1) 0 1,HD,a+1+1):=by
  have hfv:qf P (.agg [str e.name,str e.qi,str e.flag,int e.cond.kind,str e.cond.attr,int e.cond.op,.sl 5 (e.cond.yY.map qE.V),str e.cond.pat,str e.cond.name,.sl 7 (e.cond.args.map wV.V),str e.qI,w,.own (c+1) 0 1])=some (.agg E,hpD):=by simp only[qf,f1]
  simp[-qf,-List.all_eq_true,zv,zy,hfv,zN,hEl,hEc,hHD]
 have oD:∀j,j≠a+1→(j<3∨c+1+1≤j)→HD j=P j:=fun j h1 u=>by rw[←hHD,zw _ _ _ _ h1,f2 j u]
 have vD:HD (a+1)=some ⟨34,13,true,[E]⟩:=by rw[←hHD,jd]
 obtain⟨HE,ap,e1,e2⟩:=zaJ (H:=HD) (N:=a+1) (lo:=q+2) (rx:=rx) (xs:=b.zE) (E:=E) (by
  rcases q5 with⟨g1,g2⟩|⟨g1,g2,g3⟩
  ·exact .inl ⟨g1,g2⟩
  ·exact .inr ⟨by omega,g2,by rw[oD _ (by omega) (by omega),oC _ (by omega)];exact g3⟩) vD (by omega)
 have bE:HE a=some ⟨26,3,false,[[rl,rh,rx]]⟩:=by rw[e2 a (by omega) (fun g=>by rcases q5 with⟨_,h⟩|⟨h,_⟩;exact h;omega),oD _ (by omega) (by omega)];exact bC
 obtain⟨HF,Q⟩:∃h:Hp,qZ HE a (some (⟨26,3,false,[[rl,rh,.own (a+1+1) 0 (b.zE.length+1)]]⟩:jz))=h:=⟨_,rfl⟩;have bF:HF a=some ⟨26,3,false,[[rl,rh,.own (a+1+1) 0 (b.zE.length+1)]]⟩:=by rw[←Q,jd]
 have xF:HF (a+1+1)=some ⟨34,13,true,(b.zE++[I]).map Xp.V⟩:=by rw[←Q,zw _ _ _ _ (by omega),e1,yz,qF,kp,hE]
 obtain⟨HG,so,g1,g2⟩:=Hf (l:=b.zE++[I]) (by simp;omega) (Y:=HF) (Z:=a+1+1+1) (v:=.own (a+1+1) 0 (b.zE.length+1)) (.inr ⟨a+1+1,by omega,by simp,xF⟩);have g2':∀j,j≠a+1+1→HG j=HF j:=fun j hj=>g2 j fun m e=>by injection e with e _ _;exact hj e.symm
 have bG:HG a=some ⟨26,3,false,[[rl,rh,.own (a+1+1) 0 (b.zE.length+1)]]⟩:=by rw[g2' _ (by omega)];exact bF
 have oG:∀j,(j<3∨c+1+1≤j)→j<a→(j=q+2→rx=.nil)→HG j=hpC j:=fun j h1 u G=>by rw[g2' _ (by omega),←Q,zw _ _ _ _ (by omega),e2 j (by omega) G,oD _ (by omega) h1,oC _ (by omega)]
 obtain⟨hpM,m1,m2⟩:=VE (Z:=a+1+1+1) (rl:=rl) (rh:=rh) (rx:=.own (a+1+1) 0 (b.zE.length+1)) (b:=⟨b.zk,b.holds,jR (b.zE++[I])⟩) (Y:=HG) (l:=q) (q3.same (ze _) (ze _) fun j h1 u=>oG j (by omega) (by omega) (by omega)) (q4.same (ze _) (ze _) fun j h1 u=>oG j (by omega) (by omega) (by omega)) (fun h hh=>by
  rcases g1 with⟨g,_⟩|⟨id,_,g,gb⟩
  ·cases g
  ·injection g with ge1 ge2 ge3;subst ge1;have hhx:=hh (a+1+1) (by omega);rw[gb]at hhx;refine⟨qZ h (a+1+1) none,?_,fun j hj=>zw _ _ _ _ (by omega)⟩;simp[Zq,we,hhx,ge3,qp]) rW
 have hM2:hpM 2=some ⟨26,3,false,[[z0,z1,z2]]⟩:=by rw[m2 2 (by omega),oG 2 (by omega) (by omega) (by omega),s4 2 (by omega)];exact hB2
 obtain⟨⟨B,fl⟩,hR⟩:∃r,yD ⟨b.zk,b.holds,jR (b.zE++[I])⟩=r:=⟨_,rfl⟩;have N4:yX (B,fl)=.yb [.agg [.sl 3 (B.zk.map wh.V),.sl 4 (B.holds.map yI.V),.sl 13 (B.zE.map Xp.V)],int fl]:=rfl;rw[hR,N4]at m1;rw[s,hR,N4];have hra:=d5.cell;have hrp:=d6.cell;simp only[t,kp]at d1 d;have k1:¬a=c:=by omega
 have k2:¬c=a:=by omega
 simp[-qf,zR,qc,u,G,R,S,T,k,d,J,i,o,p,t,C,D,K,c6,W,hsz,c7,d1,hra,hrp,hHA,hfi,bs1,bA,M,hB0,s1,q3.cell,q4.cell,hrx,hHC,bC,xC,bs2,ap,bE,Q,bF,so,bG,m1,hM2,k1,k2,Tryz.f4];exact⟨_,by simp,.refl _⟩
theorem Ej:zg prog 4 (zi false [] RC):=
 jD (fn:=Tryz.f4) RD ⟨_,func4,by kernel_rfl,rfl,by kernel_rfl⟩ false [] _ fun args r h w S vs f=>by obtain⟨⟨b,e,n,m⟩,rfl,g,rfl⟩:=zr h;obtain⟨u,us,rfl,i,d⟩:=f.jl;obtain⟨y,k,a⟩:=xk i (j:=2) (s:=13) (es:=b.zE.map Xp.V) (by simp[Bk.V]);have c:O.agg (b.V.set 2 y)=J5 b y:=rfl;rw[c]at a;obtain⟨l,o,p⟩:=Hr b e n m y k g;exact⟨_,l,.cons a d,zC (ze 4) (by decide),o,p⟩
theorem RE(p:wc)(n:Int)(Y:Hp)(Z id:Nat)(hid:id<Z)(a:Y id=some ⟨3,1,false,[[int n]]⟩) :
  wP C0 f83 [.agg p.V,.ref id 0 0] Y Z=some (wq (decide (n≤p.at_)),qZ Y Z (some ⟨54,2,false,[p.V]⟩),Z+1):=by
 unfold wP;rw[zf (by simp[f83])];refine kU rfl ?_;have b:¬id=Z:=by omega
 simp[wc.V,a,b,f83]
theorem Hs:zg prog 83 (wP C0 f83):=wZ (code:=_) w8 ⟨func83,by kernel_rfl,rfl,by kernel_rfl⟩
def KM(n:Int):Nat→List wc→Int
 |_,[]=>-1
 |k,p::l=>if decide (n≤p.at_)=true then k else KM n (k+1) l
theorem tC(n:Int):∀(l:List wc) (k:Nat),decide (0≤KM n k l)=xD n l
 |[],k=>by simp[KM,xD]
 |p::l,k=>by
  by_cases h:decide (n≤p.at_)=true
  ·have e:KM n k (p::l)=k:=by simp only[KM,zf h]
   rw[e,xD,yy,h];simp
  ·have e:KM n k (p::l)=KM n (k+1) l:=by simp only[KM,zj h]
   rw[e,tC n l (k+1),xD,xD,yy,eP.2 h];rfl
noncomputable abbrev Cpix:Ctx:=qb prog [(83,wP C0 f83)]
theorem zaK:AM.Good Cpix (fun g=>([]:List Nat).contains g):=zI mixed ⟨Hs,by simp,trivial⟩
theorem MX:zg prog 119 (wP Cpix f119):=wZ (code:=_) zaK ⟨func119,by kernel_rfl,rfl,by kernel_rfl⟩
def RF(id:Nat):O:=.fn (.func 83) [] [.ref id 0 0]
theorem zaL(l:List wc)(n:Int)(u:l.length≤zG)(Y0:Hp)(Z0 id:Nat)(hid:id<Z0)(v:Y0 id=some ⟨3,1,false,[[int n]]⟩) :
  ∃x Y' s,wP Cpix f119 [.sl 2 (l.map wc.V),RF id] Y0 Z0=some (x,Y',s)∧sP (int (KM n 0 l)) Y0 Z0 x Y' s:=by
 unfold wP;rw[zf (by simp[f119])];refine zT rfl ?_;unfold zG at u;simp[RF];refine zQ (fun k e Y Z=>e 0=.sl 2 (l.map wc.V)∧e 1=RF id∧e 7=int l.length∧e 8=int k∧Z0≤Z∧(∀j,j<Z0→Y j=Y0 j)∧KM n 0 l=KM n k (l.drop k)) l.length ⟨by simp,by simp[RF],by simp,by simp,ze _,fun _ _=>rfl,by simp⟩ ?_;rintro k e Y Z w ⟨g,h,i,m,o,b,c⟩;by_cases d:k<l.length
 ·have t:i6.wrap ((k:Int)+1)=(k:Int)+1:=zn (by omega) (by omega);obtain⟨p,q⟩:∃p,l[k]=p:=⟨_,rfl⟩;have a:=RE p n Y Z id (by omega) (by rw[b id hid];exact v);simp only[wc.V]at a;rw[zd d,q]at c;simp only[KM]at c;cases f:decide (n≤p.at_)
  ·rw[f,zj (by simp)]at c;rw[f]at a;simp[g,h,i,m,RF,d,q,wc.V,a,t];exact⟨d,by omega,fun j r=>by rw[zw _ _ _ _ (by omega)];exact b j r,c⟩
  ·rw[f,zf rfl]at c;rw[f]at a;simp[g,h,i,m,RF,d,q,wc.V,a,t,f119];exact⟨by rw[c],by omega,fun j r=>by rw[zw _ _ _ _ (by omega)];exact b j r⟩
 ·obtain rfl:k=l.length:=by omega
  rw[zl]at c;simp only[KM]at c;simp[g,h,i,m,f119];exact⟨by rw[c],o,b⟩
noncomputable abbrev RG:Ctx:=qb prog [(119,wP Cpix f119)]
theorem zaM:AM.Good RG (fun g=>([]:List Nat).contains g):=zI mixed ⟨MX,by simp,trivial⟩
theorem MY:zg prog 82 (wP RG f82):=wZ (code:=_) zaM ⟨func82,by kernel_rfl,rfl,by kernel_rfl⟩
theorem zaN(l:List wc)(n:Int)(c:l.length≤zG)(Y0:Hp)(Z0 id:Nat)(hid:id<Z0)(d:Y0 id=some ⟨3,1,false,[[int n]]⟩) :
  ∃x Y' a,wP RG f82 [.sl 2 (l.map wc.V),RF id] Y0 Z0=some (x,Y',a)∧sP (wq (xD n l)) Y0 Z0 x Y' a:=by
 unfold wP;rw[zf (by simp[f82])];refine zT rfl ?_;obtain⟨x,Y',a,b,e,f,g⟩:=zaL l n c Y0 Z0 id hid d;subst e;have h:=tC n l 0;simp only[RF]at b;simp[RF,b,h,sP,f,f82];exact g
noncomputable def YC (b:Bk) (s:za) (n:Int):Nat×List Sp×Int:=
 if jB b s n=0 then
  match b.zE[(vd (b.zE.map Xp.name) s).1]? with
  |none=>(0,[],5)
  |some x=>if(xD n x.zs||(jq [] n x.zs).isEmpty)=true then(0,[],11)else((vd (b.zE.map Xp.name) s).1,jq [] n x.zs,0)
 else(0,[],jB b s n)
def QL(r:Nat×List Sp×Int):O:=.yb [int r.1,.sl 2 (r.2.1.map zM),int r.2.2]
noncomputable def ZH (b:Bk) (s:za) (n:Int):O:=QL (YC b s n)
noncomputable abbrev Cchg:Ctx:=qb prog [(80,zi false [] (nT fun b s n=>.yb [int (JG b s n),int (jB b s n)])),(81,zi false [] (FXI (fun x n=>.sl 2 ((jq [] n x.zs).map zM)) fun x _=>x.zs.length≤zG)),(82,wP RG f82)]
theorem zaO:AM.Good Cchg (fun g=>([]:List Nat).contains g):=zI mixed ⟨Ro,by simp,G9,by simp,MY,by simp,trivial⟩
theorem cu(k:Int):qM (.yb [int 0,.nil,int k]) (QL (0,[],k)):=by have h:qM (.nil) (.sl 2 []):=Q8 (.s 2 []) _;exact vp.yb (.cons (.refl _) (.cons h (.cons (.refl _) .nil)))
theorem rq(b:Bk)(s:za)(n:Int)(M:b.cb≤zG):∃I,zz Cchg f42 [.agg b.V,str s,int n]=some I∧qM I (QL (YC b s n)):=by
 refine yv rfl ?_;have c:=fun Y Z=>Wk (fun b s n=>.yb [int (JG b s n),int (jB b s n)]) b s n Y Z M
 simp only[Bk.V]at c;by_cases l:jB b s n=0
 case neg=>
  have N:YC b s n=(0,[],jB b s n):=by unfold YC;rw[zj l]
  have y:(jB b s n != 0)=true:=by simpa using l
  rw[N];simp[Bk.V,c,y,f42];exact⟨_,by simp,cu _⟩
 obtain⟨X,P,k3⟩:=YA l;obtain⟨q,B⟩:∃q,(vd (b.zE.map Xp.name) s).1=q:=⟨_,rfl⟩;have Q:JG b s n=q:=by unfold JG;rw[zf l,B]
 have e:q<b.zE.length:=by have:=J2 P;rw[B]at this;simpa using this
 obtain⟨x,r⟩:∃x,b.zE[q]=x:=⟨_,rfl⟩;have o:b.zE[q]?=some x:=by rw[zu e,r]
 have C:x∈b.zE:=zO o;have R:=yg (f:=Xp.cb) C;have S:b.cb=wg wh.cb b.zk+wg yI.cb b.holds+wg Xp.cb b.zE:=rfl;have T:x.cb=x.name.length+x.qi.length+x.flag.length+x.cond.cb+x.qI.length+x.jX.length+wg wc.cb x.zs:=rfl;have J:=qJ vG x.zs;have d:=fun Y Z=>nU (fun x n=>.sl 2 ((jq [] n x.zs).map zM)) (fun x _=>x.zs.length≤zG) x n Y Z (by omega)
 obtain⟨A,K⟩:∃A,jq [] n x.zs=A:=⟨_,rfl⟩;simp only[K,zZ]at d;simp only[Q,l]at c;have D:∀(Y0:Hp) (Z0:Nat),1<Z0→Y0 1=some ⟨3,1,false,[[int n]]⟩→∃Y' t,wP RG f82 [.sl 2 (x.zs.map wc.V),RF 1] Y0 Z0=some (wq (xD n x.zs),Y',t):=fun Y0 Z0 p U=>by obtain⟨z,Y',t,W,rfl,_,_⟩:=zaN x.zs n (by omega) Y0 Z0 1 p U;exact⟨Y',t,W⟩
 have E:YC b s n=if(xD n x.zs||A.isEmpty)=true then(0,[],11)else(q,A,0):=by unfold YC;rw[zf l,B,o];simp only;rw[K]
 rw[E];refine QK (fun u Y Z=>u 1=str s∧u 3=.ref 0 0 0∧u 5=.ref 1 0 0∧Y 0=some ⟨26,3,false,[b.V]⟩∧Y 1=some ⟨3,1,false,[[int n]]⟩∧Z=2) (by simp[Bk.V]) ?_;rintro u Y Z ⟨p,F,G,i,j,rfl⟩;obtain⟨k,m⟩:∃h:Hp,qZ Y 2 (some (⟨34,13,false,[x.V]⟩:jz))=h:=⟨_,rfl⟩;have v:k 2=some ⟨34,13,false,[x.V]⟩:=by rw[←m,jd]
 have w:k 1=some ⟨3,1,false,[[int n]]⟩:=by rw[←m,zw _ _ _ _ (by omega)];exact j
 obtain⟨Y',t,g⟩:=D k 3 (by omega) w;rw[zZ]at m v;simp only[Bk.V]at i;simp only[RF]at g;cases L:xD n x.zs
 ·rw[L]at g;cases A with
  |nil=>simp only[kp]at d;simp[p,F,G,i,j,Bk.V,c,e,r,zZ,m,v,w,d,g,f42];exact⟨_,by simp,cu _⟩
  |cons a A=>simp only[qF]at d;have H:((A.length:Int)+1==0)=false:=q7.2 (by omega);simp[H,p,F,G,i,j,Bk.V,c,e,r,zZ,m,v,w,d,g,f42];exact⟨QL (q,a::A,0),by simp[QL],.refl _⟩
 ·rw[L]at g;simp[p,F,G,i,j,Bk.V,c,e,r,zZ,m,v,w,d,g,f42];exact⟨_,by simp,cu _⟩
theorem Y7:zg prog 42 (zi false [] (nT ZH)):=
 jD (fn:=f42) zaO ⟨_,func42,by kernel_rfl,rfl,by kernel_rfl⟩ false [] _ fun args r h w S vs a=>by obtain⟨⟨b,s,n⟩,rfl,c,rfl⟩:=zr h;obtain⟨d,e,f⟩:=rq b s n c;exact⟨_,d,a,zC (ze 3) (by decide),e,f⟩
end Go.Q
