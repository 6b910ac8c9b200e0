/- Lemmas. -/
import Derived.Test.YtfanbcfchamfjaaGreatDoorG12
set_option maxRecDepth 8000
set_option maxHeartbeats 4000000
open Go Proofs Proofs.YtfanbcfchamfjaaGreatDoor Proofs.Tryz RowKit AM SpanLaw Q Zz
open Go.IntKind renaming i64→i6
namespace Go.Q
theorem Br{Y:Hp}{Z:Nat}{v:O}{l:List Cnd}(f:qR Y Z 54 7 v (l.map Cnd.V))(x:Cnd)(g:l.length<100000000000):∃Y2,jG prog (zI Y Z (some ⟨54,7,true,[x.V]⟩)) (Z+1) 52 52 v (.own Z 0 1)=some (.own (Z+1) 0 (l.length+1),Y2,Z+2)/\qR Y2 (Z+2) 54 7 (.own (Z+1) 0 (l.length+1)) ((l++[x]).map Cnd.V)/\∀j,j<Z->(∀n,v≠.own j 0 n)->Y2 j=Y j:=by
 have a:=f.jc (P:=prog) (t:=52) (c:=x.V) el52 sz54 by54 ze54 (by simp) (by omega) (by simp[maxLen];omega) (by simp;omega);have b:=qR.after (Y:=Y) (Z:=Z) (e:=54) (s:=7) (v:=v) (xs:=l.map Cnd.V) (c:=x.V) (tmp:=some ⟨54,7,true,[x.V]⟩);rw[wx]at a;refine⟨_,a,?_,fun j h d=>?_⟩
 ·rw[yZ];simpa using b
 ·rw[zT _ _ _ _ (by omega),qK f _ j d,zT _ _ _ _ (by omega)]
theorem pE{cs:zb}{Y:Hp}{Z:Nat}{v:O}{l:List Cnd}(b:qR Y Z 54 7 v (l.map Cnd.V))(a:Y 0=some (qe TP cs))(Z':Nat):AY TP cs (.sl 7 (l.map Cnd.V)) v Y Z':=by
 have c:=wX b a rfl;rcases b with⟨rfl,d⟩|⟨id,hid,rfl,f⟩
 ·have:l=[]:=by simpa using d
  subst this;exact wc rfl a (.nz 7) rfl
 ·have g:AM.freeze Y (.own id 0 (l.map Cnd.V).length)=some (.sl 7 (l.map Cnd.V),zI Y id none):=by simp[AM.freeze,z7,qn,f];exact qy (by simp)
  exact wc g (by rw[zc _ _ _ _ (fun e=>c _ (by rw[<-e]))];exact a) .id rfl
def PreC(k:Nat)(st:Pst):Prop:=102<=st.d+k/\(st.d<=100\/st.e≠0/\st.d<=101)
def Ul(k:Nat)(st:Pst):Prop:=st.e=0/\st.d<=100/\102<=st.d+k+1
noncomputable abbrev cp (s:za) (k:Nat) (st:Pst):Cnd×Pst:=dH s zN xa k st
noncomputable def O0 (k:Nat):AM.Spec:=mP aU (fun _ st _=>PreC k st) (fun s st _=>(cp s k st).2) (fun s st _=>.agg (cp s k st).1.V)
theorem cq{k:Nat}{s:za}{st:Pst}{Y:Hp}{id Z:Nat}(a:Y id=some (wR s st))(hs:s.length<=20000)(Y':st.p<=s.length)(b:PreC k st):O0 k [.ref id 0 0] Y Z=some (.agg (cp s k st).1.V,zI Y id (some (wR s (cp s k st).2)),Z):=xS v8 (fun _=>rfl) () a hs Y' b
noncomputable def arS (k:Nat):AM.Spec:=mP aU (fun _ st _=>Ul k st) (fun s st _=>(lV s (cp s k) st).2) (fun s st _=>.sl 7 ((lV s (cp s k) st).1.map Cnd.V))
theorem Bs{k:Nat}{s:za}{st:Pst}{Y:Hp}{id Z:Nat}(a:Y id=some (wR s st))(hs:s.length<=20000)(Y':st.p<=s.length)(b:Ul k st):arS k [.ref id 0 0] Y Z=some (.sl 7 ((lV s (cp s k) st).1.map Cnd.V),zI Y id (some (wR s (lV s (cp s k) st).2)),Z):=xS v8 (fun _=>rfl) () a hs Y' b
noncomputable def siS (k:Nat):AM.Spec:=mP aU (fun _ st _=>Ul k st) (fun s st _=>(tv s (cp s k) st).2) (fun s st _=>.sl 7 ((tv s (cp s k) st).1.map Cnd.V))
theorem O1{k:Nat}{s:za}{st:Pst}{Y:Hp}{id Z:Nat}(a:Y id=some (wR s st))(hs:s.length<=20000)(Y':st.p<=s.length)(b:Ul k st):siS k [.ref id 0 0] Y Z=some (.sl 7 ((tv s (cp s k) st).1.map Cnd.V),zI Y id (some (wR s (tv s (cp s k) st).2)),Z):=xS v8 (fun _=>rfl) () a hs Y' b
noncomputable abbrev Carp (k:Nat):Ctx:=qf prog [(200,sJ),(182,mq),(180,Ot),(176,A8),(147,O0 k)]
theorem FR{k:Nat}(h:zh prog 147 (O0 k)):Gd (Carp k):=qD mixed ⟨Jr,Vu,dM,V8,h,trivial⟩
set_option maxHeartbeats 8000000 in
theorem Ir{k:Nat}(h:zh prog 147 (O0 k)):zh prog 178 (siS k):=
 j9 (C:=Carp k) func178 (by kernel_rfl) rfl TP _ fun cs az cs' r hF=>by
  obtain⟨s,st,⟨⟩,rfl,rfl,hs,Y,⟨v,hd0,hk0⟩,rfl,rfl⟩:=kU hF;refine⟨by simp[aU,f178],?_⟩;clear hF;have A:=FR h;have x:=sO (s:=s) Y;have i:=vq (s:=s) Y;obtain⟨w,hw⟩:=yb (KH s st);obtain⟨m,y⟩:=yb (kK s st);obtain⟨o,f⟩:=yb (if w=[40]/\100<=st.d then m.fail 0 2 else m);have q:AJ s st=(Xi s o [40]).dn:=by rw[<-f,<-y,<-hw];simp only[AJ,zl v]
  have G:o.p<=s.length/\o.d=st.d:=by
   rw[<-f,<-y];split
   ·rw[(YI _ _ _).1,(YI _ _ _).2];exact⟨i.2.1,i.2.2.2.2⟩
   ·exact⟨i.2.1,i.2.2.2.2⟩
  rw[y]at i;have R:=ZI (s:=s) [40] G.1;refine Wp.cut A (fun σ Y Z=>σ 0=.ref 0 0 0/\Y 0=some (wR s st)/\Z=1) (by simp[aU,wF]) ?_;rintro σ Y1 _ ⟨b,a,rfl⟩;have t:=a;simp only[qe,zX,ze,zf,zu,Nat.reduceAdd]at t;refine Wp.cut A (fun σ' Y Z=>σ' 0=.ref 0 0 0/\Y 0=some (wR s o)/\Z=1) ?_ ?_
  ·have H:=Yf (Z:=1) a hs Y;rw[hw,y]at H;have gf:=Ki (Y:=zI Y1 0 (some (wR s m))) (id:=0) (Z:=1) 0 2 (by simp) hs i.2.1;have hda:m.d=st.d:=i.2.2.2.2;simp only[qe,zX,ze,zf,zu,Nat.reduceAdd,yx,qO]at H gf;by_cases u:w=[40]
   ·by_cases hd:100<=st.d
    ·rw[zl ⟨u,hd⟩]at f;have B:(100:Int)<=m.d:=by omega
     simp[b,t,v,H,u,B,gf,<-f,qe,zX]
    ·rw[zj (fun h=>hd h.2)]at f;have B:¬(100:Int)<=m.d:=by omega
     simp[b,t,v,H,u,B,<-f,qe,zX]
   ·rw[zj (fun h=>u h.1)]at f;have I:=QA u;simp[b,t,v,H,I,<-f,qe,zX]
  clear b a t σ Y1;rintro σ Y1 _ ⟨b,a,rfl⟩;have D:=Js (Z:=1) [40] a hs G.1;obtain⟨J,S⟩:=yb (Xi s o [40]);rw[S]at D R q;refine Wp.cut A (fun σ' Y Z=>σ' 0=.ref 0 0 0/\Y 0=some (wR s J)/\Z=1) (by simp[b,D]) ?_;clear b a D σ Y1;rintro σ Y1 _ ⟨b,a,rfl⟩;obtain⟨j,K⟩:=yb (AJ s st);rw[K]at x q;have T:=wN ((J.d:Int)+1);refine Wp.cut A (fun σ' Y Z=>σ' 0=.ref 0 0 0/\Y 0=some (wR s j)/\Z=1) ?_ ?_
  ·simp only[qe,zX,ze,zf,zu,Nat.reduceAdd]at a⊢;simp[b,a,T,q,Pst.dn]
  clear b a σ Y1;rintro σ Y1 _ ⟨b,a,rfl⟩;have L:=cq (k:=k) (Z:=1) a hs x.1 (by
   refine⟨by omega,?_⟩;by_cases he:j.e=0
   ·have:=x.2.2 he;exact .inl (by omega)
   ·exact .inr ⟨he,by omega⟩)
  have M:=mG k j x.1;simp only[tv];rw[K];obtain⟨c,g,E⟩:∃c g,cp s k j=(c,g):=⟨_,_,rfl⟩;have N:g.p<=s.length:=by have:=M.1;rw[show dH s zN xa k j=(c,g)from E]at this;exact this
  have hdE:g.d=j.d:=by have:=M.2.1;rw[show dH s zN xa k j=(c,g)from E]at this;exact this
  rw[E]at L⊢;simp only at L⊢;obtain⟨l,U⟩:∃l:List Cnd,l=[c]:=⟨_,rfl⟩;rw[<-U];refine Wp.cut A (fun σ' Y Z=>σ' 0=.ref 0 0 0/\qR Y Z 54 7 (σ' 3) (l.map Cnd.V)/\Y 0=some (wR s g)) ?_ ?_
  ·simp only[qH]at L;simp[b,L,zy,zR,zw,zc];exact .inr ⟨1,by simp,by simp[U],by simp[U,qH]⟩
  clear b a L σ Y1;rintro z Y2 W ⟨b,F,a⟩;have D:=Js (Z:=W) [41] a hs N;have X:=ZI (s:=s) [41] N;obtain⟨n,hsg⟩:=yb (Xi s g [41]);rw[hsg]at D X⊢;have P:=wX F a rfl;refine Wp.cut A (fun σ' Y Z=>σ' 0=.ref 0 0 0/\σ' 3=z 3/\qR Y Z 54 7 (z 3) (l.map Cnd.V)/\Y 0=some (wR s n)) (by simp[b,D];simpa using F.put P (some (wR s n))) ?_;clear b a D;rintro σ Y1 Z ⟨b,Q,F,a⟩;have hw2:i6.wrap ((n.d:Int)-1)=((n.d-1:Nat):Int):=by rw[wM (by omega) (by omega)];omega
  refine Wp.cut A (fun σ' Y Z=>σ' 3=z 3/\qR Y Z 54 7 (z 3) (l.map Cnd.V)/\Y 0=some (wR s n.up)) ?_ ?_
  ·have O2:=F.put P (some (wR s n.up));simp only[qe,zX,Pst.up,ze,zf,zu,Nat.reduceAdd]at a O2⊢;simp[b,Q,a,hw2];simpa using O2
  clear b Q F a;rintro σ Y1 Z ⟨Q,F,a⟩;refine Wp.of A ?_;simp[Q,f178];exact pE F a _
def ArI(s:za)(k D:Nat)(r:List Cnd×Pst)(n:Nat)(st:St):Prop:=st.σ 0=.ref 0 0 0/\0<st.Z/\∃l a j,qR st.Y st.Z 54 7 (st.σ 3) (l.map Cnd.V)/\st.Y 0=some (wR s a)/\a.p<=s.length/\a.d=D/\Ws s a=n/\n<=j/\l.length+n<=s.length+2/\Cj s (cp s k) j l a=r
def ArE(s:za)(D:Nat)(r:List Cnd×Pst)(st:St):Prop:=st.σ 0=.ref 0 0 0/\0<st.Z/\∃l a,qR st.Y st.Z 54 7 (st.σ 3) (l.map Cnd.V)/\st.Y 0=some (wR s a)/\a.p<=s.length/\a.d=D/\(l,a)=r
set_option maxHeartbeats 8000000 in
theorem Is{k:Nat}(h:zh prog 147 (O0 k)):zh prog 177 (arS k):=
 j9 (C:=Carp k) func177 (by kernel_rfl) rfl TP _ fun cs az cs' r hF=>by
  obtain⟨s,st,⟨⟩,rfl,rfl,hs,Y,⟨U,hd0,hk0⟩,rfl,rfl⟩:=kU hF;refine⟨by simp[aU,f177],?_⟩;clear hF;have B:=FR h;have z:=sO (s:=s) Y;have A:=vq (s:=s) Y;obtain⟨w,hw⟩:=yb (KH s st);obtain⟨D,W⟩:=yb (kK s st);obtain⟨L,q⟩:=yb (if w=[40]/\100<=st.d then D.fail 0 2 else D);have M:AJ s st=(Xi s L [40]).dn:=by rw[<-q,<-W,<-hw];simp only[AJ,zl U]
  have hbp:L.p<=s.length/\L.d=st.d:=by
   rw[<-q,<-W];split
   ·rw[(YI _ _ _).1,(YI _ _ _).2];exact⟨A.2.1,A.2.2.2.2⟩
   ·exact⟨A.2.1,A.2.2.2.2⟩
  rw[W]at A;have hmu:=ZI (s:=s) [40] hbp.1;refine Wp.cut B (fun σ Y Z=>σ 0=.ref 0 0 0/\Y 0=some (wR s st)/\Z=1) (by simp[aU,wF]) ?_;rintro σ Y1 _ ⟨a,f,rfl⟩;have i:=f;simp only[qe,zX,ze,zf,zu,Nat.reduceAdd]at i;refine Wp.cut B (fun σ' Y Z=>σ' 0=.ref 0 0 0/\Y 0=some (wR s L)/\Z=1) ?_ ?_
  ·have N:=Yf (Z:=1) f hs Y;rw[hw,W]at N;have gf:=Ki (Y:=zI Y1 0 (some (wR s D))) (id:=0) (Z:=1) 0 2 (by simp) hs A.2.1;have hda:D.d=st.d:=A.2.2.2.2;simp only[qe,zX,ze,zf,zu,Nat.reduceAdd,yx,qO]at N gf;by_cases o:w=[40]
   ·by_cases hd:100<=st.d
    ·rw[zl ⟨o,hd⟩]at q;have hd':(100:Int)<=D.d:=by omega
     simp[a,i,U,N,o,hd',gf,<-q,qe,zX]
    ·rw[zj (fun h=>hd h.2)]at q;have hd':¬(100:Int)<=D.d:=by omega
     simp[a,i,U,N,o,hd',<-q,qe,zX]
   ·rw[zj (fun h=>o h.1)]at q;have P:=QA o;simp[a,i,U,N,P,<-q,qe,zX]
  clear a f i σ Y1;rintro σ Y1 _ ⟨a,f,rfl⟩;have gm:=Js (Z:=1) [40] f hs hbp.1;obtain⟨stc,hsc⟩:=yb (Xi s L [40]);rw[hsc]at gm hmu M;refine Wp.cut B (fun σ' Y Z=>σ' 0=.ref 0 0 0/\Y 0=some (wR s stc)/\Z=1) (by simp[a,gm]) ?_;clear a f gm σ Y1;rintro σ Y1 _ ⟨a,f,rfl⟩;obtain⟨g,hs1⟩:=yb (AJ s st);rw[hs1]at z M;have hw1:=wN ((stc.d:Int)+1);refine Wp.cut B (fun σ' Y Z=>σ' 0=.ref 0 0 0/\Y 0=some (wR s g)/\Z=1) ?_ ?_
  ·simp only[qe,zX,ze,zf,zu,Nat.reduceAdd]at f⊢;simp[a,f,hw1,M,Pst.dn]
  clear a f σ Y1;rintro σ Y1 _ ⟨a,f,rfl⟩;obtain⟨r,m⟩:∃r:List Cnd×Pst,(if g.e=0 then(if KH s g=[41]then([],kK s g)else Cj s (cp s k) (s.length+1) [(cp s k (kK s g)).1] (cp s k (kK s g)).2)else([],g))=r:=⟨_,rfl⟩;have hres:lV s (cp s k) st=(r.1,(Xi s r.2 [41]).up):=by rw[<-m,<-hs1];rfl
  rw[hres];simp only;refine Wp.cut B (fun σ' Y Z=>σ' 0=.ref 0 0 0/\σ' 3=.nil/\Y 0=some (wR s g)/\Z=1) (by simp[a,f]) ?_;clear a f σ Y1;rintro σ Y1 _ ⟨a,J,f,rfl⟩;refine Wp.seq (Wp.mono (K:=fun e st'=>e=.normal/\ArE s (st.d+1) r st') ?_ ?_)
  ·have i:=f;simp only[qe,zX,ze,zf,zu,Nat.reduceAdd]at i;by_cases he:g.e=0
   case neg=>rw[zj he]at m;refine Wp.of B ?_;simp[a,i,he,ZR he];exact⟨by simp[a],by simp,[],g,by simp[J];exact .inl ⟨rfl,rfl⟩,f,z.1,z.2.1,m⟩
   rw[zl he]at m;have t:=vq (s:=s) z.1;have N:=Yf (Z:=1) f hs z.1;obtain⟨Q,hsd⟩:=yb (kK s g);rw[hsd]at N t m;by_cases o:KH s g=[41]
   ·rw[zl o]at m;rw[o]at N;refine Wp.of B ?_;simp[a,i,he,N];exact⟨by simp[a],by simp,[],Q,by simp[J];exact .inl ⟨rfl,rfl⟩,by simp,t.2.1,t.2.2.2.2.trans z.2.1,m⟩
   rw[zj o]at m;have P:=QA o;have hb3:=z.2.2 he;refine Wp.cut B (fun σ' Y Z=>σ' 0=.ref 0 0 0/\σ' 3=.nil/\σ' 41=q6 true/\Y 0=some (wR s Q)/\Z=1) (by simp[a,J,i,he,N,P]) ?_;clear a J f i N σ Y1;rintro σ Y1 _ ⟨a,J,h41,f,rfl⟩;refine Wp.cond (b:=true) (by simp[AM.get,h41]) ?_;simp only[qh];have gc:=cq (k:=k) (Z:=1) f hs t.2.1 ⟨by omega,.inl (by omega)⟩;have R:=mG k Q t.2.1;obtain⟨c,u,hcc⟩:∃c u,cp s k Q=(c,u):=⟨_,_,rfl⟩;rw[show dH s zN xa k Q=(c,u)from hcc]at R;rw[hcc]at gc m;simp only at gc m;obtain⟨E,X,S⟩:=R;simp only at E X S;obtain⟨Y2,a1,O2,f2⟩:=Br (l:=[]) (Z:=1) (.inl ⟨rfl,rfl⟩:qR (zI Y1 0 (some (wR s u))) 1 54 7 .nil (([]:List Cnd).map Cnd.V)) c (by simp);have b2:Y2 0=some (wR s u):=by rw[f2 0 (by omega) (fun n e=>by cases e)];simp
   have hlp:=cn s u;refine Wp.cut B (fun σ' Y Z=>ArI s k (st.d+1) r (Ws s u) ⟨σ',Y,Z⟩) ?_ ?_
   ·simp only[qH]at a1 gc;simp at a1;simp[a,J,gc,a1,zy,zR,zw];exact⟨by simp[a],by simp,[c],u,s.length+1,by simpa using O2,b2,E,by omega,rfl,hlp.2,by simp;omega,m⟩
   clear a J h41 f gc a1 O2 f2 b2 σ Y1 Y2;rintro σ Y1 Z hI;refine Wp.block (Wp.loop (ArI s k (st.d+1) r) _ hI ?_);clear hI m hcc E X S hlp σ Y1 Z;rintro n ⟨σ,Y1,Z⟩ ⟨a,T,l,st4,j,F,f,hpl,hd4,hn,hnj,hln,m⟩;simp only at a T F f;have hlp:=cn s st4;have G:=wX F f rfl;obtain⟨j,rfl⟩:∃j',j=j'+1:=⟨j-1,by omega⟩;rw[Cj]at m;have g1:=Zp (Z:=Z) [44] f hs hpl;have H:=kN (s:=s) [44] hpl;obtain⟨b1,v,ht⟩:∃b1 v,vG s st4 [44]=(b1,v):=⟨_,_,rfl⟩;rw[ht]at g1 m H;simp only at g1 m H;cases b1
   ·simp only[zv,qz]at m;refine Wp.of B ?_;simp[a,g1];exact⟨by simp[a],T,l,v,by simpa using F.put G (some (wR s v)),by simp,H.2.1,by omega,m⟩
   ·simp only[qh]at m;have ht5:=H.2.2.2.2 rfl;simp only[ze,zf]at ht5;have g2:=cq (k:=k) (Y:=zI Y1 0 (some (wR s v))) (id:=0) (Z:=Z) (by simp) hs H.2.1 ⟨by omega,.inl (by omega)⟩;have R:=mG k v H.2.1;obtain⟨x,y,hx⟩:∃x y,cp s k v=(x,y):=⟨_,_,rfl⟩;rw[show dH s zN xa k v=(x,y)from hx]at R;rw[hx]at g2 m;simp only at g2 m;obtain⟨E,X,S⟩:=R;simp only at E X S;rw[yx]at g2;obtain⟨Y2,a1,O2,f2⟩:=Br (F.put G (some (wR s y))) x (by omega);have b2:Y2 0=some (wR s y):=by rw[f2 0 T G];simp
    have hlt:Ws s y<n:=by
     rw[<-hn,mF ht5.1];unfold Ws;split
     ·rename_i he6;have:=S he6;omega
     ·omega
    simp only[qH]at a1 g2;refine Wp.of B ?_;simp[a,g1,g2,a1,zy,zR,zw];exact⟨Ws s y,hlt,by simp[a],by simp only;omega,l++[x],y,j,by simpa using O2,b2,E,by omega,rfl,by omega,by simp;omega,m⟩
  ·rintro e ⟨σ2,Y2,Xm⟩ ⟨rfl,a,T,l,stF,F,f,hpE,hdE,rfl⟩;simp only at a T F f;simp only[w5];have gm:=Js (Z:=Xm) [41] f hs hpE;have hmE:=ZI (s:=s) [41] hpE;obtain⟨I,hsg⟩:=yb (Xi s stF [41]);rw[hsg]at gm hmE⊢;have G:=wX F f rfl;refine Wp.cut B (fun σ' Y Z=>σ' 0=.ref 0 0 0/\σ' 3=σ2 3/\qR Y Z 54 7 (σ2 3) (l.map Cnd.V)/\Y 0=some (wR s I)) (by simp[a,gm];simpa using F.put G (some (wR s I))) ?_;clear a f gm;rintro σ Y1 Z ⟨a,J,F,f⟩;have hw2:i6.wrap ((I.d:Int)-1)=((I.d-1:Nat):Int):=by rw[wM (by omega) (by omega)];omega
   refine Wp.cut B (fun σ' Y Z=>σ' 3=σ2 3/\qR Y Z 54 7 (σ2 3) (l.map Cnd.V)/\Y 0=some (wR s I.up)) ?_ ?_
   ·have O2:=F.put G (some (wR s I.up));simp only[qe,zX,Pst.up,ze,zf,zu,Nat.reduceAdd]at f O2⊢;simp[a,J,f,hw2];simpa using O2
   clear a J F f;rintro σ Y1 Z ⟨J,F,f⟩;refine Wp.of B ?_;simp[J,f177];exact pE F f _
noncomputable abbrev Ccoq (k:Nat):Ctx:=qf prog [(176,A8),(177,arS k),(178,siS k),(179,TU),(180,Ot),(181,tePS),(149,A7)]
theorem Um{k:Nat}(h:zh prog 147 (O0 k)):Gd (Ccoq k):=qD mixed ⟨V8,Is h,Ir h,px,dM,Ip,WO,trivial⟩
theorem tk_e{s:za}{st a:Pst}{w:za}{b:Bool}(h:vG s st w=(b,a))(c:b=true)(Y:st.p<=s.length):st.e=0:=by have:=(kN (s:=s) w Y).2.2.2.2;rw[h]at this;exact(this c).1
set_option maxHeartbeats 8000000 in
theorem O5{k:Nat}(h:zh prog 147 (O0 k)):zh prog 147 (O0 (k+1)):=
 j9 (C:=Ccoq k) func147 (by kernel_rfl) rfl TP _ fun cs az cs' r W=>by
  obtain⟨s,st,⟨⟩,rfl,rfl,hs,Y,⟨hk1,q⟩,rfl,rfl⟩:=kU W;refine⟨by simp[aU,f147],?_⟩;clear W;have X:=Um h;have c:=kN (s:=s) (st:=st) [97,108,108] Y;obtain⟨G,g,H⟩:∃G g,vG s st [97,108,108]=(G,g):=⟨_,_,rfl⟩;rw[H]at c;simp only at c;have d:=kN (s:=s) (st:=g) [97,110,121] c.2.1;obtain⟨I,i,J⟩:∃I i,vG s g [97,110,121]=(I,i):=⟨_,_,rfl⟩;rw[J]at d;simp only at d;have t:=kN (s:=s) (st:=i) [110,111,116] d.2.1;obtain⟨K,j,L⟩:∃K j,vG s i [110,111,116]=(K,j):=⟨_,_,rfl⟩;rw[L]at t;simp only at t;have B:=kN (s:=s) (st:=j) [105,110] t.2.1;obtain⟨M,n,S⟩:∃M n,vG s j [105,110]=(M,n):=⟨_,_,rfl⟩;rw[S]at B;simp only at B;have y:=kN (s:=s) (st:=n) [104,97,115] B.2.1;obtain⟨N,l,T⟩:∃N l,vG s n [104,97,115]=(N,l):=⟨_,_,rfl⟩;rw[T]at y;simp only at y;have P:=kN (s:=s) (st:=l) [46] y.2.1;obtain⟨Q,z,U⟩:∃Q z,vG s l [46]=(Q,z):=⟨_,_,rfl⟩;rw[U]at P;simp only at P;have D:cp s (k+1) st=if G=true then(.mk 1 [] 0 [] [] [] (lV s (cp s k) g).1,(lV s (cp s k) g).2)else if I=true then(.mk 2 [] 0 [] [] [] (lV s (cp s k) i).1,(lV s (cp s k) i).2)else if K=true then(.mk 3 [] 0 [] [] [] (tv s (cp s k) j).1,(tv s (cp s k) j).2)else if M=true then(.mk 5 [] 0 [] [] (fx s n).1 [],(fx s n).2)else if N=true then(.mk 4 (fx s (Xi s l [46])).1 1 [] [] [] [],(fx s (Xi s l [46])).2)else if Q=true then tt s zN xa z else(zC,sy s z):=by simp only[cp,dH,H,J,L,S,T,U]
  rw[D];clear D;refine Wp.cut X (fun σ Y Z=>σ 0=.ref 0 0 0/\σ 2=.ref 1 0 0/\Y 0=some (wR s st)/\Y 1=some (Yh ZJ)/\Z=2) (by simp[aU,wF,qe,zX,ZJ,zc]) ?_;rintro σ Y1 _ ⟨u,v,hb,o,rfl⟩;simp only[ZJ]at o;have m:=Zp (Z:=2) [97,108,108] hb hs Y;rw[H]at m;have p:=Zp (Y:=zI Y1 0 (some (wR s g))) (id:=0) (Z:=2) [97,110,121] (by simp) hs c.2.1;rw[J,yx]at p;have w:=Zp (Y:=zI Y1 0 (some (wR s i))) (id:=0) (Z:=2) [110,111,116] (by simp) hs d.2.1;rw[L,yx]at w;have A:=Zp (Y:=zI Y1 0 (some (wR s j))) (id:=0) (Z:=2) [105,110] (by simp) hs t.2.1;rw[S,yx]at A;have E:=Zp (Y:=zI Y1 0 (some (wR s n))) (id:=0) (Z:=2) [104,97,115] (by simp) hs B.2.1;rw[T,yx]at E;have R:=Zp (Y:=zI Y1 0 (some (wR s l))) (id:=0) (Z:=2) [46] (by simp) hs y.2.1;rw[U,yx]at R;simp only[qe,zX,ze,zf,zu,Nat.reduceAdd]at m p w A E R;have b:∀x:Pst,zI Y1 0 (some (wR s x)) 0=some (wR s x):=fun x=>by simp
  refine Wp.of X ?_;cases G
  case true=>
   simp only[qh];have F:st.e=0:=tk_e H rfl Y;have f:g.e=0:=by have x1:=c.2.2.1;omega
   have a:=Bs (k:=k) (Z:=2) (b g) hs c.2.1 (by
    have d1:=c.2.2.2.1;refine⟨f,?_,?_⟩
    ·rcases q with h|h
     ·omega
     ·exact absurd F h.1
    ·omega)
   simp only[qe,zX,ze,zf,zu,Nat.reduceAdd,yx]at a;simp[m,a,u,v,o,zc,qi,qJ,f147];exact wc rfl (by simp[zc,qe,zX]) YJ (by simp[qH];rfl)
  simp only[zv,qz];cases I
  case true=>
   simp only[qh];have F:st.e=0:=(c.2.2.1).symm.trans (tk_e J rfl c.2.1);have f:i.e=0:=by have x1:=c.2.2.1;have x2:=d.2.2.1;omega
   have a:=Bs (k:=k) (Z:=2) (b i) hs d.2.1 (by
    have d1:=c.2.2.2.1;have d2:=d.2.2.2.1;refine⟨f,?_,?_⟩
    ·rcases q with h|h
     ·omega
     ·exact absurd F h.1
    ·omega)
   simp only[qe,zX,ze,zf,zu,Nat.reduceAdd,yx]at a;simp[m,p,a,u,v,o,zc,qi,qJ,f147];exact wc rfl (by simp[zc,qe,zX]) YJ (by simp[qH];rfl)
  simp only[zv,qz];cases K
  case true=>
   simp only[qh];have F:st.e=0:=(c.2.2.1).symm.trans ((d.2.2.1).symm.trans (tk_e L rfl d.2.1));have f:j.e=0:=by have x1:=c.2.2.1;have x2:=d.2.2.1;have x3:=t.2.2.1;omega
   have a:=O1 (k:=k) (Z:=2) (b j) hs t.2.1 (by
    have d1:=c.2.2.2.1;have d2:=d.2.2.2.1;have d3:=t.2.2.2.1;refine⟨f,?_,?_⟩
    ·rcases q with h|h
     ·omega
     ·exact absurd F h.1
    ·omega)
   simp only[qe,zX,ze,zf,zu,Nat.reduceAdd,yx]at a;simp[m,p,w,a,u,v,o,zc,qi,qJ,f147];exact wc rfl (by simp[zc,qe,zX]) YJ (by simp[qH];rfl)
  simp only[zv,qz];cases M
  case true=>simp only[qh];have a:=mu (Z:=2) (b n) hs B.2.1;simp only[qe,zX,ze,zf,zu,Nat.reduceAdd,yx]at a;simp[m,p,w,A,a,u,v,o,zc,qi,qJ,f147];exact wc rfl (by simp[zc,qe,zX]) YJ (by simp[qH];rfl)
  simp only[zv,qz];cases N
  case true=>simp only[qh];have hm:=ZI (s:=s) [46] y.2.1;have gm:=Js (Z:=2) [46] (b l) hs y.2.1;have a:=mu (Z:=2) (b (Xi s l [46])) hs hm.2.1;simp only[qe,zX,ze,zf,zu,Nat.reduceAdd,yx]at gm a;simp[m,p,w,A,E,gm,a,u,v,o,zc,qi,qJ,f147];exact wc rfl (by simp[zc,qe,zX]) YJ (by simp[qH];rfl)
  simp only[zv,qz];cases Q
  case true=>simp only[qh];have a:=OU (Z:=2) (b z) hs P.2.1;simp only[qe,zX,ze,zf,zu,Nat.reduceAdd,yx]at a;simp only[qH]at a⊢;simp[m,p,w,A,E,R,a,u,v,o,zc,qi,qJ,f147];exact wc rfl (by simp[zc,qe,zX]) .id rfl
  simp only[zv,qz];have a:=Yg (Z:=2) (b z) hs P.2.1;simp only[qe,zX,ze,zf,zu,Nat.reduceAdd,yx]at a;simp[m,p,w,A,E,R,a,u,v,o,zc,qi,qJ,f147];exact wc rfl (by simp[zc,qe,zX]) YJ (by simp[qH];rfl)
theorem O6:zh prog 147 (O0 0):=
 j9 (C:=Ccoq 0) func147 (by kernel_rfl) rfl TP _ fun cs az cs' r a=>by obtain⟨s,st,⟨⟩,rfl,rfl,hs,Y,⟨b,c⟩,rfl,rfl⟩:=kU a;omega
theorem pF:∀k,zh prog 147 (O0 k)
 | 0=>O6
 |k+1=>O5 (pF k)
abbrev uP3:O->O:=TF [uC]
theorem Er:aO uP3:=.qZ fun u a=>by simp only[zx,wu,or_false]at a;subst a;exact YJ
noncomputable def O7 (s:za):O:=.qZ [.agg (av zN xa s).1.V,int (av zN xa s).2.1,int (av zN xa s).2.2]
noncomputable def FPar:zb->Option O:=qt (α:=za) (fun s=>[str s]) (fun s=>s.length<=zD) O7
noncomputable abbrev Un:AM.Spec:=hP FPar
theorem It(s:za)(Y:Hp)(Z:Nat)(h:s.length<=zD):Un [str s] Y Z=some (O7 s,Y,Z):=
 wL (Y1:=Y) rfl (qj (V:=fun s:List UInt8=>[str s]) (a:=s) (fun a b e=>by simp only[zi,zF]at e;exact wT e) h) (.inr rfl)
def Uo:List (Tmp×Tmp):=[(5,2),(34,2),(35,2),(36,2),(38,2),(39,2),(40,2)]
theorem Iu{st:St}{blk:Blk}(a:st.σ 2=.ref 0 0 0)(b:st.σ 5=.ref 1 0 0)(c:∀t,33<=t->t<42->st.σ t=.qZ [])(d:st.Y 0=some blk)(f:blk.arr=false):ZW Uo st:=by
 intro p Y id i j e;have Y2:p.2=2:=by simp only[Uo,zx,wu,or_false]at Y;rcases Y with rfl|rfl|rfl|rfl|rfl|rfl|rfl<;>rfl
 rw[Y2];refine⟨0,0,0,blk,a,?_,d,f⟩;simp only[Uo,zx,wu,or_false]at Y;rcases Y with rfl|Y
 ·rw[b]at e;injection e with e _ _
  omega
 ·have:33<=p.1/\p.1<42:=by rcases Y with rfl|rfl|rfl|rfl|rfl|rfl<;>decide
  rw[c _ this.1 this.2]at e;cases e
noncomputable abbrev Cpar:Ctx:=xv prog [(147,O0 102),(148,A6),(149,A7),(26,GC fun c=>int c.check)] (ia 9 Uo)
theorem Up:Gd Cpar:=KW _ mixed ⟨pF 102,by simp,V7,by simp,WO,by simp,J6,by simp,trivial⟩
set_option maxHeartbeats 8000000 in
theorem Es:zh prog 118 Un:=
 QT (C:=Cpar) (pf:=fun g=>([]:List Nat).contains g) ⟨func118,by kernel_rfl,rfl,by kernel_rfl⟩ false [] _ fun args r h=>by
  obtain⟨s,rfl,hs,rfl⟩:=qc h;have R:zD=268435456:=rfl;refine⟨by simp[f118],?_⟩;clear h;refine Wp.of Up ?_;simp only[O7,av];refine q9 (fun σ Y Z=>σ 0=str s/\σ 2=.ref 0 0 0/\(∀t,33<=t->t<42->σ t=.qZ [])/\Y 0=some (Yh ZJ)/\Z=1) ?_ ?_
  ·simp[ZJ];intro t i a;rw[zc _ _ _ _ (by omega),zc _ _ _ _ (by omega),zc _ _ _ _ (by omega)];show([str s][t]?).getD (.qZ [])=_;rw[qY (by simp only[ze,zf];omega)];rfl
  rintro σ Y1 _ ⟨f,a,j,o,rfl⟩;have d:=o;simp only[ZJ]at d;by_cases B:20000<s.length
  ·have l:(20000:Int)<s.length:=by omega
   rw[zl B];simp[f,a,l,d,qi,qJ,zc,f118];exact Q5 rfl Er (by simp[zC,qH];rfl)
  have l:¬(20000:Int)<s.length:=by omega
  rw[zj B];have D:s.length<=20000:=by omega
  refine q9 (fun σ' Y Z=>σ' 0=str s/\σ' 2=.ref 0 0 0/\(∀t,33<=t->t<42->σ' t=.qZ [])/\Y=Y1/\Z=1) ?_ ?_
  ·simp[f,a,l];intro t i a;rw[zc _ _ _ _ (by omega),zc _ _ _ _ (by omega),zc _ _ _ _ (by omega)];exact j t i a
  clear f a j d σ;rintro σ Y1 _ ⟨f,a,j,rfl,rfl⟩;refine q9 (fun σ' Y Z=>σ' 0=str s/\σ' 2=.ref 0 0 0/\σ' 5=.ref 1 0 0/\(∀t,33<=t->t<42->σ' t=.qZ [])/\Y 0=some (Yh ZJ)/\Y 1=some (wR s ⟨0,0,0,0⟩)/\Z=2) ?_ ?_
  ·simp[f,a,o,qi,qJ,zc,qe,zX];intro t i a;rw[zc _ _ _ _ (by omega),zc _ _ _ _ (by omega),zc _ _ _ _ (by omega),zc _ _ _ _ (by omega)];exact j t i a
  clear f a j o σ Y1;rintro σ Y1 _ ⟨f,a,u,j,o,x,rfl⟩;have F:=mG (s:=s) 102 ⟨0,0,0,0⟩ (jS _);have G:=cq (k:=102) (Z:=2) x D (jS _) ⟨by simp,.inl (by simp)⟩;obtain⟨c,v,M⟩:∃c v,dH s zN xa 102 ⟨0,0,0,0⟩=(c,v):=⟨_,_,rfl⟩;rw[show cp s 102 ⟨0,0,0,0⟩=(c,v)from M]at G;rw[M]at F;simp only[M];obtain⟨E,N,H⟩:=F;simp only at G E N H;refine q9 (fun σ' Y Z=>σ' 0=str s/\σ' 2=.ref 0 0 0/\σ' 5=.ref 1 0 0/\σ' 6=.ref 2 0 0/\(∀t,33<=t->t<42->σ' t=.qZ [])/\Y 0=some (Yh ZJ)/\Y 1=some (wR s v)/\Y 2=some (Yh c.V)/\Z=3) ?_ ?_
  ·simp only[qH]at G;simp[f,a,u,G,o,zc,qH];intro t i a;rw[zc _ _ _ _ (by omega),zc _ _ _ _ (by omega),zc _ _ _ _ (by omega)];exact j t i a
  clear f a u j o x G σ Y1;rintro σ Y1 _ ⟨f,a,u,y,j,o,x,m,rfl⟩;have z:=vq (s:=s) E;have I:=ca (Z:=3) x D E;obtain⟨q,i⟩:=yb (kK s v);rw[i]at I z;simp only[i];have P:=Yg (Y:=zI Y1 1 (some (wR s q))) (id:=1) (Z:=3) (by simp) D z.2.1;have Q:=Vv (s:=s) z.2.1;obtain⟨J,b⟩:=yb (if q.p<s.length then sy s q else q);rw[b];simp only[qe,zX,ze,zf,zu,Nat.reduceAdd,yx]at I P;refine q9 (fun σ' Y Z=>σ' 0=str s/\σ' 2=.ref 0 0 0/\σ' 5=.ref 1 0 0/\σ' 6=.ref 2 0 0/\(∀t,33<=t->t<42->σ' t=.qZ [])/\Y 0=some (Yh ZJ)/\Y 1=some (wR s J)/\Y 2=some (Yh c.V)/\Z=3) ?_ ?_
  ·by_cases n:q.p<s.length
   ·rw[zl n]at b;subst b;simp[f,a,u,y,I,P,n,o,m,zc,qe,zX];intro t i a;rw[zc _ _ _ _ (by omega),zc _ _ _ _ (by omega),zc _ _ _ _ (by omega),zc _ _ _ _ (by omega),zc _ _ _ _ (by omega),zc _ _ _ _ (by omega),zc _ _ _ _ (by omega),zc _ _ _ _ (by omega),zc _ _ _ _ (by omega),zc _ _ _ _ (by omega),zc _ _ _ _ (by omega)];exact j t i a
   ·rw[zj n]at b;subst b;simp[f,a,u,y,I,n,o,m,zc,qe,zX];intro t i a;rw[zc _ _ _ _ (by omega),zc _ _ _ _ (by omega),zc _ _ _ _ (by omega),zc _ _ _ _ (by omega),zc _ _ _ _ (by omega),zc _ _ _ _ (by omega),zc _ _ _ _ (by omega),zc _ _ _ _ (by omega),zc _ _ _ _ (by omega)];exact j t i a
  clear f a u y j o x m I P σ Y1;rintro σ Y1 _ ⟨f,a,u,y,j,o,x,m,rfl⟩;have d:=o;simp only[ZJ]at d;simp only[qe,zX,ze,zf,zu,Nat.reduceAdd]at x;by_cases A:J.e=0
  case neg=>rw[zl A];simp[f,a,u,x,A,ZR A,bne];rw[vA _ 9 _ _ _ _ (Iu (blk:=Yh ZJ) (by simp[a]) (by simp[u]) (fun t i a=>by simp;rw[zc _ _ _ _ (by omega),zc _ _ _ _ (by omega),zc _ _ _ _ (by omega),zc _ _ _ _ (by omega),zc _ _ _ _ (by omega)];exact j t i a) o rfl) (fun s hs=>by cases hs)];simp[a,u,x,d,qi,qJ,zc,f118];exact Q5 rfl Er (by simp[zC,qH];rfl)
  rw[zj (by simpa using A)];have K:c.cb<=zD:=by
   by_cases n:q.p<s.length
   ·rw[zl n]at b;rw[<-b]at A;exact absurd A Q.2.2.2
   ·rw[zj n]at b;rw[<-b,z.2.2.1]at A;have:=(H A).2.2;omega
  have L:=fun Y Z=>J0 (fun c=>int c.check) c Y Z K
  simp only[qH]at L m;refine q9 (fun σ' Y Z=>σ' 2=.ref 0 0 0/\σ' 6=.ref 2 0 0/\Y=Y1/\Z=3) (by simp[a,u,y,x,A]) ?_;clear f a u y j σ;rintro σ Y1 _ ⟨a,y,rfl,rfl⟩;by_cases w:c.check=0
  ·rw[zj (by simpa using w)];rw[w]at L;simp[a,y,m,L,d,zc,f118];exact Q5 rfl .id (by simp[qH])
  ·rw[zl w];simp[a,y,m,L,d,w,ZR w,bne,qi,qJ,zc,f118];exact Q5 rfl Er (by simp[zC,qH];rfl)
theorem Bt{c:Cnd}(b:c.check=0)(a:c.show.length<=20000):av zN xa c.show=(c,0,0):=D6 (fun _ h=>mx h) Uh b a
theorem Iv{c:Cnd}(b:c.check=0)(a:c.show.length<=20000):O7 c.show=.qZ [.agg c.V,int 0,int 0]:=by unfold O7;rw[Bt b a];rfl
noncomputable abbrev Carz:Ctx:=qf prog [(119,hP H4)]
theorem FT:Gd Carz:=qD mixed ⟨mj,trivial⟩
noncomputable abbrev Uq:Code:=f83.body.getD .skip
noncomputable abbrev arzN:Nat:=f83.ntmps
def pG:Int->List Rg->Int
 |lo,[]=>lo
 |_,r::l=>pG r.2.1 l
theorem mH:∀(l:List Rg) (lo:Int) (r:Rg),pG lo (l++[r])=r.2.1
 |[],_,_=>rfl
 |_::l,_,r=>mH l _ r
theorem Ko.get:∀{l:List Rg} {lo:Int} {k:Nat} (_:Ko lo l) (a:k<l.length),l[k].1=pG lo (l.take k)/\kL l[k].2.1/\kL l[k].2.2
 |r::l,lo,0,h,_=>⟨h.1,h.2.1,h.2.2.1⟩
 |r::l,lo,k+1,h,a=>by have:=Ko.get (k:=k) h.2.2.2 (by simpa using a);simpa[pG]using this
def Ur(a:List Rg)(k id m i n0 b:Nat)(cs:zb)(rows:List zb)(c:Hp)(st:St):Prop:=st.σ 0=.ref id 0 0/\st.σ 1=.ref m i 0/\st.σ 7=int (pG 0 (a.take k))/\b<=st.Z/\(∀j,j<b->j≠m->st.Y j=c j)/\∃v,st.Y m=some ⟨58,13,false,rows.set i (cs.set 11 v)⟩/\xX b st.Y st.Z 61 3 v ((a.take k).map kc)
def ArzL(a:List Rg)(id m i n0 b:Nat)(cs:zb)(rows:List zb)(c:Hp)(n:Nat)(st:St):Prop:=∃k,k+n=a.length/\Ur a k id m i n0 b cs rows c st/\st.σ 13=.sl 1 (zA (a.map Q2))/\st.σ 14=int a.length/\st.σ 15=int k
theorem Us(a:List Rg)(R:Ko 0 a)(hl:a.length<=200){id m i n0 q:Nat}{cs:zb}{rows:List zb}{B:Hp}{σ:Nat->O}{Y:Hp}{Z:Nat}(S:m<q)(C:i<rows.length)(D:cs.length=13)(J:Ur a 0 id m i n0 q cs rows B ⟨σ,Y,Z⟩)(d:σ 13=.sl 1 (zA (a.map Q2)))(b:σ 14=int a.length)(f:σ 15=int 0) :
  Wp True Carz arzN ((Vt 0 Uq).getD .skip) ⟨σ,Y,Z⟩ (fun e E=>e=.normal/\Ur a a.length id m i n0 q cs rows B E):=by
 have K:=FT;refine Wp.block (Wp.loop (ArzL a id m i n0 q cs rows B) a.length ⟨0,by simp,J,d,b,f⟩ ?_);clear J d b f σ Y Z;rintro n ⟨σ,Y,Z⟩ ⟨k,T,⟨x,y,z,s,l,v,A,o⟩,d,b,f⟩;simp only at x y z s l A o d b f;by_cases g:k<a.length
 case neg=>
  obtain rfl:k=a.length:=by omega
  refine Wp.of K ?_;simp[b,f];exact⟨by simp[x],by simp[y],by simp[z],s,l,v,A,o⟩
 obtain⟨L,M,N⟩:=R.get g;obtain⟨r,h⟩:=yb (a[k]);rw[h]at L M N;have F:(zA (a.map Q2)).length=a.length:=by simp[zA]
 have G:∀Y Z,hP H4 [str (Q2 r),str [58]] Y Z=some (.qZ [int r.2.1,int r.2.2,q6 true],Y,Z):=fun Y Z=>pq r.2.1 r.2.2 58 Y Z M N rfl
 have U:=q8 k;have H:=vc o.1 A rfl;obtain⟨ys,p⟩:=yb ((a.take k).map kc);have W:ys.length=k:=by rw[<-p];simp;omega
 rw[p]at o;have u:=qR.jc (P:=prog) (t:=55) (c:=kc r) o.1 el55 sz61 by61 ze61 rfl (by omega) (by unfold maxLen;omega) (by omega);have I:=fun Y'=>qK o.1 Y' m H
 have X:(a.take (k+1)).map kc=ys++[kc r]:=by rw[qb g,yZ,p,h];rfl
 have hT:pG 0 (a.take (k+1))=r.2.1:=by rw[qb g,mH,h]
 rw[<-L]at z;simp only[kc]at u;refine Wp.of K ?_;simp[x,y,z,d,b,f,g,h,F,G,A,C,D,kc,U,u,I,qi,qJ,zy,zR,zw,show¬m=Z by omega,show¬m=Z+1 by omega];refine⟨n-1,by omega,k+1,by omega,⟨by simp[x],by simp[y],by simp[hT],by show q<=Z+2;omega,fun j Q w=>?_,.own (Z+1) 0 (ys.length+1),by simp,?_⟩,by simp[d],by simp[b],by simp⟩
 ·show zI (zI _ (Z+1) _) m _ j=_;rw[zc _ _ _ _ w,zc _ _ _ _ (by omega),Jq o _ Q,zc _ _ _ _ (by omega)];exact l j Q w
 ·rw[X];refine⟨.inr ⟨Z+1,by show Z+1<Z+2;omega,by simp,?_⟩,fun id n e=>by injection e with e _ _;omega⟩;show zI (zI _ (Z+1) _) m _ (Z+1)=_;rw[zc _ _ _ _ (by omega)];simp[kc]
def Qr(a b c:O)(part:Int):Blk:=⟨86,5,false,[[a,b,c,int part,int 0]]⟩
def ArzR(a:List Rg)(id m i Z:Nat)(b c d:O)(cs:zb)(rows:List zb)(Y:Hp)(x:O)(Y':Hp)(Z':Nat):Prop:=x=q6 true/\Z<=Z'/\(∃v,xX Z Y' Z' 61 3 v (a.map kc)/\Y' m=some ⟨58,13,false,rows.set i (cs.set 11 v)⟩)/\Y' id=some (Qr b c d 5)/\∀j,j<Z->j≠m->j≠id->Y' j=Y j
theorem mI{n0:Nat}{Y:Hp}{Z e s id:Nat}{v:O}{xs:List zb}(h:xX n0 Y Z e s v xs)(a:∀n,v≠.own id 0 n)(o:Option Blk):xX n0 (zI Y id o) Z e s v xs:=
 h.kO (zk _) fun id' n e=>zc _ _ _ _ fun b=>a n (by rw[e,b])
theorem Ut(a:List Rg)(Q:Ko 0 a)(R:a.length<=200){id m i:Nat}{J L M:O}{cs:zb}{rows:List zb}{Y:Hp}{Z:Nat}(hid:Y id=some (Qr J L M 4))(d:id<Z)(S:Y m=some ⟨58,13,false,rows⟩)(s:m<Z)(f:id≠m)(N:rows[i]?=some cs)(t:cs.length=13)(u:cs[11]?=some .nil) :
  ZL True prog 83 [.ref id 0 0,.ref m i 0,.sl 1 (zA (a.map Q2))] Y Z (ArzR a id m i Z J L M cs rows Y):=by
 refine ZL.Lc (C:=Carz) (fn:=f83) (code:=_) func83 rfl (by simp[f83]) ?_;have l:=FT;have g:=(zd.1 N).1;have w:cs.set 11 .nil=cs:=by obtain⟨h,e⟩:=zd.1 u;rw[<-e];exact List.set_getElem_self h
 have x:rows.set i cs=rows:=by have:=(zd.1 N).2;rw[<-this];exact List.set_getElem_self g
 refine Wp.cut l (fun σ Y' Z'=>σ 0=.ref id 0 0/\σ 1=.ref m i 0/\σ 2=.sl 1 (zA (a.map Q2))/\Y=Y'/\Z=Z') (by simp) ?_;rintro σ _ _ ⟨n,o,p,rfl,rfl⟩;refine Wp.cut l (fun σ Y' Z'=>σ 0=.ref id 0 0/\σ 1=.ref m i 0/\σ 2=.sl 1 (zA (a.map Q2))/\σ 7=int 0/\Y=Y'/\Z=Z') (by simp[n,o,p]) ?_;clear n o p σ;rintro σ _ _ ⟨n,o,p,T,rfl,rfl⟩;refine Wp.seq (Wp.mono (K:=fun e y=>e=.normal/\Ur a a.length id m i 0 Z cs rows Y y) ?_ ?_)
 ·refine Wp.cut l (fun σ' Y' Z'=>σ' 0=.ref id 0 0/\σ' 1=.ref m i 0/\σ' 7=int 0/\σ' 13=.sl 1 (zA (a.map Q2))/\σ' 14=int a.length/\σ' 15=int 0/\Y=Y'/\Z=Z') (by simp[n,o,p,T,zA]) ?_;rintro z _ _ ⟨q,A,B,D,E,F,rfl,rfl⟩;exact Us a Q R s g t ⟨q,A,B,zk _,fun j _ _=>rfl,.nil,by show Y m=_;rw[S,w,x],by rw[jq];exact .nil _ _ _ _ _⟩ D E F
 rintro e ⟨z,Y2,U⟩ ⟨rfl,q,A,B,k,c,v,P,r⟩;simp only at q A B k c P r;simp only[w5];rw[wq]at r;have b:=(c id d f).trans hid;have G:=vc r.1 b rfl;simp only[Qr]at b;refine Wp.of l ?_;simp[q,b,f83];refine⟨rfl,k,⟨v,mI r G _,by rw[zc _ _ _ _ (fun e=>f e.symm)];exact P⟩,by simp[Qr],fun j W H I=>by rw[zc _ _ _ _ I];exact c j W H⟩
def yE(n l f:za)(a:zb)(s:za)(q r:O):zb:=[str n,str l,str f]++a++[str s,q,r]
noncomputable abbrev Ccoz:Ctx:=qf prog [(118,Un)]
theorem Uu:Gd Ccoz:=qD mixed ⟨Es,trivial⟩
def CozR(c:Cnd)(n l f s:za)(id m i Z:Nat)(a b d:O)(rows:List zb)(Y:Hp)(x:O)(Y':Hp)(Z':Nat):Prop:=x=q6 true/\Z<=Z'/\Y' m=some ⟨58,13,false,rows.set i (yE n l f c.V s .nil .nil)⟩/\Y' id=some (Qr a b d 4)/\∀j,j<Z->j≠m->j≠id->Y' j=Y j
theorem Uv{c:Cnd}(w:c.check=0)(Y2:(vY c).2=0){n l f s:za}{id m i:Nat}{x y z:O}{rows:List zb}{Y:Hp}{Z:Nat}(hid:Y id=some (Qr x y z 3))(A:id<Z)(E:Y m=some ⟨58,13,false,rows⟩)(F:m<Z)(a:id≠m)(B:rows[i]?=some (yE n l f ZJ s .nil .nil)) :
  ZL True prog 82 [.ref id 0 0,.ref m i 0,str (vY c).1] Y Z (CozR c n l f s id m i Z x y z rows Y):=by
 refine ZL.Lc (C:=Ccoz) (fn:=f82) (code:=_) func82 rfl (by simp[f82]) ?_;have G:=Uu;have D:zD=268435456:=rfl;have q:=(zd.1 B).1;have b:c.show.length<=20000/\(vY c).1=c.show:=by
  unfold vY at Y2⊢;rw[zl w]at Y2⊢;split at Y2
  ·exact absurd Y2 (by decide)
  ·rename_i h;rw[zj h];exact⟨by omega,rfl⟩
 have d:∀Y Z,Un [str (vY c).1] Y Z=some (.qZ [.agg c.V,int 0,int 0],Y,Z):=fun Y Z=>by rw[b.2,<-Iv w b.1];exact It c.show Y Z (by omega)
 simp only[qH]at d;simp only[Qr]at hid;have g:=(zd.1 B).2;simp only[yE,ZJ,qC,ye]at g;have r:¬Z=id:=by omega
 have t:¬Z=m:=by omega
 have u:¬id=Z:=by omega
 have k:¬m=Z:=by omega
 have o:¬m=id:=fun e=>a e.symm
 refine Wp.of G ?_;simp[d,hid,E,g,q,a,r,t,u,k,o,f82];refine⟨rfl,by omega,?_,by rw[qU];rfl,fun j H v p=>?_⟩
 ·rw[zc _ _ _ _ o,qU,qH];rfl
 ·rw[zc _ _ _ _ p,zc _ _ _ _ v,zc _ _ _ _ p,zc _ _ _ _ (by omega)]
end Go.Q
namespace Go.AM
variable{dr:Prop}{C:Ctx}{N:Nat}
def cr(rows:List zb):Prop:=∀c∈rows,∀Y:Hp,qm Y c=some (c,Y)
theorem mK:∀{rows:List zb} (_:cr rows) (Y:Hp),eM Y rows=some (rows,Y)
 |[],_,Y=>rfl
 |c::l,h,Y=>by rw[eM,h c (by simp) Y];simp[mK (rows:=l) (fun d hd=>h d (by simp[hd])) Y]
theorem pH{Y:Hp}{id e s n:Nat}{rows:List zb}(a:Y id=some ⟨e,s,false,rows⟩)(b:0<s)(c:n=rows.length)(hs:cr rows):Vs Y (.own id 0 n)=some (zI Y id (some ⟨e,s,true,rows⟩)):=by simp[Vs,a,b,c,mK hs Y]
theorem aF{Y:Hp}{Z id e s d a i j:Nat}{rows:List zb}{cs:zb}{v:O}{xs:List zb}(b:Y id=some ⟨e,s,false,rows⟩)(f:0<s)(g:rows[i]?=some cs)(h:cs[j]?=some v)(c:qR Y Z d a v xs) :
  aA Y id i j (Rx a)=some (zI (vB v Y) id (some ⟨e,s,false,rows.set i (cs.set j (.sl a xs))⟩)):=by
 obtain⟨y,k,l⟩:=mo c;have m:=qK c Y id (vc c b rfl);unfold aA;rw[b];simp only[zW,f,g,h,k,l,m,b,zgV,Option.isSome_some,qh]
end Go.AM
namespace Go.Q
theorem O8(l:List y7):cr (l.map y7.V):=fun c a Y=>by obtain⟨x,_,rfl⟩:=zZ.1 a;simp[y7.V,qm,qn]
theorem Uw(l:List Xp):cr (l.map Xp.V):=fun c a Y=>by obtain⟨x,_,rfl⟩:=zZ.1 a;simp[yy,qm,qn]
abbrev tR:TypeId:=86
abbrev tX:TypeId:=58
abbrev tH:TypeId:=50
def Wl(h:y7)(q:O):zb:=[str h.name,str h.we,int h.buckets,q]
def Bu(n0 id:Nat)(r:cE)(Y:Hp)(Z:Nat):Prop:=n0<=id/\id<Z /\
 ((r.part=0/\r.hs=[]/\r.xs=[]/\∃v,Y id=some (Qr v .nil .nil 0)/\xX n0 Y Z 48 3 v (r.ls.map yp.V)) \/
  (r.part=1/\r.xs=[]/\∃a h m q,r.hs=a++[h]/\id≠m/\n0<=m/\m<Z/\Y id=some (Qr (.sl 3 (r.ls.map yp.V)) (.own m 0 (a.length+1)) .nil 1)/\Y m=some ⟨tH,4,false,a.map y7.V++[Wl h q]⟩/\xX n0 Y Z 9 1 q (zA h.zr)) \/
  ((r.part=3\/r.part=4\/r.part=5)/\∃b x m c d,r.xs=b++[x]/\id≠m/\n0<=m/\m<Z/\Y id=some (Qr (.sl 3 (r.ls.map yp.V)) (.sl 4 (r.hs.map y7.V)) (.own m 0 (b.length+1)) r.part) /\
    Y m=some ⟨tX,13,false,b.map Xp.V++[yE x.name x.w9 x.flag (if r.part=3 then ZJ else x.cond.V) x.we c d]⟩/\xX n0 Y Z 61 3 c (x.ja.map kc)/\xX n0 Y Z 64 2 d (x.zQ.map yk.V)/\(r.part≠5->c=.nil/\d=.nil)))
section
variable{dr:Prop}{C:Ctx}{N:Nat}
theorem Wp.Ge{c:Code}{σ:Nat->O}{Y:Hp}{Z:Nat}{K:Exit->St->Prop}{n0 id:Nat}{r:cE}(y:Bu n0 id r Y Z)(u:r.part=0\/r.part=1)
  (h:∀(Y':Hp) (v:O),Y' id=some (Qr (.sl 3 (r.ls.map yp.V)) v .nil r.part)->xX n0 Y' Z tH 4 v (r.hs.map y7.V)->(∀j,j<n0->Y' j=Y j)->Wp dr C N c ⟨σ,Y',Z⟩ K):Wp dr C N c ⟨σ,Y,Z⟩ K:=by
 obtain⟨z,w,A|h1|B⟩:=y
 ·obtain⟨D,E,F,v,hid,l⟩:=A;have G:=qK l.1 Y id (vc l.1 hid rfl);refine Wp.close (aO.nz 3) (Kh (j:=0) hid (by decide) rfl l.1) (h _ .nil (by simp[Qr,D]) ?_ fun j o=>?_)
  ·rw[E];exact .nil _ _ _ _ _
  ·rw[zc _ _ _ _ (by omega)];exact Jq l _ o
 ·obtain⟨Y1,F,a,hd,m,q,b,f,H,p,hid,x,g⟩:=h1;have d:(a.map y7.V++[Wl hd q])[a.length]?=some (Wl hd q):=by rw[qo (by simp)];simp
  have k:(a.map y7.V++[Wl hd q]).set a.length ((Wl hd q).set 3 (.sl 1 (zA hd.zr)))=r.hs.map y7.V:=by rw[vu _ _ (by simp),b,yZ];simp[Wl,y7.V]
  have I:=vc g.1 x rfl;have s:=vc g.1 hid rfl;refine Wp.close (aO.nz 1) (aF (j:=3) x (by decide) d rfl g.1) ?_;rw[k];refine Wp.shut (Y1:=zI (zI (vB q Y) m (some ⟨tH,4,false,r.hs.map y7.V⟩)) m (some ⟨tH,4,true,r.hs.map y7.V⟩)) (pH (qU _ _ _) (by decide) (n:=a.length+1) (by rw[b];simp) (O8 _)) (h _ (.own m 0 (a.length+1)) ?_ ?_ fun j o=>?_)
  ·rw[zc _ _ _ _ f,zc _ _ _ _ f,qK g.1 Y id s,hid,Y1];rfl
  ·exact⟨.inr ⟨m,p,by rw[b];simp,by simp⟩,fun i n e=>by injection e with e _ _;omega⟩
  ·rw[zc _ _ _ _ (by omega),zc _ _ _ _ (by omega)];exact Jq g _ o
 ·obtain⟨t,_⟩:=B;omega
theorem Wp.Rh{c:Code}{σ:Nat->O}{Y:Hp}{Z:Nat}{K:Exit->St->Prop}{n0 id:Nat}{r:cE}(B:Bu n0 id r Y Z)(H:r.part=0\/r.part=1\/r.part=5)
  (h:∀(Y':Hp) (v:O),Y' id=some (Qr (.sl 3 (r.ls.map yp.V)) (.sl 4 (r.hs.map y7.V)) v r.part)->xX n0 Y' Z tX 13 v (r.xs.map Xp.V)->(∀j,j<n0->Y' j=Y j)->Wp dr C N c ⟨σ,Y',Z⟩ K):Wp dr C N c ⟨σ,Y,Z⟩ K:=by
 by_cases h5:r.part=5
 case neg=>
  have I:r.part=0\/r.part=1:=by omega
  have g:r.xs=[]:=by
   obtain⟨_,_,J|h1|D⟩:=B
   ·exact J.2.2.1
   ·exact h1.2.1
   ·obtain⟨D,_⟩:=D;omega
  refine Wp.Ge B I fun Y1 v hid E L=>?_
  have hkv:=qK E.1 Y1 id (vc E.1 hid rfl);refine Wp.close (aO.nz 4) (Kh (j:=1) hid (by decide) rfl E.1) (h _ .nil (by simp[Qr]) ?_ fun j w=>?_)
  ·rw[g];exact .nil _ _ _ _ _
  ·have U:=B.1;rw[zc _ _ _ _ (by omega),Jq E _ w];exact L j w
 obtain⟨hn0,W,J|h1|D⟩:=B
 ·have:=J.1;omega
 ·have:=h1.1;omega
 obtain⟨_,a,x,m,p,d,g,q,hm0,M,hid,F,b,l,_⟩:=D;rw[zj (by omega)]at F;have s:(a.map Xp.V++[yE x.name x.w9 x.flag x.cond.V x.we p d])[a.length]?=some (yE x.name x.w9 x.flag x.cond.V x.we p d):=by rw[qo (by simp)];simp
 have hcl:x.cond.V.length=7:=by rw[qH];rfl
 have P:(yE x.name x.w9 x.flag x.cond.V x.we p d)[11]?=some p:=by simp[yE,qH]
 have t:(a.map Xp.V++[yE x.name x.w9 x.flag x.cond.V x.we p d]).set a.length ((yE x.name x.w9 x.flag x.cond.V x.we p d).set 11 (.sl 3 (x.ja.map kc)))=a.map Xp.V++[yE x.name x.w9 x.flag x.cond.V x.we (.sl 3 (x.ja.map kc)) d]:=by rw[vu _ _ (by simp)];simp[yE,qH]
 have o:(a.map Xp.V++[yE x.name x.w9 x.flag x.cond.V x.we (.sl 3 (x.ja.map kc)) d])[a.length]?=some (yE x.name x.w9 x.flag x.cond.V x.we (.sl 3 (x.ja.map kc)) d):=by rw[qo (by simp)];simp
 have Q:(yE x.name x.w9 x.flag x.cond.V x.we (.sl 3 (x.ja.map kc)) d)[12]?=some d:=by simp[yE,qH]
 have u:(a.map Xp.V++[yE x.name x.w9 x.flag x.cond.V x.we (.sl 3 (x.ja.map kc)) d]).set a.length ((yE x.name x.w9 x.flag x.cond.V x.we (.sl 3 (x.ja.map kc)) d).set 12 (.sl 2 (x.zQ.map yk.V)))=r.xs.map Xp.V:=by rw[vu _ _ (by simp),g,yZ];simp[yE,qH,yy]
 have X:=vc b.1 F rfl;have y:=vc b.1 hid rfl;have z:=vc l.1 F rfl;have A:=vc l.1 hid rfl;refine Wp.close (aO.nz 3) (aF (j:=11) F (by decide) s P b.1) ?_;rw[t];have k:xX n0 (zI (vB p Y) m (some ⟨tX,13,false,a.map Xp.V++[yE x.name x.w9 x.flag x.cond.V x.we (.sl 3 (x.ja.map kc)) d]⟩)) Z 64 2 d (x.zQ.map yk.V):=by
  refine mI (l.kO (zk _) fun i n e=>?_) z _;refine qK b.1 Y i fun n' G=>?_
  rcases b.1 with⟨R,_⟩|⟨i1,_,R,S⟩
  ·rw[R]at G;cases G
  ·rw[R]at G;injection G with e1 _ _
   subst e1;rcases l.1 with⟨T,_⟩|⟨i2,_,T,f⟩
   ·rw[T]at e;cases e
   ·rw[T]at e;injection e with e2 _ _
    subst e2;rw[S]at f;injection f with f
    injection f with f _ _ _;exact absurd f (by decide)
 refine Wp.close (aO.nz 2) (aF (j:=12) (qU _ _ _) (by decide) o Q k.1) ?_;rw[u];refine Wp.shut (pH (qU _ _ _) (by decide) (n:=a.length+1) (by rw[g];simp) (Uw _)) (h _ (.own m 0 (a.length+1)) ?_ ?_ fun j w=>?_)
 ·rw[zc _ _ _ _ q,zc _ _ _ _ q,qK k.1 _ id A,zc _ _ _ _ q,qK b.1 Y id y,hid]
 ·exact⟨.inr ⟨m,M,by rw[g];simp,by simp⟩,fun i n e=>by injection e with e _ _;omega⟩
 ·rw[zc _ _ _ _ (by omega),zc _ _ _ _ (by omega),Jq k _ w,zc _ _ _ _ (by omega)];exact Jq b _ w
theorem Wp.zdI{c:Code}{σ:Nat->O}{Y:Hp}{Z:Nat}{K:Exit->St->Prop}{n0 id:Nat}{r:cE}(d:Bu n0 id r Y Z)(a:r.part=0\/r.part=1\/r.part=5)
  (h:∀(Y':Hp),Y' id=some (Qr (.sl 3 (r.ls.map yp.V)) (.sl 4 (r.hs.map y7.V)) (.sl 13 (r.xs.map Xp.V)) r.part)->(∀j,j<n0->Y' j=Y j)->Wp dr C N c ⟨σ,Y',Z⟩ K):Wp dr C N c ⟨σ,Y,Z⟩ K:=
 Wp.Rh d a fun Y1 v hid e b=>by refine Wp.close (aO.nz 13) (Kh (j:=2) hid (by decide) rfl e.1) (h _ (by simp[Qr]) fun j f=>?_);have g:=d.1;rw[zc _ _ _ _ (by omega),Jq e _ f];exact b j f
end
end Go.Q
namespace Go.AM
section
variable(C:Ctx)(ρ:Operand->Option O)(Y:Hp)(Z:Nat)
@[simp]theorem zeI(t:TypeId)(m k x:Operand):zS C ρ Y Z (.insert t m k x)=(do let p <-ρ m;let q <-ρ k;let y <-ρ x;let h <-km C.P Y t p q y;some (.qZ [],h,Z)):=by simp only[zS];cases ρ m<;>cases ρ k<;>cases ρ x<;>(try rfl);simp;cases km C.P Y t _ _ _<;>rfl
end
end Go.AM
namespace Go.Q
abbrev Bv:TypeId:=145
@[simp]theorem zbg:KL prog Bv=some (none,3):=by kernel_rfl
def O9:List zb:=[[str [108,97,121,101,114],int 0],[str [104,111,108,100],int 1],[str [101,120,112,101,114,105,109,101,110,116],int 2]]
theorem wm0{Y:Hp}{id:Nat}(h:Y id=some ⟨Bv,0,false,[]⟩):km prog Y Bv (.mp id) (str [108,97,121,101,114]) (int 0)=some (zI Y id (some ⟨Bv,0,false,[[str [108,97,121,101,114],int 0]]⟩)):=by simp[km,h,WS,xe]
theorem wm1{Y:Hp}{id:Nat}(h:Y id=some ⟨Bv,0,false,[[str [108,97,121,101,114],int 0]]⟩):km prog Y Bv (.mp id) (str [104,111,108,100]) (int 1)=some (zI Y id (some ⟨Bv,0,false,[[str [108,97,121,101,114],int 0],[str [104,111,108,100],int 1]]⟩)):=by
 have a:xe (.string ⟨#[104,111,108,100]⟩) [[str [108,97,121,101,114],int 0]] 0=some none:=by simp[xe,xd,kp]
 simp[km,h,WS,a]
theorem wm2{Y:Hp}{id:Nat}(h:Y id=some ⟨Bv,0,false,[[str [108,97,121,101,114],int 0],[str [104,111,108,100],int 1]]⟩):km prog Y Bv (.mp id) (str [101,120,112,101,114,105,109,101,110,116]) (int 2)=some (zI Y id (some ⟨Bv,0,false,O9⟩)):=by
 have a:xe (.string ⟨#[101,120,112,101,114,105,109,101,110,116]⟩) [[str [108,97,121,101,114],int 0],[str [104,111,108,100],int 1]] 0=some none:=by simp[xe,xd,kp]
 simp[km,h,WS,a,O9]
theorem wlE{Y:Hp}{id:Nat}(h:Y id=some ⟨Bv,0,false,O9⟩):xf prog Y Bv (.mp id) (str [101,120,112,101,114,105,109,101,110,116]) false=some (int 2):=by
 have a:xe (.string ⟨#[101,120,112,101,114,105,109,101,110,116]⟩) O9 0=some (some (2,int 2)):=by simp[O9,xe,xd,kp]
 simp[xf,dU,h,WS,a]
theorem wlH{Y:Hp}{id:Nat}(h:Y id=some ⟨Bv,0,false,O9⟩):xf prog Y Bv (.mp id) (str [104,111,108,100]) false=some (int 1):=by
 have a:xe (.string ⟨#[104,111,108,100]⟩) O9 0=some (some (1,int 1)):=by simp[O9,xe,xd,kp]
 simp[xf,dU,h,WS,a]
theorem wlL{Y:Hp}{id:Nat}(h:Y id=some ⟨Bv,0,false,O9⟩):xf prog Y Bv (.mp id) (str [108,97,121,101,114]) false=some (int 0):=by
 have a:xe (.string ⟨#[108,97,121,101,114]⟩) O9 0=some (some (0,int 0)):=by simp[O9,xe,xd,kp]
 simp[xf,dU,h,WS,a]
noncomputable abbrev Ux:Ctx:=qf prog [(81,FA),(85,bytS),(86,H3)]
theorem sP:Gd Ux:=qD mixed ⟨po,H2,dK,trivial⟩
def dQ(n0 id Z:Nat)(r:cE)(Y:Hp)(x:O)(Y':Hp)(Z':Nat):Prop:=x=q6 true/\Z<=Z'/\Bu n0 id r Y' Z'/\∀j,j<n0->Y' j=Y j
set_option maxHeartbeats 8000000 in
theorem Uy{r:cE}{n l f s:za}(hn:qS n=true)(hl:qS l=true)(hf:qS f=true)(hs:Qw s=true)(D:r.part=0\/r.part=1\/r.part=5)(La:r.xs.length<=zD){n0 id:Nat}{Y:Hp}{Z:Nat}(U:n0<=Z)(S:Bu n0 id r Y Z) :
  ZL True prog 49 [.ref id 0 0,.sl 1 (zA [QJ,n,l,f,s])] Y Z (dQ n0 id Z ⟨r.ls,r.hs,r.xs++[N8 n l f s],3⟩ Y):=by
 refine ZL.Lc (C:=Ux) (fn:=f49) (code:=_) func49 rfl (by simp[f49]) ?_;have x:=sP;have nc:zD=268435456:=rfl;have hid0:=S.1;have J:=S.2.1;refine Wp.Rh S D fun Y1 v hid T K=>?_
 clear S;obtain⟨L,hL⟩:=yb (O.sl 3 (r.ls.map yp.V));obtain⟨H,hH⟩:=yb (O.sl 4 (r.hs.map y7.V));obtain⟨rows,m⟩:=yb (r.xs.map Xp.V);have E:rows.length=r.xs.length:=by rw[<-m,wx]
 rw[hL,hH]at hid;rw[m]at T;refine Wp.cut x (fun σ Y' Z'=>σ 0=.ref id 0 0/\σ 1=.sl 1 (zA [QJ,n,l,f,s])/\Y1=Y'/\Z=Z') (by simp) ?_;rintro σ _ _ ⟨d,g,rfl,rfl⟩;have e0:=fun(Y:Hp) (o:Blk)=>wm0 (Y:=zI Y Z (some ⟨Bv,0,false,[]⟩)) (id:=Z) (qU _ _ _)
 refine Wp.cut x (fun σ' Y' Z'=>σ' 0=.ref id 0 0/\σ' 1=.sl 1 (zA [QJ,n,l,f,s])/\σ' 5=int 2/\Z'=Z+1/\∃o,Y'=zI Y1 Z o) (by simp[d,g,zA,QJ,wm0,wm1,wm2,wlE];exact⟨_,rfl⟩) ?_
 clear d g σ;rintro σ Y2 _ ⟨d,g,M,rfl,o,rfl⟩;have a:zI Y1 Z o id=some (Qr L H v r.part):=by rw[zc _ _ _ _ (by omega)];exact hid
 have y:xX n0 (zI Y1 Z o) (Z+1) tX 13 v rows:=T.kO (by omega) fun i k e=>zc _ _ _ _ (by
  rcases T.1 with⟨h,_⟩|⟨i',h,h2,_⟩
  ·rw[h]at e;cases e
  ·rw[h2]at e;injection e with e _ _;omega)
 have W:∀j,j<n0->zI Y1 Z o j=Y j:=fun j z=>by rw[zc _ _ _ _ (by omega)];exact K j z
 have X:id<Z+1:=by omega
 have hn1:n0<=Z+1:=by omega
 have hnx1:Z<=Z+1:=by omega
 generalize zI Y1 Z o=hp3 at *;clear hid T K J U;generalize Z+1=nx3 at *;refine Wp.cut x (fun σ' Y' Z'=>σ' 0=.ref id 0 0/\σ' 1=.sl 1 (zA [QJ,n,l,f,s])/\σ' 5=int 2/\σ' 6=q6 false/\hp3=Y'/\nx3=Z') (by simp only[Qr]at a;rcases D with e|e|e<;>rw[e]at a<;>simp[d,g,M,a]) ?_
 clear d g M σ;rintro σ _ _ ⟨d,g,M,h6,rfl,rfl⟩;refine Wp.cut x (fun σ' Y' Z'=>σ' 0=.ref id 0 0/\σ' 1=.sl 1 (zA [QJ,n,l,f,s])/\hp3=Y'/\nx3=Z') (by simp only[Qr]at a;rcases D with e|e|e<;>rw[e]at a<;>simp[d,g,M,h6,a]) ?_
 clear d g M h6 σ;rintro σ _ _ ⟨d,g,rfl,rfl⟩;have c1:=fun Y Z=>Jo n Y Z hn
 have c2:=fun Y Z=>Jo l Y Z hl
 have c3:=fun Y Z=>Jo f Y Z hf
 have c4:=fun Y Z=>mi s Y Z hs
 refine Wp.seq (Wp.block ?_);refine Wp.cut x (fun σ' Y' Z'=>σ' 0=.ref id 0 0/\σ' 1=.sl 1 (zA [QJ,n,l,f,s])/\σ' 54=q6 true/\hp3=Y'/\nx3=Z') (by simp[d,g,zA,QJ]) ?_;clear d g σ;rintro σ _ _ ⟨d,g,N,rfl,rfl⟩;refine Wp.cond (b:=true) (by simp[N]) ?_;rw[zl rfl];refine Wp.cut x (fun σ' Y' Z'=>σ' 0=.ref id 0 0/\σ' 1=.sl 1 (zA [QJ,n,l,f,s])/\hp3=Y'/\nx3=Z') (by simp[d,g,zA,c1,c2,c3,c4]) ?_;clear d g N σ;rintro σ _ _ ⟨d,g,rfl,rfl⟩;obtain⟨A,u⟩:=yb (yE n l f ZJ s .nil .nil);have B:=qR.jc (P:=prog) (t:=24) (c:=A) y.1 el24 sz58 by58 ze58 rfl (by omega) (by rw[E];unfold maxLen;omega) (by rw[E];omega);have Q:=fun Y'=>qK y.1 Y' id (vc y.1 a rfl)
 have w:=a;simp only[Qr]at w;have w1:zA [QJ,n,l,f,s]=[[str QJ],[str n],[str l],[str f],[str s]]:=rfl;rw[w1]at g;refine Wp.seq (Wp.YM x mixed 24 [19,20] [90,91,92,93,94,95,96,97,98,99,100,101,102,103,104,105,106,107,108,109,110,111,112,113] (by kernel_rfl)
  [.ref id 0 0,.ref id 0 0,.ref id 0 0,.ref id 0 0,.ref id 0 2,v,.sl 1 [[str QJ],[str n],[str l],[str f],[str s]],.ptr [str n],str n,.sl 1 [[str QJ],[str n],[str l],[str f],[str s]],.ptr [str l],str l,.sl 1 [[str QJ],[str n],[str l],[str f],[str s]],.ptr [str f],str f,.sl 1 [[str QJ],[str n],[str l],[str f],[str s]],.ptr [str s],str s,.agg A,.own nx3 0 1,.own (nx3+1) 0 (rows.length+1),.ref id 0 0,.ref id 0 0,.ref id 0 2] rfl
  (fun k=>match k with|0=>(hp3,nx3)|1=>(zI hp3 nx3 (some ⟨tX,13,true,[A]⟩),nx3+1)|_=>(zI (vB v (zI hp3 nx3 (some ⟨tX,13,true,[A]⟩))) (nx3+1) (some ⟨tX,13,true,rows++[A]⟩),nx3+2)) rfl ?_ ?_ ?_)
 ·intro j o z F BO k I;have z:j=0\/j=1\/j=2\/j=3\/j=4\/j=5\/j=6\/j=7\/j=8\/j=9\/j=10\/j=11\/j=12\/j=13\/j=14\/j=15\/j=16\/j=17\/j=18\/j=19\/j=20\/j=21\/j=22\/j=23:=by omega
  have I:k=0\/k=1\/k=2:=by simp at I;omega
  rcases z with rfl|rfl|rfl|rfl|rfl|rfl|rfl|rfl|rfl|rfl|rfl|rfl|rfl|rfl|rfl|rfl|rfl|rfl|rfl|rfl|rfl|rfl|rfl|rfl<;>(injection F with F;subst F)<;>first
   |exact absurd (by decide) BO
   |(rcases I with rfl|rfl|rfl<;>simp[d,g,w,Q,qi,qJ,<-u,yE,ZJ,show¬id=nx3 by omega,show¬id=nx3+1 by omega])
 ·intro k j o I F;have RA:k=0/\j=19\/k=1/\j=20:=by
   have:=(zd.1 I).1;have hk2:k=0\/k=1:=by simp at this;omega
   rcases hk2 with rfl|rfl<;>simp at I<;>omega
  rcases RA with⟨rfl,rfl⟩|⟨rfl,rfl⟩<;>(injection F with F;subst F)
  ·simp[<-u,yE,ZJ,zy,zR,zw]
  ·rw[<-u]at B;simp only[yE,ZJ,qC,ye]at B;simp[<-u,yE,ZJ,B]
 ·have hm1:¬id=nx3:=by omega
  have G:¬id=nx3+1:=by omega
  obtain⟨p,q⟩:=yb (zI (vB v (zI hp3 nx3 (some ⟨tX,13,true,[A]⟩))) (nx3+1) (some ⟨tX,13,true,rows++[A]⟩));have R:p id=some ⟨tR,5,false,[[L,H,v,int r.part,int 0]]⟩:=by rw[<-q,zc _ _ _ _ G,Q,zc _ _ _ _ hm1];exact w
  have hnA:p (nx3+1)=some ⟨tX,13,true,rows++[A]⟩:=by rw[<-q];simp
  have hfA:∀j,j<n0->p j=Y j:=fun j z=>by rw[<-q,zc _ _ _ _ (by omega),Jq y _ z,zc _ _ _ _ (by omega)];exact W j z
  refine kJ.last x rfl rfl (by simp) (r:=(.qZ [],zI p id (some (Qr L H (.own (nx3+1) 0 (rows.length+1)) r.part)),nx3+2)) (by simp only[q];simp[R,Qr]) ?_
  simp only[w5,q];clear B q;refine Wp.cut x (fun σ' Y' Z'=>zI p id (some (Qr L H (.own (nx3+1) 0 (rows.length+1)) 3))=Y'/\nx3+2=Z') (by simp[d,Qr]) ?_;rintro σ2 _ _ ⟨rfl,rfl⟩;have hob:Kg (zI p id (some (Qr L H (.own (nx3+1) 0 (rows.length+1)) 3))) (.own (nx3+1) 0 (rows.length+1))=zI (zI p id (some (Qr L H (.own (nx3+1) 0 (rows.length+1)) 3))) (nx3+1) (some ⟨tX,13,false,rows++[A]⟩):=by simp[Kg,hnA,show¬nx3+1=id by omega]
  refine Wp.opened (.own (nx3+1) 0 (rows.length+1)) ?_;rw[hob];refine Wp.of x ?_;simp[f49];refine⟨rfl,by omega,⟨by omega,by omega,.inr (.inr ⟨.inl rfl,r.xs,N8 n l f s,nx3+1,.nil,.nil,rfl,G,by omega,by omega,?_,?_,.nil _ _ _ _ _,.nil _ _ _ _ _,fun _=>⟨rfl,rfl⟩⟩)⟩,fun j z=>?_⟩
  ·rw[zc _ _ _ _ G,qU,hL,hH,E];rfl
  ·rw[qU,zl rfl,m];simp only[N8,u]
  ·rw[zc _ _ _ _ (by omega),zc _ _ _ _ (by omega)];exact hfA j z
set_option maxHeartbeats 8000000 in
theorem Uz{r:cE}{n s:za}{z:Int}(hn:qS n=true)(hs:Qw s=true)(hz:kL z)(F:r.part=0)(La:r.ls.length<=zD){n0 id:Nat}{Y:Hp}{Z:Nat}(X:n0<=Z)(T:Bu n0 id r Y Z) :
  ZL True prog 49 [.ref id 0 0,.sl 1 (zA [Zn,n,s,wi z])] Y Z (dQ n0 id Z ⟨r.ls++[⟨n,s,z⟩],[],[],0⟩ Y):=by
 refine ZL.Lc (C:=Ux) (fn:=f49) (code:=_) func49 rfl (by simp[f49]) ?_;have q:=sP;have nc:zD=268435456:=rfl;have hid0:=T.1;have I:=T.2.1;obtain⟨rows,m⟩:=yb (r.ls.map yp.V);have J:rows.length=r.ls.length:=by rw[<-m,wx]
 obtain⟨v,hid,hO⟩:∃v,Y id=some (Qr v .nil .nil r.part)/\xX n0 Y Z 48 3 v rows:=by
  obtain⟨_,_,h|h|h⟩:=T
  ·obtain⟨_,_,_,v,a,b⟩:=h;exact⟨v,by rw[a,F];rfl,by rw[<-m];exact b⟩
  ·have:=h.1;omega
  ·obtain⟨h,_⟩:=h;omega
 have L:∀j,j<n0->Y j=Y j:=fun j _=>rfl
 clear T;refine Wp.cut q (fun σ Y' Z'=>σ 0=.ref id 0 0/\σ 1=.sl 1 (zA [Zn,n,s,wi z])/\Y=Y'/\Z=Z') (by simp) ?_;rintro σ _ _ ⟨f,g,rfl,rfl⟩;refine Wp.cut q (fun σ' Y' Z'=>σ' 0=.ref id 0 0/\σ' 1=.sl 1 (zA [Zn,n,s,wi z])/\σ' 5=int 0/\Z'=Z+1/\∃o,Y'=zI Y Z o) (by simp[f,g,zA,Zn,wm0,wm1,wm2,wlL];exact⟨_,rfl⟩) ?_
 clear f g σ;rintro σ Y2 _ ⟨f,g,l,rfl,o,rfl⟩;have d:zI Y Z o id=some (Qr v .nil .nil r.part):=by rw[zc _ _ _ _ (by omega)];exact hid
 have A:xX n0 (zI Y Z o) (Z+1) 48 3 v rows:=hO.kO (by omega) fun i k e=>zc _ _ _ _ (by
  rcases hO.1 with⟨h,_⟩|⟨i',h,h2,_⟩
  ·rw[h]at e;cases e
  ·rw[h2]at e;injection e with e _ _;omega)
 have hfu:∀j,j<n0->zI Y Z o j=Y j:=fun j B=>(zc _ _ _ _ (by omega)).trans (L j B)
 have zha:id<Z+1:=by omega
 have hn1:n0<=Z+1:=by omega
 have hnx1:Z<=Z+1:=by omega
 generalize zI Y Z o=hp3 at *;clear hid hO L I X;generalize Z+1=nx3 at *;refine Wp.cut q (fun σ' Y' Z'=>σ' 0=.ref id 0 0/\σ' 1=.sl 1 (zA [Zn,n,s,wi z])/\σ' 5=int 0/\σ' 6=q6 false/\hp3=Y'/\nx3=Z') (by simp only[Qr]at d;rw[F]at d;simp[f,g,l,d]) ?_
 clear f g l σ;rintro σ _ _ ⟨f,g,l,h6,rfl,rfl⟩;refine Wp.cut q (fun σ' Y' Z'=>σ' 0=.ref id 0 0/\σ' 1=.sl 1 (zA [Zn,n,s,wi z])/\σ' 5=int 0/\hp3=Y'/\nx3=Z') (by simp only[Qr]at d;rw[F]at d;simp[f,g,l,h6,d]) ?_
 clear f g l h6 σ;rintro σ _ _ ⟨f,g,l,rfl,rfl⟩;have c1:=fun Y Z=>Jo n Y Z hn
 have c2:=fun Y Z=>mi s Y Z hs
 have c3:=fun Y Z=>Vp z Y Z hz
 refine Wp.seq (Wp.block ?_);refine Wp.cut q (fun σ' Y' Z'=>σ' 0=.ref id 0 0/\σ' 1=.sl 1 (zA [Zn,n,s,wi z])/\σ' 5=int 0/\σ' 54=q6 false/\hp3=Y'/\nx3=Z') (by simp[f,g,l,zA,Zn]) ?_;clear f g l σ;rintro σ _ _ ⟨f,g,l,M,rfl,rfl⟩;refine Wp.cond (b:=false) (by simp[M]) ?_;rw[zj (by decide)];refine Wp.mono (K:=fun e u=>e=.normal/\u.σ 0=.ref id 0 0/\u.σ 1=.sl 1 (zA [Zn,n,s,wi z])/\u.σ 5=int 0/\hp3=u.Y/\nx3=u.Z) (Wp.of q (by simp[f,g,l,zA,Zn,c1,c2])) ?_;clear f g l M σ;rintro e ⟨σ,hp4,nx4⟩ ⟨rfl,f,g,l,e1,e2⟩;simp only at f g l e1 e2;subst e1;subst e2;simp only[jW,w5];refine Wp.cut q (fun σ' Y' Z'=>σ' 0=.ref id 0 0/\σ' 1=.sl 1 (zA [Zn,n,s,wi z])/\σ' 5=int 0/\σ' 7=int z/\σ' 8=q6 true/\hp3=Y'/\nx3=Z') (by simp[f,g,l,zA,c3]) ?_;clear f g l σ;rintro σ _ _ ⟨f,g,l,U,W,rfl,rfl⟩;refine Wp.seq ?_;refine Wp.cut q (fun σ' Y' Z'=>σ' 0=.ref id 0 0/\σ' 1=.sl 1 (zA [Zn,n,s,wi z])/\σ' 5=int 0/\σ' 7=int z/\σ' 8=q6 true/\σ' 151=q6 true/\hp3=Y'/\nx3=Z') (by simp[f,g,l,U,W,zA,Zn]) ?_;clear f g l U W σ;rintro σ _ _ ⟨f,g,l,U,W,N,rfl,rfl⟩;refine Wp.cond (b:=true) (by simp[N]) ?_;rw[zl rfl];obtain⟨E,w⟩:=yb (yp.V ⟨n,s,z⟩);have D:=qR.jc (P:=prog) (t:=22) (c:=E) A.1 el22 sz48 by48 ze48 rfl (by omega) (by rw[J];unfold maxLen;omega) (by rw[J];omega);have Q:=fun Y'=>qK A.1 Y' id (vc A.1 d rfl)
 have x:=d;simp only[Qr]at x;have w1:zA [Zn,n,s,wi z]=[[str Zn],[str n],[str s],[str (wi z)]]:=rfl;rw[w1]at g;refine Wp.YM q mixed 19 [14,15] [152,153,154,155,156,157,158,159,160,161,162,163,164,165,166,167,168,169,170] (by kernel_rfl)
  [.ref id 0 0,.ref id 0 0,.ref id 0 0,.ref id 0 0,.ref id 0 0,v,.sl 1 [[str Zn],[str n],[str s],[str (wi z)]],.ptr [str n],str n,.sl 1 [[str Zn],[str n],[str s],[str (wi z)]],.ptr [str s],str s,int z,.agg E,.own nx3 0 1,.own (nx3+1) 0 (rows.length+1),.ref id 0 0,.ref id 0 0,.ref id 0 0] rfl
  (fun k=>match k with|0=>(hp3,nx3)|1=>(zI hp3 nx3 (some ⟨48,3,true,[E]⟩),nx3+1)|_=>(zI (vB v (zI hp3 nx3 (some ⟨48,3,true,[E]⟩))) (nx3+1) (some ⟨48,3,true,rows++[E]⟩),nx3+2)) rfl ?_ ?_ ?_
 ·intro j o B G BO k H;have B:j=0\/j=1\/j=2\/j=3\/j=4\/j=5\/j=6\/j=7\/j=8\/j=9\/j=10\/j=11\/j=12\/j=13\/j=14\/j=15\/j=16\/j=17\/j=18:=by omega
  have H:k=0\/k=1\/k=2:=by simp at H;omega
  rcases B with rfl|rfl|rfl|rfl|rfl|rfl|rfl|rfl|rfl|rfl|rfl|rfl|rfl|rfl|rfl|rfl|rfl|rfl|rfl<;>(injection G with G;subst G)<;>first
   |exact absurd (by decide) BO
   |(rcases H with rfl|rfl|rfl<;>simp[f,g,U,x,Q,qi,qJ,<-w,yp.V,show¬id=nx3 by omega,show¬id=nx3+1 by omega])
 ·intro k j o H G;have RA:k=0/\j=14\/k=1/\j=15:=by
   have:=(zd.1 H).1;have hk2:k=0\/k=1:=by simp at this;omega
   rcases hk2 with rfl|rfl<;>simp at H<;>omega
  rcases RA with⟨rfl,rfl⟩|⟨rfl,rfl⟩<;>(injection G with G;subst G)
  ·simp[<-w,yp.V,zy,zR,zw]
  ·rw[<-w]at D;simp only[yp.V]at D;simp[<-w,yp.V,D]
 ·have hm1:¬id=nx3:=by omega
  have R:¬id=nx3+1:=by omega
  obtain⟨y,p⟩:=yb (zI (vB v (zI hp3 nx3 (some ⟨48,3,true,[E]⟩))) (nx3+1) (some ⟨48,3,true,rows++[E]⟩));have S:y id=some ⟨tR,5,false,[[v,.nil,.nil,int r.part,int 0]]⟩:=by rw[<-p,zc _ _ _ _ R,Q,zc _ _ _ _ hm1];exact x
  have hnA:y (nx3+1)=some ⟨48,3,true,rows++[E]⟩:=by rw[<-p];simp
  have hfA:∀j,j<n0->y j=Y j:=fun j B=>by rw[<-p,zc _ _ _ _ (by omega),Jq A _ B,zc _ _ _ _ (by omega)];exact hfu j B
  refine kJ.last q rfl rfl (by simp) (r:=(.qZ [],zI y id (some (Qr (.own (nx3+1) 0 (rows.length+1)) .nil .nil r.part)),nx3+2)) (by simp only[p];simp[S,Qr]) ?_
  simp only[w5,p];clear D p;refine Wp.cut q (fun σ' Y' Z'=>σ' 8=q6 true/\zI y id (some (Qr (.own (nx3+1) 0 (rows.length+1)) .nil .nil 0))=Y'/\nx3+2=Z') (by simp[f,l,W,Qr]) ?_;rintro σ2 _ _ ⟨k8,rfl,rfl⟩;refine Wp.of q ?_;simp[k8,f49];refine⟨rfl,by omega,⟨by omega,by omega,.inl ⟨rfl,rfl,rfl,.own (nx3+1) 0 (rows.length+1),by rw[qU],⟨.inr ⟨nx3+1,by omega,?_,?_⟩,fun i k e=>by injection e with e _ _;omega⟩⟩⟩,fun j B=>?_⟩
  ·rw[yZ,m,zt];rfl
  ·rw[zc _ _ _ _ (fun e=>R e.symm),hnA,yZ,m,<-w];rfl
  ·rw[zc _ _ _ _ (by omega)];exact hfA j B
set_option maxHeartbeats 8000000 in
theorem UA{r:cE}{n s:za}{z:Int}(hn:qS n=true)(hs:Qw s=true)(hz:kL z)(E:r.part=0\/r.part=1)(La:r.hs.length<=zD){n0 id:Nat}{Y:Hp}{Z:Nat}(hn0:n0<=Z)(T:Bu n0 id r Y Z) :
  ZL True prog 49 [.ref id 0 0,.sl 1 (zA [xQ,n,s,wi z])] Y Z (dQ n0 id Z ⟨r.ls,r.hs++[⟨n,s,z,[]⟩],[],1⟩ Y):=by
 refine ZL.Lc (C:=Ux) (fn:=f49) (code:=_) func49 rfl (by simp[f49]) ?_;have q:=sP;have nc:zD=268435456:=rfl;have hid0:=T.1;have J:=T.2.1;refine Wp.Ge T E fun Y1 v hid U M=>?_
 clear T;obtain⟨L,hL⟩:=yb (O.sl 3 (r.ls.map yp.V));obtain⟨rows,l⟩:=yb (r.hs.map y7.V);have F:rows.length=r.hs.length:=by rw[<-l,wx]
 rw[hL]at hid;rw[l]at U;refine Wp.cut q (fun σ Y' Z'=>σ 0=.ref id 0 0/\σ 1=.sl 1 (zA [xQ,n,s,wi z])/\Y1=Y'/\Z=Z') (by simp) ?_;rintro σ _ _ ⟨d,f,rfl,rfl⟩;refine Wp.cut q (fun σ' Y' Z'=>σ' 0=.ref id 0 0/\σ' 1=.sl 1 (zA [xQ,n,s,wi z])/\σ' 5=int 1/\Z'=Z+1/\∃o,Y'=zI Y1 Z o) (by simp[d,f,zA,xQ,wm0,wm1,wm2,wlH];exact⟨_,rfl⟩) ?_
 clear d f σ;rintro σ Y2 _ ⟨d,f,g,rfl,o,rfl⟩;have a:zI Y1 Z o id=some (Qr L v .nil r.part):=by rw[zc _ _ _ _ (by omega)];exact hid
 have y:xX n0 (zI Y1 Z o) (Z+1) 50 4 v rows:=U.kO (by omega) fun i k e=>zc _ _ _ _ (by
  rcases U.1 with⟨h,_⟩|⟨i',h,h2,_⟩
  ·rw[h]at e;cases e
  ·rw[h2]at e;injection e with e _ _;omega)
 have hfu:∀j,j<n0->zI Y1 Z o j=Y j:=fun j A=>(zc _ _ _ _ (by omega)).trans (M j A)
 have zha:id<Z+1:=by omega
 have hn1:n0<=Z+1:=by omega
 have hnx1:Z<=Z+1:=by omega
 generalize zI Y1 Z o=hp3 at *;clear hid U M J hn0;generalize Z+1=nx3 at *;refine Wp.cut q (fun σ' Y' Z'=>σ' 0=.ref id 0 0/\σ' 1=.sl 1 (zA [xQ,n,s,wi z])/\σ' 5=int 1/\σ' 6=q6 false/\hp3=Y'/\nx3=Z') (by simp only[Qr]at a;rcases E with e|e<;>rw[e]at a<;>simp[d,f,g,a]) ?_
 clear d f g σ;rintro σ _ _ ⟨d,f,g,h6,rfl,rfl⟩;refine Wp.cut q (fun σ' Y' Z'=>σ' 0=.ref id 0 0/\σ' 1=.sl 1 (zA [xQ,n,s,wi z])/\σ' 5=int 1/\hp3=Y'/\nx3=Z') (by simp only[Qr]at a;rcases E with e|e<;>rw[e]at a<;>simp[d,f,g,h6,a]) ?_
 clear d f g h6 σ;rintro σ _ _ ⟨d,f,g,rfl,rfl⟩;have c1:=fun Y Z=>Jo n Y Z hn
 have c2:=fun Y Z=>mi s Y Z hs
 have c3:=fun Y Z=>Vp z Y Z hz
 refine Wp.seq (Wp.block ?_);refine Wp.cut q (fun σ' Y' Z'=>σ' 0=.ref id 0 0/\σ' 1=.sl 1 (zA [xQ,n,s,wi z])/\σ' 5=int 1/\σ' 54=q6 false/\hp3=Y'/\nx3=Z') (by simp[d,f,g,zA,xQ]) ?_;clear d f g σ;rintro σ _ _ ⟨d,f,g,N,rfl,rfl⟩;refine Wp.cond (b:=false) (by simp[N]) ?_;rw[zj (by decide)];refine Wp.mono (K:=fun e u=>e=.normal/\u.σ 0=.ref id 0 0/\u.σ 1=.sl 1 (zA [xQ,n,s,wi z])/\u.σ 5=int 1/\hp3=u.Y/\nx3=u.Z) (Wp.of q (by simp[d,f,g,zA,xQ,c1,c2])) ?_;clear d f g N σ;rintro e ⟨σ,hp4,nx4⟩ ⟨rfl,d,f,g,e1,e2⟩;simp only at d f g e1 e2;subst e1;subst e2;simp only[jW,w5];refine Wp.cut q (fun σ' Y' Z'=>σ' 0=.ref id 0 0/\σ' 1=.sl 1 (zA [xQ,n,s,wi z])/\σ' 5=int 1/\σ' 7=int z/\σ' 8=q6 true/\hp3=Y'/\nx3=Z') (by simp[d,f,g,zA,c3]) ?_;clear d f g σ;rintro σ _ _ ⟨d,f,g,W,X,rfl,rfl⟩;refine Wp.seq ?_;refine Wp.cut q (fun σ' Y' Z'=>σ' 0=.ref id 0 0/\σ' 1=.sl 1 (zA [xQ,n,s,wi z])/\σ' 5=int 1/\σ' 7=int z/\σ' 8=q6 true/\σ' 151=q6 false/\hp3=Y'/\nx3=Z') (by simp[d,f,g,W,X,zA,xQ]) ?_;clear d f g W X σ;rintro σ _ _ ⟨d,f,g,W,X,Q,rfl,rfl⟩;refine Wp.cond (b:=false) (by simp[Q]) ?_;rw[zj (by decide)];obtain⟨B,w⟩:=yb (Wl ⟨n,s,z,[]⟩ .nil);have D:=qR.jc (P:=prog) (t:=23) (c:=B) y.1 el23 sz50 by50 ze50 rfl (by omega) (by rw[F];unfold maxLen;omega) (by rw[F];omega);have R:=fun Y'=>qK y.1 Y' id (vc y.1 a rfl)
 have x:=a;simp only[Qr]at x;have w1:zA [xQ,n,s,wi z]=[[str xQ],[str n],[str s],[str (wi z)]]:=rfl;rw[w1]at f;refine Wp.YM q mixed 19 [14,15] [171,172,173,174,175,176,177,178,179,180,181,182,183,184,185,186,187,188,189] (by kernel_rfl)
  [.ref id 0 0,.ref id 0 0,.ref id 0 0,.ref id 0 0,.ref id 0 1,v,.sl 1 [[str xQ],[str n],[str s],[str (wi z)]],.ptr [str n],str n,.sl 1 [[str xQ],[str n],[str s],[str (wi z)]],.ptr [str s],str s,int z,.agg B,.own nx3 0 1,.own (nx3+1) 0 (rows.length+1),.ref id 0 0,.ref id 0 0,.ref id 0 1] rfl
  (fun k=>match k with|0=>(hp3,nx3)|1=>(zI hp3 nx3 (some ⟨50,4,true,[B]⟩),nx3+1)|_=>(zI (vB v (zI hp3 nx3 (some ⟨50,4,true,[B]⟩))) (nx3+1) (some ⟨50,4,true,rows++[B]⟩),nx3+2)) rfl ?_ ?_ ?_
 ·intro j o A G BO k I;have A:j=0\/j=1\/j=2\/j=3\/j=4\/j=5\/j=6\/j=7\/j=8\/j=9\/j=10\/j=11\/j=12\/j=13\/j=14\/j=15\/j=16\/j=17\/j=18:=by omega
  have I:k=0\/k=1\/k=2:=by simp at I;omega
  rcases A with rfl|rfl|rfl|rfl|rfl|rfl|rfl|rfl|rfl|rfl|rfl|rfl|rfl|rfl|rfl|rfl|rfl|rfl|rfl<;>(injection G with G;subst G)<;>first
   |exact absurd (by decide) BO
   |(rcases I with rfl|rfl|rfl<;>simp[d,f,W,x,R,qi,qJ,<-w,Wl,show¬id=nx3 by omega,show¬id=nx3+1 by omega])
 ·intro k j o I G;have RA:k=0/\j=14\/k=1/\j=15:=by
   have:=(zd.1 I).1;have hk2:k=0\/k=1:=by simp at this;omega
   rcases hk2 with rfl|rfl<;>simp at I<;>omega
  rcases RA with⟨rfl,rfl⟩|⟨rfl,rfl⟩<;>(injection G with G;subst G)
  ·simp[<-w,Wl,zy,zR,zw]
  ·rw[<-w]at D;simp only[Wl]at D;simp[<-w,Wl,D]
 ·have hm1:¬id=nx3:=by omega
  have H:¬id=nx3+1:=by omega
  obtain⟨m,p⟩:=yb (zI (vB v (zI hp3 nx3 (some ⟨50,4,true,[B]⟩))) (nx3+1) (some ⟨50,4,true,rows++[B]⟩));have S:m id=some ⟨tR,5,false,[[L,v,.nil,int r.part,int 0]]⟩:=by rw[<-p,zc _ _ _ _ H,R,zc _ _ _ _ hm1];exact x
  have hnA:m (nx3+1)=some ⟨50,4,true,rows++[B]⟩:=by rw[<-p];simp
  have hfA:∀j,j<n0->m j=Y j:=fun j A=>by rw[<-p,zc _ _ _ _ (by omega),Jq y _ A,zc _ _ _ _ (by omega)];exact hfu j A
  refine kJ.last q rfl rfl (by simp) (r:=(.qZ [],zI m id (some (Qr L (.own (nx3+1) 0 (rows.length+1)) .nil r.part)),nx3+2)) (by simp only[p];simp[S,Qr]) ?_
  simp only[w5,p];clear D p;refine Wp.cut q (fun σ' Y' Z'=>σ' 8=q6 true/\zI m id (some (Qr L (.own (nx3+1) 0 (rows.length+1)) .nil 1))=Y'/\nx3+2=Z') (by simp[d,g,X,Qr]) ?_;rintro σ2 _ _ ⟨k8,rfl,rfl⟩;have hob:Kg (zI m id (some (Qr L (.own (nx3+1) 0 (rows.length+1)) .nil 1))) (.own (nx3+1) 0 (rows.length+1))=zI (zI m id (some (Qr L (.own (nx3+1) 0 (rows.length+1)) .nil 1))) (nx3+1) (some ⟨tH,4,false,rows++[B]⟩):=by simp[Kg,hnA,show¬nx3+1=id by omega]
  refine Wp.opened (.own (nx3+1) 0 (rows.length+1)) ?_;rw[hob];refine Wp.of q ?_;simp[k8,f49];refine⟨rfl,by omega,⟨by omega,by omega,.inr (.inl ⟨rfl,rfl,r.hs,⟨n,s,z,[]⟩,nx3+1,.nil,rfl,H,by omega,by omega,?_,?_,.nil _ _ _ _ _⟩)⟩,fun j A=>?_⟩
  ·rw[zc _ _ _ _ H,qU,hL,F]
  ·rw[qU,l,<-w]
  ·rw[zc _ _ _ _ (by omega),zc _ _ _ _ (by omega)];exact hfA j A
noncomputable abbrev nR:Ctx:=qf prog [(81,FA),(47,hP (WY CY fun _ _=>True)),(28,j5 [] I1)]
theorem ct:Gd nR:=qD mixed ⟨po,Wb,ZO,trivial⟩
theorem Bw{α:Type}{a b:List α}{x y:α}(h:a++[x]=b++[y]):a=b/\x=y:=by have:=List.append_inj' h rfl;exact⟨this.1,by simpa using this.2⟩
set_option maxHeartbeats 8000000 in
theorem UC{r:List yp}{hs:List y7}{h:y7}{t:za}(J:qS t=true)(K:hs.length<=zD)(M:h.zr.length<=zD){n0 id:Nat}{Y:Hp}{Z:Nat}(N:n0<=Z)(Q:Bu n0 id ⟨r,hs++[h],[],1⟩ Y Z) :
  ZL True prog 48 [.ref id 0 0,str t] Y Z (dQ n0 id Z ⟨r,hs++[⟨h.name,h.we,h.buckets,h.zr++[t]⟩],[],1⟩ Y):=by
 refine ZL.Lc (C:=nR) (fn:=f48) (code:=_) func48 rfl (by simp[f48]) ?_;have F:=ct;have G:zD=268435456:=rfl;obtain⟨l,H,s|h1|u⟩:=Q
 ·have:=s.1;simp at this
 case inr.inr=>obtain⟨u,_⟩:=u;simp at u
 obtain⟨_,_,R,hd,m,q,v,n,w,S,hid,x,d⟩:=h1;obtain⟨rfl,rfl⟩:=Bw v;have y:=vc d.1 x rfl;have z:=vc d.1 hid rfl;obtain⟨L,I⟩:=yb (O.sl 3 (r.map yp.V));obtain⟨rows,a⟩:=yb (hs.map y7.V);have o:rows.length=hs.length:=by rw[<-a,wx]
 simp only[I]at hid;rw[a]at x;have b:=hid;have p:=x;simp only[Qr]at b;simp only[Wl]at p;have f:(rows++[[str h.name,str h.we,int h.buckets,q]])[hs.length]?=some [str h.name,str h.we,int h.buckets,q]:=by rw[qo (by omega),o];simp
 have A:=wN (hs.length:Int);obtain⟨ys,g⟩:=yb (zA h.zr);have T:ys.length=h.zr.length:=by rw[<-g];simp[zA]
 rw[g]at d;have B:=qR.jc (P:=prog) (t:=39) (c:=[str t]) d.1 el39 sz9 by9 ze9 rfl (by omega) (by unfold maxLen;omega) (by omega);have D:=fun Y'=>qK d.1 Y' m y
 have E:=fun Y'=>qK d.1 Y' id z
 have U:=fun Y Z=>Jo t Y Z J
 refine Wp.cut F (fun σ Y' Z'=>σ 0=.ref id 0 0/\σ 1=str t/\Y=Y'/\Z=Z') (by simp) ?_;rintro σ _ _ ⟨s,h1,rfl,rfl⟩;refine Wp.seq (Wp.of F ?_);simp[s,h1,b,p,f,A,B,D,U,zy,zR,zw,o,show¬m=Z by omega,show¬m=Z+1 by omega,f48];have W:zA (h.zr++[t])=ys++[[str t]]:=by rw[<-g];simp[zA]
 refine⟨rfl,by omega,⟨l,by omega,.inr (.inl ⟨rfl,rfl,hs,⟨h.name,h.we,h.buckets,h.zr++[t]⟩,m,.own (Z+1) 0 (ys.length+1),rfl,n,w,by omega,?_,?_,?_⟩)⟩,fun j X=>?_⟩
 ·rw[zc _ _ _ _ n,zc _ _ _ _ (by omega),E,zc _ _ _ _ (by omega),I];exact hid
 ·rw[qU,a];rfl
 ·rw[W];refine⟨.inr ⟨Z+1,by omega,by simp,?_⟩,fun i k e=>by injection e with e _ _;omega⟩;rw[zc _ _ _ _ (by omega),qU]
 ·rw[zc _ _ _ _ (by omega),zc _ _ _ _ (by omega),Jq d _ X,zc _ _ _ _ (by omega)]
theorem Et{i:List yp}{hs:List y7}{xs:List Xp}{x:Xp}{p n0 id:Nat}{Y:Hp}{Z:Nat}(e:p=3\/p=4\/p=5)(j:Bu n0 id ⟨i,hs,xs++[x],p⟩ Y Z) :
  n0<=id/\id<Z/\∃m a b,id≠m/\n0<=m/\m<Z/\Y id=some (Qr (.sl 3 (i.map yp.V)) (.sl 4 (hs.map y7.V)) (.own m 0 (xs.length+1)) p) /\
   Y m=some ⟨tX,13,false,xs.map Xp.V++[yE x.name x.w9 x.flag (if p=3 then ZJ else x.cond.V) x.we a b]⟩/\xX n0 Y Z 61 3 a (x.ja.map kc)/\xX n0 Y Z 64 2 b (x.zQ.map yk.V)/\(p≠5->a=.nil/\b=.nil):=by
 obtain⟨c,d,f|h1|k⟩:=j
 ·have f:=f.1;simp only at f;omega
 ·have h1:=h1.1;simp only at h1;omega
 ·obtain⟨_,l,y,m,a,b,g,h⟩:=k;obtain⟨rfl,rfl⟩:=Bw g;exact⟨c,d,m,a,b,h⟩
set_option maxHeartbeats 8000000 in
theorem UD{I:List yp}{hs:List y7}{xs:List Xp}{n l f s:za}{c:Cnd}(L:c.check=0)(z:(vY c).2=0)(M:xs.length<=zD){n0 id:Nat}{Y:Hp}{Z:Nat}(N:n0<=Z)(P:Bu n0 id ⟨I,hs,xs++[N8 n l f s],3⟩ Y Z) :
  ZL True prog 48 [.ref id 0 0,str ([105,102,32]++(vY c).1)] Y Z (dQ n0 id Z ⟨I,hs,xs++[⟨n,l,f,c,s,[],[]⟩],4⟩ Y):=by
 refine ZL.Lc (C:=nR) (fn:=f48) (code:=_) func48 rfl (by simp[f48]) ?_;have g:=ct;have h:zD=268435456:=rfl;obtain⟨k,o,m,qa,qp,p,A,B,hid,v,Q,R,q⟩:=Et (.inl rfl) P;obtain⟨rfl,rfl⟩:=q (by decide);have D:=AA c;obtain⟨w,E⟩:=yb ((vY c).1);rw[E]at D;have r:∀Y Z,hP (WY CY fun _ _=>True) [str ([105,102,32]++w),str [105,102,32]] Y Z=some (.qZ [str w,q6 true],Y,Z):=fun Y Z=>by rw[VO _ _ Y Z (by rw[zt,h];simp;omega) (by rw[h];simp)];simp
 rw[zl rfl]at v;have t:(xs.map Xp.V++[yE n l f ZJ s .nil .nil])[xs.length]?=some (yE n l f ZJ s .nil .nil):=by rw[qo (by simp)];simp
 have u:(xs.map Xp.V++[yE n l f ZJ s .nil .nil]).set xs.length (yE n l f c.V s .nil .nil)=xs.map Xp.V++[yE n l f c.V s .nil .nil]:=by rw[vu _ _ (by simp)];simp
 have a:=hid;simp only[Qr]at a;have F:=wN (xs.length:Int);simp only[N8]at v;have G:=v;have S:(xs.map Xp.V++[yE n l f ZJ s .nil .nil]).length=xs.length+1:=by simp
 rw[E];refine Wp.cut g (fun σ Y' Z'=>σ 0=.ref id 0 0/\σ 1=str ([105,102,32]++w)/\Y=Y'/\Z=Z') (by simp) ?_;rintro σ _ _ ⟨d,e,rfl,rfl⟩;refine Wp.cut g (fun σ' Y' Z'=>σ' 0=.ref id 0 0/\σ' 1=str ([105,102,32]++w)/\Y=Y'/\Z=Z') (by simp[d,e,a]) ?_;clear d e σ;rintro σ _ _ ⟨d,e,rfl,rfl⟩;refine Wp.cut g (fun σ' Y' Z'=>σ' 0=.ref id 0 0/\σ' 1=str ([105,102,32]++w)/\Y=Y'/\Z=Z') (by simp[d,e,a]) ?_;clear d e σ;rintro σ _ _ ⟨d,e,rfl,rfl⟩;refine Wp.cut g (fun σ' Y' Z'=>σ' 0=.ref id 0 0/\σ' 1=str ([105,102,32]++w)/\σ' 6=.ref m xs.length 0/\Y=Y'/\Z=Z') (by simp[d,e,a,G,F]) ?_;clear d e σ;rintro σ _ _ ⟨d,e,i,rfl,rfl⟩;refine Wp.seq ?_;refine Wp.cut g (fun σ' Y' Z'=>σ' 0=.ref id 0 0/\σ' 6=.ref m xs.length 0/\σ' 7=str w/\σ' 8=q6 true/\Y=Y'/\Z=Z') (by simp at r;simp[d,e,i,r]) ?_;clear d e i σ;rintro σ _ _ ⟨d,i,y,J,rfl,rfl⟩;refine Wp.cut g (fun σ' Y' Z'=>σ' 0=.ref id 0 0/\σ' 6=.ref m xs.length 0/\σ' 7=str w/\σ' 72=q6 true/\Y=Y'/\Z=Z') (by simp[d,i,y,J]) ?_;clear d i y J σ;rintro σ _ _ ⟨d,i,y,H,rfl,rfl⟩;refine Wp.cond (b:=true) (by simp[H]) ?_;rw[zl rfl];refine Wp.seq (Wp.region ?_);show kJ True nR _ _ (List.range' 0 9++(9::(List.range' 10 2++[]))) _ _;refine kJ.Xn g 0 9 (by decide) (by decide) ?_;simp[d,i,y,a];refine kJ.pU rfl (by simp[Region.wanted,xr]) (fun x T=>by cases T;decide) ⟨_,func82,by kernel_rfl,by kernel_rfl⟩ (vs:=[.ref id 0 0,.ref m xs.length 0,str w]) (by simp[wK,AM.get]) (E ▸ Uv L z hid o v B p t) ?_;rintro _ Y' Z' ⟨rfl,U,K,W,X⟩;refine kJ.Xn (l2:=[]) g 10 2 (by decide) (by decide) ?_;simp[put];refine kJ.nil ?_;simp only[WU,w5];refine Wp.of g ?_;simp[f48];rw[u]at K;refine⟨rfl,U,⟨k,by omega,.inr (.inr ⟨.inr (.inl rfl),xs,⟨n,l,f,c,s,[],[]⟩,m,.nil,.nil,rfl,p,A,by omega,W,by rw[zj (show¬(4:Nat)=3 by decide)];exact K,.nil _ _ _ _ _,.nil _ _ _ _ _,fun _=>⟨rfl,rfl⟩⟩)⟩,fun j hj=>X j (by omega) (by omega) (by omega)⟩
theorem UE{w:za}(h:([105,102,32]:za).isPrefixOf w=false)(a:w.length<=zD)(Y:Hp)(Z:Nat):hP (WY CY fun _ _=>True) [str w,str [105,102,32]] Y Z=some (.qZ [str w,q6 false],Y,Z):=by rw[VO _ _ Y Z a (by simp[zD]),h];simp
noncomputable abbrev inzC:Code:=f48.body.getD .skip
set_option maxHeartbeats 8000000 in
theorem pI{D:List yp}{hs:List y7}{xs:List Xp}{x:Xp}{p:Nat}(g:p=4\/p=5)(E:xs.length<=zD){d:List za}(r:d≠[])(s:∀w∈d,(32:UInt8) ∉ w)(k:([105,102,32]:za).isPrefixOf (Lib.join d [32])=false)(l:(Lib.join d [32]).length<=zD){id m:Nat}{F G:O}{Y:Hp}{Z:Nat}
  (A:id<Z) (H:m<Z) (I:id≠m) (hid:Y id=some (Qr (.sl 3 (D.map yp.V)) (.sl 4 (hs.map y7.V)) (.own m 0 (xs.length+1)) p)) (J:Y m=some ⟨tX,13,false,xs.map Xp.V++[yE x.name x.w9 x.flag x.cond.V x.we F G]⟩) {K:Exit->St->Prop}
  (h:∀(σ:Nat->O) (o:Option Blk),σ 0=.ref id 0 0->σ 6=.ref m xs.length 0->σ 9=.sl 1 (zA d)->Wp True nR f48.ntmps (.seq ((Vt 0 inzC).getD .skip) (.seq ((mn 16 inzC).getD .skip) .ret)) ⟨σ,zI Y Z o,Z+1⟩ K) :
  Wp True nR f48.ntmps inzC ⟨kM [.ref id 0 0,str (Lib.join d [32])],Y,Z⟩ K:=by
 have j:=ct;have B:zD=268435456:=rfl;obtain⟨w,n⟩:=yb (Lib.join d [32]);have u:=UE (w:=w) (by rw[<-n];exact k) (by rw[<-n];exact l);have v:∀Y Z,j5 [] I1 [str w,str [32]] Y Z=some (.own Z 0 d.length,zI Y Z (some (ZT d)),Z+1):=fun Y Z=>by rw[ZF w [32] Y Z (by rw[<-n];exact l) (by simp[zD]) (by simp),show qT w [32]=d by rw[<-n];exact Vh d r s]
 have e:=hid;simp only[Qr]at e;have z:=wN (xs.length:Int);rw[n];refine Wp.cut j (fun σ Y' Z'=>σ 0=.ref id 0 0/\σ 1=str w/\Y=Y'/\Z=Z') (by simp) ?_;rintro σ _ _ ⟨a,c,rfl,rfl⟩;refine Wp.cut j (fun σ' Y' Z'=>σ' 0=.ref id 0 0/\σ' 1=str w/\Y=Y'/\Z=Z') (by rcases g with rfl|rfl<;>simp[a,c,e]) ?_;clear a c σ;rintro σ _ _ ⟨a,c,rfl,rfl⟩;refine Wp.cut j (fun σ' Y' Z'=>σ' 0=.ref id 0 0/\σ' 1=str w/\Y=Y'/\Z=Z') (by rcases g with rfl|rfl<;>simp[a,c,e]) ?_;clear a c σ;rintro σ _ _ ⟨a,c,rfl,rfl⟩;refine Wp.cut j (fun σ' Y' Z'=>σ' 0=.ref id 0 0/\σ' 1=str w/\σ' 6=.ref m xs.length 0/\Y=Y'/\Z=Z') (by simp[a,c,e,J,z]) ?_;clear a c σ;rintro σ _ _ ⟨a,c,f,rfl,rfl⟩;refine Wp.seq ?_;refine Wp.cut j (fun σ' Y' Z'=>σ' 0=.ref id 0 0/\σ' 1=str w/\σ' 6=.ref m xs.length 0/\σ' 8=q6 false/\Y=Y'/\Z=Z') (by simp[a,c,f,u]) ?_;clear a c f σ;rintro σ _ _ ⟨a,c,f,C,rfl,rfl⟩;refine Wp.cut j (fun σ' Y' Z'=>σ' 0=.ref id 0 0/\σ' 1=str w/\σ' 6=.ref m xs.length 0/\σ' 72=q6 false/\Y=Y'/\Z=Z') (by simp[a,c,f,C]) ?_;clear a c f C σ;rintro σ _ _ ⟨a,c,f,q,rfl,rfl⟩;refine Wp.cond (b:=false) (by simp[q]) ?_;rw[zj (by decide)];refine Wp.of j ?_;simp only[KS,w5];refine Wp.cut j (fun σ' Y' Z'=>σ' 0=.ref id 0 0/\σ' 6=.ref m xs.length 0/\σ' 9=.own Z 0 d.length/\zI Y Z (some (ZT d))=Y'/\Z+1=Z') (by simp[a,c,f,v]) ?_;clear a c f q σ;rintro σ _ _ ⟨a,f,L,rfl,rfl⟩;refine Wp.frozen (t:=9) (y:=.sl 1 (zA d)) (Y1:=zI (zI Y Z (some (ZT d))) Z none) aO.id (by rw[L];simp[AM.freeze,zz,z7,qn,ZT,zA];exact qy (by simp)) ?_
 rw[show zI (zI Y Z (some (ZT d))) Z none=zI Y Z none by funext i;unfold zI;split<;>rfl];exact h _ none (by simp[a]) (by simp[f]) (by simp)
theorem Iw{n0 n1:Nat}{Y:Hp}{Z e s:Nat}{v:O}{xs:List zb}(h:xX n1 Y Z e s v xs)(a:n0<=n1):xX n0 Y Z e s v xs:=⟨h.1,fun id n e=>by have:=h.2 id n e;omega⟩
theorem Ix{Y:Hp}{Z e s f j:Nat}{v g:O}{xs c:List zb}(h:qR Y Z e s v xs)(b:qR Y Z f j g c)(d:e≠f){id n:Nat}(k:v=.own id 0 n):∀i,g≠.own id 0 i:=by
 rintro i rfl;subst k;rcases h with⟨h,_⟩|⟨p,_,h,l⟩
 ·cases h
 rcases b with⟨b,_⟩|⟨q,_,b,a⟩
 ·cases b
 injection h with m _ _;injection b with o _ _;subst m;subst o;rw[l]at a;injection a with a;injection a with a _ _ _;exact d a
theorem Eu{Y:Hp}{Z e s:Nat}{v:O}{xs:List zb}(h:qR Y Z e s v xs){id n:Nat}(a:v=.own id 0 n):id<Z:=by
 subst a;rcases h with⟨h,_⟩|⟨b,c,h,_⟩
 ·cases h
 ·injection h with d _ _;omega
set_option maxHeartbeats 8000000 in
theorem UF{D:List yp}{hs:List y7}{xs:List Xp}{n l f s:za}{c:Cnd}{a:List Rg}(R:Ko 0 a)(E:a.length<=200)(F:xs.length<=zD){n0 id:Nat}{Y:Hp}{Z:Nat}(S:n0<=Z)(T:Bu n0 id ⟨D,hs,xs++[⟨n,l,f,c,s,[],[]⟩],4⟩ Y Z)(G:∀w∈[97,114,109,115]::a.map Q2,(32:UInt8) ∉ w)(H:(Lib.join ([97,114,109,115]::a.map Q2) [32]).length<=zD) :
  ZL True prog 48 [.ref id 0 0,str (Lib.join ([97,114,109,115]::a.map Q2) [32])] Y Z (dQ n0 id Z ⟨D,hs,xs++[⟨n,l,f,c,s,a,[]⟩],5⟩ Y):=by
 refine ZL.Lc (C:=nR) (fn:=f48) (code:=_) func48 rfl (by simp[f48]) ?_;have u:=ct;have N:zD=268435456:=rfl;obtain⟨i,k,m,qa,qp,g,I,J,hid,y,U,W,q⟩:=Et (.inr (.inl rfl)) T;obtain⟨rfl,rfl⟩:=q (by decide);rw[zj (by decide)]at y;refine pI (p:=4) (.inl rfl) F (by simp) G (by rw[Jk];rfl) H k J g hid y fun σ o z A B=>?_
 simp only at y;have K:zI Y Z o m=some ⟨tX,13,false,xs.map Xp.V++[yE n l f c.V s .nil .nil]⟩:=by rw[zc _ _ _ _ (by omega)];exact y
 have d:zI Y Z o id=some (Qr (.sl 3 (D.map yp.V)) (.sl 4 (hs.map y7.V)) (.own m 0 (xs.length+1)) 4):=by rw[zc _ _ _ _ (by omega)];exact hid
 have L:∀j,j<n0->zI Y Z o j=Y j:=fun j P=>zc _ _ _ _ (by omega)
 generalize zI Y Z o=hp3 at *;have r:(xs.map Xp.V++[yE n l f c.V s .nil .nil])[xs.length]?=some (yE n l f c.V s .nil .nil):=by rw[qo (by simp)];simp
 have e:=d;simp only[Qr]at e;refine Wp.seq (Wp.block ?_);refine Wp.cut u (fun σ' Y' Z'=>σ' 0=.ref id 0 0/\σ' 6=.ref m xs.length 0/\σ' 9=.sl 1 (zA ([97,114,109,115]::a.map Q2))/\σ' 86=q6 true/\hp3=Y'/\Z+1=Z') (by simp[z,A,B,zA]) ?_;clear z A B σ;rintro σ _ _ ⟨z,A,B,M,rfl,rfl⟩;refine Wp.cond (b:=true) (by simp[M]) ?_;rw[zl rfl];refine Wp.seq (Wp.region ?_);show kJ True nR _ _ (List.range' 0 10++(10::(List.range' 11 2++[]))) _ _;refine kJ.Xn u 0 10 (by decide) (by decide) ?_;simp[z,A,B,e,zA,aE];refine kJ.pU rfl (by simp[Region.wanted,xr]) (fun x X=>by cases X;decide) ⟨_,func83,by kernel_rfl,by kernel_rfl⟩ (vs:=[.ref id 0 0,.ref m xs.length 0,.sl 1 (zA (a.map Q2))]) (by simp[wK,AM.get,zA]) (Ut (Y:=hp3) (Z:=Z+1) a R E d (by omega) K (by omega) g r (by rw[yE,qH];rfl) (by simp[yE,qH])) ?_;rintro _ Y' Z' ⟨rfl,k1,⟨v,k2,Q⟩,k4,k5⟩;refine kJ.Xn (l2:=[]) u 11 2 (by decide) (by decide) ?_;simp[put];refine kJ.nil ?_;simp only[WU,w5];refine Wp.of u ?_;simp[f48];have t:(xs.map Xp.V++[yE n l f c.V s .nil .nil]).set xs.length ((yE n l f c.V s .nil .nil).set 11 v)=xs.map Xp.V++[yE n l f c.V s v .nil]:=by rw[vu _ _ (by simp)];simp[yE,qH]
 rw[t]at Q;refine⟨rfl,by omega,⟨i,by omega,.inr (.inr ⟨.inr (.inr rfl),xs,⟨n,l,f,c,s,a,[]⟩,m,v,.nil,rfl,g,I,by omega,k4,by rw[zj (show¬(5:Nat)=3 by decide)];exact Q,Iw k2 (by omega),.nil _ _ _ _ _,fun h=>absurd rfl h⟩)⟩,fun j P=>(k5 j (by omega) (by omega) (by omega)).trans (L j P)⟩
set_option maxHeartbeats 8000000 in
theorem UG{P:List yp}{hs:List y7}{xs:List Xp}{x:Xp}{p:yk}(Y1:kL p.at_)(Y2:∀s∈p.qw,kL s.1/\kL s.2)(hp3:p.qw.length<=100)(Q:xs.length<=zD)(R:x.zQ.length<=zD){n0 id:Nat}{Y:Hp}{Z:Nat}(hn0:n0<=Z)(hI:Bu n0 id ⟨P,hs,xs++[x],5⟩ Y Z)(S:∀w∈[97,116]::wi p.at_::p.qw.map Qc,(32:UInt8) ∉ w)(T:(Lib.join ([97,116]::wi p.at_::p.qw.map Qc) [32]).length<=zD) :
  ZL True prog 48 [.ref id 0 0,str (Lib.join ([97,116]::wi p.at_::p.qw.map Qc) [32])] Y Z (dQ n0 id Z ⟨P,hs,xs++[⟨x.name,x.w9,x.flag,x.cond,x.we,x.ja,x.zQ++[p]⟩],5⟩ Y):=by
 refine ZL.Lc (C:=nR) (fn:=f48) (code:=_) func48 rfl (by simp[f48]) ?_;have D:=ct;have nc:zD=268435456:=rfl;obtain⟨E,F,m,g,r,u,U,W,hid,X,G,H,hnil⟩:=Et (.inr (.inr rfl)) hI;rw[zj (by decide)]at X;refine pI (p:=5) (.inr rfl) Q (by simp) S (by rw[Jk];rfl) T F W u hid X fun σ o v y z=>?_
 have I:zI Y Z o m=some ⟨tX,13,false,xs.map Xp.V++[yE x.name x.w9 x.flag x.cond.V x.we g r]⟩:=by rw[zc _ _ _ _ (by omega)];exact X
 have d:zI Y Z o id=some (Qr (.sl 3 (P.map yp.V)) (.sl 4 (hs.map y7.V)) (.own m 0 (xs.length+1)) 5):=by rw[zc _ _ _ _ (by omega)];exact hid
 have hfu:∀j,j<n0->zI Y Z o j=Y j:=fun j hj=>zc _ _ _ _ (by omega)
 have f:xX n0 (zI Y Z o) (Z+1) 61 3 g (x.ja.map kc):=G.kO (by omega) fun i k e=>zc _ _ _ _ (by have:=Eu G.1 e;omega)
 have a:xX n0 (zI Y Z o) (Z+1) 64 2 r (x.zQ.map yk.V):=H.kO (by omega) fun i k e=>zc _ _ _ _ (by have:=Eu H.1 e;omega)
 generalize zI Y Z o=A at *;have J:(xs.map Xp.V++[yE x.name x.w9 x.flag x.cond.V x.we g r])[xs.length]?=some (yE x.name x.w9 x.flag x.cond.V x.we g r):=by rw[qo (by simp)];simp
 have l:(yE x.name x.w9 x.flag x.cond.V x.we g r)[12]?=some r:=by simp[yE,qH]
 have t:=d;simp only[Qr]at t;refine Wp.seq (Wp.block ?_);refine Wp.cut D (fun σ' Y' Z'=>σ' 0=.ref id 0 0/\σ' 6=.ref m xs.length 0/\σ' 9=.sl 1 (zA ([97,116]::wi p.at_::p.qw.map Qc))/\σ' 86=q6 false/\A=Y'/\Z+1=Z') (by simp[v,y,z,zA]) ?_;clear v y z σ;rintro σ _ _ ⟨v,y,z,K,rfl,rfl⟩;refine Wp.cond (b:=false) (by simp[K]) ?_;rw[zj (by decide)];refine Wp.cut D (fun σ' Y' Z'=>σ' 0=.ref id 0 0/\σ' 6=.ref m xs.length 0/\σ' 9=.sl 1 (zA ([97,116]::wi p.at_::p.qw.map Qc))/\σ' 103=q6 true/\A=Y'/\Z+1=Z') (by simp[v,y,z,zA]) ?_;clear v y z K σ;rintro σ _ _ ⟨v,y,z,L,rfl,rfl⟩;refine Wp.cond (b:=true) (by simp[L]) ?_;rw[zl rfl];refine Wp.seq (Wp.region ?_);show kJ True nR _ _ (List.range' 0 9++(9::(List.range' 10 2++[]))) _ _;refine kJ.Xn D 0 9 (by decide) (by decide) ?_;simp[v,y,z,t,zA,aE];refine kJ.pU rfl (by simp[Region.wanted,xr]) (fun x hx=>by cases hx;decide) ⟨_,func84,by kernel_rfl,by kernel_rfl⟩ (vs:=[.ref m xs.length 0,.sl 1 (zA (wi p.at_::p.qw.map Qc))]) (by simp[wK,AM.get,zA]) (TS (Y:=A) (Z:=Z+1) p Y1 Y2 hp3 (n0:=n0) (by omega) I (by omega) J l a R) ?_;rintro _ Y' Z' ⟨rfl,k1,q',k2,k3,k4⟩;refine kJ.Xn (l2:=[]) D 10 2 (by decide) (by decide) ?_;simp[put];refine kJ.nil ?_;simp only[WU,w5];refine Wp.of D ?_;simp[f48];have M:(xs.map Xp.V++[yE x.name x.w9 x.flag x.cond.V x.we g r]).set xs.length ((yE x.name x.w9 x.flag x.cond.V x.we g r).set 12 q')=xs.map Xp.V++[yE x.name x.w9 x.flag x.cond.V x.we g q']:=by rw[vu _ _ (by simp)];simp[yE,qH]
 rw[M]at k3;have hqi:=vc a.1 d rfl;have kid:=(k4 id (by omega) u fun q c=>by rw[l]at c;injection c with c;subst c;exact hqi).trans d;have kqa:xX n0 Y' Z' 61 3 g (x.ja.map kc):=by
  refine⟨?_,f.2⟩;rcases f.1 with⟨e1,N⟩|⟨i1,e1,N,B⟩
  ·exact .inl ⟨e1,N⟩
  ·refine .inr ⟨i1,by omega,N,(k4 i1 e1 (fun e=>by subst e;rw[I]at B;injection B with B;injection B with B _ _ _;exact absurd B (by decide)) fun q c=>?_).trans B⟩;rw[l]at c;injection c with c;subst c
   exact Ix f.1 a.1 (by decide) N
 refine⟨rfl,by omega,⟨E,by omega,.inr (.inr ⟨.inr (.inr rfl),xs,⟨x.name,x.w9,x.flag,x.cond,x.we,x.ja,x.zQ++[p]⟩,m,g,q',rfl,u,U,by omega,kid,by rw[zj (show¬(5:Nat)=3 by decide)];exact k3,kqa,k2,fun h=>absurd rfl h⟩)⟩,fun j hj=>(k4 j (by omega) (by omega) fun q c n e=>?_).trans (hfu j hj)⟩;rw[l]at c;injection c with c;subst c
 have:=a.2 j n e;omega
theorem cu{n0:Nat}{Y:Hp}{Z e s:Nat}{v:O}{xs:List zb}(h:xX n0 Y Z e s v xs)(o:Option Blk):xX n0 (zI Y Z o) (Z+1) e s v xs:=h.kO (by omega) fun i k e=>zc _ _ _ _ (by have:=Eu h.1 e;omega)
theorem gd{n0 id:Nat}{r:cE}{Y:Hp}{Z:Nat}(h:Bu n0 id r Y Z)(o:Option Blk):Bu n0 id r (zI Y Z o) (Z+1):=by
 obtain⟨n,w,h|h|h⟩:=h
 ·obtain⟨a,b,c,v,d,e⟩:=h;exact⟨n,by omega,.inl ⟨a,b,c,v,(zc _ _ _ _ (by omega)).trans d,cu e o⟩⟩
 ·obtain⟨a,b,p,hd,m,q,c,d,e,f,g,i,j⟩:=h;exact⟨n,by omega,.inr (.inl ⟨a,b,p,hd,m,q,c,d,e,by omega,(zc _ _ _ _ (by omega)).trans g,(zc _ _ _ _ (by omega)).trans i,cu j o⟩)⟩
 ·obtain⟨a,s,x,m,t,u,c,d,e,f,g,i,j,k,l⟩:=h;exact⟨n,by omega,.inr (.inr ⟨a,s,x,m,t,u,c,d,e,by omega,(zc _ _ _ _ (by omega)).trans g,(zc _ _ _ _ (by omega)).trans i,cu j o,cu k o,l⟩)⟩
noncomputable abbrev Pb:Ctx:=qf prog [(47,hP (WY CY fun _ _=>True)),(28,j5 [] I1)]
theorem FU:Gd Pb:=qD mixed ⟨Wb,ZO,trivial⟩
set_option maxHeartbeats 8000000 in
theorem sQ{s:za}{r:cE}{n0 id:Nat}{Y:Hp}{Z:Nat}(k:s.length+2<=zD)(h:ZL True prog 48 [.ref id 0 0,str s] Y Z (dQ n0 id Z r Y)) :
  ZL True prog 29 [.ref id 0 0,str (32::32::s)] Y Z (dQ n0 id Z r Y):=by
 refine ZL.Lc (C:=Pb) (fn:=f29) (code:=_) func29 rfl (by simp[f29]) ?_;have c:=FU;have g:zD=268435456:=rfl;have e:∀Y Z,hP (WY CY fun _ _=>True) [str (32::32::s),str [32,32]] Y Z=some (.qZ [str s,q6 true],Y,Z):=fun Y Z=>by rw[VO _ _ Y Z (by simp;omega) (by simp[zD])];simp
 refine Wp.cut c (fun σ Y' Z'=>σ 0=.ref id 0 0/\σ 1=str (32::32::s)/\Y=Y'/\Z=Z') (by simp) ?_;rintro σ _ _ ⟨a,i,rfl,rfl⟩;refine Wp.seq ?_;refine Wp.cut c (fun σ' Y' Z'=>σ' 0=.ref id 0 0/\σ' 5=str s/\σ' 6=q6 true/\Y=Y'/\Z=Z') (by simp[a,i,e]) ?_;clear a i σ;rintro σ _ _ ⟨a,d,j,rfl,rfl⟩;refine Wp.cut c (fun σ' Y' Z'=>σ' 0=.ref id 0 0/\σ' 5=str s/\σ' 13=q6 true/\Y=Y'/\Z=Z') (by simp[a,d,j]) ?_;clear a d j σ;rintro σ _ _ ⟨a,d,f,rfl,rfl⟩;refine Wp.cond (b:=true) (by simp[f]) ?_;rw[zl rfl];refine Wp.seq (Wp.region ?_);show kJ True Pb _ _ (List.range' 0 2++(2::(List.range' 3 1++[]))) _ _;refine kJ.Xn c 0 2 (by decide) (by decide) ?_;simp[a,d];refine kJ.pU rfl (by simp[Region.wanted]) (fun x l=>by cases l;decide) ⟨_,func48,by kernel_rfl,by kernel_rfl⟩ (vs:=[.ref id 0 0,str s]) (by simp[wK,AM.get]) h ?_;rintro _ Y' Z' ⟨rfl,m,n,o⟩;refine kJ.Xn (l2:=[]) c 3 1 (by decide) (by decide) ?_;simp[put];refine kJ.nil ?_;simp only[WU,w5];refine Wp.of c ?_;simp[f29];exact⟨rfl,m,n,o⟩
set_option maxHeartbeats 8000000 in
theorem sR{a:za}{ws:List za}(l:a=Zn\/a=xQ\/a=QJ)(m:∀w∈a::ws,(32:UInt8) ∉ w){r:cE}{n0 id:Nat}{Y:Hp}{Z:Nat}(B:n0<=Z)(k:(Lib.join (a::ws) [32]).length<=zD)
  (h:∀o,ZL True prog 49 [.ref id 0 0,.sl 1 (zA (a::ws))] (zI Y Z o) (Z+1) (dQ n0 id (Z+1) r (zI Y Z o))) :
  ZL True prog 29 [.ref id 0 0,str (Lib.join (a::ws) [32])] Y Z (dQ n0 id Z r Y):=by
 refine ZL.Lc (C:=Pb) (fn:=f29) (code:=_) func29 rfl (by simp[f29]) ?_;have e:=FU;have z:zD=268435456:=rfl;have c:([32,32]:za).isPrefixOf (Lib.join (a::ws) [32])=false:=by rw[Jk];rcases l with rfl|rfl|rfl<;>rfl
 obtain⟨s,hs⟩:=yb (Lib.join (a::ws) [32]);have f:qT s [32]=a::ws:=by rw[<-hs];exact Vh _ (by simp) m
 rw[hs]at c k⊢;have n:∀Y Z,hP (WY CY fun _ _=>True) [str s,str [32,32]] Y Z=some (.qZ [str s,q6 false],Y,Z):=fun Y Z=>by rw[VO _ _ Y Z k (by simp[zD]),c];simp
 have p:∀Y Z,j5 [] I1 [str s,str [32]] Y Z=some (.own Z 0 (a::ws).length,zI Y Z (some (ZT (a::ws))),Z+1):=fun Y Z=>by rw[ZF s [32] Y Z k (by simp[zD]) (by simp),f]
 refine Wp.cut e (fun σ Y' Z'=>σ 0=.ref id 0 0/\σ 1=str s/\Y=Y'/\Z=Z') (by simp) ?_;rintro σ _ _ ⟨d,g,rfl,rfl⟩;refine Wp.seq ?_;refine Wp.cut e (fun σ' Y' Z'=>σ' 0=.ref id 0 0/\σ' 1=str s/\σ' 6=q6 false/\Y=Y'/\Z=Z') (by simp[d,g,n]) ?_;clear d g σ;rintro σ _ _ ⟨d,g,A,rfl,rfl⟩;refine Wp.cut e (fun σ' Y' Z'=>σ' 0=.ref id 0 0/\σ' 1=str s/\σ' 13=q6 false/\Y=Y'/\Z=Z') (by simp[d,g,A]) ?_;clear d g A σ;rintro σ _ _ ⟨d,g,q,rfl,rfl⟩;refine Wp.cond (b:=false) (by simp[q]) ?_;rw[zj (by decide)];refine Wp.of e ?_;simp only[KS,w5];refine Wp.cut e (fun σ' Y' Z'=>σ' 0=.ref id 0 0/\σ' 7=.own Z 0 (a::ws).length/\zI Y Z (some (ZT (a::ws)))=Y'/\Z+1=Z') (by simp[d,g,p]) ?_;clear d g q σ;rintro σ _ _ ⟨d,D,rfl,rfl⟩;refine Wp.frozen (t:=7) (y:=.sl 1 (zA (a::ws))) (Y1:=zI (zI Y Z (some (ZT (a::ws)))) Z none) aO.id (by rw[D];simp[AM.freeze,zz,z7,qn,ZT,zA];exact qy (by simp)) ?_
 rw[show zI (zI Y Z (some (ZT (a::ws)))) Z none=zI Y Z none by funext i;unfold zI;split<;>rfl];have u:zI σ 7 (.sl 1 (zA (a::ws))) 0=.ref id 0 0:=by simp[d]
 have v:zI σ 7 (.sl 1 (zA (a::ws))) 7=.sl 1 (zA (a::ws)):=by simp
 generalize zI σ 7 (.sl 1 (zA (a::ws)))=E at *;refine Wp.seq (Wp.region ?_);show kJ True Pb _ _ (List.range' 0 19++(19::(List.range' 20 2++[]))) _ _;have F:ZL True prog 49 [.ref id 0 0,.sl 1 (zA (a::ws))] (zI Y Z none) (Z+1) (dQ n0 id (Z+1) r (zI Y Z none)):=h none;clear h hs f c n p m;rcases l with rfl|rfl|rfl
 all_goals
  refine kJ.Xn e 0 19 (by decide) (by decide) ?_;simp[u,v,zA,Zn,xQ,QJ];refine kJ.pU rfl (by simp[Region.wanted]) (fun x G=>by cases G;decide) ⟨_,func49,by kernel_rfl,by kernel_rfl⟩ (by simp[wK,AM.get,zA,Zn,xQ,QJ]) F ?_;rintro _ Y' Z' ⟨rfl,K,H,I⟩;refine kJ.Xn (l2:=[]) e 20 2 (by decide) (by decide) ?_;simp[put];refine kJ.nil ?_;simp only[WU,w5];refine Wp.of e ?_;simp[f29];exact⟨rfl,by omega,H,fun j J=>(I j J).trans (zc _ _ _ _ (by omega))⟩
def FW(r:cE):Nat:=r.ls.length+jh (fun h:y7=>1+h.zr.length) r.hs+jh (fun x:Xp=>1+x.zQ.length) r.xs
theorem Pc{r a:cE}{s:za}(h:Lb r s a):FW a<=FW r+1:=by cases h<;>simp[FW,jh,N8]<;>omega
theorem Pd(r:cE):r.ls.length<=FW r:=by unfold FW;omega
theorem Pe(r:cE):r.hs.length<=FW r:=by have:=yD (f:=fun h:y7=>1+h.zr.length) (fun _=>by omega) r.hs;unfold FW;omega
theorem Pf(r:cE):r.xs.length<=FW r:=by have:=yD (f:=fun x:Xp=>1+x.zQ.length) (fun _=>by omega) r.xs;unfold FW;omega
theorem Pg{a b:Nat}(d:32<a){l:za}(h:wC a b l=true):(32:UInt8) ∉ l:=fun c=>by have:=zP.1 h 32 c;simp[pr]at this;omega
theorem cv{l:za}(h:qS l=true):(32:UInt8) ∉ l:=fun a=>by simp only[qS,zn]at h;have:=zP.1 h.2 32 a;simp[Wn]at this
theorem sS{l:za}(h:Qw l=true):(32:UInt8) ∉ l:=Pg (a:=33) (b:=126) (by decide) (ay h).1
theorem mL(n:Int):(32:UInt8) ∉ wi n:=Of (by decide)
theorem Ph{n m:Int}{c:UInt8}(a:c≠32):(32:UInt8) ∉ wi n++c::wi m:=fun h=>by
 rcases wy.1 h with h|h
 ·exact mL n h
 ·rcases zx.1 h with h|h
  ·exact a h.symm
  ·exact mL m h
theorem Pj{α:Type}{f:α->za}{w:za}{l:List α}(b:(32:UInt8) ∉ w)(h:∀x,(32:UInt8) ∉ f x):∀y∈w::l.map f,(32:UInt8) ∉ y:=fun y a=>by
 rcases zx.1 a with rfl|a
 ·exact b
 ·obtain⟨x,_,rfl⟩:=zZ.1 a;exact h x
theorem FY(a:za)(l:List za):Lib.join ((32::32::a)::l) [32]=32::32::Lib.join (a::l) [32]:=by rw[Jk,Jk];rfl
theorem Pk{s:za}{r v:cE}(h:Lb r s v){n0 id:Nat}{Y:Hp}{Z:Nat}(b:n0<=Z)(g:Bu n0 id r Y Z)(i:FW r<=zD)(a:s.length<=zD) :
  ZL True prog 29 [.ref id 0 0,str s] Y Z (dQ n0 id Z v Y):=by
 have J:=Pd r;have A:=Pe r;have k:=Pf r;cases h with
 |lay d hs m=>
  refine sR (.inl rfl) (fun w hw=>?_) b a fun o=>Uz d hs m rfl (zM (Pd _) i) (by omega) (gd g o)
  simp only[zx,wu,or_false]at hw;rcases hw with rfl|rfl|rfl|rfl
  ·decide
  ·exact cv d
  ·exact sS hs
  ·exact mL _
 |hld Y d hs m=>
  refine sR (.inr (.inl rfl)) (fun w hw=>?_) b a fun o=>UA d hs m (Y.imp (·.1) fun h=>h) (zM (Pe _) i) (by omega) (gd g o)
  simp only[zx,wu,or_false]at hw;rcases hw with rfl|rfl|rfl|rfl
  ·decide
  ·exact cv d
  ·exact sS hs
  ·exact mL _
 |inn B=>rename_i j hs h t;have C:=jO (f:=fun h:y7=>1+h.zr.length) (show h∈hs++[h] by simp);have D:FW ⟨j,hs++[h],[],1⟩=j.length+jh (fun h:y7=>1+h.zr.length) (hs++[h])+0:=rfl;refine sQ (by simpa using a) (UC B (by simp at A;omega) (by omega) b g)
 |exp Y d y z hs=>
  refine sR (.inr (.inr rfl)) (fun w hw=>?_) b a fun o=>Uy d y z hs (Y.imp (·.1) (·.imp (·.1) fun h=>h)) (zM (Pf _) i) (by omega) (gd g o)
  simp only[N8,zx,wu,or_false]at hw;rcases hw with rfl|rfl|rfl|rfl|rfl
  ·decide
  ·exact cv d
  ·exact cv y
  ·exact cv z
  ·exact sS hs
 |cnd E q=>
  rename_i j hs xs n l f s c;have e:Lib.join [[32,32,105,102],(vY c).1] [32]=32::32::([105,102,32]++(vY c).1):=by simp[Lib.join,List.intercalate]
  rw[e]at a⊢;exact sQ (by simpa using a) (UD E q (by simp at k;omega) b g)
 |arm F u=>rw[FY]at a⊢;exact sQ (by simpa using a) (UF F u (by simp at k;omega) b g (Pj (by decide) fun x=>Ph (by decide)) (by simp at a;omega))
 |phs G H I=>
  rename_i j hs xs x p;have C:=jO (f:=fun x:Xp=>1+x.zQ.length) (show x∈xs++[x] by simp);have D:FW ⟨j,hs,xs++[x],5⟩=j.length+jh (fun h:y7=>1+h.zr.length) hs+jh (fun x:Xp=>1+x.zQ.length) (xs++[x]):=rfl;have e:Ty p=32::32::Lib.join ([97,116]::wi p.at_::p.qw.map Qc) [32]:=FY _ _;rw[e]at a⊢;refine sQ (by simpa using a) (UG G H I (by simp at k;omega) (by omega) b g (fun w hw=>?_) (by simp at a;omega));rcases zx.1 hw with rfl|hw
  ·decide
  ·exact Pj (mL _) (fun x=>Ph (by decide)) w hw
theorem Yi(n:Int):ym (wi n):=AX _
theorem V9{l:List za}(h:∀x∈l,ym x):ym (Lib.join l [32]):=QL (by simp[ym]) h
theorem UH{t:za}(h:ym t):ym (32::32::t):=.tz (by decide) (.tz (by decide) h)
theorem Bx{α:Type}{f:α->za}{w:za}{l:List α}(b:ym w)(h:∀x,ym (f x)):∀y∈w::l.map f,ym y:=fun y a=>by
 rcases zx.1 a with rfl|a
 ·exact b
 ·obtain⟨x,_,rfl⟩:=zZ.1 a;exact h x
theorem dR{s:za}(h:Qw s=true):ym s:=lZ (a:=33) (b:=126) (by decide) (ay h).1
theorem UI{r b:cE}{s:za}(h:Lb r s b):ym s:=by
 cases h with
 |lay a hs c=>
  refine V9 fun w hw=>?_
  simp only[zx,wu,or_false]at hw;rcases hw with rfl|rfl|rfl|rfl
  ·simp[ym,Zn]
  ·exact xR a
  ·exact dR hs
  ·exact Yi _
 |hld Y a hs c=>
  refine V9 fun w hw=>?_
  simp only[zx,wu,or_false]at hw;rcases hw with rfl|rfl|rfl|rfl
  ·simp[ym,xQ]
  ·exact xR a
  ·exact dR hs
  ·exact Yi _
 |inn d=>exact UH (xR d)
 |exp Y a e f hs=>
  refine V9 fun w hw=>?_
  simp only[N8,zx,wu,or_false]at hw;rcases hw with rfl|rfl|rfl|rfl|rfl
  ·simp[ym,QJ]
  ·exact xR a
  ·exact xR e
  ·exact xR f
  ·exact dR hs
 |cnd g i=>
  refine V9 fun w hw=>?_
  simp only[zx,wu,or_false]at hw;rcases hw with rfl|rfl
  ·simp[ym]
  ·exact N7 g
 |arm k j=>exact V9 (Bx (by simp[ym]) fun x=>(Yi _).app (.tz (by decide) (Yi _)))
 |phs l m n=>
  refine V9 fun w hw=>?_
  rcases zx.1 hw with rfl|hw
  ·simp[ym]
  ·exact Bx (Yi _) (fun x=>(Yi _).app (.tz (by decide) (Yi _))) w hw
theorem UJ{r a:cE}{l:List za}(h:tA r l a):∀s∈l,ym s:=by
 induction h with
 |nil=>intro s hs;cases hs
 |cons hs _ b=>
  intro s hm;rcases zx.1 hm with rfl|hm
  ·exact UI hs
  ·exact b s hm
theorem FZ:∀{b:List za} {s:za},s∈b->s.length<=(b.flatMap (·++[10])).length
 |a::b,s,h=>by
  rw[yM,zt,zt];rcases zx.1 h with rfl|h
  ·omega
  ·have:=FZ h;omega
theorem Bz:∀(b:List za),b.length<=(b.flatMap (·++[10])).length
 |[]=>jS _
 |a::b=>by have:=Bz b;rw[yM,zt,zt,ze,ze];omega
end Go.Q
namespace Go.AM
def sliS(P:Program)(t:TypeId):Option Nat:=match P.underlying t with
 |some (.slice e)=>qN P e
 |_=>none
theorem Iy{P:Program}{Y:Hp}{t:TypeId}{s:Nat}{es:List zb}{k:Nat}(h:sliS P t=some s)(a:k<=es.length):y8 P Y t (.sl s es) none (some (some (.v (.int .i64 (k:Int)))))=some (.sl s (es.take k)):=by
 unfold sliS at h;unfold y8;split at h
 ·rename_i e b;have c:0<=(k:Int):=by omega
  rw[b];simp[h,jZ,c,a]
 ·cases h
end Go.AM
namespace Go.Q
def Drb:List (Tmp×Tmp):=[(5,2),(60,2),(61,2),(62,2),(64,2),(65,2),(66,2)]
theorem Pl{st:St}{blk:Blk}(a:st.σ 2=.ref 0 0 0)(b:st.σ 5=.ref 1 0 0)(c:∀t,60<=t->t<68->st.σ t=.qZ [])(d:st.Y 0=some blk)(f:blk.arr=false):ZW Drb st:=by
 intro p Y id i j e;have Y2:p.2=2:=by simp only[Drb,zx,wu,or_false]at Y;rcases Y with rfl|rfl|rfl|rfl|rfl|rfl|rfl<;>rfl
 rw[Y2];refine⟨0,0,0,blk,a,?_,d,f⟩;simp only[Drb,zx,wu,or_false]at Y;rcases Y with rfl|Y
 ·rw[b]at e;injection e with e _ _
  omega
 ·have:60<=p.1/\p.1<68:=by rcases Y with rfl|rfl|rfl|rfl|rfl|rfl<;>decide
  rw[c _ this.1 this.2]at e;cases e
theorem Pm:sliS prog 39=some 1:=by kernel_rfl
noncomputable abbrev UL:Ctx:=xv prog [(28,j5 [] I1)] (ia 13 Drb)
theorem F0:Gd UL:=KW _ mixed ⟨ZO,by simp,trivial⟩
def sT(b:Bk):Prop:=yT b=0/\nN b.wP=false/\(eF b).length<=500000
noncomputable def FRbk (b:Bk):zb->Option O:=qt (α:=Unit) (fun _=>[str (eF b)]) (fun _=>sT b) (fun _=>.qZ [.agg b.V,int 0,int 0])
def RbI(a:List za)(b:cE)(blk:Blk)(n:Nat)(st:St):Prop:=∃k r,k+n=a.length/\st.σ 2=.ref 0 0 0/\st.σ 5=.ref 1 0 0/\st.σ 7=str []/\st.σ 25=.sl 1 (zA a)/\st.σ 26=int a.length/\st.σ 27=int k/\(∀t,60<=t->t<68->st.σ t=.qZ []) /\
 tA r (a.drop k) b/\FW r<=k/\Bu 1 1 r st.Y st.Z/\1<=st.Z/\st.Y 0=some blk
noncomputable abbrev rbkC:Code:=(f15.body).getD .skip
set_option maxHeartbeats 8000000 in
theorem UM{f:List za}{v:cE}{blk:Blk}(K:f.length<=zD)(z:∀s∈f,s.length<=zD){st:St}(G:RbI f v blk f.length st) :
  Wp True UL f15.ntmps ((Vt 0 rbkC).getD .skip) st (fun e A=>e=.normal/\RbI f v blk 0 A):=by
 have j:=F0;have H:zD=268435456:=rfl;refine Wp.block (Wp.loop (RbI f v blk) f.length G ?_);clear G st;rintro n ⟨σ,Y,Z⟩ ⟨k,r,L,h,l,p,g,c,d,q,w,I,B,m,C⟩;simp only at h l p g c d q w I B m C;by_cases i:k<f.length
 case neg=>
  obtain rfl:k=f.length:=by omega
  refine Wp.cut j (fun σ' Y' Z'=>σ'=zI σ 28 (q6 false)/\Y=Y'/\Z=Z') (by simp[c,d]) ?_;rintro _ _ _ ⟨rfl,rfl,rfl⟩;refine Wp.seq (Wp.cond (b:=false) (by simp) ?_);rw[zj (by decide)];refine Wp.of j ?_;simp;exact⟨f.length,r,by omega,by simp[h],by simp[l],by simp[p],by simp[g],by simp[c],by simp[d],fun t u h=>by simp;rw[zc _ _ _ _ (by omega)];exact q t u h,w,I,B,m,C⟩
 obtain⟨s,o⟩:=yb (f[k]);have D:s.length<=zD:=z s (by rw[<-o];exact zo i);have M:=q8 k;have E:(zA f).length=f.length:=by simp[zA]
 rw[zg i,o]at w;obtain⟨y,J,F⟩:∃y,Lb r s y/\tA y (f.drop (k+1)) v:=by
  cases w with
  |cons a b=>exact⟨_,a,b⟩
 have N:=Pc J;have P:=Pk J m B (by omega) D;refine Wp.cut j (fun σ' Y' Z'=>σ'=zI σ 28 (q6 true)/\Y=Y'/\Z=Z') (by simp[c,d,i]) ?_;rintro _ _ _ ⟨rfl,rfl,rfl⟩;refine Wp.seq (Wp.cond (b:=true) (by simp) ?_);rw[zl rfl];refine Wp.of j ?_;simp only[KS,w5];refine Wp.seq (Wp.block ?_);refine Wp.cut j (fun σ' Y' Z'=>σ' 2=.ref 0 0 0/\σ' 5=.ref 1 0 0/\σ' 7=str []/\σ' 9=str s/\σ' 25=.sl 1 (zA f)/\σ' 26=int f.length/\σ' 27=int k/\(∀t,60<=t->t<68->σ' t=.qZ [])/\Y=Y'/\Z=Z') (by
  simp[h,l,p,g,c,d,E,i];refine⟨by simp[zA,i,o],fun t u h=>?_⟩
  repeat rw[zc _ _ _ _ (by omega)]
  exact q t u h) ?_
 clear h l p g c d q σ;rintro σ _ _ ⟨h,l,p,Q,g,c,d,q,rfl,rfl⟩;refine Wp.seq (Wp.region ?_);show kJ True UL _ _ (List.range' 0 2++(2::(List.range' 3 1++[]))) _ _;refine kJ.Xn j 0 2 (by decide) (by decide) ?_;simp[l,Q];refine kJ.pU rfl (by simp[Region.wanted]) (fun x R=>by cases R;decide) ⟨_,func29,by kernel_rfl,by kernel_rfl⟩ (by simp[wK,AM.get]) P ?_;rintro _ Y' Z' ⟨rfl,U,S,T⟩;refine kJ.Xn (l2:=[]) j 3 1 (by decide) (by decide) ?_;simp[put];refine kJ.nil ?_;simp only[WU,w5];refine Wp.cond (b:=false) (by simp) ?_;rw[zj (by decide)];refine Wp.of j ?_;simp;refine Wp.of j ?_;simp[d,M];refine⟨n-1,by omega,k+1,y,by omega,by simp[h],by simp[l],by simp[p],by simp[g],by simp[c],by simp,fun t u h=>?_,F,by omega,S,by show 1<=Z';omega,(T 0 (by omega)).trans C⟩;simp
 repeat rw[zc _ _ _ _ (by omega)]
 exact q t u h
theorem Pn(b:Bk)(h:sT b)(Y:Hp)(Z:Nat):hP (FRbk b) [str (eF b)] Y Z=some (.qZ [.agg b.V,int 0,int 0],Y,Z):=
 wL (Y1:=Y) rfl (qj (V:=fun _:Unit=>[str (eF b)]) (a:=()) (fun _ _ _=>rfl) h) (.inr rfl)
set_option maxHeartbeats 8000000 in
theorem Iz(b:Bk):zh prog 15 (hP (FRbk b)):=
 QT (C:=UL) (pf:=fun g=>([]:List Nat).contains g) ⟨func15,by kernel_rfl,rfl,by kernel_rfl⟩ false [] _ fun args r h=>by
  obtain⟨_,rfl,⟨R,S,z⟩,rfl⟩:=qc h;clear h;have nc:zD=268435456:=rfl;refine⟨by simp[f15],?_⟩;have o:=F0;obtain⟨q,u,hq⟩:=N9 R S;have l:=Bz (bkL b);have A:∀s∈bkL b,s.length<=zD:=fun s hs=>by have:=FZ hs;rw[<-dG]at this;omega
  have T:=UJ u;rw[<-dG]at l;have m:qT (eF b) [10]=bkL b++[[]]:=by rw[dG];exact eG _ T
  obtain⟨s,hs⟩:=yb (eF b);obtain⟨ls,U⟩:=yb (bkL b);rw[hs]at z l m⊢;rw[U]at u l A m;have B:∀Y Z,j5 [] I1 [str s,str [10]] Y Z=some (.own Z 0 (ls++[[]]).length,zI Y Z (some (ZT (ls++[[]]))),Z+1):=fun Y Z=>by rw[ZF s [10] Y Z (by omega) (by simp[zD]) (by simp),m]
  have D:(zA (ls++[[]])).length=ls.length+1:=by simp[zA]
  have E:=wN (ls.length:Int);obtain⟨blk,f⟩:∃blk:Blk,⟨26,3,false,[[.nil,.nil,.nil]]⟩=blk:=⟨_,rfl⟩;refine Wp.cut o (fun σ Y Z=>σ 0=str s/\σ 2=.ref 0 0 0/\(∀t,60<=t->t<68->σ t=.qZ [])/\Y 0=some blk/\Z=1) (by
   simp[f];intro t j a
   repeat rw[zc _ _ _ _ (by omega)]
   show([str s][t]?).getD (.qZ [])=_;rw[qY (by simp only[ze,zf];omega)];rfl) ?_
  rintro σ Y1 _ ⟨F,a,c,v,rfl⟩;refine Wp.cut o (fun σ' Y Z=>σ' 0=str s/\σ' 2=.ref 0 0 0/\σ' 5=.ref 1 0 0/\(∀t,60<=t->t<68->σ' t=.qZ [])/\Y 0=some blk/\Y 1=some (Qr .nil .nil .nil 0)/\Z=2) (by
   simp[F,a,v,qi,qJ,zc,Qr];intro t j a
   repeat rw[zc _ _ _ _ (by omega)]
   exact c t j a) ?_
  clear F a c v σ Y1;rintro σ Y1 _ ⟨F,a,d,c,v,hr,rfl⟩;have G:Bu 1 1 ⟨[],[],[],0⟩ Y1 2:=⟨zk _,by omega,.inl ⟨rfl,rfl,rfl,.nil,hr,.nil _ _ _ _ _⟩⟩;refine Wp.cut o (fun σ' Y Z=>σ' 2=.ref 0 0 0/\σ' 5=.ref 1 0 0/\σ' 6=.own 2 0 (ls++[[]]).length/\(∀t,60<=t->t<68->σ' t=.qZ [])/\Y=zI Y1 2 (some (ZT (ls++[[]])))/\Z=3) (by
   simp[F,a,d,B];intro t j a
   repeat rw[zc _ _ _ _ (by omega)]
   exact c t j a) ?_
  clear F a d c σ;rintro σ _ _ ⟨a,d,w,c,rfl,rfl⟩;refine Wp.frozen (t:=6) (y:=.sl 1 (zA (ls++[[]]))) (Y1:=zI (zI Y1 2 (some (ZT (ls++[[]])))) 2 none) aO.id (by rw[w];simp[AM.freeze,zz,z7,qn,ZT,zA];exact qy (by simp)) ?_
  rw[show zI (zI Y1 2 (some (ZT (ls++[[]])))) 2 none=zI Y1 2 none by funext i;unfold zI;split<;>rfl];have I:=gd G none;have J:zI Y1 2 none 0=some blk:=(zc _ _ _ _ (by omega)).trans v;generalize zI Y1 2 none=Y2 at *;refine Wp.cut o (fun σ' Y Z=>σ' 2=.ref 0 0 0/\σ' 5=.ref 1 0 0/\σ' 6=.sl 1 (zA (ls++[[]]))/\σ' 7=str []/\(∀t,60<=t->t<68->σ' t=.qZ [])/\Y2=Y/\Z=3) (by
   have hx:(zA (ls++[[]]))[ls.length]?=some [str []]:=by simp[zA]
   simp[a,d,D,hx,E];intro t j a
   repeat rw[zc _ _ _ _ (by omega)]
   exact c t j a) ?_
  clear a d w c hr v B G σ Y1;rintro σ _ _ ⟨a,d,w,n,c,rfl,rfl⟩;have M:=fun Y=>Iy (P:=prog) (Y:=Y) (es:=zA (ls++[[]])) (k:=ls.length) Pm (by omega)
  have N:(zA ls).length=ls.length:=by simp[zA]
  have W:(zA (ls++[[]])).take ls.length=zA ls:=by unfold zA;rw[yZ,List.take_append_of_le_length (by simp),qy (by simp)]
  rw[W]at M;refine Wp.cut o (fun σ' Y Z=>σ' 2=.ref 0 0 0/\σ' 5=.ref 1 0 0/\σ' 6=.sl 1 (zA ls)/\σ' 7=str []/\(∀t,60<=t->t<68->σ' t=.qZ [])/\Y2=Y/\Z=3) (by
   simp[a,d,w,n,D,M,E];intro t j a
   repeat rw[zc _ _ _ _ (by omega)]
   exact c t j a) ?_
  clear a d w n c σ;rintro σ _ _ ⟨a,d,w,n,c,rfl,rfl⟩;refine Wp.seq (Wp.mono (K:=fun e st'=>e=.normal/\RbI ls ⟨b.zr,b.holds,b.wP,q⟩ blk 0 st') ?_ ?_)
  ·refine Wp.cut o (fun σ' Y Z=>RbI ls ⟨b.zr,b.holds,b.wP,q⟩ blk ls.length ⟨σ',Y,Z⟩) (by
    simp[a,d,w,n,N];refine⟨0,⟨[],[],[],0⟩,by omega,by simp[a],by simp[d],by simp[n],by simp,by simp,by simp,fun t j a=>?_,by simpa using u,by simp[FW,jh],I,by simp,J⟩;simp
    repeat rw[zc _ _ _ _ (by omega)]
    exact c t j a) ?_
   rintro σ2 hp3 nx3 hI;exact UM (by omega) A hI
  clear a d w n c I J u σ Y2;rintro e ⟨σ,Y,Z⟩ ⟨rfl,k,r,hk,a,d,n,k1,k2,k3,c,u,k4,hR,hn1,v⟩;simp only at a d n c u hR hn1 v;clear k1 k2 k3 k4;obtain rfl:k=ls.length:=by omega
  rw[zp]at u;obtain rfl:r=⟨b.zr,b.holds,b.wP,q⟩:=by cases u;rfl
  simp only[w5];refine Wp.zdI hR hq fun Y' hid Q=>?_
  have x:=(Q 0 (by omega)).trans v;clear hR Q v u Y;obtain⟨L,hL⟩:=yb (O.sl 3 (b.zr.map yp.V));obtain⟨H,hH⟩:=yb (O.sl 4 (b.holds.map y7.V));obtain⟨X,hX⟩:=yb (O.sl 13 (b.wP.map Xp.V));have hbe:b.V=[L,H,X]:=by rw[<-hL,<-hH,<-hX];rfl
  simp only[hL,hH,hX,Qr]at hid;rw[<-f]at x;rw[hbe];refine Wp.seq ?_;refine Wp.cut o (fun σ' Y Z'=>σ' 2=.ref 0 0 0/\σ' 5=.ref 1 0 0/\σ' 55=q6 false/\(∀t,60<=t->t<68->σ' t=.qZ [])/\Y'=Y/\Z=Z') (by
   rcases hq with rfl|rfl|rfl
   all_goals
    simp[a,d,n,hid];intro t j a
    repeat rw[zc _ _ _ _ (by omega)]
    exact c t j a) ?_
  clear a d n c σ;rintro σ _ _ ⟨a,d,h55,c,rfl,rfl⟩;refine Wp.cond (b:=false) (by simp[h55]) ?_;rw[zj (by decide)];refine Wp.of o ?_;simp only[KS,w5];refine Wp.of o ?_;simp only[fJ];rw[vA _ 13 _ _ _ _ (Pl (blk:=blk) (by simp[a]) (by simp[d]) (fun t j a=>c t j a) (by show Y' 0=_;rw[x,f]) (by rw[<-f]))]
  ·subst hL hH hX;simp[a,d,hid,x,zc,f15];exact Q5 rfl .id rfl
  ·intro p Y;cases Y
noncomputable def FLrd (b:Bk):zb->Option O:=qt (α:=Unit) (fun _=>[str (eF b)]) (fun _=>sT b/\b.cb<=zD) (fun _=>.qZ [.agg b.V,int 0,int 0])
theorem IA(b:Bk)(h:sT b)(c:b.cb<=zD)(Y:Hp)(Z:Nat):hP (FLrd b) [str (eF b)] Y Z=some (.qZ [.agg b.V,int 0,int 0],Y,Z):=
 wL (Y1:=Y) rfl (qj (V:=fun _:Unit=>[str (eF b)]) (a:=()) (fun _ _ _=>rfl) ⟨h,c⟩) (.inr rfl)
noncomputable abbrev Clrd (b:Bk):Ctx:=qf prog [(15,hP (FRbk b)),(7,hP (FBk fun b=>int (yT b)))]
theorem UN(b:Bk):Gd (Clrd b):=qD mixed ⟨Iz b,pT,trivial⟩
theorem Ev(b:Bk):zh prog 5 (hP (FLrd b)):=
 QT (C:=Clrd b) (pf:=fun g=>([]:List Nat).contains g) ⟨func5,by kernel_rfl,rfl,by kernel_rfl⟩ false [] _ fun args r h=>by
  obtain⟨_,rfl,⟨c,i⟩,rfl⟩:=qc h;clear h;have d:zD=268435456:=rfl;refine⟨by simp[Tryz.f5],?_⟩;refine Wp.of (UN b) ?_;have e:=fun Y Z=>Pn b c Y Z
  have f:=fun Y Z=>lN (fun b=>int (yT b)) b Y Z i
  have a:¬(500000:Int)<(eF b).length:=by have:=c.2.2;omega
  simp only[Bk.V]at e f⊢;simp[e,f,a,c.1,zc,Tryz.f5];exact Q5 rfl .id rfl
theorem mM{Y:Hp}{Z:Nat}{v:O}{K:List za}(h:qR Y Z 9 1 v (zA K))(s:za)(i:K.length<1000000000000):∃Y2,jG prog (zI Y Z (some ⟨9,1,true,[[str s]]⟩)) (Z+1) 39 39 v (.own Z 0 1)=some (.own (Z+1) 0 (K.length+1),Y2,Z+2)/\qR Y2 (Z+2) 9 1 (.own (Z+1) 0 (K.length+1)) (zA (K++[s]))/\∀j,j<Z->(∀n,v≠.own j 0 n)->Y2 j=Y j:=by
 have a:=h.jc (P:=prog) (t:=39) (c:=[str s]) el39 sz9 by9 ze9 rfl (by omega) (by simp[Yy,maxLen];omega) (by simp[Yy];omega);have b:=qR.after (Y:=Y) (Z:=Z) (e:=9) (s:=1) (v:=v) (xs:=zA K) (c:=[str s]) (tmp:=some ⟨9,1,true,[[str s]]⟩);have d:zA K++[[str s]]=zA (K++[s]):=by simp[zA]
 rw[Yy]at a;refine⟨_,a,?_,fun j k f=>?_⟩
 ·rw[<-d];simpa[Yy]using b
 ·rw[zT _ _ _ _ (by omega)];rcases h with⟨rfl,_⟩|⟨id,hid,rfl,l⟩
  ·simp only[vB];rw[zT _ _ _ _ (by omega)]
  ·have g:j≠id:=by rintro rfl;exact f _ rfl
   simp only[vB];rw[zT _ _ _ _ g,zT _ _ _ _ (by omega)]
theorem gg{Y:Hp}{Z:Nat}{v:O}{es:List zb}(c:qR Y Z 9 1 v es){j:Nat}{b:Blk}(d:Y j=some b)(he:b.e≠9\/b.arr=false):∀n,v≠.own j 0 n:=by
 rintro n rfl;rcases c with⟨h,_⟩|⟨id,_,h,a⟩
 ·cases h
 ·injection h with f _ _;subst f;rw[d]at a;injection a with a;subst a;rcases he with he|he
  ·exact he rfl
  ·cases he
theorem zgF(r:Rg){σ:Nat->O}{Y:Hp}{Z j:Nat}{h:List za}{K:Exit->St->Prop}(H:σ 7=.fn (.func 11) [] [])(I:σ 20=.ref j 0 0)(v:j<Z)(a:Y j=some ⟨61,3,false,[kc r]⟩)
  (m:0<=r.2.1/\r.2.1<=4000000000/\0<=r.2.2/\r.2.2<=4000000000) (u:qR Y Z 9 1 (σ 18) (zA h)) (J:h.length<1000000000000)
  (L:∀σ' Y' Z',(∀t,t<121->t≠18->σ' t=σ t)->qR Y' Z' 9 1 (σ' 18) (zA (h++[Q2 r]))->Z<=Z'->(∀j b,j<Z->Y j=some b->(b.e≠9\/b.arr=false)->Y' j=some b)->K .normal ⟨σ',Y',Z'⟩) :
  Wp False Jp Tryz.f4.ntmps ((mn 34 Qg).getD .skip) ⟨σ,Y,Z⟩ K:=by
 have C:=vQ;obtain⟨f,D,M,w⟩:=mM u (Q2 r) J;have R:=kS ⟨m.1,m.2.1⟩;have l2:=kS m.2.2;have N:maxLen=9223372036854775807:=rfl;have E:(wi r.2.1).length+1<=maxLen:=by omega
 have n:(wi r.2.1).length+((wi r.2.2).length+1)<=maxLen:=by omega
 have c:(wi r.2.1).length+1+(wi r.2.2).length<=maxLen:=by omega
 have hit:=fun Y Z=>Z7 r.2.1 Y Z m.1 (by omega)
 have p:=fun Y Z=>Z7 r.2.2 Y Z m.2.2.1 (by omega)
 have x:¬j=Z:=by omega
 have q:=(w j v (gg u a (.inr rfl))).trans a;simp only[kc]at a q;obtain⟨P,s⟩:=yb (σ 18);rw[s]at u D w;refine Wp.YM C mixed 13 [11,12] [121,122,123,124,125,126,127,128,129,130,131,132,133] (by kernel_rfl) [P,.fn (.func 11) [] [],.ref j 0 1,int r.2.1,str (wi r.2.1),str (wi r.2.1++[58]),.fn (.func 11) [] [],.ref j 0 2,int r.2.2,str (wi r.2.2),str (Q2 r),.own Z 0 1,.own (Z+1) 0 (h.length+1)] rfl (fun k=>match k with|0=>(Y,Z)|1=>(zI Y Z (some ⟨9,1,true,[[str (Q2 r)]]⟩),Z+1)|_=>(f,Z+2)) rfl ?_ ?_ ?_
 ·intro i o F g y k l;have F:i=0\/i=1\/i=2\/i=3\/i=4\/i=5\/i=6\/i=7\/i=8\/i=9\/i=10\/i=11\/i=12:=by omega
  have l:k=0\/k=1\/k=2:=by simp at l;omega
  simp only[wi]at E n c;rcases F with rfl|rfl|rfl|rfl|rfl|rfl|rfl|rfl|rfl|rfl|rfl|rfl|rfl<;>(injection g with g;subst g)<;>first
   |exact absurd (by decide) y
   |(rcases l with rfl|rfl|rfl<;>simp[H,I,s,a,q,x,hit,p,wi,E,n,c,Q2])
 ·intro k i o l g;have z:k=0/\i=11\/k=1/\i=12:=by
   have:=(zd.1 l).1;have A:k=0\/k=1:=by simp at this;omega
   rcases A with rfl|rfl<;>simp at l<;>omega
  rcases z with⟨rfl,rfl⟩|⟨rfl,rfl⟩<;>(injection g with g;subst g)
  ·simp[zy,zR,zw]
  ·simp[D]
 ·refine kJ.last C rfl rfl (fun d hd=>by simp at hd;subst hd;decide) (r:=(.own (Z+1) 0 (h.length+1),f,Z+2)) ?_ ?_
  ·simp
  ·exact L (zI (VD [121,122,123,124,125,126,127,128,129,130,131,132,133] _ σ) 18 (.own (Z+1) 0 (h.length+1))) f (Z+2) (fun t S B=>by rw[zc _ _ _ _ B,ZH _ _ _ (by simp;omega)]) (by simpa using M) (by omega) (fun j b v G Q=>by rw[w j v (gg u G Q)];exact G)
theorem zgG(r:SpanLaw.Sp){σ:Nat->O}{Y:Hp}{Z j:Nat}{h:List za}{K:Exit->St->Prop}(H:σ 7=.fn (.func 11) [] [])(I:σ 25=.ref j 0 0)(v:j<Z)(a:Y j=some ⟨66,2,false,[ki r]⟩)
  (m:0<=r.1/\r.1<=4000000000/\0<=r.2/\r.2<=4000000000) (u:qR Y Z 9 1 (σ 23) (zA h)) (J:h.length<1000000000000)
  (L:∀σ' Y' Z',(∀t,t<157->t≠23->σ' t=σ t)->qR Y' Z' 9 1 (σ' 23) (zA (h++[Qc r]))->Z<=Z'->(∀j b,j<Z->Y j=some b->(b.e≠9\/b.arr=false)->Y' j=some b)->K .normal ⟨σ',Y',Z'⟩) :
  Wp False Jp Tryz.f4.ntmps ((mn 44 Qg).getD .skip) ⟨σ,Y,Z⟩ K:=by
 have C:=vQ;obtain⟨f,D,M,w⟩:=mM u (Qc r) J;have R:=kS ⟨m.1,m.2.1⟩;have l2:=kS m.2.2;have N:maxLen=9223372036854775807:=rfl;have E:(wi r.1).length+1<=maxLen:=by omega
 have n:(wi r.1).length+((wi r.2).length+1)<=maxLen:=by omega
 have c:(wi r.1).length+1+(wi r.2).length<=maxLen:=by omega
 have hit:=fun Y Z=>Z7 r.1 Y Z m.1 (by omega)
 have p:=fun Y Z=>Z7 r.2 Y Z m.2.2.1 (by omega)
 have x:¬j=Z:=by omega
 have q:=(w j v (gg u a (.inr rfl))).trans a;simp only[ki]at a q;obtain⟨P,s⟩:=yb (σ 23);rw[s]at u D w;refine Wp.YM C mixed 13 [11,12] [157,158,159,160,161,162,163,164,165,166,167,168,169] (by kernel_rfl) [P,.fn (.func 11) [] [],.ref j 0 0,int r.1,str (wi r.1),str (wi r.1++[45]),.fn (.func 11) [] [],.ref j 0 1,int r.2,str (wi r.2),str (Qc r),.own Z 0 1,.own (Z+1) 0 (h.length+1)] rfl (fun k=>match k with|0=>(Y,Z)|1=>(zI Y Z (some ⟨9,1,true,[[str (Qc r)]]⟩),Z+1)|_=>(f,Z+2)) rfl ?_ ?_ ?_
 ·intro i o F g y k l;have F:i=0\/i=1\/i=2\/i=3\/i=4\/i=5\/i=6\/i=7\/i=8\/i=9\/i=10\/i=11\/i=12:=by omega
  have l:k=0\/k=1\/k=2:=by simp at l;omega
  simp only[wi]at E n c;rcases F with rfl|rfl|rfl|rfl|rfl|rfl|rfl|rfl|rfl|rfl|rfl|rfl|rfl<;>(injection g with g;subst g)<;>first
   |exact absurd (by decide) y
   |(rcases l with rfl|rfl|rfl<;>simp[H,I,s,a,q,x,hit,p,wi,E,n,c,Qc])
 ·intro k i o l g;have z:k=0/\i=11\/k=1/\i=12:=by
   have:=(zd.1 l).1;have A:k=0\/k=1:=by simp at this;omega
   rcases A with rfl|rfl<;>simp at l<;>omega
  rcases z with⟨rfl,rfl⟩|⟨rfl,rfl⟩<;>(injection g with g;subst g)
  ·simp[zy,zR,zw]
  ·simp[D]
 ·refine kJ.last C rfl rfl (fun d hd=>by simp at hd;subst hd;decide) (r:=(.own (Z+1) 0 (h.length+1),f,Z+2)) ?_ ?_
  ·simp
  ·exact L (zI (VD [157,158,159,160,161,162,163,164,165,166,167,168,169] _ σ) 23 (.own (Z+1) 0 (h.length+1))) f (Z+2) (fun t S B=>by rw[zc _ _ _ _ B,ZH _ _ _ (by simp;omega)]) (by simpa using M) (by omega) (fun j b v G Q=>by rw[w j v (gg u G Q)];exact G)
def BA(b:Bk)(id:Nat)(cur:za)(st:St):Prop:=st.σ 1=.ref 0 0 0/\st.σ 5=.ref id 0 0/\st.σ 6=.fn (.func 8) [] [.ref id 0 0]/\st.σ 7=.fn (.func 11) [] []/\st.Y 0=some ⟨26,3,false,[b.V]⟩/\id≠0/\pS TB UB id st.Y st.Z cur
def TxL(b:Bk)(id:Nat)(cur:za)(n:Nat)(st:St):Prop:=∃k,k+n=b.zr.length/\BA b id (cur++(b.zr.take k).flatMap aq) st/\st.σ 33=.sl 3 (b.zr.map yp.V)/\st.σ 34=int b.zr.length/\st.σ 35=int k
theorem cw{α:Type}(f:α->za)(l:List α){k:Nat}(h:k<l.length):((l.take k).flatMap f).length+(f l[k]).length<=(l.flatMap f).length:=by
 have e:l=l.take k++l[k]::l.drop (k+1):=by rw[<-zg h,eP]
 have:(l.flatMap f).length=((l.take k).flatMap f).length+((f l[k]).length+((l.drop (k+1)).flatMap f).length):=by
  conv=>lhs;rw[e]
  rw[pQ,yM,zt,zt]
 omega
theorem Jt{α:Type}(f:α->za)(l:List α){k:Nat}(h:k<l.length)(cur:za):cur++(l.take (k+1)).flatMap f=(cur++(l.take k).flatMap f)++f l[k]:=by rw[qb h,pQ,z8];simp
theorem txL(b:Bk)(D:b.cb<=zD)(J:yT b=0){id:Nat}{σ:Nat->O}{Y:Hp}{Z:Nat}{cur:za}(E:BA b id cur ⟨σ,Y,Z⟩)(d:σ 33=.sl 3 (b.zr.map yp.V))(c:σ 34=int b.zr.length)(a:σ 35=int 0)(F:cur.length+(b.zr.flatMap aq).length<=140737488355328) :
  Wp False Jp Tryz.f4.ntmps ((Vt 0 Qg).getD .skip) ⟨σ,Y,Z⟩ (fun e r=>e=.normal/\BA b id (cur++b.zr.flatMap aq) r):=by
 have i:=vQ;have G:zD=268435456:=rfl;have l:=(fX J).1;refine Wp.block (Wp.loop (TxL b id cur) b.zr.length ⟨0,by simp,by simpa using E,d,c,a⟩ ?_);clear E d c a σ Y Z;rintro n ⟨σ,Y,Z⟩ ⟨k,K,⟨s,t,o,p,g,hid,m⟩,d,c,a⟩;simp only at s t o p d c a g m;by_cases f:k<b.zr.length
 case neg=>
  obtain rfl:k=b.zr.length:=by omega
  refine Wp.cut i (fun σ' Y' Z'=>zI σ 36 (q6 false)=σ'/\Y=Y'/\Z=Z') (by simp[c,a]) ?_;rintro _ _ _ ⟨rfl,rfl,rfl⟩;refine Wp.seq (Wp.of i ?_);rw[wq]at m;simp;exact⟨by simp[s],by simp[t],by simp[o],by simp[p],g,hid,m⟩
 obtain⟨x,q⟩:=yb (b.zr[k]);refine Wp.cut i (fun σ' Y' Z'=>zI σ 36 (q6 true)=σ'/\Y=Y'/\Z=Z') (by simp[c,a,f]) ?_;rintro _ _ _ ⟨rfl,rfl,rfl⟩;refine Wp.cut i (fun σ' Y' Z'=>zI σ 36 (q6 true)=σ'/\Y=Y'/\Z=Z') (by simp) ?_;rintro _ _ _ ⟨rfl,rfl,rfl⟩;refine Wp.seq (Wp.block ?_);refine Wp.cut i (fun σ' Y' Z'=>σ' 1=.ref 0 0 0/\σ' 5=σ 5/\σ' 6=σ 6/\σ' 7=σ 7/\σ' 33=σ 33/\σ' 34=σ 34/\σ' 35=σ 35/\σ' 9=.ref Z 0 0/\zI Y Z (some ⟨48,3,false,[x.V]⟩)=Y'/\Z+1=Z') (by simp[s,d,a,f,q,yp.V]) ?_;rintro L _ _ ⟨M,N,H,I,u,v,w,P,rfl,rfl⟩;have y:=m.kO (Y':=zI Y Z (some ⟨48,3,false,[x.V]⟩)) (Z':=Z+1) (by omega) (fun j W=>by rw[zc _ _ _ _ (by omega)]);have z:=cw aq b.zr f;rw[q]at z;refine zgz x (H.trans o) (I.trans p) P (by omega) (by simp) (l x (by rw[<-q];exact zo f)) y (by rw[zt];show _+(aq x).length<=_;omega) ?_;intro Q Y2 R h A S B;simp only[jW,w5];have T:=yD J8 b.zr;have U:i6.wrap ((k:Int)+1)=(k:Int)+1:=wM (by unfold Bk.cb at D;omega) (by unfold Bk.cb at D;omega);have C:=(h 35 (by decide)).trans (w.trans a);refine Wp.of i ?_;simp[C,U];refine⟨n-1,by omega,k+1,by omega,⟨?_,?_,?_,?_,?_,hid,?_⟩,?_,?_,?_⟩
 ·simp[h 1 (by decide),M]
 ·simp[h 5 (by decide),N,t]
 ·simp[h 6 (by decide),H,o]
 ·simp[h 7 (by decide),I,p]
 ·exact B 0 _ (by omega) (fun e=>hid e.symm) (by rw[zc _ _ _ _ (by have:=m.1;omega)];exact g) (by show 26≠UB;decide)
 ·rw[Jt aq b.zr f,q];exact A
 ·simp[h 33 (by decide),u,d]
 ·simp[h 34 (by decide),v,c]
 ·simp
def TxHi(b:Bk)(x:y7)(id:Nat)(cur:za)(a:Nat->O)(n:Nat)(st:St):Prop:=∃k,k+n=x.zr.length/\BA b id (cur++(x.zr.take k).flatMap dE) st/\st.σ 70=.sl 1 (zA x.zr)/\st.σ 71=int x.zr.length/\st.σ 72=int k/\st.σ 52=a 52/\st.σ 53=a 53/\st.σ 54=a 54
theorem txHi(b:Bk)(x:y7)(H:x.zr.length<=zD){id:Nat}{σ:Nat->O}{Y:Hp}{Z:Nat}{cur:za}(C:BA b id cur ⟨σ,Y,Z⟩)(c:σ 70=.sl 1 (zA x.zr))(a:σ 71=int x.zr.length)(d:σ 72=int 0)(D:cur.length+(x.zr.flatMap dE).length<=140737488355328) :
  Wp False Jp Tryz.f4.ntmps ((Vt 4 Qg).getD .skip) ⟨σ,Y,Z⟩ (fun e f=>e=.normal/\BA b id (cur++x.zr.flatMap dE) f/\f.σ 52=σ 52/\f.σ 53=σ 53/\f.σ 54=σ 54):=by
 have E:=vQ;have F:zD=268435456:=rfl;refine Wp.block (Wp.loop (TxHi b x id cur σ) x.zr.length ⟨0,by simp,by simpa using C,c,a,d,rfl,rfl,rfl⟩ ?_);generalize σ=I;clear C c a d Y Z;rintro n ⟨σ,Y,Z⟩ ⟨k,J,⟨s,u,q,w,h,hid,o⟩,c,a,d,i,l,m⟩;simp only at s u q w c a d i l m h o;by_cases g:k<x.zr.length
 case neg=>
  obtain rfl:k=x.zr.length:=by omega
  rw[wq]at o;refine Wp.of E ?_;simp[a,d];exact⟨⟨by simp[s],by simp[u],by simp[q],by simp[w],h,hid,o⟩,i,l,m⟩
 obtain⟨t,r⟩:=yb (x.zr[k]);have y:=cw dE x.zr g;rw[r]at y;have p:(zA x.zr)[k]?=some [str t]:=by simp[zA,g,r]
 have z:(zA x.zr).length=x.zr.length:=by simp[zA]
 have A:=o.kO (Y':=zI Y Z (some ⟨9,1,true,zA [32::32::t]⟩)) (Z':=Z+1) (by omega) (fun j P=>by rw[zc _ _ _ _ (by omega)]);obtain⟨hp3,nx3,G,K,Q,L⟩:=W0 A (v:=.own Z 0 1) (xs:=[32::32::t]) (e:=9) (.inr ⟨Z,by omega,rfl,by simp⟩) (by simp) (by rw[zt];show _+(dE t).length<=_;omega);have M:=q8 k;have N:t.length<=(dE t).length:=by unfold dE aL;simp[Lib.join];omega
 have B:2+t.length<=maxLen:=by unfold maxLen;omega
 simp only[zA,zG,ji]at G;refine Wp.of E ?_;simp[q,c,a,d,g,p,z,r,B,zy,zR,zw,G,M];refine⟨n-1,by omega,k+1,by omega,⟨by simp[s],by simp[u],by simp[q],by simp[w],?_,hid,?_⟩,by simp[c],by simp[a],by simp,by simp[i],by simp[l],by simp[m]⟩
 ·exact L 0 _ (by omega) (fun e=>hid e.symm) (by rw[zc _ _ _ _ (by have:=o.1;omega)];exact h) (by show 26≠UB;decide)
 ·rw[Jt dE x.zr g,r];exact K
def TxH(b:Bk)(id:Nat)(cur:za)(n:Nat)(st:St):Prop:=∃k,k+n=b.holds.length/\BA b id (cur++(b.holds.take k).flatMap KD) st/\st.σ 52=.sl 4 (b.holds.map y7.V)/\st.σ 53=int b.holds.length/\st.σ 54=int k
theorem txH(b:Bk)(C:b.cb<=zD)(c0:yT b=0){id:Nat}{σ:Nat->O}{Y:Hp}{Z:Nat}{cur:za}(hI:BA b id cur ⟨σ,Y,Z⟩)(d:σ 52=.sl 4 (b.holds.map y7.V))(c:σ 53=int b.holds.length)(a:σ 54=int 0)(hlen:cur.length+(b.holds.flatMap KD).length<=140737488355328) :
  Wp False Jp Tryz.f4.ntmps ((Vt 2 Qg).getD .skip) ⟨σ,Y,Z⟩ (fun e D=>e=.normal/\BA b id (cur++b.holds.flatMap KD) D):=by
 have i:=vQ;have nc:zD=268435456:=rfl;have o:=(fX c0).2.1;have hll:=yD fV b.holds;refine Wp.block (Wp.loop (TxH b id cur) b.holds.length ⟨0,by simp,by simpa using hI,d,c,a⟩ ?_);clear hI d c a σ Y Z;rintro n ⟨σ,Y,Z⟩ ⟨k,hkn,⟨y,E,z,A,l,hid,m⟩,d,c,a⟩;simp only at y E z A d c a l m;by_cases g:k<b.holds.length
 case neg=>
  obtain rfl:k=b.holds.length:=by omega
  refine Wp.cut i (fun σ' Y' Z'=>zI σ 55 (q6 false)=σ'/\Y=Y'/\Z=Z') (by simp[c,a]) ?_;rintro _ _ _ ⟨rfl,rfl,rfl⟩;refine Wp.seq (Wp.of i ?_);rw[wq]at m;simp;exact⟨by simp[y],by simp[E],by simp[z],by simp[A],l,hid,m⟩
 obtain⟨x,B⟩:=yb (b.holds[k]);have p:x∈b.holds:=by rw[<-B];exact zo g
 have F:x.zr.length<=zD:=by have y:x.cb<=jh y7.cb b.holds:=jO p;have h2:=yD (f:=fun s:List UInt8=>1+s.length) (fun s=>by omega) x.zr;have h3:x.cb=1+x.name.length+x.we.length+jh (fun s=>1+s.length) x.zr:=rfl;unfold Bk.cb at C;omega
 refine Wp.cut i (fun σ' Y' Z'=>zI σ 55 (q6 true)=σ'/\Y=Y'/\Z=Z') (by simp[c,a,g]) ?_;rintro _ _ _ ⟨rfl,rfl,rfl⟩;refine Wp.cut i (fun σ' Y' Z'=>zI σ 55 (q6 true)=σ'/\Y=Y'/\Z=Z') (by simp) ?_;rintro _ _ _ ⟨rfl,rfl,rfl⟩;refine Wp.seq (Wp.block ?_);refine Wp.cut i (fun σ' Y' Z'=>σ' 1=.ref 0 0 0/\σ' 5=σ 5/\σ' 6=σ 6/\σ' 7=σ 7/\σ' 52=σ 52/\σ' 53=σ 53/\σ' 54=σ 54/\σ' 11=.ref Z 0 0/\zI Y Z (some ⟨50,4,false,[x.V]⟩)=Y'/\Z+1=Z') (by simp[y,d,a,g,B,y7.V]) ?_;rintro σ1 _ _ ⟨g1,g5,g6,g7,G,H,I,q,rfl,rfl⟩;have J:=m.kO (Y':=zI Y Z (some ⟨50,4,false,[x.V]⟩)) (Z':=Z+1) (by omega) (fun j hj=>by rw[zc _ _ _ _ (by omega)]);have K:=cw KD b.holds g;rw[B]at K;have hxb:(KD x).length=(aL [xQ,x.name,x.we,wi x.buckets]).length+(x.zr.flatMap dE).length:=by unfold KD;rw[zt]
 refine Wp.seq (zgA x (g6.trans z) (g7.trans A) q (by omega) (by simp) (o x p) J (by rw[zt];omega) ?_);intro σ2 Y2 L h M hnx r;simp only[w5];have b2:Y2 Z=some ⟨50,4,false,[x.V]⟩:=r Z _ (by omega) (by have:=m.1;omega) (by simp) (by show 50≠UB;decide);have b0:Y2 0=some ⟨26,3,false,[b.V]⟩:=r 0 _ (by omega) (fun e=>hid e.symm) (by rw[zc _ _ _ _ (by have:=m.1;omega)];exact l) (by show 26≠UB;decide);have N:=(h 11 (by decide)).trans q;simp only[y7.V]at b2;refine Wp.cut i (fun σ' Y' Z'=>σ' 1=.ref 0 0 0/\σ' 5=.ref id 0 0/\σ' 6=σ 6/\σ' 7=σ 7/\σ' 52=σ 52/\σ' 53=σ 53/\σ' 54=σ 54/\σ' 70=.sl 1 (zA x.zr)/\σ' 71=int x.zr.length/\σ' 72=int 0/\Y2=Y'/\L=Z') (by
  have P:(zA x.zr).length=x.zr.length:=by simp[zA]
  simp[N,b2,P,h 1 (by decide),g1,h 5 (by decide),g5,E,h 6 (by decide),g6,h 7 (by decide),g7,h 52 (by decide),G,h 53 (by decide),H,h 54 (by decide),I]) ?_
 rintro σ3 _ _ ⟨k1,k5,k6,k7,Q,R,S,T,U,W,rfl,rfl⟩;refine Wp.mono (txHi b x F (cur:=(cur++(b.holds.take k).flatMap KD)++aL [xQ,x.name,x.we,wi x.buckets]) ⟨k1,k5,k6.trans z,k7.trans A,b0,hid,M⟩ T U W (by rw[zt,zt];omega)) ?_;rintro e ⟨σ4,hp4,nx4⟩ ⟨rfl,⟨m1,m5,m6,m7,t,_,mB⟩,u,v,w⟩;simp only at m1 m5 m6 m7 t mB u v w;simp only[jW,w5];have hw:i6.wrap ((k:Int)+1)=(k:Int)+1:=wM (by unfold Bk.cb at C;omega) (by unfold Bk.cb at C;omega);have X:=(w.trans S).trans a;refine Wp.of i ?_;simp[X,hw];refine⟨n-1,by omega,k+1,by omega,⟨by simp[m1],by simp[m5],by simp[m6],by simp[m7],t,hid,?_⟩,by simp[u,Q,d],by simp[v,R,c],by simp⟩;rw[Jt KD b.holds g,B];unfold KD;rw[<-z8];exact mB
end Go.Q
