/- Lemmas. -/
import Derived.Shelf.Spec.SlicesInsert
import Derived.Test.YtjnfibncnabkmaaGreatDoorG11
set_option maxRecDepth 100000
set_option maxHeartbeats 4000000
open Go Proofs Proofs.YtjnfibncnabkmaaGreatDoor Proofs.Tryz RowKit AM SpanLaw Q Zz
open Go.IntKind renaming i64→i6
namespace Go.Q
theorem fH{Y:Hp}{Z e s a i:Nat}{v:O}{xs:List zb}{c:zb}(h:qN Y Z e s v xs)(k:i<xs.length)(f:(xs.length+1)*a<=140737488355328)(g:xs.length+1<=maxLen) :
  gU e s a [v,int i,.own Z 0 1] (qf Y Z (some ⟨e,s,true,[c]⟩)) (Z+1)=some (.own (Z+1) 0 (xs.length+1),qf (Ws v (qf Y Z (some ⟨e,s,true,[c]⟩))) (Z+1) (some ⟨e,s,true,xs.take i++c::xs.drop i⟩),Z+2):=by
 obtain⟨id,hid,rfl,j⟩:=h.at_ (by omega);have n1:id≠Z:=by omega
 have b:qf Y Z (some ⟨e,s,true,[c]⟩) id=some ⟨e,s,true,xs⟩:=by rw[w5 _ _ _ _ n1];exact j
 have d:(i:Int)<xs.length:=by omega
 unfold gU;simp only[b,wR];rw[zg (by refine⟨n1,?_,?_,?_,?_,?_,?_,?_,d,f,g⟩<;>first|trivial|rfl|omega)];simp[Ws]
theorem oe{Y:Hp}{Z e s a:Nat}{v:O}{xs:List zb}{b:Option Blk}(h:qN Y Z e s v xs):gU e s a [v,int (xs.length:Nat),.own Z 0 1] (qf Y Z b) (Z+1)=none:=by
 rcases h with⟨rfl,rfl⟩|⟨id,hid,rfl,d⟩
 ·rfl
 ·unfold gU;simp only;split
  ·split
   ·rw[zf (fun c=>by have:=c.2.2.2.2.2.2.2.2.1;omega)]
   ·rfl
  ·rfl
theorem P1{Y:Hp}{Z:Nat}{v:O}{xs:List zb}{c:zb}(h:qN Y Z 113 5 v xs)(d:xs.length<=1073741824) :
  kX C0 f226 [v,int (xs.length:Nat),.own Z 0 1] (qf Y Z (some ⟨113,5,true,[c]⟩)) (Z+1)=some (.own (Z+1) 0 (xs.length+1),qf (Ws v (qf Y Z (some ⟨113,5,true,[c]⟩))) (Z+1) (some ⟨113,5,true,xs++[c]⟩),Z+2):=by
 unfold kX;rw[zg (by simp[f226])];refine xK rfl ?_;have a:=qN.ji (P:=prog) (t:=148) (c:=c) h gA cR rE rF rfl (by omega) (by unfold maxLen;omega) (by omega);rcases h with⟨rfl,rfl⟩|⟨id,hid,rfl,b⟩
 ·simp at a;simp[yZ,a,f226]
 ·have n1:¬id=Z:=by omega
  simp[yZ,a,b,n1,f226]
noncomputable abbrev HQ:AM.Spec:=Dl C0 f226 113 5 56
theorem Dm:zi prog 226 HQ:=
 ca (XL ⟨_,func226,by decide,by kernel_rfl⟩ cR (by decide) zax) (J3 jj func226)
theorem Gj{Y:Hp}{Z i:Nat}{v:O}{xs:List zb}{c:zb}(h:qN Y Z 113 5 v xs)(d:i<=xs.length)(b:xs.length<=1073741824) :
  HQ [v,int i,.own Z 0 1] (qf Y Z (some ⟨113,5,true,[c]⟩)) (Z+1)=some (.own (Z+1) 0 (xs.length+1),qf (Ws v (qf Y Z (some ⟨113,5,true,[c]⟩))) (Z+1) (some ⟨113,5,true,xs.take i++c::xs.drop i⟩),Z+2):=by
 unfold HQ Dl;by_cases a:i<xs.length
 ·rw[fH h a (by omega) (by unfold maxLen;omega)]
 ·obtain rfl:i=xs.length:=by omega
  rw[oe h];simp only;rw[P1 h b,we,zA]
noncomputable def P2 (l:List Cut):Option Blk:=if kP l=[]then none else some ⟨113,5,true,wg (kP l)⟩
noncomputable abbrev Crsc:Ctx:=qj prog [(225,qK [.g jQ,.g jQ] (B9 fun v w=>int (wP v w))),(226,HQ)]
theorem zay:AM.Good Crsc (fun g=>[225].contains g):=qx mixed ⟨Z6,fun _=>jn _ _,Dm,by simp,trivial⟩
theorem gX{l:List Cut}{k:Nat}(h:k<l.length):kP (l.take (k+1))=Z7 l[k] (kP (l.take k)):=by unfold kP;rw[qE h,Ii];rfl
theorem Dn{c:Cut}:∀{l:List Cut} {x:Cut},x∈Z7 c l->x=c\/x∈l
 |[],x,h=>by simp only[Z7,wA]at h;exact .inl h
 |a::l,x,h=>by
  simp only[Z7]at h;split at h
  ·rcases zv.1 h with rfl|h
   ·exact .inr (by simp)
   ·exact(Dn h).imp id fun h=>by simp[h]
  ·split at h
   ·exact .inr h
   ·rcases zv.1 h with rfl|h
    ·exact .inl rfl
    ·exact .inr h
theorem cg:∀{l o:List Cut} {x:Cut},x∈l.foldl (fun o c=>Z7 c o) o->x∈l\/x∈o
 |[],o,x,h=>.inr h
 |c::l,o,x,h=>by
  rw[ju]at h;rcases cg h with h|h
  ·exact .inl (by simp[h])
  ·rcases Dn h with rfl|h
   ·exact .inl (by simp)
   ·exact .inr h
theorem zaz(c:Cut)(l:List Cut):Z7 c l≠[]:=by
 cases l with
 |nil=>simp[Z7]
 |cons a l=>simp only[Z7];split<;>(try split)<;>simp
theorem L4{l:List Cut}(h:kP l=[]):l.length=0:=by
 cases b:l.length with
 |zero=>rfl
 |succ k=>
  have a:k<l.length:=by omega
  have:=gX a;rw[qi (by omega),h]at this;exact absurd this.symm (zaz _ _)
theorem av(l:List Cut):(wg l).length=l.length:=by simp[wg]
theorem L5(o:List Cut)(i:Nat)(c:Cut):(wg o).take i++c.V::(wg o).drop i=wg (o.take i++c::o.drop i):=by simp[wg]
theorem Ak(l:List Cut)(hs:∀c∈l,c.v.small)(hl:l.length<=1073741824):∃x Y Z,jr Crsc f171 [.sl 5 (wg l)] (fun _=>none) 0=some (x,Y,Z)/\Cr jQ (P2 l) x Y Z:=by
 refine w9 rfl ?_;have Q:=av l;simp[Q];refine ql (fun k M Y Z=>M 7=.sl 5 (wg l)/\M 8=int l.length/\M 9=int k/\qN Y Z 113 5 (M 3) (wg (kP (l.take k)))/\(k=0->M 3=.nil)) l.length
  ⟨by simp,by simp,by simp,.inl ⟨by simp,by simp[kP,wg]⟩,by simp⟩ ?_
 rintro k M Y Z hk ⟨u,w,y,n,h0⟩;have R:=cd (l.take k) [];have C:kP (l.take k)=(l.take k).foldl (fun o c=>Z7 c o) []:=rfl;rw[<-C,ze,yu]at R;have D:∀x∈kP (l.take k),x.v.small:=fun x hx=>by
  rw[C]at hx;rcases cg hx with h|h
  ·exact hs x (KA h)
  ·cases h
 by_cases r:k<l.length
 ·obtain⟨c,hc⟩:=wM (l[k]);have hcs:c.v.small:=hs c (by rw[<-hc];exact zw r);have S:∀h:k<(wg l).length,(wg l)[k]=c.V:=fun h=>by simp[wg,hc]
  have G:=wv k;have H:=gX r;rw[hc]at H;obtain⟨o,ho⟩:=wM (kP (l.take k));rw[ho]at n R D H;have d:=av o;obtain⟨P,hP⟩:=wM Z;obtain⟨v,hv⟩:=wM (M 3);rw[hv]at n;simp only[Cut.V]at S;simp[u,w,y,r,Q,S];rw[hP]at n⊢;refine ql (fun i M Y Z=>M 7=.sl 5 (wg l)/\M 8=int l.length/\M 9=int k/\M 3=v/\M 5=.ref P 0 0/\M 6=int i/\P<Z/\Y P=some ⟨113,5,false,[c.V]⟩/\qN Y Z 113 5 v (wg o)/\∀j (h:j<o.length),j<i->wP o[j] c<0) o.length
   ⟨by simp[u],by simp[w],by simp[y],by simp[hv],by simp,by simp,(by show P<P+1;omega),by simp[Cut.V],n.more _,fun j _ h=>absurd h (by omega)⟩ ?_
  clear u w y h0 hv n M Y hP Z;rintro i M Y Z hi ⟨u,w,y,U,W,X,hPn,T,n,s⟩;have hwi:=wv i;have g:=n.len gA;rw[d]at g;simp only[Cut.V]at T;have nP:¬P=Z:=by omega
  have p:=fun(hi:i<=o.length)=>Gj (i:=i) (c:=[int c.v.a,int c.v.b,int c.v.c,.sl 1 (qJ c.v.pre),yh c.after]) n (by rw[d];exact hi) (by rw[d];omega)
  rw[d]at p;have E:=L5 o i c;simp only[Cut.V]at E;rw[E]at p;have t:∀o',Z7 c o=o'->kP (l.take (k+1))=o':=fun o' e=>by rw[H,e]
  by_cases hit:i<o.length
  ·obtain⟨id,hid,I,hb⟩:=n.at_ (by rw[d];omega);obtain⟨q,N⟩:=wM (o[i]);have hqs:q.v.small:=D q (by rw[<-N];exact zw hit);have z:∀h:i<(wg o).length,(wg o)[i]=q.V:=fun h=>by simp[wg,N]
   have A:=fun Y Z=>Kj q c Y Z hqs hcs
   simp only[Cut.V]at z A;have hat:=Aj c o i (by omega) s;by_cases m:wP q c<0
   ·subst I;simp[u,w,y,U,W,X,g,d,hit,hb,z,T,A,m,hwi];have J:∀j (h:j<o.length),j<i+1->wP o[j] c<0:=fun j h hj=>by
     rcases zbl j i with h1|h1
     ·exact s j h h1
     ·obtain rfl:j=i:=by omega
      rw[N];exact m
    exact⟨by omega,hPn,rfl,(by rw[d]at n;exact n),J⟩
   ·have F:=hat fun _=>by rw[N];exact m
    by_cases B:wP q c=0
    ·have h1:=F.1 ⟨hit,by rw[N];exact B⟩;have K:((i:Int)==o.length)=false:=by rw[w8];omega
     subst I;simp[u,w,y,U,W,X,g,d,hit,hb,z,T,A,m,B,K,G];exact⟨r,by rw[t _ h1];rw[d]at n;exact n⟩
    ·have h1:=F.2 fun _=>by rw[N];exact B
     have hz':=VF B;have K:((i:Int)==o.length)=false:=by rw[w8];omega
     have f:=p (by omega);subst I;rw[d]at f;have L:(wg (o.take i++c::o.drop i)).length=o.length+1:=by rw[av];simp;omega
     simp[u,w,y,U,W,X,g,d,hit,hb,z,T,A,m,B,hz',K,f,nP,G,zs,zF,zr];exact⟨r,by rw[t _ h1];exact .inr ⟨Z+1,by omega,by rw[L],by simp⟩⟩
  ·obtain rfl:i=o.length:=by omega
   have h1:=(Aj c o o.length (zk _) s (fun h=>absurd h (by omega))).2 (fun h=>absurd h (by omega));have f:=p (zk _);simp[u,w,y,U,W,X,g,d,T,f,nP,G,zs,zF,zr];rw[we,zA]at h1;have L:(wg (o++[c])).length=o.length+1:=by rw[av];simp
   exact⟨r,by rw[t _ h1];exact .inr ⟨Z+1,by omega,by rw[L],by simp⟩⟩
 ·obtain rfl:k=l.length:=by omega
  rw[we]at n;simp[u,w,y,f171];unfold P2;rcases n with⟨e1,e2⟩|⟨id,hid,e1,e2⟩
  ·have:kP l=[]:=by simpa[wg]using e2
   rw[zg this];exact e1
  ·by_cases B:kP l=[]
   ·rw[zg B];exact h0 (L4 B)
   ·rw[zf B];exact⟨id,_,e1,e2,rfl,by simp[fq,wg,Cut.V]⟩
noncomputable def FSc:zb->Option (Option Blk):=qW (α:=List Cut) (fun l=>[.sl 5 (wg l)]) (fun l=>(∀c∈l,c.v.small)/\l.length<=1073741824) P2
theorem L6{a b:List Cut}(h:wg a=wg b):a=b:=Yc (fun _ _ e=>Q0 e) h
theorem zdM:∀a b:List Cut,[O.sl 5 (wg a)]=[O.sl 5 (wg b)]->a=b:=fun a b e=>by
 simp only[zq,qh]at e;injection e with _ e
 exact L6 e
theorem pR:zi prog 171 (vD [.s 5 jQ] FSc):=
 JO (fn:=f171) zay (wc func171) _ jQ _ fun args r h=>by obtain⟨l,rfl,⟨a,b⟩,rfl⟩:=zL h;exact⟨by simp[f171],Ak l a b⟩
theorem P3(l:List Cut):(wg l).map (QL jQ)=wg l:=by simp[wg,Cut.V]
theorem Al{Y:Hp}{Z:Nat}{v:O}{l:List Cut}(h:qN Y Z 113 5 v (wg l))(hs:∀c∈l,c.v.small)(i:l.length<=1073741824) :
  ∃x d b,vD [.s 5 jQ] FSc [v] Y Z=some (x,d,b)/\qN d b 113 5 x (wg (kP l))/\Z<=b:=by
 have g:∀y Y1,zO Y v=some (y,Y1)->(Sh.s 5 jQ).fix y=.sl 5 (wg l)->∃x d b,vD [.s 5 jQ] FSc [v] Y Z=some (x,d,b)/\qN d b 113 5 x (wg (kP l))/\Z<=b:=by
  intro y Y1 j k;have e:zH Y [v]=some ([y],Y1):=by simp only[zH,j]
  have m:FSc (cX [.s 5 jQ] (yR [] [y]))=some (P2 l):=by show FSc [(Sh.s 5 jQ).fix y]=_;rw[k];exact qX (V:=fun l:List Cut=>[O.sl 5 (wg l)]) (a:=l) zdM ⟨hs,i⟩
  unfold vD jL;simp only[e,m];unfold P2;by_cases f:kP l=[]
  ·rw[zg f];exact⟨.nil,Y1,Z,rfl,.inl ⟨rfl,by rw[f];rfl⟩,zk _⟩
  ·rw[zf f];exact⟨_,_,_,rfl,.inr ⟨Z,by omega,rfl,by simp⟩,by omega⟩
 rcases h with⟨rfl,n⟩|⟨id,p,rfl,o⟩
 ·exact g .nil Y rfl (by rw[n];rfl)
 ·exact g (.sl 5 (wg l)) (qf Y id none) (by simp[o]) (by rw[Sh.oR,P3])
end Go.Q
namespace Go.Q
open Go.RowKit Go.Lib Go.AM
attribute [local go_sem] Oper.semAt_some
theorem Gk(w:World)(g vb n i cap vc:Nat)(cur vcur:Array Value)(tv:TypeId)(hi:i<n)(hroom:n+1<=cap)(hc63:cap<=9223372036854775807)(hne:g≠vb)(hv1:1<=vc)
  (hg:w.heap[g]?=some (.cells cur 53 (0,0))) (hcs:cur.size=cap*6) (hv:w.heap[vb]?=some (.cells vcur tv (0,0))) (hvs:vcur.size=vc*6)
  (h1c:∀j v,j<n*6->cur[j]?=some v->v.oneCell'=true) (h1v:∀j v,j<6->vcur[j]?=some v->v.oneCell'=true) :
  Calls prog 203 #[.slice (some ⟨g,0,none⟩) n cap,.int .i64 i,.slice (some ⟨vb,0,none⟩) 1 vc] w fun e w'=>
   e=.returned (.slice (some ⟨g,0,none⟩) (n+1) cap)/\w'.heap[g]?=some (.cells (wS (wS cur.toList ((i+1)*6) ((cur.toList.take (n*6)).drop (i*6))) (i*6) (vcur.toList.take 6)).toArray 53 (0,0))/\Fr True w (fun b=>b=g) w':=by
 have t3:=underlying3;have a3:=isAgg3;have z3:=sizeOf3;have v3:=zeroValue3;have t4:=underlying4;have a4:=isAgg4;have z4:=sizeOf4;have v4:=zeroValue4;have t24:=underlying41;have a24:=isAgg41;have z24:=sizeOf41;have v24:=zeroValue41;have t9:=underlying53;have a9:=isAgg53;have z9:=sizeOf53;have u3:=zx t3;have u4:=zx t4;have u24:=zx t24;have hz2:¬((i:Int)=(n:Int)):=by omega
 have hov:∀o lb cb,(callFunc 247 #[.slice (some ⟨vb,0,none⟩) 1 vc,.slice (some ⟨g,o,none⟩) lb cb]).run prog w=.ok (.value (.bool false)) w:=fun o lb cb=>by
  rw[run_callFunc_extern func247 (by kernel_rfl) (by kernel_rfl) (by kernel_rfl) (e:=Extern.SlicesOverlaps.overlaps #[41,41] #[4]) (by kernel_rfl),
   Lib.run_overlaps_apart w 41 4 53 t24 6 z9 ⟨vb,0,none⟩ ⟨g,o,none⟩ 1 vc lb cb (fun e=>hne e.symm) _ _ _ _ (Yv hv) (Yv hg) (by rw[hcs];omega) (Ks hv 0) (Ks hv _)]
  rfl
 have mixed:prog.follows .mixedOrders=true:=by kernel_rfl
 have hw1:i6.wrap ((i:Int)+1)=(i:Int)+1:=by rw[yL];omega
 have hw2:i6.wrap ((n:Int)+1)=(n:Int)+1:=by rw[yL];omega
 have hb1:(0:Int)<=(i:Int)+1:=by omega
 have hb5:(0:Int)<=(n:Int)+1:=by omega
 have hin:i<=n:=by omega
 have htn:((i:Int)+1).toNat=i+1:=by omega
 have htn2:((n:Int)+1).toNat=n+1:=by omega
 have hb2:¬(cap=i+1):=by omega
 have hb3:(i:Int)<=(n:Int)+1:=by omega
 have hb4:¬(cap=i):=by omega
 have hb6:¬((cap:Int)<(n:Int)+1):=by omega
 have hs5:qY prog 53=some 6:=I2;obtain⟨cs,hcsd⟩:=wM ((cur.toList.take (n*6)).drop (i*6));obtain⟨vs,hvsd⟩:=wM (vcur.toList.take 6);have hcl:cs.length=(n-i)*6:=by rw[<-hcsd];simp;omega
 have hvl:vs.length=1*6:=by rw[<-hvsd];simp;omega
 have hcget:∀j v,cs[j]?=some v->cur[i*6+j]?=some v/\i*6+j<n*6:=fun j v hj=>by
  rw[<-hcsd,qI,zX]at hj;split at hj
  ·exact⟨by simpa using hj,by assumption⟩
  ·cases hj
 have hvget:∀j v,vs[j]?=some v->vcur[j]?=some v/\j<6:=fun j v hj=>by
  rw[<-hvsd,zX]at hj;split at hj
  ·exact⟨by simpa using hj,by assumption⟩
  ·cases hj
 have hc1:∀v∈cs,v.oneCell'=true:=fun v hv=>by obtain⟨j,hj⟩:=yN.1 hv;obtain⟨a,b⟩:=hcget j v hj;exact h1c _ v b a
 have hv1':∀v∈vs,v.oneCell'=true:=fun v hv=>by obtain⟨j,hj⟩:=yN.1 hv;obtain⟨a,b⟩:=hvget j v hj;exact h1v _ v b a
 obtain⟨row1,hrow1⟩:=wM (wS cur.toList ((i+1)*6) cs);have hr1l:row1.length=cap*6:=by rw[<-hrow1,wV (by rw[hcl,zR,hcs];omega),zR,hcs]
 have hcp1:∀ty dc sc,(Builtin.copy_ #[41,41] ty #[.slice (some ⟨g,(i+1)*6,none⟩) (n-i) dc,.slice (some ⟨g,i*6,none⟩) (n+1-i) sc]).run prog w.drew=.ok (goInt ((n-i:Nat):Int)) (w.drew.setRow g row1.toArray):=fun ty dc sc=>by
  rw[<-hrow1];exact y7 w.drew _ _ ty 53 6 (n-i) g ((i+1)*6) (n-i) dc ⟨g,i*6,none⟩ (n+1-i) sc cur 53 cs t24 hs5 hg (by simp only[QG];split<;>omega) hcl
   (fun j v hj=>by rw[yz];exact(kG hg _).trans (hcget j v hj).1) (by rw[hcl,hcs];omega) hc1
 have hcp2:∀(W:World),W.heap[g]?=some (.cells row1.toArray 53 (0,0))->W.heap[vb]?=some (.cells vcur tv (0,0))->∀ty dc,(Builtin.copy_ #[41,41] ty #[.slice (some ⟨g,i*6,none⟩) (n+1-i) dc,.slice (some ⟨vb,0,none⟩) 1 vc]).run prog W=.ok (goInt ((1:Nat):Int)) (W.setRow g (wS row1 (i*6) vs).toArray):=fun W hWg hWv ty dc=>by
  have:=y7 W 41 41 ty 53 6 1 g (i*6) (n+1-i) dc ⟨vb,0,none⟩ 1 vc row1.toArray 53 vs t24 hs5 hWg (by simp only[QG];split<;>omega) hvl
   (fun j v hj=>by rw[yz,zh];exact(kG hWv _).trans (hvget j v hj).1) (by rw[hvl,wF,hr1l];omega) hv1'
  exact this
 have hWg:(w.drew.setRow g row1.toArray).heap[g]?=some (.cells row1.toArray 53 (0,0)):=Qc _ _ _ _ _ _ hg;have hWv:(w.drew.setRow g row1.toArray).heap[vb]?=some (.cells vcur tv (0,0)):=(jW _ (fun e=>hne e.symm)).trans hv;have hfin:∀W,W=(w.drew.setRow g row1.toArray).setRow g (wS row1 (i*6) vs).toArray->W.heap[g]?=some (.cells (wS row1 (i*6) vs).toArray 53 (0,0))/\Fr True w (fun b=>b=g) W:=fun W e=>by subst e;refine⟨Qc _ _ _ _ _ _ hWg,?_⟩;exact((Fr.drew w (fun b=>b=g)).trans (Yw w.drew g _) fun _ _ h=>h).trans (Yw _ g _) fun _ _ h=>h
 rw[hcsd,hvsd,hrow1];clear hcsd hvsd hcl hvl hcget hvget hc1 hv1' hrow1 hr1l
 go_enter func203,Tryz.ntmps203
 go_wp2_with (simp only[hov])
 go_region_law_o (refine step_copy_runI rfl _ _ 41 41 rfl _ _ (by simp[Act.eval,Act.put]) (by simp[Act.eval,Act.put]) (hcp1 _ _ _) ?_)
 go_wp2_with (at_builtin;refine wpList_copy_runI _ rfl _ _ 41 41 rfl _ _ rfl rfl (hcp2 _ hWg hWv _ _) ?_)
 go_ret
 exact⟨rfl,hfin _ rfl⟩
theorem L7(w:World)(g vb n i cap vc:Nat)(cur vcur:Array Value)(tv:TypeId)(hi:i<n)(hnc:n<=cap)(hroom:cap<n+1)(hbig:(n+1)*96<=140737488355328)(hv1:1<=vc)
  (hg:w.heap[g]?=some (.cells cur 53 (0,0))) (hcs:cur.size=cap*6) (hv:w.heap[vb]?=some (.cells vcur tv (0,0))) (hvs:vcur.size=vc*6)
  (h1c:∀j v,j<n*6->cur[j]?=some v->v.oneCell'=true) (h1v:∀j v,j<6->vcur[j]?=some v->v.oneCell'=true) :
  Calls prog 203 #[.slice (some ⟨g,0,none⟩) n cap,.int .i64 i,.slice (some ⟨vb,0,none⟩) 1 vc] w fun e w'=>
   ∃(G:Nat) (R:List Value),n+1<=G/\G<=maxLen/\R.length=G*6/\(∀j,j<i*6->R[j]?=(cur.toList.take (i*6))[j]?)/\e=.returned (.slice (some ⟨w.heap.size,0,none⟩) (n+1) G) /\
    w'.heap[w.heap.size]?=some (.cells (wS (wS R (i*6) (vcur.toList.take 6)) ((i+1)*6) ((cur.toList.take (n*6)).drop (i*6))).toArray 53 (0,0))/\Fr True w (fun b=>b=w.heap.size) w':=by
 have t3:=underlying3;have a3:=isAgg3;have z3:=sizeOf3;have v3:=zeroValue3;have t4:=underlying4;have a4:=isAgg4;have z4:=sizeOf4;have v4:=zeroValue4;have t24:=underlying41;have a24:=isAgg41;have z24:=sizeOf41;have v24:=zeroValue41;have t9:=underlying53;have a9:=isAgg53;have z9:=sizeOf53;have u3:=zx t3;have u4:=zx t4;have u24:=zx t24;obtain⟨i0,z0,hi0,hz0,his,hib,hzc⟩:=oc (P:=prog) I2 by53 ze53 rfl;have hz2:¬((i:Int)=(n:Int)):=by omega
 have hz3:(cap:Int)<(n:Int)+1:=by omega
 have mixed:prog.follows .mixedOrders=true:=by kernel_rfl
 have hw1:i6.wrap ((i:Int)+1)=(i:Int)+1:=by rw[yL];omega
 have hw2:i6.wrap ((n:Int)+1)=(n:Int)+1:=by rw[yL];omega
 have hw3:i6.wrap ((n:Int)+1-i)=(n:Int)+1-i:=by rw[yL];omega
 have hb1:(0:Int)<=(i:Int)+1:=by omega
 have hin:i<=n:=by omega
 have htn:((i:Int)+1).toNat=i+1:=by omega
 have hkk:(n:Int)+1-(i:Int)=((n+1-i:Nat):Int):=by omega
 have hik:i+(n+1-i)=n+1:=by omega
 have hb3:(i:Int)<=(n:Int):=by omega
 have hbw:g<w.heap.size:=(z6.1 hg).1;have hvw:vb<w.heap.size:=(z6.1 hv).1;have hs5:qY prog 53=some 6:=I2;obtain⟨olds,hod⟩:=wM (cur.toList.take (i*6));obtain⟨cs,hcsd⟩:=wM ((cur.toList.take (n*6)).drop (i*6));obtain⟨vs,hvsd⟩:=wM (vcur.toList.take 6);have hol:olds.length=i*6:=by rw[<-hod];simp;omega
 have hcl:cs.length=(n-i)*6:=by rw[<-hcsd];simp;omega
 have hvl:vs.length=1*6:=by rw[<-hvsd];simp;omega
 have hoget:∀j v,olds[j]?=some v->cur[j]?=some v:=fun j v hj=>by
  rw[<-hod,zX]at hj;split at hj
  ·simpa using hj
  ·cases hj
 have hcget:∀j v,cs[j]?=some v->cur[i*6+j]?=some v/\i*6+j<n*6:=fun j v hj=>by
  rw[<-hcsd,qI,zX]at hj;split at hj
  ·exact⟨by simpa using hj,by assumption⟩
  ·cases hj
 have hvget:∀j v,vs[j]?=some v->vcur[j]?=some v/\j<6:=fun j v hj=>by
  rw[<-hvsd,zX]at hj;split at hj
  ·exact⟨by simpa using hj,by assumption⟩
  ·cases hj
 have hc1:∀v∈cs,v.oneCell'=true:=fun v hv=>by obtain⟨j,hj⟩:=yN.1 hv;obtain⟨a,b⟩:=hcget j v hj;exact h1c _ v b a
 have hv1':∀v∈vs,v.oneCell'=true:=fun v hv=>by obtain⟨j,hj⟩:=yN.1 hv;obtain⟨a,b⟩:=hvget j v hj;exact h1v _ v b a
 have hold:(Builtin.firstCells i0.size i (.slice (some ⟨g,0,none⟩) i cap)).run prog w.drew=.ok olds.toArray w.drew:=by
  rw[his];exact run_firstCells_some w.drew 6 i ⟨g,0,none⟩ i cap olds hol (fun j v hj=>by rw[yz,zh];exact(kG hg j).trans (hoget j v hj))
 obtain⟨G,hG⟩:=wM (grownCap w (n+1) cap 53);obtain⟨ROW,hROW⟩:=wM (olds.toArray++Builtin.zeroCells z0.cells (n+1-i)++Builtin.zeroCells z0.cells (G-(n+1)));have hGn:n+1<=G:=by rw[<-hG];exact grownCap_ge w _ _ _
 have hGm:G<=maxLen:=by rw[<-hG];exact grownCap_le_maxLen w (n+1) cap 53 (by unfold maxLen;omega)
 have hrz:∀ty,(Builtin.append_ #[41,3] ty #[.slice (some ⟨g,0,none⟩) i cap,.int .i64 ((n:Int)+1-(i:Int))]).run prog w =
   .ok (.slice (some ⟨w.heap.size,0,none⟩) (n+1) G) (w.drew.alloc (.cells ROW 53)):=fun ty=>by
  have h:=Lib.run_append_grow_zeros w 41 3 ty 53 i0 z0 .i64 .i64 t24 t3 hi0 hz0 (some ⟨g,0,none⟩) i cap olds hold (n+1-i) (by omega) (by omega) (by omega) (by omega) (by rw[hib];omega) (by rw[hib,hik];exact growslice_fits hroom hbig);rw[hik,hG,hROW]at h;rw[hkk];exact h
 have hRl:ROW.size=G*6:=by rw[<-hROW,xA,xA,XV,XV,hzc,wF,hol];omega
 have hRo:∀j,j<i*6->ROW.toList[j]?=olds[j]?:=fun j hj=>by rw[<-hROW,Wm,Wm,qP];exact qC (show j<olds.length by omega)
 obtain⟨N,hN⟩:=wM w.heap.size;obtain⟨W1,hW1⟩:=wM (w.drew.alloc (.cells ROW 53));have hW1N:W1.heap[N]?=some (.cells ROW 53 (0,0)):=by rw[<-hW1,<-hN];exact Vk (w:=w.drew) _
 have hW1g:W1.heap[g]?=some (.cells cur 53 (0,0)):=by rw[<-hW1];exact(Zf (w:=w.drew) _ hbw).trans hg
 have hW1v:W1.heap[vb]?=some (.cells vcur tv (0,0)):=by rw[<-hW1];exact(Zf (w:=w.drew) _ hvw).trans hv
 obtain⟨row1,hrow1⟩:=wM (wS ROW.toList (i*6) vs);have hr1l:row1.length=G*6:=by rw[<-hrow1,wV (by rw[hvl,zR,hRl];omega),zR,hRl]
 have hcpA:∀(W:World),W.heap[N]?=some (.cells ROW 53 (0,0))->W.heap[vb]?=some (.cells vcur tv (0,0))->∀ty dc,(Builtin.copy_ #[41,41] ty #[.slice (some ⟨N,i*6,none⟩) (n+1-i) dc,.slice (some ⟨vb,0,none⟩) 1 vc]).run prog W=.ok (goInt ((1:Nat):Int)) (W.setRow N row1.toArray):=fun W hWg hWv ty dc=>by
  rw[<-hrow1];have:=y7 W 41 41 ty 53 6 1 N (i*6) (n+1-i) dc ⟨vb,0,none⟩ 1 vc ROW 53 vs t24 hs5 hWg (by simp only[QG];split<;>omega) hvl
   (fun j v hj=>by rw[yz,zh];exact(kG hWv _).trans (hvget j v hj).1) (by rw[hvl,hRl];omega) hv1'
  exact this
 have hcpB:∀(W:World),W.heap[N]?=some (.cells row1.toArray 53 (0,0))->W.heap[g]?=some (.cells cur 53 (0,0))->∀ty dc sc,(Builtin.copy_ #[41,41] ty #[.slice (some ⟨N,(i+1)*6,none⟩) (n-i) dc,.slice (some ⟨g,i*6,none⟩) (n-i) sc]).run prog W=.ok (goInt ((n-i:Nat):Int)) (W.setRow N (wS row1 ((i+1)*6) cs).toArray):=fun W hWg hWv ty dc sc=>by
  have:=y7 W 41 41 ty 53 6 (n-i) N ((i+1)*6) (n-i) dc ⟨g,i*6,none⟩ (n-i) sc row1.toArray 53 cs t24 hs5 hWg (by simp only[QG];split<;>omega) hcl
   (fun j v hj=>by rw[yz];exact(kG hWv _).trans (hcget j v hj).1) (by rw[hcl,wF,hr1l];omega) hc1
  exact this
 have hgN:g≠N:=by omega
 have hvN:vb≠N:=by omega
 have hW2N:(W1.setRow N row1.toArray).heap[N]?=some (.cells row1.toArray 53 (0,0)):=Qc _ _ _ _ _ _ hW1N;have hW2g:(W1.setRow N row1.toArray).heap[g]?=some (.cells cur 53 (0,0)):=(jW _ hgN).trans hW1g;have hfin:∀W:World,W.heap=((W1.setRow N row1.toArray).setRow N (wS row1 ((i+1)*6) cs).toArray).heap->W.os=w.os->W.tape=w.tape->W.output=w.output->w.drawn<=W.drawn->W.heap[N]?=some (.cells (wS row1 ((i+1)*6) cs).toArray 53 (0,0))/\Fr True w (fun b=>b=N) W:=fun W e1 e2 e3 e4 e5=>by
  refine⟨by rw[e1];exact Qc _ _ _ _ _ _ hW2N,e2,e3,e4,?_,fun _=>e5,fun k hk hn=>?_⟩
  ·rw[e1,<-hW1,setRow_size,setRow_size,cc];exact jS _
  ·rw[e1,jW _ hn,jW _ hn,<-hW1];exact Zf (w:=w.drew) _ hk
 have hm1:G<=9223372036854775807:=by unfold maxLen at hGm;omega
 have hGi:¬(G=i):=by omega
 have hGim:¬(G=i+1):=by omega
 have hci:¬(cap=i):=by omega
 rw[hN,hcsd,hvsd,hod];rw[hN,hW1]at hrz;clear hcsd hvsd hod hcl hvl hol hcget hvget hoget hc1 hv1' hold hG hROW hkk hik hi0 hz0 his hib hzc hr1l
 go_enter func203,Tryz.ntmps203
 go_wp2_with (first
  |(at_builtin;refine Lib.wpList_append_run _ rfl _ _ _ _ rfl _ _ rfl rfl _ _ (hrz _) ?_)
  |(at_builtin;refine wpList_copy_runI _ rfl _ _ 41 41 rfl _ _ rfl rfl (hcpA _ hW1N hW1v _ _) ?_)
  |(at_builtin;refine wpList_copy_runI _ rfl _ _ 41 41 rfl _ _ rfl rfl (hcpB _ hW2N hW2g _ _ _) ?_))
 go_region_law_o (refine step_copy_runI rfl _ _ 41 41 rfl (.slice (some ⟨N,(i+1)*6,none⟩) (n-i) (G-(i+1))) (.slice (some ⟨g,i*6,none⟩) (n-i) (cap-i)) (by simp[Act.eval,Act.put]) (by simp[Act.eval,Act.put]) (hcpB (W1.setRow N row1.toArray).drew hW2N hW2g 3 (G-(i+1)) (cap-i)) ?_)
 go_wp2
 go_ret
 subst hW1;subst hrow1;refine⟨G,ROW.toList,hGn,hGm,by simpa using hRl,hRo,rfl,?_⟩;refine hfin _ ?_ ?_ ?_ ?_ ?_
 ·rfl
 ·rfl
 ·rfl
 ·rfl
 ·first|exact jS _|exact z8 (jS _) (jS _)
theorem zaA:HP prog 203 53 6 96:=by
 intro w g A n i cap B c a C D u k K m v o L E d F p q r;have b:(a.toList.take 6).length=6:=by simp;omega
 have f:((c.toList.take (n*6)).drop (i*6)).length=(n-i)*6:=by simp;omega
 unfold maxLen at k;by_cases h:n+1<=cap
 ·refine(Gk w g A n i cap B c a C D h k v o E d F p q r).mono fun e N x=>?_
  obtain⟨rfl,t,y⟩:=x;refine⟨g,cap,_,h,by unfold maxLen;exact k,rfl,.inl rfl,t,?_,y,fun j H=>?_⟩
  ·rw[wF,wV (by rw[wV (by rw[f,zR,d];omega),b,zR,d];omega),wV (by rw[f,zR,d];omega),zR,d]
  ·have:=fG (l:=c.toList) (vs:=a.toList.take 6) (n:=n) (i:=i) (s:=6) (by omega) (by rw[zR,d];omega) b j H;simpa using this
 ·refine(L7 w g A n i cap B c a C D u (by omega) m o E d F p q r).mono fun e N x=>?_
  obtain⟨G,R,P,Q,J,S,rfl,t,y⟩:=x;have z:(c.toList.take (i*6)).length=i*6:=by simp;omega
  have T:(i+1)*6=i*6+(a.toList.take 6).length:=by rw[b];omega
  rw[T]at t;refine⟨w.heap.size,G,_,P,Q,rfl,.inr (zk _),t,?_,y,fun j H=>?_⟩
  ·rw[wF,wV (by rw[wV (by rw[b];omega),f,b];omega),wV (by rw[b];omega),J]
  ·have:=oa (R:=R) (olds:=c.toList.take (i*6)) (vs:=a.toList.take 6) (cs:=(c.toList.take (n*6)).drop (i*6)) (I:=i*6) z S (by rw[b,f,J];omega) j (by rw[b,f];omega);simpa using this
end Go.Q
namespace Go.Q
theorem P4{Y:Hp}{Z:Nat}{v:O}{xs:List zb}{c:zb}(h:qN Y Z 53 6 v xs)(d:xs.length<=1073741824) :
  kX C0 f203 [v,int (xs.length:Nat),.own Z 0 1] (qf Y Z (some ⟨53,6,true,[c]⟩)) (Z+1)=some (.own (Z+1) 0 (xs.length+1),qf (Ws v (qf Y Z (some ⟨53,6,true,[c]⟩))) (Z+1) (some ⟨53,6,true,xs++[c]⟩),Z+2):=by
 unfold kX;rw[zg (by simp[f203])];refine xK rfl ?_;have a:=qN.ji (P:=prog) (t:=41) (c:=c) h el41 I2 by53 ze53 rfl (by omega) (by unfold maxLen;omega) (by omega);rcases h with⟨rfl,rfl⟩|⟨id,hid,rfl,b⟩
 ·simp at a;simp[yZ,a,f203]
 ·have n1:¬id=Z:=by omega
  simp[yZ,a,b,n1,f203]
noncomputable abbrev HR:AM.Spec:=Dl C0 f203 53 6 96
theorem Dp:zi prog 203 HR:=
 ca (XL ⟨_,func203,by decide,by kernel_rfl⟩ I2 (by decide) zaA) (J3 jj func203)
theorem Gl{Y:Hp}{Z i:Nat}{v:O}{xs:List zb}{c:zb}(h:qN Y Z 53 6 v xs)(d:i<=xs.length)(b:xs.length<=1073741824) :
  HR [v,int i,.own Z 0 1] (qf Y Z (some ⟨53,6,true,[c]⟩)) (Z+1)=some (.own (Z+1) 0 (xs.length+1),qf (Ws v (qf Y Z (some ⟨53,6,true,[c]⟩))) (Z+1) (some ⟨53,6,true,xs.take i++c::xs.drop i⟩),Z+2):=by
 unfold HR Dl;by_cases a:i<xs.length
 ·rw[fH h a (by omega) (by unfold maxLen;omega)]
 ·obtain rfl:i=xs.length:=by omega
  rw[oe h];simp only;rw[P4 h b,we,zA]
def fW(l:List (za×Val)):O:=if l=[]then .nil else .sl 6 (l.map wN)
abbrev YU(l:List (za×Val)):O:=.agg [int 5,int 0,str [],.nil,fW l]
theorem zdN{a b:List (za×Val)}(h:fW a=fW b):a=b:=by
 unfold fW at h;split at h
 ·rename_i c;split at h
  ·rename_i d;rw[c,d]
  ·cases h
 ·split at h
  ·cases h
  ·injection h with _ h;exact YF (fun x _ y e=>Yp e) h
theorem Dq{a b:List (za×Val)}(h:YU a=YU b):a=b:=by simp only[O.agg.injEq,zq,qh,true_and]at h;exact zdN h
theorem aw(l:List (za×Val)):(fW l).ye=true:=by unfold fW;split<;>rfl
theorem P5(l:List (za×Val)):JF prog 41 (fW l)=some (int l.length):=by
 unfold fW;split
 ·rename_i h;subst h;simp[JF]
 ·simp[JF]
theorem zb4(Y:Hp){l:List (za×Val)}{i:Nat}(h:i<l.length):fW l=.sl 6 (l.map wN):=by unfold fW;rw[zf];intro e;subst e;simp at h
noncomputable def drRS:AM.Spec:=kX C0 f202
theorem L8:zi prog 202 drRS:=J3 jj func202
theorem Gm(n:za){l:List (za×Val)}{k:Nat}(h:k<l.length):Jy n (l.take (k+1))=Jy n (l.take k)++(if l[k].1=n then[]else[l[k]]):=by
 unfold Jy;rw[qE h,zjj];congr 1;by_cases a:l[k].1=n
 ·simp[a]
 ·simp[a]
theorem fI(n:za)(l:List (za×Val)):(Jy n l).length<=l.length:=hU _ _
theorem zaB(l:List (za×Val))(n:za)(Y:Hp)(Z:Nat)(hl:l.length<=1048576) :
  ∃v Y2 d,drRS [YU l,str n] Y Z=some (.agg [int 5,int 0,str [],.nil,v],Y2,d)/\Z<=d/\qN Y2 d 53 6 v ((Jy n l).map wN)/\(∀j m,v=.own j 0 m->Z<=j)/\∀j,j<Z->Y2 j=Y j:=by
 have N:∃x Y2 d,jr C0 f202 [YU l,str n] Y Z=some (x,Y2,d)/\∃v,x=.agg [int 5,int 0,str [],.nil,v]/\Z<=d/\qN Y2 d 53 6 v ((Jy n l).map wN)/\(∀j m,v=.own j 0 m->Z<=j)/\∀j,j<Z->Y2 j=Y j:=by
  refine w9 rfl ?_;have P:=P5 l;refine zM (fun M Y1 c=>M 1=str n/\M 2=.ref Z 0 0/\M 4=.ref (Z+1) 0 0/\Y1=qf (qf Y Z (some ⟨43,5,false,[[int 5,int 0,str [],.nil,fW l]]⟩)) (Z+1) (some jC)/\c=Z+2) (by simp[jC,aw]) ?_;rintro M _ _ ⟨q,f,i,rfl,rfl⟩;refine zM (fun b Y1 c=>b 1=str n/\b 2=.ref Z 0 0/\b 4=.ref (Z+1) 0 0/\b 5=.nil/\Y1=qf (qf Y Z (some ⟨43,5,false,[[int 5,int 0,str [],.nil,fW l]]⟩)) (Z+1) (some jC)/\c=Z+2) (by simp[q,f,i]) ?_;clear q f i M;rintro M _ _ ⟨q,f,i,E,rfl,rfl⟩;refine zM (fun b Y1 c=>b 2=.ref Z 0 0/\b 4=.ref (Z+1) 0 0/\qN Y1 c 53 6 (b 5) ((Jy n l).map wN)/\(∀j m,b 5=.own j 0 m->Z+2<=j)/\(∀j,j<Z->Y1 j=Y j)/\Y1 Z=some ⟨43,5,false,[[int 5,int 0,str [],.nil,fW l]]⟩/\Y1 (Z+1)=some jC/\Z+2<=c) ?_ ?_
  ·simp[q,f,i,E,P,zc];refine ql (fun k b Y1 c=>b 1=str n/\b 2=.ref Z 0 0/\b 4=.ref (Z+1) 0 0/\b 9=fW l/\b 10=int l.length/\b 11=int k/\k<=l.length/\qN Y1 c 53 6 (b 5) ((Jy n (l.take k)).map wN)/\(∀j m,b 5=.own j 0 m->Z+2<=j)/\(∀j,j<Z->Y1 j=Y j)/\Y1 Z=some ⟨43,5,false,[[int 5,int 0,str [],.nil,fW l]]⟩/\Y1 (Z+1)=some jC/\Z+2<=c) l.length
    ⟨by simp[q],by simp[f],by simp[i],by simp,by simp,by simp,by omega,by simp[E,Jy];exact qN.nil _ _ _ _,by simp[E],fun j t=>by dsimp only;rw[zc _ _ _ _ (by omega),zc _ _ _ _ (by omega)],by dsimp only;rw[zc _ _ _ _ (by omega)];simp,by simp,by simp⟩ ?_
   clear q f i E M;rintro k M Y1 c hk ⟨q,f,i,U,A,B,X,F,r,D,o,g,w⟩;by_cases p:k<l.length
   ·have z:(k:Int)<l.length:=by omega
    obtain⟨⟨a,x⟩,G⟩:∃y,l[k]=y:=⟨_,rfl⟩;have u:=zb4 Y1 p;have H:∀h,(l.map wN)[k]'h=str a::x.V:=fun h=>by simp[G,wN]
    have s:=Gm n p;rw[G]at s;have I:=wv k;have Q:=fI n (l.take k);rw[yu]at Q;have J:=F.more (some ⟨53,6,false,[str a::x.V]⟩);obtain⟨Y2,W,O2,R⟩:=C5 J (a,x) (by omega);simp only[wN]at W;by_cases K:a=n
    ·subst K;rw[zg rfl,jf]at s;simp[q,f,i,U,A,B,z,p,u,H,I];refine⟨p,by rw[s];exact J,r,fun j t=>?_,?_,?_,by omega⟩
     ·rw[zc _ _ _ _ (by omega)];exact D j t
     ·rw[zc _ _ _ _ (by omega),<-u];exact o
     ·rw[zc _ _ _ _ (by omega)];exact g
    ·rw[zf K]at s;have S:=jl K;simp[q,f,i,U,A,B,z,p,u,H,I,K,S,bne,zs,zF,zr,W];have C:∀j,j<Z+2->∀m,M 5≠.own j 0 m:=fun j t m e=>by have:=r j m e;omega
     refine⟨p,by rw[s];exact O2,by omega,fun j t=>?_,?_,?_,by omega⟩
     ·rw[R j (by omega) (C j (by omega)),zc _ _ _ _ (by omega)];exact D j t
     ·rw[R Z (by omega) (C Z (by omega)),zc _ _ _ _ (by omega),<-u];exact o
     ·rw[R (Z+1) (by omega) (C (Z+1) (by omega)),zc _ _ _ _ (by omega)];exact g
   ·obtain rfl:k=l.length:=by omega
    rw[we]at F;simp[A,B,f,i];exact⟨F,r,D,o,g,w⟩
  clear q f i E M;rintro M Y1 c ⟨f,i,F,r,D,o,g,w⟩;simp only[jC]at g;have hfc:=aw l;rcases F with⟨L,T⟩|⟨id,hid,L,T⟩
  ·simp[f,i,o,g,L,yF,zc,f202];refine⟨by omega,.inl ⟨rfl,T⟩,fun j t=>?_⟩;rw[zc _ _ _ _ (by omega),zc _ _ _ _ (by omega)];exact D j t
  ·have hge:=r id _ L;simp[f,i,o,g,L,yF,zc,f202];refine⟨by omega,.inr ⟨id,hid,by simp,?_⟩,by omega,fun j t=>?_⟩
   ·rw[zc _ _ _ _ (by omega),zc _ _ _ _ (by omega)];exact T
   ·rw[zc _ _ _ _ (by omega),zc _ _ _ _ (by omega)];exact D j t
 obtain⟨x,Y2,d,q,v,rfl,f⟩:=N;refine⟨v,Y2,d,?_,f⟩;unfold drRS kX;rw[zg (by simp[f202])];exact q
theorem Am{n:za}{x:Val}:∀{l:List (za×Val)} {i:Nat},i<=l.length->(∀j (h:j<l.length),j<i->Op.bytesLess l[j].1 n=true)->(∀h:i<l.length,Op.bytesLess l[i].1 n=false)->dK n x l=l.take i++(n,x)::l.drop i
 |[],i,a,_,_=>by simp at a;subst a;rfl
 |y::l,0,_,_,h=>by have:=h (by simp);simp only[yY]at this;rw[dK,this];rfl
 |y::l,i+1,a,b,h=>by
  have c:=b 0 (by simp) (by omega);simp only[yY]at c;rw[dK,zg c,Am (l:=l) (i:=i) (by simpa using a) (fun j e d=>by
   have:=b (j+1) (by simp;omega) (by omega);simpa using this) (fun f=>by
   have:=h (by simp;omega);simpa using this)]
  rfl
noncomputable def Fput:zb->Option O:=qW (α:=List (za×Val)×za×Val) (fun a=>[YU a.1,str a.2.1,.agg a.2.2.V]) (fun a=>a.1.length<=1048576) (fun a=>YU (Yh a.1 a.2.1 a.2.2))
theorem Gn:∀a b:List (za×Val)×za×Val,[YU a.1,str a.2.1,.agg a.2.2.V]=[YU b.1,str b.2.1,.agg b.2.2.V]->a=b:=by rintro⟨g,h,i⟩ ⟨j,k,l⟩ e;simp only[zq,qh]at e;obtain⟨d,f,c⟩:=e;have d:=Dq d;have f:=yp f;injection c with c;have c:=xq c;rw[d,f,c]
theorem P6(Y:Hp)(l:List (za×Val)):zO Y (YU l)=some (YU l,Y):=by unfold YU fW;split<;>rfl
theorem og(l:List (za×Val)):(YU l).noOwn=true:=by unfold YU fW;split<;>rfl
theorem Dr(l:List (za×Val))(n:za)(x:Val)(Y:Hp)(Z:Nat)(h:l.length<=1048576):zn false [] Fput [YU l,str n,.agg x.V] Y Z=some (YU (Yh l n x),Y,Z):=
 iX (l,n,x) _ _ (by unfold YU fW;split<;>simp[zH,zO,qm,qp]) Gn h (.inr (by have a:=og l;have b:=Ym x;simp only[wZ,er,a,b,Jc];rfl))
noncomputable abbrev Cput:Ctx:=qj prog [(202,drRS),(203,HR)]
theorem zaC:Gd Cput:=qQ mixed ⟨L8,Dp,trivial⟩
theorem AV:zi prog 155 (zn false [] Fput):=
 KW (C:=Cput) (pf:=fun g=>([]:List Nat).contains g) ⟨func155,by kernel_rfl,rfl,by kernel_rfl⟩ false [] _ fun args r h=>by
  obtain⟨⟨l,n,x⟩,rfl,S,rfl⟩:=zL h;simp only at S;refine⟨by simp[f155],?_⟩;clear h;refine Wp.of zaC (by kernel_rfl) ?_;have T:=aw l;refine zM (fun M Y1 U=>M 1=str n/\M 3=.ref 0 0 0/\M 5=.ref 1 0 0/\M 6=.ref 2 0 0/\Y1 0=some ⟨43,5,false,[[int 5,int 0,str [],.nil,fW l]]⟩/\Y1 1=some ⟨43,5,false,[x.V]⟩/\Y1 2=some jC/\U=3) (by simp[jC,T,zc]) ?_;rintro M Y1 _ ⟨d,f,k,o,W,b1,b2,rfl⟩;obtain⟨v,Y2,X,g1,hnx,q,B,P⟩:=zaB l n Y1 3 S;have hov:=q.cell;have hn0:∀m,v≠.own 0 0 m:=fun m e=>by have:=B 0 m e;omega
  have y:∀j,j<3->∀m,v≠.own j 0 m:=fun j hj m e=>by have:=B j m e;omega
  refine zM (fun a D E=>a 1=str n/\a 3=.ref 0 0 0/\a 5=.ref 1 0 0/\a 6=.ref 2 0 0/\D=qf Y2 0 (some ⟨43,5,false,[[int 5,int 0,str [],.nil,v]]⟩)/\E=X) ?_ ?_
  ·have c0:Y2 0=some ⟨43,5,false,[[int 5,int 0,str [],.nil,fW l]]⟩:=by rw[P 0 (by omega)];exact W
   simp[d,f,k,o,W,g1,c0,hov]
  have c1:Y2 1=some ⟨43,5,false,[x.V]⟩:=by rw[P 1 (by omega)];exact b1
  have c2:Y2 2=some jC:=by rw[P 2 (by omega)];exact b2
  clear d f k o g1 P W b1 b2 M Y1;rintro M _ Z ⟨d,f,k,o,rfl,rfl⟩;obtain⟨L,hL⟩:=wM (Jy n l);have hLl:L.length<=1048576:=by rw[<-hL];exact z8 (fI n l) S
  have I:Yh l n x=dK n x L:=by rw[Yh,hL]
  rw[hL]at q;have q:=q.put (j:=0) (y 0 (by omega)) (some ⟨43,5,false,[[int 5,int 0,str [],.nil,v]]⟩);have G:qf Y2 0 (some ⟨43,5,false,[[int 5,int 0,str [],.nil,v]]⟩) 0=some ⟨43,5,false,[[int 5,int 0,str [],.nil,v]]⟩:=by simp
  have d1:qf Y2 0 (some ⟨43,5,false,[[int 5,int 0,str [],.nil,v]]⟩) 1=some ⟨43,5,false,[x.V]⟩:=by rw[zc _ _ _ _ (by omega)];exact c1
  have Q:qf Y2 0 (some ⟨43,5,false,[[int 5,int 0,str [],.nil,v]]⟩) 2=some jC:=by rw[zc _ _ _ _ (by omega)];exact c2
  obtain⟨H,hH⟩:=wM (qf Y2 0 (some ⟨43,5,false,[[int 5,int 0,str [],.nil,v]]⟩));rw[hH]at q G d1 Q⊢;clear hH c1 c2 hn0 B;have p:=q.len el41;rw[yj]at p;rw[I];refine zM (fun a D E=>a 1=str n/\a 3=.ref 0 0 0/\a 5=.ref 1 0 0/\a 6=.ref 2 0 0/\a 7=int 0/\D=H/\E=Z) (by simp[d,f,k,o]) ?_;clear d f k o M;rintro M H Z ⟨d,f,k,o,w,rfl,rfl⟩;refine zM (fun a D E=>a 1=str n/\a 3=.ref 0 0 0/\a 5=.ref 1 0 0/\a 6=.ref 2 0 0/\(∃i,a 7=int (i:Nat)/\i<=L.length/\dK n x L=L.take i++(n,x)::L.drop i)/\D=H/\E=Z) ?_ ?_
  ·simp[w];refine ql (fun i a D E=>a 1=str n/\a 3=.ref 0 0 0/\a 5=.ref 1 0 0/\a 6=.ref 2 0 0/\a 7=int i/\i<=L.length/\(∀j (h:j<L.length),j<i->Op.bytesLess L[j].1 n=true)/\D=H/\E=Z) L.length ⟨by simp[d],by simp[f],by simp[k],by simp[o],by simp[w],by omega,fun j _ h=>absurd h (by omega),rfl,rfl⟩ ?_;clear d f k o w M;rintro i M _ _ hi ⟨d,f,k,o,w,s,t,rfl,rfl⟩;by_cases F:i<L.length
   ·have z:(i:Int)<L.length:=by omega
    obtain⟨id,hid,J,hb⟩:=q.at_ (by simp;omega);have hw1:=wv i;cases R:Op.bytesLess L[i].1 n
    ·have u:=Am (x:=x) s t (fun _=>R);subst J;simp[d,f,k,o,w,G,p,z,F,hb,wN,R];exact⟨i,rfl,s,u⟩
    ·subst J;simp[d,f,k,o,w,G,p,z,F,hb,wN,R,hw1];refine⟨F,fun j hj hji=>?_⟩;rcases zbl j i with h|h
     ·exact t j hj h
     ·obtain rfl:j=i:=by omega
      exact R
   ·obtain rfl:i=L.length:=by omega
    have u:=Am (x:=x) s t (fun h=>absurd h (by omega));simp[d,f,k,o,w,G,p];exact⟨L.length,rfl,zk _,u⟩
  clear d f k o w M;rintro M H Z ⟨d,f,k,o,⟨i,w,s,u⟩,rfl,rfl⟩;have k0:=fun b=>(yr q (qf H Z b) 0 (y 0 (by omega))).trans ((zc H Z 0 b (by omega)).trans G)
  have k1:=fun b=>(yr q (qf H Z b) 1 (y 1 (by omega))).trans ((zc H Z 1 b (by omega)).trans d1)
  have k2:=fun b=>(yr q (qf H Z b) 2 (y 2 (by omega))).trans ((zc H Z 2 b (by omega)).trans Q)
  have n0:¬(0:Nat)=Z+1:=by omega
  have n1:¬(1:Nat)=Z:=by omega
  have n2:¬(2:Nat)=Z+1:=by omega
  have K:L.length+1<=min i L.length+(L.length-i+1):=by omega
  have A:=Gl (i:=i) (c:=wN (n,x)) q (by simpa using s) (by simp;omega);simp only[wN]at A;simp only[jC]at Q k2;rw[u];simp[d,f,k,o,w,G,d1,Q,A,k0,k1,k2,n0,n1,n2,K,yF,zc,zI,qe,zs,zF,zr,f155];refine⟨YU (L.take i++(n,x)::L.drop i),?_,q9 _⟩;have N:List.take (L.length+1) (List.take i (List.map wN L)++(str n::x.V)::List.drop i (List.map wN L))=(L.take i++(n,x)::L.drop i).map wN:=by rw[qi (by simp;omega)];simp[wN]
  have AR:¬Z+1=2:=by omega
  have hn4:¬Z+1=0:=by omega
  simp[AM.freeze,zO,qm,qp,zc,AR,hn4,K,N,YU,fW]
def L9(l:List (za×Val))(n:za):O:=match l.find? (fun y=>y.1==n)with
 |some y=>.wL [.agg y.2.V,yh true]
 |none=>.wL [.agg [int 0,int 0,str [],.nil,.nil],yh false]
noncomputable def Ffld:zb->Option O:=qW (α:=List (za×Val)×za) (fun a=>[YU a.1,str a.2]) (fun a=>a.1.length<=1048576) (fun a=>L9 a.1 a.2)
theorem Ma(l:List (za×Val))(n:za)(Y:Hp)(Z:Nat)(h:l.length<=1048576):zn false [] Ffld [YU l,str n] Y Z=some (L9 l n,Y,Z):=
 iX (l,n) _ _ (by unfold YU fW;split<;>simp[zH,zO,qm,qp]) (fun a b e=>by
  obtain⟨g,i⟩:=a;obtain⟨j,k⟩:=b;simp only[zq,qh]at e;have c:=Dq e.1;have d:=yp e.2;rw[c,d]) h (.inr (by have f:=og l;simp only[wZ,er,f,Jc];rfl))
theorem Gp{n:za}{l:List (za×Val)}{k:Nat}(h:k<l.length)(a:∀j (h:j<l.length),j<k->(l[j].1==n)=false)(b:(l[k].1==n)=true):l.find? (fun y=>y.1==n)=some l[k]:=by rw[List.find?_eq_some_iff_getElem];refine⟨b,k,h,rfl,fun j c=>?_⟩;have:=a j (by omega) c;simpa using this
theorem GR:zi prog 154 (zn false [] Ffld):=
 KW (C:=C0) (pf:=fun g=>([]:List Nat).contains g) ⟨func154,by kernel_rfl,rfl,by kernel_rfl⟩ false [] _ fun args r h=>by
  obtain⟨⟨l,n⟩,rfl,L,rfl⟩:=zL h;simp only at L;refine⟨by simp[f154],?_⟩;clear h;refine Wp.of jj (by kernel_rfl) ?_;have E:=aw l;have F:=P5 l;refine zM (fun M Y1 c=>M 1=str n/\M 2=.ref 0 0 0/\M 4=.ref 1 0 0/\Y1 0=some ⟨43,5,false,[[int 5,int 0,str [],.nil,fW l]]⟩/\Y1 1=some jC/\c=2) (by simp[jC,E,zc]) ?_;rintro M Y1 _ ⟨v,s,m,G,e,rfl⟩;refine zM (fun d Y1 c=>d 4=.ref 1 0 0/\Y1 1=some jC/\l.find? (fun y=>y.1==n)=none) ?_ ?_
  ·simp[s,G,F];refine ql (fun k d Y1 c=>d 1=str n/\d 2=.ref 0 0 0/\d 4=.ref 1 0 0/\d 12=fW l/\d 13=int l.length/\d 14=int k/\k<=l.length/\(∀j (h:j<l.length),j<k->(l[j].1==n)=false)/\Y1 1=some jC/\2<=c) l.length ⟨by simp[v],by simp[s],by simp[m],by simp,by simp,by simp,by omega,fun j _ h=>absurd h (by omega),e,by simp⟩ ?_;clear v s m G e M Y1;rintro k M Y1 c S ⟨v,s,m,w,t,u,N,f,e,P⟩;by_cases i:k<l.length
   ·have q:(k:Int)<l.length:=by omega
    obtain⟨⟨a,x⟩,o⟩:∃y,l[k]=y:=⟨_,rfl⟩;have z:=zb4 Y1 i;have A:∀h,(l.map wN)[k]'h=str a::x.V:=fun h=>by simp[o,wN]
    have H:=wv k;have Q:¬(1:Nat)=c:=by omega
    have I:¬c=(1:Nat):=by omega
    cases B:a==n
    ·simp[v,s,m,w,t,u,q,i,z,A,B,H];refine⟨i,fun j D R=>?_,?_,by omega⟩
     ·rcases zbl j k with h|h
      ·simpa using f j D h
      ·obtain rfl:j=k:=by omega
       rw[o];simpa using B
     ·rw[zc _ _ _ _ (by omega)];exact e
    ·have p:=Gp i f (by rw[o];exact B);rw[o]at p;simp only[jC]at e;simp[v,s,m,w,t,u,q,i,z,A,B,e,Q,I,zc,L9,p,f154];exact⟨.wL [.agg x.V,yh true],by simp[AM.freeze,zH,zO,qm,qp],q9 _⟩
   ·obtain rfl:k=l.length:=by omega
    simp[t,u,m,e];intro a b J;obtain⟨j,D,K⟩:=List.getElem_of_mem J;have:=f j D D;rw[K]at this;simpa using this
  clear v s m G e M Y1;rintro M Y1 c ⟨m,e,p⟩;simp only[jC]at e;simp[m,e,zc,L9,p,zI,qe,f154];exact⟨_,rfl,q9 _⟩
theorem P7{s:za}{st:Jst}{Y:Hp}{id Z:Nat}(a:Y id=some (wH s st))(hs:s.length<=1048576)(b:st.p<=s.length)(c:st.p+1<=1048576):nmSj [.ref id 0 0] Y Z=some (.agg (aE s st).1.V,qf Y id (some (wH s (aE s st).2)),Z):=ZN y5 (fun _=>rfl) () a hs b c
noncomputable abbrev Cvj (k:Nat):Ctx:=qj prog [(112,Xf),(111,Xg),(113,wdS),(114,UM),(115,lisS k),(116,objS k),(117,nmSj)]
theorem zdO{k:Nat}(h:zi prog 79 (iH k)):AM.Good (Cvj k) (fun g=>[111].contains g):=qx mixed ⟨xL,by simp,xM,fun _=>ym _ _,Lb,by simp,gK,by simp,F1 h,by simp,F9 h,by simp,Fe,by simp,trivial⟩
theorem Mb{k:Nat}(h:zi prog 79 (iH k)):zi prog 79 (iH (k+1)):=
 ya (C:=Cvj k) func79 (by kernel_rfl) rfl TJ _ fun cs U cs' r Q=>by
  obtain⟨s,st,⟨⟩,rfl,rfl,hs,Y,W,rfl,rfl⟩:=Qp Q;refine⟨by simp[aU,f79],?_⟩;clear Q;have E:=zdO h;obtain⟨c,x⟩:=wM (jq s st);refine Wp.cut E (fun M Y Z=>M 0=.ref 0 0 0/\M 2=.ref 1 0 0/\Y 0=some (wH s st)/\Y 1=some jC/\Z=2) (by kernel_rfl) (by simp[aU,zZ,zz,zN,jC,zc]) ?_;rintro M Y1 _ ⟨f,i,l,T,rfl⟩;have g:=ZO (Z:=2) l hs Y;rw[x]at g;refine Wp.cut E (fun m Y Z=>m 0=.ref 0 0 0/\m 2=.ref 1 0 0/\m 3=Zu c/\Y=Y1/\Z=2) (by kernel_rfl) (by simp[f,i,g,Zu]) ?_;clear f i g M;rintro M Y1 _ ⟨f,i,j,rfl,rfl⟩;simp only[Zu]at j;have a:=l;simp only[zz,zN,zd,ze,zh,Nat.reduceAdd]at a;have b:=T;simp only[jC]at b;have F:Xz s (k+1) st=J8 zy s (k+1) st:=rfl;rw[F,J8];refine Wp.of E (by kernel_rfl) ?_;have n:=vT (Z:=2) st.p 10 l hs Y (by omega);by_cases o:s.length<=st.p
  ·rw[zg o];have q:(s.length:Int)<=st.p:=by omega
   simp only[zz,zN,zd,ze,zh,Nat.reduceAdd]at n;simp[f,i,j,a,q,n,b,zc,zI,qe,f79];exact qc rfl (by simp[zc,zz,zN]) kD rfl
  rw[zf o,x];have d:¬(s.length:Int)<=st.p:=by omega
  by_cases y:c=110
  ·have e:=mL (Z:=2) [110,117,108,108] l hs Y (by simp);rw[zg y];subst y;simp only[zz,zN,zd,ze,zh,Nat.reduceAdd]at e;simp[f,i,j,a,d,e,b,zc,zI,qe,f79];exact qc rfl (by simp[zc,zz,zN]) kD rfl
  have G:((c.toNat:Int)==110)=false:=WW 110 y;rw[zf y];by_cases z:c=116
  ·have e:=mL (Z:=2) [116,114,117,101] l hs Y (by simp);rw[zg z];subst z;simp only[zz,zN,zd,ze,zh,Nat.reduceAdd]at e;simp[f,i,j,a,d,e,b,zc,f79,zI,qe];exact qc rfl (by simp[zc,zz,zN]) kD rfl
  have H:((c.toNat:Int)==116)=false:=WW 116 z;rw[zf z];by_cases A:c=102
  ·have e:=mL (Z:=2) [102,97,108,115,101] l hs Y (by simp);rw[zg A];subst A;simp only[zz,zN,zd,ze,zh,Nat.reduceAdd]at e;simp[f,i,j,a,d,e,b,zc,f79,zI,qe];exact qc rfl (by simp[zc,zz,zN]) kD rfl
  have I:((c.toNat:Int)==102)=false:=WW 102 A;rw[zf A];by_cases B:c=34
  ·have e:=nq (Z:=2) l hs Y;rw[zg B];subst B;simp only[zz,zN,zd,ze,zh,Nat.reduceAdd]at e;simp[f,i,j,a,d,e,b,zc,f79,zI,qe];exact qc rfl (by simp[zc,zz,zN]) kD rfl
  have J:((c.toNat:Int)==34)=false:=WW 34 B;rw[zf B];by_cases t:c=91
  ·have e:=LF (k:=k) (Z:=2) l hs Y (x.trans t) (by omega);rw[zg t];subst t;simp only[zz,zN,zd,ze,zh,Nat.reduceAdd]at e;rw[wD]at e;simp only[wD]at e⊢;simp[f,i,j,a,d,e,b,zc,f79];exact qR (by simp[AM.freeze,zO,qm,qp]) (by simp[zc,zz,zN])
  have K:((c.toNat:Int)==91)=false:=WW 91 t;rw[zf t];by_cases u:c=123
  ·have e:=LG (k:=k) (Z:=2) l hs Y (x.trans u) (by omega);rw[zg u];subst u;simp only[zz,zN,zd,ze,zh,Nat.reduceAdd]at e;simp only[wD]at e⊢;simp[f,i,j,a,d,e,b,zc,f79];exact qR (by simp[AM.freeze,zO,qm,qp]) (by simp[zc,zz,zN])
  have L:((c.toNat:Int)==123)=false:=WW 123 u;rw[zf u];have v:=P7 (Z:=2) l hs Y (by omega);simp only[zz,zN,zd,ze,zh,Nat.reduceAdd]at v n;by_cases w:c=45
  ·rw[zg (.inl w)];subst w;simp only[wD]at v⊢;simp[f,i,j,a,d,v,b,zc,f79];exact qR (by simp[AM.freeze,zO,qm,qp]) (by simp[zc,zz,zN])
  have N:((c.toNat:Int)==45)=false:=WW 45 w;by_cases R:48<=c.toNat
  ·have D:(48:Int)<=c.toNat:=by omega
   by_cases S:c.toNat<=57
   ·have P:(c.toNat:Int)<=57:=by omega
    rw[zg (.inr (by simp[Qr,R,S]))];simp only[wD]at v⊢;simp[f,i,j,a,d,v,b,G,H,I,J,K,L,N,D,P,zc,f79];exact qR (by simp[AM.freeze,zO,qm,qp]) (by simp[zc,zz,zN])
   ·have P:¬(c.toNat:Int)<=57:=by omega
    rw[zf (by simp[Qr,S,w])];simp[f,i,j,a,d,n,b,G,H,I,J,K,L,N,D,P,zc,zI,qe,f79];exact qc rfl (by simp[zc,zz,zN]) kD rfl
  ·have D:¬(48:Int)<=c.toNat:=by omega
   rw[zf (by simp[Qr,R,w])];simp[f,i,j,a,d,n,b,G,H,I,J,K,L,N,D,zc,zI,qe,f79];exact qc rfl (by simp[zc,zz,zN]) kD rfl
theorem Mc:zi prog 79 (iH 0):=
 ya (C:=Cvj 0) func79 (by kernel_rfl) rfl TJ _ fun cs b cs' r a=>by obtain⟨s,st,⟨⟩,rfl,rfl,hs,Y,c,rfl,rfl⟩:=Qp a;omega
theorem oh:∀k,zi prog 79 (iH k)
 | 0=>Mc
 |k+1=>Mb (oh k)
theorem _root_.Go.AM.wO.S9{dr:Prop}{P:Program}{f:FuncId}{b:Type}{h:b->AM.Spec}{c:AM.Spec}(d:b)(hs:∀i,wO dr P f (h i))(g:∀args Y Z q,c args Y Z=some q->∃i,h i args Y Z=some q):wO dr P f c:=
 ⟨(hs d).1,fun args Y Z r j k e w S G vs l m=>by obtain⟨i,a⟩:=g args Y Z _ e;exact(hs i).2 args Y Z r j k a w S G vs l m⟩
noncomputable abbrev P8:AM.Spec:=mJ aU (fun _ _ _=>True) (fun s st _=>(Xz s (s.length+1) st).2) (fun s st _=>.agg (Xz s (s.length+1) st).1.V)
theorem Gq{s:za}{st:Jst}{Y:Hp}{id Z:Nat}(a:Y id=some (wH s st))(hs:s.length<=1048576)(b:st.p<=s.length):P8 [.ref id 0 0] Y Z=some (.agg (Xz s (s.length+1) st).1.V,qf Y id (some (wH s (Xz s (s.length+1) st).2)),Z):=ZN y5 (fun _=>rfl) () a hs b trivial
theorem Dt{T:TypeId}{F:zb->zb->Option (zb×O)}{args:zb}{Y:Hp}{Z:Nat}{q:O×Hp×Nat}(h:ie T F args Y Z=some q):∃id a cs cs' r,args=.ref id 0 0::a/\Y id=some (zz T cs)/\F cs a=some (cs',r)/\q=(r,qf Y id (some (zz T cs')),Z):=by
 unfold ie at h;split at h
 case h_2=>cases h
 rename_i id a;split at h
 case isFalse=>cases h
 obtain⟨b,e,h⟩:=yO.1 h;obtain⟨cs,c,h⟩:=yO.1 h;obtain⟨⟨cs',r0⟩,d,h⟩:=yO.1 h;simp only at h;split at h
 case isFalse=>cases h
 injection h with f;obtain⟨rfl,_⟩:=V8 c;exact⟨id,a,cs,cs',r0,rfl,e,d,f.symm⟩
theorem Du:zi prog 79 P8:=
 wO.S9 0 oh fun args Y Z q h=>by obtain⟨id,a,cs,cs',r,rfl,b,c,rfl⟩:=Dt h;obtain⟨s,st,⟨⟩,rfl,rfl,hs,Y,_,rfl,rfl⟩:=Qp c;exact⟨s.length+1,fA b hs Y (by omega)⟩
noncomputable abbrev Cor (k:Nat):Ctx:=qj prog [(152,Le),(97,bG),(150,iu),(153,Fu),(99,U6),(104,JL),(154,zn false [] Ffld),(155,zn false [] Fput),(72,iK k)]
theorem zdP{k:Nat}(h:wO False prog 72 (iK k)):AM.jH False (Cor k) (fun g=>[97].contains g):=qx mixed ⟨fX.lax,by simp,xm.lax,fun _=>ym _ _,KC.lax,by simp,s8.lax,by simp,nG,by simp,xW.lax,by simp,GR.lax,by simp,AV.lax,by simp,h,by simp,trivial⟩
theorem P9(n:za)(x:Val)(l:List (za×Val)):(dK n x l).length=l.length+1:=by simpa using(Ys n x l).length_eq
theorem Ra(l:List (za×Val))(n:za)(x:Val):(Yh l n x).length<=l.length+1:=by rw[Yh,P9];have:=fI n l;omega
theorem zaD(l:List (za×Val))(n:za):∃cs,L9 l n=.wL [.agg cs,yh ((l.map (·.1)).contains n)]/\cs.length=5/\cs.all O.ye=true:=by
 unfold L9;cases h:l.find? (fun y=>y.1==n)with
 |some y=>have b:=List.mem_of_find?_eq_some h;have a:=List.find?_some h;have:(l.map (·.1)).contains n=true:=ZU.2 (qq.2 ⟨y,b,by simpa using a⟩);exact⟨y.2.V,by rw[this],by simp,by simp⟩
 |none=>
  have:(l.map (·.1)).contains n=false:=by rw[Bool.eq_false_iff];intro c;obtain⟨y,d,a⟩:=qq.1 (ZU.1 c);have:=List.find?_eq_none.1 h y d;simp[a]at this
  exact⟨_,by rw[this],rfl,rfl⟩
abbrev WZ(l:List (za×Val)):Blk:=⟨43,5,false,[[int 5,int 0,str [],.nil,fW l]]⟩
def ObRI(s:za)(k:Nat)(b:Rst)(n:Nat)(st:St):Prop:=st.M 0=.ref 0 0 0/\st.M 2=.ref 1 0 0/\st.M 3=.ref 2 0 0/\2<st.Z/\st.Y 1=some jC/\∃l a j,st.Y 2=some (WZ l)/\st.Y 0=some (qL s a)/\b.p+1<=a.p/\a.p<=s.length/\l.length<=a.p/\s.length-a.p+1=n/\n<=j/\CW s (ky s k) j l a=JQ s (ky s k) b
theorem sE{cs:zb}{Y:Hp}(a:Y 0=some (zz TR cs))(l:List (za×Val))(b:Nat):ig TR cs (.agg (Val.mk 5 0 [] [] l).V) (YU l) Y b:=by
 refine qc (u:=uV) (P6 Y l) a kD ?_;unfold YU fW;split
 ·rename_i h;subst h;simp[o7,KQ,I0,wD,Val.kind,Val.n,Val.s,Val.items,Val.fields]
 ·simp[o7,KQ,I0,wD,Val.kind,Val.n,Val.s,Val.items,Val.fields]
theorem Md{k:Nat}(h:wO False prog 72 (iK k)):wO False prog 101 (obRS k):=
 ya (C:=Cor k) func101 (by kernel_rfl) rfl TR _ fun cs az cs' r hF=>by
  obtain⟨s,st,⟨⟩,rfl,rfl,hs,Y,⟨h91,hkk⟩,rfl,rfl⟩:=xt hF;refine⟨by simp[aU,f101],?_⟩;clear hF;have B:=zdP h;have hl0:=xO h91 (by decide);have sY:Ja s st 123=st.qH:=by unfold Ja;rw[zg h91]
  obtain⟨f,E⟩:=wM (kO s st.qH);have S7:st.qH.p<=s.length:=by simp only[Rst.qH];omega
  have oQ:=vU (s:=s) S7;rw[E]at oQ;have sZ:st.qH.p=st.p+1:=rfl;have hf0:fW []=.nil:=by unfold fW;rw[zg rfl]
  refine Wp.cut B (fun M Y Z=>M 0=.ref 0 0 0/\M 2=.ref 1 0 0/\Y 0=some (qL s st)/\Y 1=some jC/\Z=2) (by kernel_rfl) (by simp[aU,zZ,zz,qa,jC,zc]) ?_;rintro M Y1 _ ⟨d,i,o,X,rfl⟩;refine Wp.cut B (fun a Y Z=>a 0=.ref 0 0 0/\a 2=.ref 1 0 0/\a 3=.ref 2 0 0/\Y 0=some (qL s st)/\Y 1=some jC/\Y 2=some (WZ [])/\Z=3) (by kernel_rfl) (by simp[d,i,o,X,hf0,zc,zI,qe]) ?_;clear d i o X M Y1;rintro M Y1 _ ⟨d,i,m,o,X,q,rfl⟩;have g0:iu [.ref 0 0 0,.v (.int .u8 123)] Y1 3=some (.wL [],qf Y1 0 (some (qL s st.qH)),3):=by rw[<-sY];exact Kb 123 o hs Y (by decide)
  refine Wp.cut B (fun a Y Z=>a 0=.ref 0 0 0/\a 2=.ref 1 0 0/\a 3=.ref 2 0 0/\Y 0=some (qL s st.qH)/\Y 1=some jC/\Y 2=some (WZ [])/\Z=3) (by kernel_rfl) (by simp[d,i,m,g0,X,q,zc]) ?_;clear d i m o X q g0 M Y1;rintro M Y1 _ ⟨d,i,m,o,X,q,rfl⟩;have g1:=YM (id:=0) (Z:=3) o hs S7;rw[E]at g1;have hb1:qf Y1 0 (some (qL s f)) 0=some (qL s f):=by simp
  have g2:=Wi (Z:=3) hb1 hs oQ.2.1;refine Wp.cut B (fun a Y Z=>a 0=.ref 0 0 0/\a 2=.ref 1 0 0/\a 3=.ref 2 0 0/\Y=qf Y1 0 (some (qL s f))/\Z=3) (by kernel_rfl) (by simp[d,i,m,g1]) ?_;clear d i m M;rintro M _ _ ⟨d,i,m,rfl,rfl⟩;by_cases Q:ka s f=125
  ·have hl1:=xO Q (by decide);have hw1:=wj ((f.p:Int)+1);have hr:JQ s (ky s k) st=([],f.qH):=by simp only[JQ,sY,E,zg Q]
   have Tq:(⟨f.p+1,f.b⟩:Rst).bad=f.bad/\(⟨f.p+1,f.b⟩:Rst).QO=f.QO:=⟨rfl,rfl⟩;rw[Q]at g2;rw[hr];simp only[zz,qa,zd,ze,zh,Nat.reduceAdd]at g2⊢;refine Wp.seq (Wp.of B (by kernel_rfl) ?_);simp only[jC]at X;simp only[WZ,hf0]at q;simp[d,i,m,g2,X,q,hw1,zc,f101];exact qc rfl (by simp[zc,zz,qa,Rst.qH,Tq]) kD rfl
  have hne:(((ka s f).toNat:Int)==125)=false:=WW 125 Q;have hr:CW s (ky s k) (s.length+1) [] f=JQ s (ky s k) st:=by simp only[JQ,sY,E,zf Q]
  refine Wp.cut B (fun a Y Z=>ObRI s k st (s.length-f.p+1) ⟨a,Y,Z⟩) (by kernel_rfl) ?_ ?_
  ·simp[d,g2,hne];exact⟨by simp[d],by simp[i],by simp[m],by simp,by simp[zc,X],[],f,s.length+1,by simp[zc,q],by simp,by omega,oQ.2.1,by simp,rfl,by omega,hr⟩
  clear d i m o hb1 X q g1 g2 M Y1;rintro M Y1 Z hI;refine Wp.seq (Wp.block (Wp.loop (ObRI s k st) _ hI ?_));clear hI Q hne hr oQ E M Y1 Z f;rintro n ⟨M,Y1,Z⟩ ⟨d,i,m,hnx,c,l,f,j,q,o,hge,hpl,hll,hn,hnj,L⟩;simp only at d i m hnx c q o;obtain⟨j,rfl⟩:∃j',j=j'+1:=⟨j-1,by omega⟩;rw[CW]at L;have A:=o;simp only[zz,qa,zd,ze,zh,Nat.reduceAdd]at A;have R:=aw l;by_cases he:f.b=none
  case neg=>
   rw[zg he]at L;have hnb:¬f.bad<0:=by have:=lx he;omega
   refine Wp.seq (Wp.of B (by kernel_rfl) ?_);simp[d,A,hnb];refine Wp.of B (by kernel_rfl) ?_;rw[<-L];have F:=c;simp only[jC]at F;simp[i,m,q,F,R,f101];exact sE (by rw[zc _ _ _ _ (by decide)];exact o) l _
  rw[zf (by simpa using he)]at L;have hbn:=lv he;obtain⟨G,Ei⟩:=wM (kO s f);have S:=vU (s:=s) hpl;rw[Ei]at L S;have Na:=uT (s:=s) S.2.1;have T:=uW (s:=s) (l:=l) S.2.1;obtain⟨w,I,htx⟩:∃w I,kM s G=(w,I):=⟨_,_,rfl⟩;obtain⟨D,U⟩:=wM (pH s l G);have u:D=if(l.map (·.1)).contains w=true then I.fail G.p 7 else I:=by rw[<-U,pH,htx]
  obtain⟨stq,hcl⟩:=wM (uP s l G);have J:=F8 (s:=s) (l:=l) S.2.1;have hbln:=vU (s:=s) (st:=D) (by rw[<-U];exact T.2.1);have hmul:=Xi (s:=s) (st:=kO s D) 58 (by decide) hbln.2.1;have hcq:stq=kO s (Ja s (kO s D) 58):=by rw[<-hcl,uP,U]
  rw[htx]at L Na T J;rw[U]at T;rw[hcl]at L J;simp only at L Na T J;obtain⟨x,z,hx⟩:∃x z,ky s k stq=(x,z):=⟨_,_,rfl⟩;have hvl:=Vf k stq J.2.1;rw[hx]at L hvl;simp only at L hvl;have hml:=fC (s:=s) (st:=z) 125 (by decide) hvl.2.1;obtain⟨bo,st2,hmo⟩:∃bo st2,K9 s z 125=(bo,st2):=⟨_,_,rfl⟩;rw[hmo]at L hml;simp only at L hml;have hpfl:=Ra l w x;refine Wp.cut B (fun a t P=>a 0=.ref 0 0 0/\a 2=.ref 1 0 0/\a 3=.ref 2 0 0/\t=Y1/\P=Z) (by kernel_rfl) (by simp[d,i,m,A,hbn]) ?_;clear d i m M;rintro M Y1 Z ⟨d,i,m,rfl,rfl⟩;refine Wp.block ?_;have gb:=YM (id:=0) (Z:=Z) o hs hpl;rw[Ei]at gb;refine Wp.cut B (fun a t P=>a 0=.ref 0 0 0/\a 2=.ref 1 0 0/\a 3=.ref 2 0 0/\t 0=some (qL s G)/\t 1=some jC/\t 2=some (WZ l)/\P=Z) (by kernel_rfl) (by simp[d,i,m,gb,c,q,zc]) ?_;clear d i m gb o A c q M Y1;rintro M Y1 Z ⟨d,i,m,o,c,q,rfl⟩;refine Wp.cut B (fun a t P=>a 0=.ref 0 0 0/\a 2=.ref 1 0 0/\a 3=.ref 2 0 0/\a 4=int G.p/\t=Y1/\P=Z) (by kernel_rfl) (by have A:=o;simp only[zz,qa,zd,ze,zh,Nat.reduceAdd]at A;simp[d,i,m,A]) ?_
  clear d i m M;rintro M Y1 Z ⟨d,i,m,h4,rfl,rfl⟩;have gt:=ss (id:=0) (Z:=Z) o hs S.2.1;rw[htx]at gt;refine Wp.cut B (fun a t P=>a 0=.ref 0 0 0/\a 2=.ref 1 0 0/\a 3=.ref 2 0 0/\a 4=int G.p/\a 5=str w/\t 0=some (qL s I)/\t 1=some jC/\t 2=some (WZ l)/\P=Z) (by kernel_rfl) (by simp[d,i,m,h4,gt,c,q,zc]) ?_;clear d i m h4 gt o c q M Y1;rintro M Y1 Z ⟨d,i,m,h4,N,o,c,q,rfl⟩;refine Wp.cut B (fun a t P=>a 0=.ref 0 0 0/\a 2=.ref 1 0 0/\a 3=.ref 2 0 0/\a 5=str w/\t 0=some (qL s D)/\t 1=some jC/\t 2=some (WZ l)/\2<P) (by kernel_rfl) ?_ ?_
  ·obtain⟨cs,hfe,hc5,GN⟩:=zaD l w;have gf:=fun Y Z=>Ma l w Y Z (by omega)
   rw[hfe]at gf;have W:(∀y,y∈cs->y.ye=true)=True:=eq_true (qB.1 GN);have A:=o;simp only[zz,qa,zd,ze,zh,Nat.reduceAdd]at A;have u0:=fun b=>(zc Y1 Z 0 b (by omega)).trans o
   have u0':=fun b=>(zc Y1 Z 0 b (by omega)).trans A
   have u1:=fun b=>(zc Y1 Z 1 b (by omega)).trans c
   have u2:=fun b=>(zc Y1 Z 2 b (by omega)).trans q
   cases htw:(l.map (·.1)).contains w
   ·rw[htw]at gf u;simp only[zm,zQ]at u;rw[u];simp[d,i,m,h4,N,q,gf,hc5,W,R];exact⟨u0 _,u1 _,u2 _,by omega⟩
   ·rw[htw]at gf u;simp only[zK]at u;by_cases hsb:I.b=none
    ·have hsn:=lv hsb;have gfl:=vq (id:=0) (Z:=Z+1) (Y:=qf Y1 Z (some ⟨43,5,false,[cs]⟩)) G.p 7 (u0 _) hs Na.2.1;rw[<-u]at gfl;simp[d,i,m,h4,N,q,u0',hsn,gf,gfl,hc5,W,R,zc];exact⟨u1 _,u2 _,by omega⟩
    ·have hsn:¬I.bad<0:=by have:=lx hsb;omega
     have zhu:D=I:=by rw[u,ah hsb]
     rw[zhu];simp[d,i,m,h4,N,q,u0',hsn,gf,hc5,W,R];exact⟨rfl,u1 _,u2 _,by omega⟩
  clear d i m h4 N o c q hnx U u htx Na hcl M Y1 Z;rintro M Y1 Z ⟨d,i,m,N,o,c,q,hnx⟩;have gb:=YM (id:=0) (Z:=Z) o hs T.2.1;refine Wp.cut B (fun a t P=>a 0=.ref 0 0 0/\a 2=.ref 1 0 0/\a 3=.ref 2 0 0/\a 5=str w/\t 0=some (qL s (kO s D))/\t 1=some jC/\t 2=some (WZ l)/\P=Z) (by kernel_rfl) (by simp[d,i,m,N,gb,c,q,zc]) ?_;clear d i m N gb o c q M Y1;rintro M Y1 Z ⟨d,i,m,N,o,c,q,rfl⟩;have gm:iu [.ref 0 0 0,.v (.int .u8 58)] Y1 Z=some (.wL [],qf Y1 0 (some (qL s (Ja s (kO s D) 58))),Z):=Kb 58 o hs hbln.2.1 (by decide);refine Wp.cut B (fun a t P=>a 0=.ref 0 0 0/\a 2=.ref 1 0 0/\a 3=.ref 2 0 0/\a 5=str w/\t 0=some (qL s (Ja s (kO s D) 58))/\t 1=some jC/\t 2=some (WZ l)/\P=Z) (by kernel_rfl) (by simp[d,i,m,N,gm,c,q,zc]) ?_;clear d i m N gm o c q M Y1;rintro M Y1 Z ⟨d,i,m,N,o,c,q,rfl⟩;have gb:=YM (id:=0) (Z:=Z) o hs hmul.2;rw[<-hcq]at gb;refine Wp.cut B (fun a t P=>a 0=.ref 0 0 0/\a 2=.ref 1 0 0/\a 3=.ref 2 0 0/\a 5=str w/\t 0=some (qL s stq)/\t 1=some jC/\t 2=some (WZ l)/\P=Z) (by kernel_rfl) (by simp[d,i,m,N,gb,c,q,zc]) ?_;clear d i m N gb o c q M Y1;rintro M Y1 Z ⟨d,i,m,N,o,c,q,rfl⟩;have g:=nH (k:=k) (id:=0) (Z:=Z) o hs J.2.1 (by omega);rw[hx]at g;simp only at g;have gp:=fun Y Z=>Dr l w x Y Z (by omega)
  have hfc2:=aw (Yh l w x);refine Wp.seq (Wp.mono (K:=fun e st=>e=.normal/\(st.M 0=.ref 0 0 0/\st.M 2=.ref 1 0 0/\st.M 3=.ref 2 0 0/\st.Z=Z/\st.Y=qf (qf Y1 0 (some (qL s z))) 2 (some (WZ (Yh l w x))))) ?_ ?_)
  ·refine Wp.aD mixed ?_;rw[show Wh _ _ _=[[0,1,2,3,4,5],[0,2,1,3,4,5],[0,2,3,1,4,5],[1,0,2,3,4,5],[1,2,0,3,4,5],[1,2,3,0,4,5],[2,0,1,3,4,5],[2,0,3,1,4,5],[2,1,0,3,4,5],[2,1,3,0,4,5],[2,3,0,1,4,5],[2,3,1,0,4,5]]from by kernel_rfl];intro lst hl;simp only[zv,wu,or_false]at hl;rcases hl with rfl|rfl|rfl|rfl|rfl|rfl|rfl|rfl|rfl|rfl|rfl|rfl
   all_goals
    refine Jd.ord B _ (by kernel_rfl) (by decide) ?_;simp[d,i,m,N,q,g,gp,R,hfc2,zc]
  rintro e ⟨σ1,hp3,nx3⟩ ⟨rfl,e0,e2,e3,AR,hh3⟩;simp only at e0 e2 e3 AR hh3;subst AR;subst hh3;simp only[ZQ];have d0:qf (qf Y1 0 (some (qL s z))) 2 (some (WZ (Yh l w x))) 0=some (qL s z):=by rw[zc _ _ _ _ (by decide)];simp
  have d1:qf (qf Y1 0 (some (qL s z))) 2 (some (WZ (Yh l w x))) 1=some jC:=by rw[zc _ _ _ _ (by decide),zc _ _ _ _ (by decide)];exact c
  have d2:qf (qf Y1 0 (some (qL s z))) 2 (some (WZ (Yh l w x))) 2=some (WZ (Yh l w x)):=by simp
  obtain⟨H,hH⟩:=wM (qf (qf Y1 0 (some (qL s z))) 2 (some (WZ (Yh l w x))));rw[hH]at d0 d1 d2⊢;clear hH d i m N o c q g gp M Y1;have F:=d1;simp only[jC]at F;have g5:Fu [.ref 0 0 0,.v (.int .u8 125)] H nx3=some (yh (K9 s z 125).1,qf H 0 (some (qL s (K9 s z 125).2)),nx3):=sv 125 d0 hs hvl.2.1 (by decide);rw[hmo]at g5;simp only at g5;cases bo
  ·simp only[zm,zQ]at L;rw[<-L];refine Wp.of B (by kernel_rfl) ?_;simp[e0,g5];refine Wp.of B (by kernel_rfl) ?_;simp[e2,e3,d2,F,hfc2,zc,f101];exact sE (by rw[zc _ _ _ _ (by decide)];simp) _ _
  ·simp only[zK]at L;have:=hml.2.2 rfl;refine Wp.of B (by kernel_rfl) ?_;simp[e0,g5];exact⟨s.length-st2.p+1,by omega,by simp[e0],by simp[e2],by simp[e3],hnx,by simp[zc,d1],Yh l w x,st2,j,by simp[zc,d2],by simp,by omega,hml.2.1,by omega,rfl,by omega,L⟩
noncomputable abbrev Cvr6 (k:Nat):Ctx:=qj prog [(104,JL),(97,bG),(98,PA),(99,U6),(100,liRS k),(101,obRS k),(102,zn false [] (BE iC)),(103,nmRS)]
theorem zaE{k:Nat}(h:wO False prog 72 (iK k)):AM.jH False (Cvr6 k) (fun g=>[97,102].contains g):=qx mixed ⟨xW.lax,by simp,xm.lax,fun _=>ym _ _,MU.lax,by simp,nG,by simp,LN h,by simp,Md h,by simp,xX.lax,fun _=>zt _ _,LJ,by simp,trivial⟩
theorem Rb{k:Nat}(h:wO False prog 72 (iK k)):wO False prog 72 (iK (k+1)):=
 ya (C:=Cvr6 k) func72 (by kernel_rfl) rfl TR _ fun cs U cs' r J=>by
  obtain⟨s,st,⟨⟩,rfl,rfl,hs,Y,W,rfl,rfl⟩:=xt J;refine⟨by simp[aU,f72],?_⟩;clear J;have K:=zaE h;obtain⟨c,n⟩:=wM (ka s st);refine Wp.cut K (fun M Y Z=>M 0=.ref 0 0 0/\M 2=.ref 1 0 0/\Y 0=some (qL s st)/\Y 1=some jC/\Z=2) (by kernel_rfl) (by simp[aU,zZ,zz,qa,jC,zc]) ?_;rintro M Y1 _ ⟨i,j,l,S,rfl⟩;have g:=Wi (Z:=2) l hs Y;rw[n]at g;have t:=l;simp only[zz,qa,zd,ze,zh,Nat.reduceAdd]at t;have d:=S;simp only[jC]at d;rw[ky,n];refine Wp.of K (by kernel_rfl) ?_;have m:∀(w:za) (a b:Int),(∀c∈w,c≠0)->w.length<=10->∃Y2 e,PA [.ref 0 0 0,str w,su a b] Y1 2=some (su a b,Y2,e)/\Y2 0=some (qL s (oW s w st))/\Y2 1=some ⟨43,5,false,[[int 0,int 0,str [],.nil,.nil]]⟩:=fun w a b T I=>by obtain⟨Y2,e,x,_,y,z⟩:=zac (s:=s) (w:=w) (st:=st) (Z:=2) a b l (by omega) hs Y T I;exact⟨Y2,e,x,y,by rw[z 1 (by omega) (by omega)];exact d⟩
  have L:=vq (Z:=2) st.p 10 l hs Y;by_cases A:c=110
  ·obtain⟨Y2,e,f,u,v⟩:=m [110,117,108,108] 0 0 (by decide) (by decide);rw[zg A];subst A;simp[i,j,g,f,v,d,zI,qe,f72];exact qc rfl (by rw[zc _ _ _ _ (by decide)];exact u) kD rfl
  have x:((c.toNat:Int)==110)=false:=WW 110 A;rw[zf A];by_cases B:c=116
  ·obtain⟨Y2,e,f,u,v⟩:=m [116,114,117,101] 1 1 (by decide) (by decide);rw[zg B];subst B;simp[i,j,g,f,v,d,zI,qe,f72];exact qc rfl (by rw[zc _ _ _ _ (by decide)];exact u) kD rfl
  have N:((c.toNat:Int)==116)=false:=WW 116 B;rw[zf B];by_cases D:c=102
  ·obtain⟨Y2,e,f,u,v⟩:=m [102,97,108,115,101] 1 0 (by decide) (by decide);rw[zg D];subst D;simp[i,j,g,f,v,d,zI,qe,f72];exact qc rfl (by rw[zc _ _ _ _ (by decide)];exact u) kD rfl
  have y:((c.toNat:Int)==102)=false:=WW 102 D;rw[zf D];by_cases E:c=34
  ·have f:=ss (Z:=2) l hs Y;rw[zg E];subst E;simp[i,j,g,f,d,zc,zI,qe,f72];exact qc rfl (by simp[zc,zz,qa]) kD rfl
  have z:((c.toNat:Int)==34)=false:=WW 34 E;rw[zf E];by_cases o:c=91
  ·have I:=xO (n.trans o) (by decide);have f:=PB (k:=k) (Z:=2) l hs Y (n.trans o) (by omega);rw[zg o];subst o;simp only[wD]at f⊢;simp[i,j,g,f,d,zc,f72];exact qR (by simp[AM.freeze,zO,qm,qp]) (by simp[zc,zz,qa])
  have P:((c.toNat:Int)==91)=false:=WW 91 o;rw[zf o];by_cases q:c=123
  ·have I:=xO (n.trans q) (by decide);have f:=PC (k:=k) (Z:=2) l hs Y (n.trans q) (by omega);rw[zg q];subst q;simp only[wD]at f⊢;simp[i,j,g,f,d,zc,f72];exact qR (by simp[AM.freeze,zO,qm,qp]) (by simp[zc,zz,qa])
  have Q:((c.toNat:Int)==123)=false:=WW 123 q;rw[zf q];have F:=Pr (Z:=2) l hs Y;by_cases G:c=45
  ·rw[zg (.inl G)];subst G;simp only[wD]at F⊢;simp[i,j,g,F,d,zc,f72];exact qR (by simp[AM.freeze,zO,qm,qp]) (by simp[zc,zz,qa])
  have R:((c.toNat:Int)==45)=false:=WW 45 G;cases H:jg c
  ·rw[zf (by simp[G])];rw[<-dq]at H;simp only[zz,qa,zd,ze,zh,Nat.reduceAdd]at L;simp[i,j,g,L,t,d,x,N,y,z,P,Q,R,H,zc,zI,qe,f72];exact qc rfl (by simp[zc,zz,qa]) kD rfl
  ·rw[zg (.inr rfl)];rw[<-dq]at H;simp only[wD]at F⊢;simp[i,j,g,F,d,x,N,y,z,P,Q,R,H,zc,f72];exact qR (by simp[AM.freeze,zO,qm,qp]) (by simp[zc,zz,qa])
theorem Rc:wO False prog 72 (iK 0):=
 ya (C:=Cvr6 0) func72 (by kernel_rfl) rfl TR _ fun cs b cs' r a=>by obtain⟨s,st,⟨⟩,rfl,rfl,hs,Y,c,rfl,rfl⟩:=xt a;omega
theorem sF:∀k,wO False prog 72 (iK k)
 | 0=>Rc
 |k+1=>Rb (sF k)
noncomputable abbrev vaRJ:AM.Spec:=mR aU (fun _ _ _=>True) (fun s st _=>(ky s (s.length+1) st).2) (fun s st _=>.agg (ky s (s.length+1) st).1.V)
theorem Me{s:za}{st:Rst}{Y:Hp}{id Z:Nat}(a:Y id=some (qL s st))(hs:s.length<=1048576)(b:st.p<=s.length):vaRJ [.ref id 0 0] Y Z=some (.agg (ky s (s.length+1) st).1.V,qf Y id (some (qL s (ky s (s.length+1) st).2)),Z):=ZP y5 (fun _=>rfl) () a hs b trivial
theorem Gr:wO False prog 72 vaRJ:=
 wO.S9 0 sF fun args Y Z q h=>by obtain⟨id,a,cs,cs',r,rfl,b,c,rfl⟩:=Dt h;obtain⟨s,st,⟨⟩,rfl,rfl,hs,Y,_,rfl,rfl⟩:=xt c;exact⟨s.length+1,nH b hs Y (by omega)⟩
end Go.Q
namespace Go.Q
open Go.RowKit Go.AM Go.PrLaw
def fY:List za:=[[],[104,97,115],[61],[60],[60,61],[62],[62,61],[112,114,101,102,105,120],[115,117,102,102,105,120],[99,111,110,116,97,105,110,115],[108,105,107,101],[118,101,114,115,105,111,110],[111,118,101,114,108,97,112,115]]
def Q6(op:Int):za:=(fY[op.toNat]?).getD []
def zg5(l:List Val):za:=if l=[]then[110,101,118,101,114]else Lib.join (l.map Val.show) [32,124,32]
def zg6(c:Cnd):za:=if xR c.op=true then quoB c.pat else zg5 c.ki
def zg7(c:Cnd):za:=if c.op=1 then[104,97,115,32,46]++c.attr else[46]++(c.attr++([32]++(Q6 c.op++([32]++zg6 c))))
def zg8(k:Int):za:=if k=1 then[97,108,108]else if k=2 then[97,110,121]else[110,111,116]
mutual
def Cnd.show:Cnd->za
 | .mk k a o v p n l=>if k=4 then zg7 (.mk k a o v p n l)else if k=5 then[105,110,32]++n else zg8 k++([40]++(Lib.join (Ta l) [44,32]++[41]))
def Ta:List Cnd->List za
 |[]=>[]
 |c::l=>c.show::Ta l
end
inductive COk:Cnd->Prop
 |mk {k o:Int} {a p n:List UInt8} {v:List Val} {l:List Cnd}:1<=k->k<=5->(k=4->1<=o/\o<=12)->(∀x∈v,VOk x)->(k=4->YR o=false->v=[])->(∀x∈l,COk x)->COk (.mk k a o v p n l)
end Go.Q
namespace Go.Q
structure Pst where
 p:Nat
 d:Nat
 e:Int
 i:Nat
namespace Pst
def fail(st:Pst)(k:Nat)(x:Int):Pst:=if st.e=0 then⟨st.p,st.d,x,k⟩else st
def mv(st:Pst)(k:Nat):Pst:=⟨k,st.d,st.e,st.i⟩
def dn(st:Pst):Pst:=⟨st.p,st.d+1,st.e,st.i⟩
def up(st:Pst):Pst:=⟨st.p,st.d-1,st.e,st.i⟩
end Pst
def ZG(c:UInt8):Bool:=Zn c.toNat
def YV(c:UInt8):Bool:=c==40||c==41||c==44||c==46||c==124||c==61||c==60||c==62
def wY:za->za
 |[]=>[]
 |c::l=>if(c=60\/c=62)/\l.head?=some 61 then[c,61]else if YV c=true then[c]else(c::l).takeWhile ZG
def zC:Cnd:=.mk 0 [] 0 [] [] [] []
section
variable(s:za)
def y8(st:Pst):Pst:=st.mv (st.p+((s.drop st.p).takeWhile (·==32)).length)
def KF(st:Pst):za:=wY (s.drop (y8 s st).p)
def ch(st:Pst):Pst:=(y8 s st).fail (y8 s st).p 10
def kz(st:Pst)(w:za):Bool×Pst:=if st.e≠0 then(false,st)else if KF s st=w then(true,(y8 s st).mv ((y8 s st).p+w.length))else(false,y8 s st)
def Yx(st:Pst)(w:za):Pst:=if(kz s st w).1=true then(kz s st w).2 else ch s (kz s st w).2
def WE(w:za):Bool:=match w with
 |[]=>false
 |c::_=>ZG c
def gY(st:Pst):za×Pst:=if st.e≠0\/WE (KF s st)=false then([],ch s (y8 s st))else(KF s st,(y8 s st).mv ((y8 s st).p+(KF s st).length))
def VL(w:za):Bool:=match w with
 |[]=>false
 |c::_=>decide (97<=c)&&decide (c<=122)&&!(w==[110,117,108,108])&&!(w==[116,114,117,101])&&!(w==[102,97,108,115,101])
variable(srt:List (za×Val)->List (za×Val))(srv:List Val->List Val)
def JA(st:Pst):Val×Pst:=
 let a:=y8 s st
 if st.e≠0 then(zV,a)
 else if VL (KF s st)=true then(zV,ch s a)
 else let r:=Zo srt s a.p
  (r.1,(if r.2.2=0 then a else a.fail r.2.1 10).mv r.2.1)
def Dv:Nat->List Val->Pst->List Val×Pst
 | 0,l,st=>(l,st)
 |k+1,l,st=>if(kz s st [124]).1=true then Dv k (l++[(JA s srt (kz s st [124]).2).1]) (JA s srt (kz s st [124]).2).2 else(l,(kz s st [124]).2)
def Dw(st:Pst):List Val×Pst:=
 if(kz s st [110,101,118,101,114]).1=true then([],(kz s st [110,101,118,101,114]).2)else
 let a:=JA s srt (kz s st [110,101,118,101,114]).2;let r:=Dv s srt (s.length+1) [a.1] a.2
 (srv r.1,r.2)
def Vl(w:za):Int:=if w∈fY then(fY.idxOf w:Int)else -1
def Dx(st:Pst):Cnd×Pst:=
 let a:=gY s st;let o:=Vl (KF s a.2);let c:=y8 s a.2
 if c.e≠0 then(.mk 4 a.1 o [] [] [] [],c)
 else if o<2 then(.mk 4 a.1 o [] [] [] [],ch s c)
 else let b:=Yx s c (Q6 o)
  if xR o=true then
   (if s[(y8 s b).p]?=some 34 then(.mk 4 a.1 o [] (JA s srt (y8 s b)).1.s [] [],(JA s srt (y8 s b)).2)else(.mk 4 a.1 o [] [] [] [],ch s (y8 s b)))
  else if jY o=true then(.mk 4 a.1 o [(JA s srt b).1] [] [] [],(JA s srt b).2)
  else(.mk 4 a.1 o (Dw s srt srv b).1 [] [] [],(Dw s srt srv b).2)
variable(f:Pst->Cnd×Pst)
def Dy:Nat->List Cnd->Pst->List Cnd×Pst
 | 0,l,st=>(l,st)
 |k+1,l,st=>if(kz s st [44]).1=true then Dy k (l++[(f (kz s st [44]).2).1]) (f (kz s st [44]).2).2 else(l,(kz s st [44]).2)
def VD(st:Pst):Pst:=
 let a:=if st.e=0 then(if KF s st=[40]/\100<=st.d then(y8 s st).fail 0 2 else y8 s st)else st
 (Yx s a [40]).dn
def oi(st:Pst):List Cnd×Pst:=
 let a:=VD s st;let r:List Cnd×Pst:=if a.e=0 then(if KF s a=[41]then([],y8 s a)else Dy s f (s.length+1) [(f (y8 s a)).1] (f (y8 s a)).2)else([],a)
 (r.1,(Yx s r.2 [41]).up)
def Ao(st:Pst):List Cnd×Pst:=
 let r:=f (VD s st)
 ([r.1],(Yx s r.2 [41]).up)
end
def iN(s:za)(srt:List (za×Val)->List (za×Val))(srv:List Val->List Val):Nat->Pst->Cnd×Pst
 | 0,st=>(zC,st)
 |k+1,st=>
  let a:=kz s st [97,108,108]
  if a.1=true then(.mk 1 [] 0 [] [] [] (oi s (iN s srt srv k) a.2).1,(oi s (iN s srt srv k) a.2).2)else
  let b:=kz s a.2 [97,110,121]
  if b.1=true then(.mk 2 [] 0 [] [] [] (oi s (iN s srt srv k) b.2).1,(oi s (iN s srt srv k) b.2).2)else
  let c:=kz s b.2 [110,111,116]
  if c.1=true then(.mk 3 [] 0 [] [] [] (Ao s (iN s srt srv k) c.2).1,(Ao s (iN s srt srv k) c.2).2)else
  let d:=kz s c.2 [105,110]
  if d.1=true then(.mk 5 [] 0 [] [] (gY s d.2).1 [],(gY s d.2).2)else
  let g:=kz s d.2 [104,97,115]
  if g.1=true then(.mk 4 (gY s (Yx s g.2 [46])).1 1 [] [] [] [],(gY s (Yx s g.2 [46])).2)else
  let h:=kz s g.2 [46]
  if h.1=true then Dx s srt srv h.2 else
  (zC,ch s h.2)
noncomputable def vt (srt:List (za×Val)->List (za×Val)) (srv:List Val->List Val) (s:za):Cnd×Nat×Int:=
 if 20000<s.length then(zC,0,2)else
 let r:=iN s srt srv 102 ⟨0,0,0,0⟩;let a:=y8 s r.2;let b:=if a.p<s.length then ch s a else a
 if b.e≠0 then(zC,b.i,b.e)
 else if r.1.check≠0 then(zC,0,r.1.check)else(r.1,0,0)
abbrev TP:TypeId:=33
def qd(s:za)(st:Pst):zb:=[str s,int st.p,int st.d,int st.e,int st.i]
abbrev yg(s:za)(st:Pst):Blk:=zz TP (qd s st)
theorem Gs{s b:za}{st a:Pst}(h:qd s st=qd b a):s=b/\st=a:=by cases st;cases a;simp only[qd,zq,qh]at h;obtain⟨g,c,d,e,f⟩:=h;have c:=qA c;have d:=qA d;have e:=qA e;have f:=qA f;refine⟨yp g,?_⟩;simp only[Pst.mk.injEq];omega
noncomputable def Fpar {b:Type} (encA:b->zb) (pre:za->Pst->b->Prop) (c:za->Pst->b->Pst) (out:za->Pst->b->O):zb->zb->Option (zb×O):=
 gz (α:=za×Pst×b) (fun a=>qd a.1 a.2.1) (fun a=>encA a.2.2) (fun a=>a.1.length<=20000/\a.2.1.p<=a.1.length/\pre a.1 a.2.1 a.2.2) (fun a=>(qd a.1 (c a.1 a.2.1 a.2.2),out a.1 a.2.1 a.2.2))
noncomputable abbrev mP {a:Type} (encA:a->zb) (pre:za->Pst->a->Prop) (b:za->Pst->a->Pst) (out:za->Pst->a->O):AM.Spec:=ie TP (Fpar encA pre b out)
theorem Zg{c:Type}{encA:c->zb}{pre:za->Pst->c->Prop}{d:za->Pst->c->Pst}{out:za->Pst->c->O}(f:∀a b,encA a=encA b->a=b)(j:∀b,(encA b).all O.isV=true){s:za}{st:Pst}(b:c){Y:Hp}{id Z:Nat}(k:Y id=some (yg s st))(hs:s.length<=20000)(l:st.p<=s.length)(h:pre s st b) :
  mP encA pre d out (.ref id 0 0::encA b) Y Z=some (out s st b,qf Y id (some (yg s (d s st b))),Z):=
 cQ (j b) k rfl (V9 (encC:=fun a:List UInt8×Pst×c=>qd a.1 a.2.1) (encA:=fun a=>encA a.2.2) (a:=(s,st,b)) (fun x y m e=>by obtain⟨n,o,q⟩:=x;obtain⟨r,t,u⟩:=y;obtain⟨g,i⟩:=Gs m;simp only at g i;have e:=f _ _ e;simp only at e;rw[g,i,e]) ⟨hs,l,h⟩) rfl rfl
theorem vf{c:Type}{encA:c->zb}{pre:za->Pst->c->Prop}{a:za->Pst->c->Pst}{out:za->Pst->c->O}{cs e cs':zb}{r:O}(h:Fpar encA pre a out cs e=some (cs',r)) :
  ∃s st b,cs=qd s st/\e=encA b/\s.length<=20000/\st.p<=s.length/\pre s st b/\cs'=qd s (a s st b)/\r=out s st b:=by
 obtain⟨⟨s,st,b⟩,f,g,⟨i,j,k⟩,d⟩:=X5 h;injection d with d l;exact⟨s,st,b,f,g,i,j,k,d,l⟩
noncomputable abbrev oj:AM.Spec:=mP ud (fun _ _ _=>True) (fun _ st b=>st.fail b.1 b.2) (fun _ _ _=>.wL [])
theorem Vm{s:za}{st:Pst}(k:Nat)(x:Int){Y:Hp}{id Z:Nat}(a:Y id=some (yg s st))(hs:s.length<=20000)(b:st.p<=s.length) :
  oj [.ref id 0 0,int k,int x] Y Z=some (.wL [],qf Y id (some (yg s (st.fail k x))),Z):=Zg iY (fun _=>rfl) (k,x) a hs b trivial
theorem XM:zi prog 22 oj:=
 wi (code:=_) jj ⟨func22,by kernel_rfl,rfl,by kernel_rfl⟩ TP _ fun cs b cs' r h=>by
  obtain⟨s,st,⟨k,x⟩,rfl,rfl,hs,Y,c,rfl,rfl⟩:=vf h;refine⟨by simp[ud,f22],?_⟩;by_cases a:st.e=0
  ·simp[ud,zZ,zz,qd,a,Pst.fail,f22];exact qR rfl rfl
  ·simp[ud,zZ,zz,qd,a,Zw a,Pst.fail,f22];exact qR rfl rfl
theorem Dz{s:za}{p d i:Nat}{e:Int}(h:s[p]?=some 32):y8 s ⟨p,d,e,i⟩=y8 s ⟨p+1,d,e,i⟩:=by
 have a:=(zj.1 h).1;have hd:s.drop p=32::s.drop (p+1):=by rw[zl a,(zj.1 h).2]
 simp only[y8,hd,yQ,Pst.mv];simp;omega
theorem om{s:za}{st:Pst}(h:s[st.p]?≠some 32):y8 s st=st:=by
 have:(s.drop st.p).takeWhile (·==32)=[]:=by
  cases hd:s.drop st.p with
  |nil=>rfl
  |cons c l=>
   have:s[st.p]?=some c:=by
    have a:(s.drop st.p)[0]?=some c:=by rw[hd];rfl
    simpa using a
   have b:¬c=32:=fun e=>h (by rw[this,e])
   simp[yQ,b]
 simp[y8,this,Pst.mv]
theorem kQ{s:za}{st:Pst}(h:st.p<=s.length):st.p<=(y8 s st).p/\(y8 s st).p<=s.length/\(y8 s st).e=st.e/\(y8 s st).i=st.i/\(y8 s st).d=st.d:=by have:=(Yj (fun c:UInt8=>c==32) (l:=s.drop st.p)).length_le;simp only[y8,Pst.mv];simp at this;refine⟨by omega,by omega,trivial,trivial,trivial⟩
noncomputable abbrev DA:AM.Spec:=mP aU (fun _ _ _=>True) (fun s st _=>y8 s st) (fun _ _ _=>.wL [])
theorem dT{s:za}{st:Pst}{Y:Hp}{id Z:Nat}(a:Y id=some (yg s st))(hs:s.length<=20000)(b:st.p<=s.length):DA [.ref id 0 0] Y Z=some (.wL [],qf Y id (some (yg s (y8 s st))),Z):=Zg y5 (fun _=>rfl) () a hs b trivial
theorem ax:zi prog 8 DA:=
 wi (code:=_) jj ⟨func8,by kernel_rfl,rfl,by kernel_rfl⟩ TP _ fun cs w cs' r h=>by
  obtain⟨s,st,⟨⟩,rfl,rfl,hs,Y,o,rfl,rfl⟩:=vf h;refine⟨by simp[aU,Tryz.f8],?_⟩;clear h;simp;refine ql (fun k M Y Z=>M 0=.ref 0 0 0/\Z=1/\∃q,q=st.p+k/\Y=zZ TP (qd s ⟨q,st.d,st.e,st.i⟩)/\q<=s.length/\y8 s ⟨q,st.d,st.e,st.i⟩=y8 s st) (s.length-st.p) ⟨by simp[aU],rfl,st.p,rfl,rfl,Y,rfl⟩ ?_;rintro k M Y _ o ⟨g,rfl,q,x,rfl,t,j⟩;by_cases b:q<s.length
  ·obtain⟨c,l⟩:=wM (s[q]);have f:s[q]?=some c:=by rw[<-l];exact zo b
   have u:=wv q;by_cases m:c=32
   ·subst m;have a:=Dz (d:=st.d) (e:=st.e) (i:=st.i) f;simp[g,zZ,zz,qd,b,l,u,Tryz.f8];have v:(q:Int)+1=st.p+(k+1):=by omega
    refine⟨by omega,by rw[v],by omega,?_⟩;rw[show st.p+(k+1)=q+1 by omega,<-j,a]
   ·have n:((c.toNat:Int)==32)=false:=WW 32 m;have a:=om (s:=s) (st:=⟨q,st.d,st.e,st.i⟩) (by simp only[f,ne_eq,zY];exact m);simp[g,zZ,zz,qd,b,l,n,Tryz.f8];rw[<-j,a];exact qR rfl rfl
  ·have a:=om (s:=s) (st:=⟨q,st.d,st.e,st.i⟩) (by rw[wq (by simp only;omega)];simp);simp[g,zZ,zz,qd,b,Tryz.f8];rw[<-j,a];exact qR rfl rfl
theorem zaF(c:UInt8):decide (0<=Lib.indexByte [40,41,44,46,124,61,60,62] c)=YV c:=by rw[Fb];simp only[List.contains_cons,List.contains_nil,YV,Bool.or_false,Bool.or_assoc]
theorem Mf(c:UInt8)(l:za):wY (c::l)=if([60,61]:za).isPrefixOf (c::l)=true\/([62,61]:za).isPrefixOf (c::l)=true then(c::l).take 2 else if YV c=true then[c]else(c::l).takeWhile ZG:=by
 rw[wY];cases l with
 |nil=>simp[List.isPrefixOf]
 |cons x l=>
  simp only[List.isPrefixOf,List.head?_cons,zY,Jc,zD,yI,ziM,List.take_zero];by_cases a:x=61
  ·subst a;by_cases b:c=60
   ·subst b;simp
   ·by_cases d:c=62
    ·subst d;simp
    ·have f:¬60=c:=fun e=>b e.symm
     have g:¬62=c:=fun e=>d e.symm
     simp[b,d,f,g]
  ·have h:¬61=x:=fun e=>a e.symm
   simp[a,h]
noncomputable abbrev Cpk:Ctx:=qj prog [(8,DA),(49,zn false [] (WV E9 fun _ _=>True)),(61,zn false [] (MZ Et)),(35,zn false [] (BE Zn))]
theorem zdQ:AM.Good Cpk (fun g=>[49,61,35].contains g):=qx mixed ⟨ax,by simp,xe,fun _=>zt _ _,xf,fun _=>zt _ _,KX,fun _=>zt _ _,trivial⟩
noncomputable abbrev Ap:AM.Spec:=mP aU (fun _ _ _=>True) (fun s st _=>y8 s st) (fun s st _=>str (KF s st))
theorem YW{s:za}{st:Pst}{Y:Hp}{id Z:Nat}(a:Y id=some (yg s st))(hs:s.length<=20000)(b:st.p<=s.length):Ap [.ref id 0 0] Y Z=some (str (KF s st),qf Y id (some (yg s (y8 s st))),Z):=Zg y5 (fun _=>rfl) () a hs b trivial
theorem Kt:zi prog 34 Ap:=
 wi (code:=_) zdQ ⟨func34,by kernel_rfl,rfl,by kernel_rfl⟩ TP _ fun cs az cs' r h=>by
  obtain⟨s,st,⟨⟩,rfl,rfl,hs,Y,W,rfl,rfl⟩:=vf h;refine⟨by simp[aU,f34],?_⟩;clear h;have S:qg=268435456:=rfl;obtain⟨j,I⟩:=wM (y8 s st);obtain⟨b,F⟩:=wM (s.drop j.p);have A:=kQ (s:=s) Y;have J:b.length<=20000:=by rw[<-F,List.length_drop];omega
  have K:DA [.ref 0 0 0] (zZ TP (qd s st)) 1=some (.wL [],qf (zZ TP (qd s st)) 0 (some (yg s (y8 s st))),1):=dT rfl hs Y;rw[I]at K A;rw[show KF s st=wY b by rw[KF,I,F]];simp only[I];refine zM (fun M Y Z=>M 0=.ref 0 0 0/\M 2=str []/\Y=zZ TP (qd s st)/\Z=1) (by simp[aU]) ?_;rintro M _ _ ⟨B,X,rfl,rfl⟩;refine zM (fun M Y Z=>M 0=.ref 0 0 0/\Y 0=some (yg s j)/\Z=1) (by simp[B,K]) ?_;clear B X K M;rintro M Y1 _ ⟨B,m,rfl⟩;have w:=m;simp only[zz,qd,zd,ze,zh,Nat.reduceAdd]at w;have L:j.p<=s.length:=A.2.1;refine zM (fun M Y Z=>M 3=str b/\Y 0=some (yg s j)/\Z=1) ?_ ?_
  ·simp[B,w,L,F];exact⟨qi (by rw[<-F,List.length_drop];omega),rfl⟩
  clear B m w M Y1;rintro M Y1 _ ⟨f,m,rfl⟩;cases b with
  |nil=>simp[f,f34];exact qR rfl m
  |cons c l=>
   have z:∀(Y:Hp) (Z:Nat),zn false [] (WV E9 fun _ _=>True) [str (c::l),.v (.string ⟨#[60,61]⟩)] Y Z=some (yh (([60,61]:za).isPrefixOf (c::l)),Y,Z):=fun Y Z=>Yf (c::l) [60,61] Y Z (by omega) (by decide)
   have C:∀(Y:Hp) (Z:Nat),zn false [] (WV E9 fun _ _=>True) [str (c::l),.v (.string ⟨#[62,61]⟩)] Y Z=some (yh (([62,61]:za).isPrefixOf (c::l)),Y,Z):=fun Y Z=>Yf (c::l) [62,61] Y Z (by omega) (by decide)
   have N:∀(Y:Hp) (Z:Nat),zn false [] (MZ Et) [.v (.string ⟨#[40,41,44,46,124,61,60,62]⟩),.v (.int .u8 c.toNat)] Y Z=some (int (Lib.indexByte [40,41,44,46,124,61,60,62] c),Y,Z):=fun Y Z=>Xe Et [40,41,44,46,124,61,60,62] c Y Z (by decide) rfl
   have g:=zaF c;have d:=Mf c l;obtain⟨T,n⟩:=wM (([60,61]:za).isPrefixOf (c::l));obtain⟨U,o⟩:=wM (([62,61]:za).isPrefixOf (c::l));have G:T=true->2<=(c::l).length:=fun e=>by rw[e]at n;have:=(vi.1 n).length_le;simpa using this
   have l2:U=true->2<=(c::l).length:=fun e=>by rw[e]at o;have:=(vi.1 o).length_le;simpa using this
   rw[n]at z d;rw[o]at C d;cases T
   case true=>
    have G:=G rfl;simp only[true_or,zK]at d;have P:1<=l.length:=by simpa using G
    simp[f,z,P,f34];rw[d];exact qR rfl m
   cases U
   case true=>
    have l2:=l2 rfl;simp only[or_true,zK]at d;have P:1<=l.length:=by simpa using l2
    simp[f,z,C,P,f34];rw[d];exact qR rfl m
   simp only[zm,or_self,zQ]at d;cases y:YV c
   case true=>rw[y]at g d;simp only[zK]at d;simp[f,z,C,N,g,f34];rw[d];exact qR rfl m
   rw[y]at g d;simp only[zm,zQ]at d;simp[f,z,C,N,g];rw[d];obtain⟨u,D⟩:=wM (c::l);rw[D]at f J⊢;refine ql (fun k M Y Z=>M 3=str u/\M 4=int k/\Y=Y1/\Z=1/\u.takeWhile ZG=u.take k++(u.drop k).takeWhile ZG) u.length ⟨by simp[f],by simp,rfl,rfl,by simp⟩ ?_;clear z C N g d n o G l2 y D f M;rintro k M _ _ W ⟨f,Q,rfl,rfl,q⟩;by_cases i:k<u.length
   ·obtain⟨x,H⟩:=wM (u[k]);have R:=wv k;rw[zl i,H,yQ (a:=x)]at q;have E:ZG x=Zn x.toNat:=rfl;cases t:Zn x.toNat
    ·rw[E,t]at q;simp only[zm,zQ,jf]at q;simp[f,Q,i,H,t,Nat.le_of_lt i,f34];rw[q];exact qR rfl m
    ·rw[E,t]at q;simp only[zK]at q;simp[f,Q,i,H,t,R];exact⟨by omega,by rw[q,qE i,H,qP];rfl⟩
   ·obtain rfl:k=u.length:=by omega
    rw[zA,List.takeWhile_nil,jf,we]at q;simp[f,Q,f34];rw[q];exact qR rfl m
noncomputable abbrev Cwr:Ctx:=qj prog [(8,DA),(22,oj)]
theorem zdR:Gd Cwr:=qQ mixed ⟨ax,XM,trivial⟩
noncomputable abbrev DB:AM.Spec:=mP aU (fun _ _ _=>True) (fun s st _=>ch s st) (fun _ _ _=>.wL [])
theorem YX{s:za}{st:Pst}{Y:Hp}{id Z:Nat}(a:Y id=some (yg s st))(hs:s.length<=20000)(b:st.p<=s.length):DB [.ref id 0 0] Y Z=some (.wL [],qf Y id (some (yg s (ch s st))),Z):=Zg y5 (fun _=>rfl) () a hs b trivial
theorem Yy:zi prog 9 DB:=
 wi (code:=_) zdR ⟨func9,by kernel_rfl,rfl,by kernel_rfl⟩ TP _ fun cs d cs' r h=>by obtain⟨s,st,⟨⟩,rfl,rfl,hs,Y,e,rfl,rfl⟩:=vf h;refine⟨by simp[aU,Tryz.f9],?_⟩;clear h;have a:=kQ (s:=s) Y;have b:DA [.ref 0 0 0] (zZ TP (qd s st)) 1=some (.wL [],qf (zZ TP (qd s st)) 0 (some (yg s (y8 s st))),1):=dT rfl hs Y;have c:=Vm (Y:=qf (zZ TP (qd s st)) 0 (some (yg s (y8 s st)))) (id:=0) (Z:=1) (y8 s st).p 10 (by simp) hs a.2.1;simp only[zZ,zz,qd,zd,ze,zh,Nat.reduceAdd,qV]at b c;simp[aU,zZ,zz,qd,b,c,Tryz.f9];exact qR rfl (by simp[zz,qd,ch])
noncomputable abbrev Ctk:Ctx:=qj prog [(34,Ap)]
theorem zdS:Gd Ctk:=qQ mixed ⟨Kt,trivial⟩
noncomputable abbrev DC:AM.Spec:=mP aS (fun _ _ _=>True) (fun s st w=>(kz s st w).2) (fun s st w=>yh (kz s st w).1)
theorem ZH{s:za}{st:Pst}(w:za){Y:Hp}{id Z:Nat}(a:Y id=some (yg s st))(hs:s.length<=20000)(b:st.p<=s.length):DC [.ref id 0 0,str w] Y Z=some (yh (kz s st w).1,qf Y id (some (yg s (kz s st w).2)),Z):=Zg mI (fun _=>rfl) w a hs b trivial
theorem Mg(l:za):(wY l).length<=l.length:=by
 unfold wY;split
 ·simp
 ·rename_i c l;split
  ·rename_i h;cases l with
   |nil=>simp at h
   |cons x l=>simp
  ·split
   ·simp
   ·exact(Yj _).length_le
theorem oo{s:za}{st:Pst}(h:st.p<=s.length):(y8 s st).p+(KF s st).length<=s.length:=by have a:=Mg (s.drop (y8 s st).p);have b:=(kQ (s:=s) h).2.1;rw[List.length_drop]at a;unfold KF;omega
theorem kR{s:za}{st:Pst}(w:za)(h:st.p<=s.length):st.p<=(kz s st w).2.p/\(kz s st w).2.p<=s.length/\(kz s st w).2.e=st.e/\(kz s st w).2.d=st.d/\((kz s st w).1=true->st.e=0/\st.p+w.length<=(kz s st w).2.p):=by
 have a:=kQ (s:=s) h;have c:=oo (s:=s) h;unfold kz;split
 ·exact⟨zk _,h,rfl,rfl,fun e=>by cases e⟩
 ·rename_i f;split
  ·rename_i b;rw[<-b];simp only[Pst.mv];exact⟨by omega,by omega,a.2.2.1,a.2.2.2.2,fun _=>⟨by omega,by omega⟩⟩
  ·exact⟨a.1,a.2.1,a.2.2.1,a.2.2.2.2,fun e=>by cases e⟩
theorem ay:zi prog 16 DC:=
 wi (code:=_) zdS ⟨func16,by kernel_rfl,rfl,by kernel_rfl⟩ TP _ fun cs k cs' r h=>by
  obtain⟨s,st,w,rfl,rfl,hs,Y,l,rfl,rfl⟩:=vf h;refine⟨by simp[aS,f16],?_⟩;clear h;have j:=kQ (s:=s) Y;have f:=oo (s:=s) Y;have d:Ap [.ref 0 0 0] (zZ TP (qd s st)) 1=some (str (KF s st),qf (zZ TP (qd s st)) 0 (some (yg s (y8 s st))),1):=YW rfl hs Y;simp only[zz,qd,zd,ze,zh,Nat.reduceAdd,zZ,qV]at d;by_cases a:st.e=0
  ·rw[a]at d;by_cases b:KF s st=w
   ·have c:kz s st w=(true,(y8 s st).mv ((y8 s st).p+w.length)):=by simp[kz,a,b]
    rw[c];rw[b]at f;have g:=wj (((y8 s st).p:Int)+w.length);simp[aS,zZ,zz,qd,a,d,b,g,Pst.mv,f16];exact qR rfl rfl
   ·have c:kz s st w=(false,y8 s st):=by simp[kz,a,b]
    rw[c];have i:=jl b;simp[aS,zZ,zz,qd,a,d,i,f16];exact qR rfl (by first|rfl|simp[zz,qd])
  ·have c:kz s st w=(false,st):=by simp[kz,a]
   rw[c];simp[aS,zZ,zz,qd,a,Zw a,bne,f16];exact qR rfl rfl
noncomputable abbrev Cmu:Ctx:=qj prog [(16,DC),(9,DB)]
theorem zdT:Gd Cmu:=qQ mixed ⟨ay,Yy,trivial⟩
noncomputable abbrev Re:AM.Spec:=mP aS (fun _ _ _=>True) (fun s st w=>Yx s st w) (fun _ _ _=>.wL [])
theorem Ku{s:za}{st:Pst}(w:za){Y:Hp}{id Z:Nat}(a:Y id=some (yg s st))(hs:s.length<=20000)(b:st.p<=s.length):Re [.ref id 0 0,str w] Y Z=some (.wL [],qf Y id (some (yg s (Yx s st w))),Z):=Zg mI (fun _=>rfl) w a hs b trivial
theorem JB(st:Pst)(k:Nat)(x:Int):(st.fail k x).p=st.p/\(st.fail k x).d=st.d:=by unfold Pst.fail;split<;>exact⟨rfl,rfl⟩
theorem Vn{s:za}{st:Pst}(h:st.p<=s.length):st.p<=(ch s st).p/\(ch s st).p<=s.length/\(ch s st).d=st.d/\(ch s st).e≠0:=by
 have a:=kQ (s:=s) h;unfold ch;rw[(JB _ _ _).1,(JB _ _ _).2];refine⟨a.1,a.2.1,a.2.2.2.2,?_⟩;unfold Pst.fail;split
 ·simp
 ·assumption
theorem Z8{s:za}{st:Pst}(w:za)(h:st.p<=s.length):st.p<=(Yx s st w).p/\(Yx s st w).p<=s.length/\(Yx s st w).d=st.d/\((Yx s st w).e=0->st.e=0/\st.p+w.length<=(Yx s st w).p):=by
 have a:=kR (s:=s) w h;have b:=Vn (s:=s) a.2.1;unfold Yx;split
 ·rename_i c;have:=a.2.2.2.2 c;exact⟨a.1,a.2.1,a.2.2.2.1,fun _=>this⟩
 ·exact⟨by omega,b.2.1,by rw[b.2.2.1];exact a.2.2.2.1,fun e=>absurd e b.2.2.2⟩
theorem fJ:zi prog 20 Re:=
 wi (code:=_) zdT ⟨func20,by kernel_rfl,rfl,by kernel_rfl⟩ TP _ fun cs e cs' r h=>by
  obtain⟨s,st,w,rfl,rfl,hs,Y,f,rfl,rfl⟩:=vf h;refine⟨by simp[aS,f20],?_⟩;clear h;have b:=kR (s:=s) w Y;have a:DC [.ref 0 0 0,str w] (zZ TP (qd s st)) 1=some (yh (kz s st w).1,qf (zZ TP (qd s st)) 0 (some (yg s (kz s st w).2)),1):=ZH w rfl hs Y;have c:=YX (Y:=qf (zZ TP (qd s st)) 0 (some (yg s (kz s st w).2))) (id:=0) (Z:=1) (by simp) hs b.2.1;simp only[zZ,zz,qd,zd,ze,zh,Nat.reduceAdd,qV]at a c;unfold Yx;cases d:(kz s st w).1
  ·rw[d]at a;simp[aS,zZ,zz,qd,a,c,f20];exact qR rfl (by simp[zz,qd])
  ·rw[d]at a;simp[aS,zZ,zz,qd,a,f20];exact qR rfl (by simp[zz,qd])
noncomputable abbrev Cwo:Ctx:=qj prog [(34,Ap),(9,DB),(35,zn false [] (BE Zn))]
theorem zdU:AM.Good Cwo (fun g=>[35].contains g):=qx mixed ⟨Kt,by simp,Yy,by simp,KX,fun _=>zt _ _,trivial⟩
noncomputable abbrev woPS:AM.Spec:=mP aU (fun _ _ _=>True) (fun s st _=>(gY s st).2) (fun s st _=>str (gY s st).1)
theorem oq{s:za}{st:Pst}{Y:Hp}{id Z:Nat}(a:Y id=some (yg s st))(hs:s.length<=20000)(b:st.p<=s.length):woPS [.ref id 0 0] Y Z=some (str (gY s st).1,qf Y id (some (yg s (gY s st).2)),Z):=Zg y5 (fun _=>rfl) () a hs b trivial
theorem Aq{s:za}{st:Pst}(h:st.p<=s.length):st.p<=(gY s st).2.p/\(gY s st).2.p<=s.length/\(gY s st).2.d=st.d/\st.p+(gY s st).1.length<=(gY s st).2.p:=by
 have a:=kQ (s:=s) h;have c:=oo (s:=s) h;have b:=Vn (s:=s) a.2.1;unfold gY;split
 ·exact⟨by simp only;omega,b.2.1,b.2.2.1.trans a.2.2.2.2,by simp only[ze];omega⟩
 ·simp only[Pst.mv];exact⟨by omega,by omega,a.2.2.2.2,by omega⟩
theorem sG:zi prog 19 woPS:=
 wi (code:=_) zdU ⟨func19,by kernel_rfl,rfl,by kernel_rfl⟩ TP _ fun cs u cs' r h=>by
  obtain⟨s,st,⟨⟩,rfl,rfl,hs,Y,v,rfl,rfl⟩:=vf h;refine⟨by simp[aU,f19],?_⟩;clear h;have d:=kQ (s:=s) Y;have f:=oo (s:=s) Y;have g:Ap [.ref 0 0 0] (zZ TP (qd s st)) 1=some (str (KF s st),qf (zZ TP (qd s st)) 0 (some (yg s (y8 s st))),1):=YW rfl hs Y;have k:=YX (Y:=qf (zZ TP (qd s st)) 0 (some (yg s (y8 s st)))) (id:=0) (Z:=1) (by simp) hs d.2.1;simp only[zz,qd,zd,ze,zh,Nat.reduceAdd,zZ,qV]at g k;unfold gY;obtain⟨a,m⟩:=wM (y8 s st);obtain⟨w,q⟩:=wM (KF s st);rw[m]at d;rw[m,q]at f;rw[m]at k;rw[m,q]at g;rw[m,q];have i:a.e=st.e:=d.2.2.1;by_cases j:st.e=0
  ·rw[i,j]at g k;cases w with
   |nil=>rw[zg (.inr rfl)];simp[aU,zZ,zz,qd,j,g,k,f19];exact qR rfl (by first|rfl|simp[zz,qd])
   |cons c l=>
    have n:WE (c::l)=Zn c.toNat:=rfl;have t:i6.wrap ((a.p:Int)+((l.length:Int)+1))=(a.p:Int)+((l.length:Int)+1):=wU (by simp at f;omega) (by simp at f;omega);cases b:Zn c.toNat
    ·rw[zg (.inr (by rw[n,b]))];simp[aU,zZ,zz,qd,j,g,k,b,f19];exact qR rfl (by first|rfl|simp[zz,qd])
    ·rw[zf (by rw[n,b];simp[j])];simp[aU,zZ,zz,qd,g,b,t,Pst.mv,i,j,f19];exact qR rfl (by first|rfl|simp[zz,qd])
  ·have o:¬a.e=0:=by rw[i];exact j
   rw[zg (.inl j)];simp[aU,zZ,zz,qd,g,k,o,Zw o,bne,f19];exact qR rfl (by first|rfl|simp[zz,qd])
structure Qst where
 p:Nat
 d:Nat
 b:Option (Nat×Int)
namespace Qst
def bad(st:Qst):Int:=match st.b with
 |none=>-1
 |some (k,_)=>k
def QO(st:Qst):Int:=match st.b with
 |none=>0
 |some (_,x)=>x
def fail(st:Qst)(k:Nat)(x:Int):Qst:=match st.b with
 |none=>⟨st.p,st.d,some (k,x)⟩
 |some _=>st
def mv(st:Qst)(k:Nat):Qst:=⟨k,st.d,st.b⟩
def dp(st:Qst)(k:Nat):Qst:=⟨st.p,k,st.b⟩
end Qst
abbrev TQ:TypeId:=38
def zS(s:za)(st:Qst):zb:=[str s,int st.p,int st.bad,int st.QO,int st.d]
abbrev yq(s:za)(st:Qst):Blk:=zz TQ (zS s st)
theorem Gt{s f:za}{st a:Qst}(h:zS s st=zS f a):s=f/\st=a:=by
 obtain⟨p,d,b⟩:=st;obtain⟨l,m,g⟩:=a;simp only[zS,zq,qh]at h;obtain⟨n,i,c,e,j⟩:=h;have i:=qA i;have c:=qA c;have e:=qA e;have j:=qA j;refine⟨yp n,?_⟩;have Y:p=l:=by omega
 have hd:d=m:=by omega
 subst Y;subst hd;cases b with
 |none=>
  cases g with
  |none=>rfl
  |some q=>obtain⟨k,x⟩:=q;simp only[Qst.bad]at c;omega
 |some q=>
  obtain⟨k,x⟩:=q;cases g with
  |none=>simp only[Qst.bad]at c;omega
  |some o=>
   obtain⟨k',r⟩:=o;simp only[Qst.bad,Qst.QO]at c e;have t:k=k':=by omega
   have u:x=r:=by assumption
   rw[t,u]
noncomputable def FJq {b:Type} (encA:b->zb) (pre:za->Qst->b->Prop) (c:za->Qst->b->Qst) (out:za->Qst->b->O):zb->zb->Option (zb×O):=
 gz (α:=za×Qst×b) (fun a=>zS a.1 a.2.1) (fun a=>encA a.2.2) (fun a=>a.1.length<=20000/\a.2.1.p<=a.1.length/\pre a.1 a.2.1 a.2.2) (fun a=>(zS a.1 (c a.1 a.2.1 a.2.2),out a.1 a.2.1 a.2.2))
noncomputable abbrev mQ {a:Type} (encA:a->zb) (pre:za->Qst->a->Prop) (b:za->Qst->a->Qst) (out:za->Qst->a->O):AM.Spec:=ie TQ (FJq encA pre b out)
theorem Rf{c:Type}{encA:c->zb}{pre:za->Qst->c->Prop}{d:za->Qst->c->Qst}{out:za->Qst->c->O}(f:∀a b,encA a=encA b->a=b){s:za}{st:Qst}(b:c)(hs:s.length<=20000)(j:st.p<=s.length)(h:pre s st b):FJq encA pre d out (zS s st) (encA b)=some (zS s (d s st b),out s st b):=
 V9 (encC:=fun a:List UInt8×Qst×c=>zS a.1 a.2.1) (encA:=fun a=>encA a.2.2) (a:=(s,st,b)) (fun x y k e=>by obtain⟨l,m,n⟩:=x;obtain⟨o,q,r⟩:=y;obtain⟨g,i⟩:=Gt k;simp only at g i;have e:=f _ _ e;simp only at e;rw[g,i,e]) ⟨hs,j,h⟩
theorem Wk{c:Type}{encA:c->zb}{pre:za->Qst->c->Prop}{d:za->Qst->c->Qst}{out:za->Qst->c->O}(e:∀a b,encA a=encA b->a=b)(f:∀b,(encA b).all O.isV=true){s:za}{st:Qst}(b:c){Y:Hp}{id Z:Nat}(g:Y id=some (yq s st))(hs:s.length<=20000)(i:st.p<=s.length)(h:pre s st b) :
  mQ encA pre d out (.ref id 0 0::encA b) Y Z=some (out s st b,qf Y id (some (yq s (d s st b))),Z):=
 cQ (f b) g rfl (Rf e b hs i h) rfl rfl
theorem ZR{c:Type}{encA:c->zb}{pre:za->Qst->c->Prop}{a:za->Qst->c->Qst}{out:za->Qst->c->O}{cs e cs':zb}{r:O}(h:FJq encA pre a out cs e=some (cs',r)) :
  ∃s st b,cs=zS s st/\e=encA b/\s.length<=20000/\st.p<=s.length/\pre s st b/\cs'=zS s (a s st b)/\r=out s st b:=by
 obtain⟨⟨s,st,b⟩,f,g,⟨i,j,k⟩,d⟩:=X5 h;injection d with d l;exact⟨s,st,b,f,g,i,j,k,d,l⟩
theorem WG{st:Qst}(h:st.b=none):st.bad=-1:=by unfold Qst.bad;rw[h]
theorem QC{st:Qst}(h:st.b≠none):0<=st.bad:=by
 unfold Qst.bad;cases a:st.b with
 |none=>exact absurd a h
 |some q=>obtain⟨k,x⟩:=q;simp
theorem vN{st:Qst}(h:st.b≠none)(k:Nat)(x:Int):st.fail k x=st:=by
 unfold Qst.fail;cases a:st.b with
 |none=>exact absurd a h
 |some q=>rfl
theorem Zh(st:Qst)(k:Nat)(x:Int):(st.fail k x).p=st.p/\(st.fail k x).d=st.d:=by unfold Qst.fail;split<;>exact⟨rfl,rfl⟩
theorem vg(st:Qst)(k:Nat)(x:Int):(st.fail k x).b≠none:=by
 unfold Qst.fail;cases a:st.b with
 |none=>intro e;cases e
 |some q=>intro e;simp only[a]at e;cases e
noncomputable abbrev JR:AM.Spec:=mQ ud (fun _ _ _=>True) (fun _ st b=>st.fail b.1 b.2) (fun _ _ _=>.wL [])
theorem vu{s:za}{st:Qst}(k:Nat)(x:Int){Y:Hp}{id Z:Nat}(a:Y id=some (yq s st))(hs:s.length<=20000)(b:st.p<=s.length) :
  JR [.ref id 0 0,int k,int x] Y Z=some (.wL [],qf Y id (some (yq s (st.fail k x))),Z):=Wk iY (fun _=>rfl) (k,x) a hs b trivial
theorem xZ:zi prog 13 JR:=
 wi (code:=_) jj ⟨func13,by kernel_rfl,rfl,by kernel_rfl⟩ TQ _ fun cs c cs' r h=>by
  obtain⟨s,⟨p,d,b⟩,⟨k,x⟩,rfl,rfl,hs,Y,e,rfl,rfl⟩:=ZR h;refine⟨by simp[ud,f13],?_⟩;cases b with
  |none=>simp[ud,zZ,zz,zS,Qst.fail,Qst.bad,Qst.QO,f13];exact qR rfl rfl
  |some q=>
   obtain⟨k',f⟩:=q;have a:¬(k':Int)<0:=by omega
   simp[ud,zZ,zz,zS,Qst.fail,Qst.bad,Qst.QO,a,f13];exact qR rfl rfl
def yX(s:za)(st:Qst):Qst:=st.mv (st.p+((s.drop st.p).takeWhile (·==32)).length)
theorem Q7{s:za}{st:Qst}(h:st.p<=s.length):st.p<=(yX s st).p/\(yX s st).p<=s.length/\(yX s st).b=st.b/\(yX s st).d=st.d:=by have:=kQ (s:=s) (st:=⟨st.p,st.d,0,0⟩) h;exact⟨this.1,this.2.1,rfl,rfl⟩
noncomputable abbrev pS:AM.Spec:=mQ aU (fun _ _ _=>True) (fun s st _=>yX s st) (fun _ _ _=>.wL [])
theorem Kv{s:za}{st:Qst}{Y:Hp}{id Z:Nat}(a:Y id=some (yq s st))(hs:s.length<=20000)(b:st.p<=s.length):pS [.ref id 0 0] Y Z=some (.wL [],qf Y id (some (yq s (yX s st))),Z):=Wk y5 (fun _=>rfl) () a hs b trivial
theorem Rh{s:za}{p d:Nat}{b:Option (Nat×Int)}(h:s[p]?=some 32):yX s ⟨p,d,b⟩=yX s ⟨p+1,d,b⟩:=by have:=Dz (d:=d) (e:=0) (i:=0) h;simp only[y8,yX,Pst.mv,Qst.mv,Pst.mk.injEq,qh]at this⊢;rw[this]
theorem DD{s:za}{st:Qst}(h:s[st.p]?≠some 32):yX s st=st:=by have:=om (s:=s) (st:=⟨st.p,st.d,0,0⟩) h;simp only[y8,yX,Pst.mv,Qst.mv,Pst.mk.injEq,qh]at this⊢;rw[this]
theorem Yz:zi prog 12 pS:=
 wi (code:=_) jj ⟨func12,by kernel_rfl,rfl,by kernel_rfl⟩ TQ _ fun cs w cs' r h=>by
  obtain⟨s,st,⟨⟩,rfl,rfl,hs,Y,n,rfl,rfl⟩:=ZR h;refine⟨by simp[aU,f12],?_⟩;clear h;obtain⟨p,d,b⟩:=st;simp only at Y;simp;refine ql (fun k M Y Z=>M 0=.ref 0 0 0/\Z=1/\∃q,q=p+k/\Y=zZ TQ (zS s ⟨q,d,b⟩)/\q<=s.length/\yX s ⟨q,d,b⟩=yX s ⟨p,d,b⟩) (s.length-p) ⟨by simp[aU],rfl,p,rfl,rfl,Y,rfl⟩ ?_;rintro k M Y _ n ⟨g,rfl,q,x,rfl,o,i⟩;have t:(⟨q+1,d,b⟩:Qst).bad=(⟨q,d,b⟩:Qst).bad/\(⟨q+1,d,b⟩:Qst).QO=(⟨q,d,b⟩:Qst).QO:=⟨rfl,rfl⟩;by_cases e:q<s.length
  ·obtain⟨c,j⟩:=wM (s[q]);have f:s[q]?=some c:=by rw[<-j];exact zo e
   have u:=wv q;by_cases l:c=32
   ·subst l;have a:=Rh (d:=d) (b:=b) f;simp[g,zZ,zz,zS,e,j,u,f12];have v:(q:Int)+1=p+(k+1):=by omega
    refine⟨by omega,?_,by omega,?_⟩
    ·rw[v];rfl
    ·rw[show p+(k+1)=q+1 by omega,<-i,a]
   ·have m:((c.toNat:Int)==32)=false:=WW 32 l;have a:=DD (s:=s) (st:=⟨q,d,b⟩) (by simp only[f,ne_eq,zY];exact l);simp[g,zZ,zz,zS,e,j,m,f12];rw[<-i,a];exact qR rfl rfl
  ·have a:=DD (s:=s) (st:=⟨q,d,b⟩) (by rw[wq (by simp only;omega)];simp);simp[g,zZ,zz,zS,e,f12];rw[<-i,a];exact qR rfl rfl
def fK(s:za)(st:Qst):za:=(s.drop st.p).takeWhile ZG
theorem fL{s:za}{st:Qst}(h:st.p<=s.length):st.p+(fK s st).length<=s.length:=by have:=(Yj ZG (l:=s.drop st.p)).length_le;simp at this;unfold fK;omega
theorem zg9(l:za):∀k,k<l.length->k<=(l.takeWhile ZG).length->ZG ((l[k]?).getD 0)=decide (k<(l.takeWhile ZG).length):=by
 induction l with
 |nil=>intro k a;simp at a
 |cons c l d=>
  intro k e a;rw[yQ]at a⊢;cases b:ZG c
  ·rw[b]at a;simp at a;subst a;simp[b]
  ·rw[b]at a;cases k with
   |zero=>simp[b]
   |succ k=>simp only[zK,zd]at a e⊢;have:=d k (by omega) (by omega);simpa using this
noncomputable def FwdQ:zb->zb->Option O:=fun cs a=>(FJq aU (fun _ _ _=>True) (fun _ st _=>st) (fun s st _=>str (fK s st)) cs a).map (·.2)
noncomputable abbrev Gu:AM.Spec:=a6 TQ FwdQ
theorem ot{s:za}{st:Qst}{Y:Hp}{id Z:Nat}(a:Y id=some (yq s st))(hs:s.length<=20000)(b:st.p<=s.length):Gu [.ref id 0 0] Y Z=some (str (fK s st),Y,Z):=
 mj rfl a rfl (by unfold FwdQ;rw[show([]:zb)=aU ()from rfl,Rf y5 () hs b trivial];rfl)
noncomputable abbrev Cwq:Ctx:=qj prog [(47,zn false [] (BE Zn))]
theorem zdV:AM.Good Cwq (fun g=>[47].contains g):=qx mixed ⟨YE,fun _=>zt _ _,trivial⟩
theorem Ri{s:za}(st:Qst):(s.drop st.p).take (fK s st).length=fK s st:=(bq.1 (List.takeWhile_prefix _)).symm
theorem fZ:zi prog 48 Gu:=
 Xa (wi (code:=_) zdV ⟨func48,by kernel_rfl,rfl,by kernel_rfl⟩ TQ _ fun cs B cs' r h=>by
  unfold FwdQ at h;rw[jv]at h;obtain⟨⟨v,C⟩,t,u⟩:=eo.1 h;obtain⟨s,st,⟨⟩,rfl,rfl,hs,Y,_,rfl,rfl⟩:=ZR t;simp only[Function.comp_apply,Jb]at u;obtain⟨rfl,rfl⟩:=u;clear h t;refine⟨by simp[aU,f48],?_⟩;have g:=fL (s:=s) Y;refine zM (fun M Y Z=>M 0=.ref 0 0 0/\Y=zZ TQ (zS s st)/\Z=1) (by simp[aU]) ?_;rintro M _ _ ⟨b,rfl,rfl⟩;refine zM (fun a Y Z=>a 0=.ref 0 0 0/\a 3=int st.p/\Y=zZ TQ (zS s st)/\Z=1) (by simp[b,zZ,zz,zS]) ?_;clear b M;rintro M _ _ ⟨b,d,rfl,rfl⟩;obtain⟨N,l⟩:=wM ((fK s st).length);obtain⟨E,w⟩:=wM (st.p+N);rw[l,w]at g;refine zM (fun a Y Z=>a 0=.ref 0 0 0/\a 3=int E/\Y=zZ TQ (zS s st)/\Z=1) ?_ ?_
  ·simp;refine ql (fun k a Y Z=>a 0=.ref 0 0 0/\(∃q,a 3=int (q:Nat)/\q=st.p+k)/\k<=N/\Y=zZ TQ (zS s st)/\Z=1) N ⟨by simp[b],⟨st.p,by simp[d],rfl⟩,by omega,rfl,rfl⟩ ?_;clear b d M;rintro k M _ _ x ⟨b,⟨q,d,y⟩,D,rfl,rfl⟩;by_cases e:q<s.length
   ·obtain⟨c,m⟩:=wM (s[q]);have n:=zg9 (s.drop st.p) k (by simp;omega) (by show k<=(fK s st).length;omega);rw[qI,<-y,zo e,m]at n;simp only[WJ]at n;have f:Zn c.toNat=decide (k<N):=by rw[<-l];exact n
    have o:=wv q;by_cases i:k<N
    ·rw[ep i]at f;simp[b,d,zZ,zz,zS,e,m,f,o];omega
    ·rw[decide_eq_false i]at f;obtain rfl:q=E:=by omega
     simp[b,d,zZ,zz,zS,e,m,f]
   ·obtain rfl:q=E:=by omega
    simp[b,d,zZ,zz,zS,e]
  clear b d M;rintro M _ _ ⟨b,d,rfl,rfl⟩;have j:=Ri (s:=s) st;rw[l]at j;have z:st.p<=E:=by omega
  have A:E-st.p=N:=by omega
  simp[b,d,zZ,zz,zS,g,j,z,A,f48];exact qR rfl (by first|rfl|simp[zz,zS]))
def jD(s:za)(st:Qst)(w:za):Bool×Qst:=
 if st.b≠none then(false,yX s st)
 else if WE w=true then(if fK s (yX s st)=w then(true,(yX s st).mv ((yX s st).p+w.length))else(false,yX s st))
 else if w.isPrefixOf (s.drop (yX s st).p)=true then(true,(yX s st).mv ((yX s st).p+w.length))else(false,yX s st)
theorem Rj{w l:za}(h:w.isPrefixOf l=true):w.length<=l.length:=(vi.1 h).length_le
theorem jd{s:za}{st:Qst}(w:za)(h:st.p<=s.length):st.p<=(jD s st w).2.p/\(jD s st w).2.p<=s.length/\(jD s st w).2.b=st.b/\(jD s st w).2.d=st.d/\((jD s st w).1=true->st.b=none/\st.p+w.length<=(jD s st w).2.p):=by
 have a:=Q7 (s:=s) h;have g:=fL (s:=s) a.2.1;unfold jD;split
 ·exact⟨a.1,a.2.1,rfl,rfl,(fun e=>by cases e)⟩
 ·rename_i i;have c:st.b=none:=by simpa using i
  split
  ·split
   ·rename_i f;rw[f]at g;refine⟨?_,g,rfl,rfl,fun _=>⟨c,?_⟩⟩<;>simp only[Qst.mv]<;>omega
   ·exact⟨a.1,a.2.1,rfl,rfl,(fun e=>by cases e)⟩
  ·split
   ·rename_i f;have:=Rj f;simp at this;refine⟨?_,?_,rfl,rfl,fun _=>⟨c,?_⟩⟩<;>simp only[Qst.mv]<;>omega
   ·exact⟨a.1,a.2.1,rfl,rfl,(fun e=>by cases e)⟩
noncomputable abbrev Ctkq:Ctx:=qj prog [(12,pS),(48,Gu),(47,zn false [] (BE Zn)),(49,zn false [] (WV E9 fun _ _=>True))]
theorem zaG:AM.Good Ctkq (fun g=>[48,47,49].contains g):=qx mixed ⟨Yz,by simp,fZ,fun _=>ym _ _,YE,fun _=>zt _ _,xe,fun _=>zt _ _,trivial⟩
noncomputable abbrev Ar:AM.Spec:=mQ aS (fun _ _ w=>w≠[]/\w.length<=20) (fun s st w=>(jD s st w).2) (fun s st w=>yh (jD s st w).1)
theorem xT{s:za}{st:Qst}(w:za){Y:Hp}{id Z:Nat}(a:Y id=some (yq s st))(hs:s.length<=20000)(b:st.p<=s.length)(c:w≠[]/\w.length<=20):Ar [.ref id 0 0,str w] Y Z=some (yh (jD s st w).1,qf Y id (some (yq s (jD s st w).2)),Z):=Wk mI (fun _=>rfl) w a hs b c
theorem KD:zi prog 25 Ar:=
 wi (code:=_) zaG ⟨func25,by kernel_rfl,rfl,by kernel_rfl⟩ TQ _ fun cs J cs' r h=>by
  obtain⟨s,st,w,rfl,rfl,hs,Y,⟨C,D⟩,rfl,rfl⟩:=ZR h;refine⟨by simp[aS,f25],?_⟩;clear h;have G:qg=268435456:=rfl;obtain⟨a,f⟩:=wM (yX s st);have e:=Q7 (s:=s) Y;rw[f]at e;have H:pS [.ref 0 0 0] (zZ TQ (zS s st)) 1=some (.wL [],qf (zZ TQ (zS s st)) 0 (some (yq s a)),1):=by rw[<-f];exact Kv rfl hs Y
  have I:qf (zZ TQ (zS s st)) 0 (some (yq s a))=zZ TQ (zS s a):=by simp[zZ]
  rw[I]at H;have v:Gu [.ref 0 0 0] (zZ TQ (zS s a)) 1=some (str (fK s a),zZ TQ (zS s a),1):=ot rfl hs e.2.1;refine zM (fun M Y Z=>M 0=.ref 0 0 0/\M 1=str w/\Y=zZ TQ (zS s st)/\Z=1) (by simp[aS]) ?_;rintro M _ _ ⟨g,i,rfl,rfl⟩;refine zM (fun j Y Z=>j 0=.ref 0 0 0/\j 1=str w/\Y=zZ TQ (zS s a)/\Z=1) (by simp[g,i,H]) ?_;clear g i M;rintro M _ _ ⟨g,i,rfl,rfl⟩;unfold jD;rw[f];by_cases A:st.b=none
  case neg=>
   have o:a.b≠none:=by rw[e.2.2.1];exact A
   have q:(0:Int)<=a.bad:=QC o;rw[zg A];simp[g,i,zZ,zz,zS,q,f25];exact qR rfl rfl
  have o:a.b=none:=by rw[e.2.2.1];exact A
  have q:¬(0:Int)<=a.bad:=by rw[WG o];decide
  rw[zf (by simpa using A)];refine zM (fun j Y Z=>j 0=.ref 0 0 0/\j 1=str w/\Y=zZ TQ (zS s a)/\Z=1) (by simp[g,i,zZ,zz,zS,q]) ?_;clear g i M;rintro M _ _ ⟨g,i,rfl,rfl⟩;obtain⟨c,n,rfl⟩:∃c n,w=c::n:=by
   cases w with
   |nil=>exact absurd rfl C
   |cons c w=>exact⟨c,w,rfl⟩
  have E:WE (c::n)=Zn c.toNat:=rfl;have x:=fL (s:=s) e.2.1;have l:∀k,(⟨k,a.d,a.b⟩:Qst).bad=a.bad/\(⟨k,a.d,a.b⟩:Qst).QO=a.QO:=fun _=>⟨rfl,rfl⟩
  simp only[zd]at D;rw[E];cases m:Zn c.toNat
  ·simp only[zm,zQ];have y:List.take (s.length-a.p) (s.drop a.p)=s.drop a.p:=qi (by simp);have B:=fun Y Z=>Yf (s.drop a.p) (c::n) Y Z (by simp;omega) (by simp;omega)
   cases t:(c::n).isPrefixOf (s.drop a.p)
   ·rw[t]at B;simp[g,i,zZ,zz,zS,m,y,B,e.2.1,f25];exact qR rfl rfl
   ·rw[t]at B;have:=Rj t;simp at this;have u:=wj ((a.p:Int)+((n.length:Int)+1));simp[g,i,zZ,zz,zS,m,y,B,e.2.1,u,Qst.mv,l,f25];exact qR rfl (by first|rfl|simp[zz,zS,l])
  ·simp only[zK];by_cases z:fK s a=c::n
   ·rw[zg z];rw[z]at x v;simp only[zd]at x;have u:=wj ((a.p:Int)+((n.length:Int)+1));simp only[zZ,zz,zS,zd,ze,zh,Nat.reduceAdd]at v;simp[g,i,zZ,zz,zS,m,v,bne,u,Qst.mv,l,f25];exact qR rfl (by first|rfl|simp[zz,zS,l])
   ·rw[zf z];have F:=jl z;simp only[zZ,zz,zS,zd,ze,zh,Nat.reduceAdd]at v;simp[g,i,zZ,zz,zS,m,v,bne,z,F,f25];exact qR rfl rfl
def xz(s:za)(st:Qst)(w:za):Qst:=if(jD s st w).1=true then(jD s st w).2 else(jD s st w).2.fail (jD s st w).2.p 10
theorem JS{s:za}{st:Qst}(w:za)(h:st.p<=s.length):st.p<=(xz s st w).p/\(xz s st w).p<=s.length/\(xz s st w).d=st.d/\((xz s st w).b=none->st.b=none/\st.p+w.length<=(xz s st w).p):=by
 have a:=jd (s:=s) w h;unfold xz;split
 ·rename_i c;exact⟨a.1,a.2.1,a.2.2.2.1,fun _=>a.2.2.2.2 c⟩
 ·rw[(Zh _ _ _).1,(Zh _ _ _).2];exact⟨a.1,a.2.1,a.2.2.2.1,fun e=>absurd e (vg _ _ _)⟩
noncomputable abbrev Cmuq:Ctx:=qj prog [(25,Ar),(13,JR)]
theorem zaH:Gd Cmuq:=qQ mixed ⟨KD,xZ,trivial⟩
noncomputable abbrev Rk:AM.Spec:=mQ aS (fun _ _ w=>w≠[]/\w.length<=20) (fun s st w=>xz s st w) (fun _ _ _=>.wL [])
theorem YY{s:za}{st:Qst}(w:za){Y:Hp}{id Z:Nat}(a:Y id=some (yq s st))(hs:s.length<=20000)(b:st.p<=s.length)(c:w≠[]/\w.length<=20):Rk [.ref id 0 0,str w] Y Z=some (.wL [],qf Y id (some (yq s (xz s st w))),Z):=Wk mI (fun _=>rfl) w a hs b c
theorem ga:zi prog 27 Rk:=
 wi (code:=_) zaH ⟨func27,by kernel_rfl,rfl,by kernel_rfl⟩ TQ _ fun cs f cs' r h=>by
  obtain⟨s,st,w,rfl,rfl,hs,Y,e,rfl,rfl⟩:=ZR h;refine⟨by simp[aS,f27],?_⟩;clear h;have b:=jd (s:=s) w Y;have a:Ar [.ref 0 0 0,str w] (zZ TQ (zS s st)) 1=some (yh (jD s st w).1,qf (zZ TQ (zS s st)) 0 (some (yq s (jD s st w).2)),1):=xT w rfl hs Y e;have c:=vu (Y:=qf (zZ TQ (zS s st)) 0 (some (yq s (jD s st w).2))) (id:=0) (Z:=1) (jD s st w).2.p 10 (by simp) hs b.2.1;simp only[zZ,zz,zS,zd,ze,zh,Nat.reduceAdd,qV]at a c;unfold xz;cases d:(jD s st w).1
  ·rw[d]at a;simp[aS,zZ,zz,zS,a,c,f27];exact qR rfl (by simp[zz,zS])
  ·rw[d]at a;simp[aS,zZ,zz,zS,a,f27];exact qR rfl (by simp[zz,zS])
def VM(s:za)(st:Qst):za×Qst:=
 if fK s (yX s st)=[]\/st.b≠none then([],(if fK s (yX s st)=[]then(yX s st).fail (yX s st).p 10 else yX s st))
 else(fK s (yX s st),(yX s st).mv ((yX s st).p+(fK s (yX s st)).length))
theorem ou{s:za}{st:Qst}(h:st.p<=s.length):st.p<=(VM s st).2.p/\(VM s st).2.p<=s.length/\(VM s st).2.d=st.d/\(VM s st).1.length<=(VM s st).2.p-st.p:=by
 have a:=Q7 (s:=s) h;have b:=fL (s:=s) a.2.1;unfold VM;split
 ·simp only;split
  ·rw[(Zh _ _ _).1,(Zh _ _ _).2];exact⟨a.1,a.2.1,a.2.2.2,by simp⟩
  ·exact⟨a.1,a.2.1,a.2.2.2,by simp⟩
 ·refine⟨?_,b,rfl,?_⟩<;>simp only[Qst.mv]<;>omega
noncomputable abbrev Canq:Ctx:=qj prog [(12,pS),(48,Gu),(13,JR)]
theorem zaI:AM.Good Canq (fun g=>[48].contains g):=qx mixed ⟨Yz,by simp,fZ,fun _=>ym _ _,xZ,by simp,trivial⟩
noncomputable abbrev anQS:AM.Spec:=mQ aU (fun _ _ _=>True) (fun s st _=>(VM s st).2) (fun s st _=>str (VM s st).1)
theorem ov{s:za}{st:Qst}{Y:Hp}{id Z:Nat}(a:Y id=some (yq s st))(hs:s.length<=20000)(b:st.p<=s.length):anQS [.ref id 0 0] Y Z=some (str (VM s st).1,qf Y id (some (yq s (VM s st).2)),Z):=Wk y5 (fun _=>rfl) () a hs b trivial
theorem s9:zi prog 28 anQS:=
 wi (code:=_) zaI ⟨func28,by kernel_rfl,rfl,by kernel_rfl⟩ TQ _ fun cs A cs' r h=>by
  obtain⟨s,st,⟨⟩,rfl,rfl,hs,Y,_,rfl,rfl⟩:=ZR h;refine⟨by simp[aU,f28],?_⟩;clear h;obtain⟨a,e⟩:=wM (yX s st);have f:=Q7 (s:=s) Y;rw[e]at f;have v:pS [.ref 0 0 0] (zZ TQ (zS s st)) 1=some (.wL [],qf (zZ TQ (zS s st)) 0 (some (yq s a)),1):=by rw[<-e];exact Kv rfl hs Y
  have z:qf (zZ TQ (zS s st)) 0 (some (yq s a))=zZ TQ (zS s a):=by simp[zZ]
  rw[z]at v;have l:Gu [.ref 0 0 0] (zZ TQ (zS s a)) 1=some (str (fK s a),zZ TQ (zS s a),1):=ot rfl hs f.2.1;have x:JR [.ref 0 0 0,int a.p,int 10] (zZ TQ (zS s a)) 1=some (.wL [],qf (zZ TQ (zS s a)) 0 (some (yq s (a.fail a.p 10))),1):=vu a.p 10 rfl hs f.2.1;have q:=fL (s:=s) f.2.1;refine zM (fun M Y Z=>M 0=.ref 0 0 0/\Y=zZ TQ (zS s st)/\Z=1) (by simp[aU]) ?_;rintro M _ _ ⟨j,rfl,rfl⟩;refine zM (fun t Y Z=>t 0=.ref 0 0 0/\Y=zZ TQ (zS s a)/\Z=1) (by simp[j,v]) ?_;clear j M;rintro M _ _ ⟨j,rfl,rfl⟩;obtain⟨w,y⟩:=wM (fK s a);rw[y]at l q;unfold VM;rw[e,y];simp only[zZ,zz,zS,zd,ze,zh,Nat.reduceAdd,qV]at l x;have m:a.b=st.b:=f.2.2.1;have n:∀k,(⟨k,a.d,a.b⟩:Qst).bad=a.bad/\(⟨k,a.d,a.b⟩:Qst).QO=a.QO:=fun _=>⟨rfl,rfl⟩
  by_cases c:w=[]
  ·subst c;rw[zg (.inl rfl),zg rfl];have g:(0:Int)<=(a.fail a.p 10).bad:=QC (vg _ _ _);simp[j,zZ,zz,zS,l,x,g,f28];exact qR rfl (by first|rfl|simp[zz,zS])
  ·have i:=jl c;by_cases o:st.b=none
   ·have g:¬(0:Int)<=a.bad:=by rw[WG (m.trans o)];decide
    rw[zf (by simp[c,o])];have u:=wj ((a.p:Int)+(w.length:Int));simp[j,zZ,zz,zS,l,g,c,i,u,Qst.mv,n,f28];exact qR rfl (by first|rfl|simp[zz,zS,n])
   ·have g:(0:Int)<=a.bad:=QC (by rw[m];exact o);rw[zg (.inr o),zf c];simp[j,zZ,zz,zS,l,g,c,i,f28];exact qR rfl (by first|rfl|simp[zz,zS])
def iO(s:za)(st:Qst):Qst:=if(decide (st.b=none)&&VL (fK s (yX s st))||([95]:za).isPrefixOf (fK s (yX s st)))=true then(yX s st).fail (yX s st).p 10 else yX s st
def M5(s:za)(p:Nat):Val×Rst:=ky s (s.length+1) ⟨p,none⟩
def HS(st:Qst)(b:Option (Nat×Int)):Qst:=match b with
 |none=>st
 |some q=>st.fail q.1 10
def JC(s:za)(st:Qst):Val×Qst:=if(iO s st).b≠none then(zV,iO s st)else((M5 s (iO s st).p).1,(HS (iO s st) (M5 s (iO s st).p).2.b).mv (M5 s (iO s st).p).2.p)
theorem Rl{s:za}{st:Qst}(h:st.p<=s.length):st.p<=(iO s st).p/\(iO s st).p<=s.length/\(iO s st).d=st.d/\((iO s st).b=none->st.b=none):=by
 have a:=Q7 (s:=s) h;unfold iO;split
 ·rw[(Zh _ _ _).1,(Zh _ _ _).2];exact⟨a.1,a.2.1,a.2.2.2,fun e=>absurd e (vg _ _ _)⟩
 ·exact⟨a.1,a.2.1,a.2.2.2,fun e=>by rw[<-a.2.2.1];exact e⟩
theorem zha(st:Qst)(b:Option (Nat×Int)):(HS st b).d=st.d:=by
 unfold HS;split
 ·rfl
 ·exact(Zh _ _ _).2
theorem zdW:zV.vb=1:=by rw[kv];simp[zV,Val.s,Val.items,Val.fields,kh,QJ]
theorem XN{s:za}{st:Qst}(h:st.p<=s.length):st.p<=(JC s st).2.p/\(JC s st).2.p<=s.length/\(JC s st).2.d=st.d/\(JC s st).1.vb<=(JC s st).2.p-st.p+1/\((JC s st).2.b=none->st.b=none):=by
 have a:=Rl (s:=s) h;have e:=Vf (s:=s) (s.length+1) ⟨(iO s st).p,none⟩ a.2.1;unfold JC M5;simp only at e;split
 ·exact⟨a.1,a.2.1,a.2.2.1,by rw[zdW];omega,a.2.2.2⟩
 ·rename_i f;have c:(iO s st).b=none:=by simpa using f
  refine⟨?_,e.2.1,?_,?_,fun _=>a.2.2.2 c⟩
  ·simp only[Qst.mv];omega
  ·simp only[Qst.mv,zha];exact a.2.2.1
  ·simp only[Qst.mv];omega
noncomputable abbrev Cvaq:Ctx:=qj prog [(12,pS),(48,Gu),(13,JR),(49,zn false [] (WV E9 fun _ _=>True)),(72,vaRJ)]
theorem zaJ:AM.jH False Cvaq (fun g=>[48,49].contains g):=qx mixed ⟨Yz.lax,by simp,fZ.lax,fun _=>ym _ _,xZ.lax,by simp,xe.lax,fun _=>zt _ _,Gr,by simp,trivial⟩
noncomputable abbrev vaQS:AM.Spec:=mQ aU (fun _ _ _=>True) (fun s st _=>(JC s st).2) (fun s st _=>.agg (JC s st).1.V)
theorem dU{s:za}{st:Qst}{Y:Hp}{id Z:Nat}(a:Y id=some (yq s st))(hs:s.length<=20000)(b:st.p<=s.length):vaQS [.ref id 0 0] Y Z=some (.agg (JC s st).1.V,qf Y id (some (yq s (JC s st).2)),Z):=Wk y5 (fun _=>rfl) () a hs b trivial
theorem sH:wO False prog 53 vaQS:=
 ya (C:=Cvaq) func53 (by kernel_rfl) rfl TQ _ fun cs az cs' r h=>by
  obtain⟨s,st,⟨⟩,rfl,rfl,hs,Y,_,rfl,rfl⟩:=ZR h;refine⟨by simp[aU,f53],?_⟩;clear h;have D:=zaJ;have hlim:qg=268435456:=rfl;obtain⟨v,K⟩:=wM (yX s st);have z:=Q7 (s:=s) Y;have F:=Rl (s:=s) Y;obtain⟨f,B⟩:=wM (iO s st);have e:=B;unfold iO at e;rw[K]at z e;rw[B]at F;have hwd:=fL (s:=s) z.2.1;obtain⟨w,hw⟩:=wM (fK s v);rw[hw]at e hwd;refine Wp.cut D (fun M Y Z=>M 0=.ref 0 0 0/\M 2=.ref 1 0 0/\Y 0=some (yq s st)/\Y 1=some jC/\Z=2) (by kernel_rfl) (by simp[aU,zZ,zz,zS,jC,zc]) ?_;rintro M Y1 _ ⟨i,j,t,u,rfl⟩;have g1:=Kv (id:=0) (Z:=2) t hs Y;rw[K]at g1;refine Wp.cut D (fun a Y Z=>a 0=.ref 0 0 0/\a 2=.ref 1 0 0/\Y 0=some (yq s v)/\Y 1=some jC/\Z=2) (by kernel_rfl) (by simp[i,j,g1,u,zc]) ?_;clear i j t u g1 M Y1;rintro M Y1 _ ⟨i,j,t,u,rfl⟩;have g2:=ot (id:=0) (Z:=2) t hs z.2.1;rw[hw]at g2;refine Wp.cut D (fun a Y Z=>a 0=.ref 0 0 0/\a 2=.ref 1 0 0/\a 3=str w/\Y=Y1/\Z=2) (by kernel_rfl) (by simp[i,j,g2]) ?_;clear i j g2 M;rintro M Y1 _ ⟨i,j,E,rfl,rfl⟩;refine Wp.cut D (fun a Y Z=>a 0=.ref 0 0 0/\a 2=.ref 1 0 0/\Y 0=some (yq s f)/\Y 1=some jC/\Z=2) (by kernel_rfl) ?_ ?_
  ·have l:=t;simp only[zz,zS,zd,ze,zh,Nat.reduceAdd]at l;have G:=fun Y Z=>Yf w [95] Y Z (by omega) (by simp;omega)
   have gf:=vu (id:=0) (Z:=2) v.p 10 t hs z.2.1;refine zM (fun a Y Z=>a 0=.ref 0 0 0/\a 2=.ref 1 0 0/\a 44=yh (decide (st.b=none)&&VL w||([95]:za).isPrefixOf w)/\Y=Y1/\Z=2) ?_ ?_
   ·by_cases m:st.b=none
    ·have n:v.bad<0:=by rw[WG (z.2.2.1.trans m)];decide
     cases w with
     |nil=>simp[i,j,E,l,n,m,G,VL,List.isPrefixOf]
     |cons c w'=>
      obtain⟨P,hP⟩:=wM (([95]:za).isPrefixOf (c::w'));rw[hP]at G⊢;have R:(97<=c)↔(97:Int)<=c.toNat:=by rw[yv];have:(97:UInt8).toNat=97:=rfl;omega
      have S:(c<=122)↔(c.toNat:Int)<=122:=by rw[yv];have:(122:UInt8).toNat=122:=rfl;omega
      by_cases T:(97:Int)<=c.toNat
      ·by_cases U:(c.toNat:Int)<=122
       ·cases n1:(c::w'==([110,117,108,108]:za))
        ·cases n2:(c::w'==([116,114,117,101]:za))
         ·cases n3:(c::w'==([102,97,108,115,101]:za))
          ·simp[i,j,E,l,n,m,G,VL,R,S,T,U,n1,n2,n3,bne]
          ·simp[i,j,E,l,n,m,G,VL,R,S,T,U,n1,n2,n3,bne]
         ·simp[i,j,E,l,n,m,G,VL,R,S,T,U,n1,n2,bne]
        ·simp[i,j,E,l,n,m,G,VL,R,S,T,U,n1,bne]
       ·simp[i,j,E,l,n,m,G,VL,R,S,T,U,bne]
      ·simp[i,j,E,l,n,m,G,VL,R,S,T,bne]
    ·have n:¬v.bad<0:=by have:=QC (st:=v) (by rw[z.2.2.1];exact m);omega
     simp[i,j,E,l,n,m,G]
   clear i j E M;rintro M _ _ ⟨i,j,H,rfl,rfl⟩;cases hB:(decide (st.b=none)&&VL w||([95]:za).isPrefixOf w)
   ·rw[hB]at e H;simp only[zm,zQ]at e;subst e;simp[i,j,H,t,u]
   ·rw[hB]at e H;simp only[zK]at e;rw[e]at gf;simp[i,j,H,l,gf,u,zc]
  clear i j E t u M Y1;rintro M Y1 _ ⟨i,j,t,u,rfl⟩;unfold JC;rw[B];have I:=u;simp only[jC]at I;have l:=t;simp only[zz,zS,zd,ze,zh,Nat.reduceAdd]at l;by_cases m:f.b=none
  case neg=>rw[zg m];have Q:(0:Int)<=f.bad:=QC m;refine Wp.seq (Wp.of D (by kernel_rfl) ?_);simp[i,j,l,I,Q,zI,qe,zc,f53];exact qc rfl (by simp[zc,zz,zS,l]) kD rfl
  rw[zf (by simpa using m)];have Q:¬(0:Int)<=f.bad:=by rw[WG m];decide
  refine Wp.cut D (fun a Y Z=>a 0=.ref 0 0 0/\a 2=.ref 1 0 0/\Y=Y1/\Z=2) (by kernel_rfl) (by simp[i,j,l,Q]) ?_;clear i j M;rintro M Y1 _ ⟨i,j,rfl,rfl⟩;refine Wp.cut D (fun a Y Z=>a 0=.ref 0 0 0/\a 2=.ref 1 0 0/\a 4=.ref 2 0 0/\Y 0=some (yq s f)/\Y 1=some jC/\Y 2=some (qL s ⟨f.p,none⟩)/\Z=3) (by kernel_rfl) (by simp[i,j,l,I,jC,zz,zS,qa,Rst.bad,Rst.QO,zI,qe,zc]) ?_;clear i j t l u I M Y1;rintro M Y1 _ ⟨i,j,L,t,u,N,rfl⟩;obtain⟨x,o,hx⟩:∃x o,M5 s f.p=(x,o):=⟨_,_,rfl⟩;have W:=Vf (s:=s) (s.length+1) ⟨f.p,none⟩ F.2.1;have hx':ky s (s.length+1) ⟨f.p,none⟩=(x,o):=hx;have g:=Me (id:=2) (Z:=3) N (by omega) F.2.1;rw[hx']at g W;rw[hx];simp only at g W⊢;refine Wp.cut D (fun a Y Z=>a 0=.ref 0 0 0/\a 2=.ref 1 0 0/\a 4=.ref 2 0 0/\a 5=.ref 3 0 0/\Y 0=some (yq s f)/\Y 1=some jC/\Y 2=some (qL s o)/\Y 3=some ⟨43,5,false,[x.V]⟩/\Z=4) (by kernel_rfl) (by simp[i,j,L,t,u,g,zc]) ?_;clear i j L t u N g M Y1;rintro M Y1 _ ⟨i,j,L,X,t,u,N,A,rfl⟩;have J:=N;simp only[zz,qa,zd,ze,zh,Nat.reduceAdd]at J;refine Wp.cut D (fun a Y Z=>a 0=.ref 0 0 0/\a 2=.ref 1 0 0/\a 4=.ref 2 0 0/\a 5=.ref 3 0 0/\Y 0=some (yq s (HS f o.b))/\Y 1=some jC/\Y 2=some (qL s o)/\Y 3=some ⟨43,5,false,[x.V]⟩/\Z=4) (by kernel_rfl) ?_ ?_
  ·obtain⟨px,bx⟩:=o;cases bx with
   |none=>simp[i,j,L,X,t,u,J,A,Rst.bad,Rst.QO,HS,zz,qa]
   |some q=>obtain⟨k,y⟩:=q;have gf:=vu (id:=0) (Z:=4) k 10 t hs F.2.1;simp[i,j,L,X,u,J,A,gf,Rst.bad,Rst.QO,HS,zz,qa,zc]
  clear i j L X t u N J A M Y1;rintro M Y1 _ ⟨i,j,L,X,t,u,N,A,rfl⟩;simp only[zz,zS,qa,jC,zd,ze,zh,Nat.reduceAdd]at t u N;have Tq:∀k,(⟨k,(HS f o.b).d,(HS f o.b).b⟩:Qst).bad=(HS f o.b).bad/\(⟨k,(HS f o.b).d,(HS f o.b).b⟩:Qst).QO=(HS f o.b).QO:=fun _=>⟨rfl,rfl⟩
  refine Wp.of D (by kernel_rfl) ?_;simp only[wD]at A⊢;simp[i,j,L,X,t,u,N,A,zc,f53];exact qR (by simp[AM.freeze,zO,qm,qp]) (by simp[zc,zz,zS,Qst.mv,Tq])
end Go.Q
