/- Lemmas. -/
import Derived.Shelf.SlSortCmp.InsertionK
import Derived.Sort.AssemblyPlain
import Derived.Shelf.SlSortCmp.WholeK
import Derived.Shelf.SlSortCmp.NoneTotal
import Derived.Test.YtcebnehlnlcckaaGreatDoorProg
import Derived.RangeFuncBox
import Derived.RangeFuncLeaves
import Derived.Shelf.Abstract
import Derived.WalkKit
import Derived.OwnWalkIn
import Derived.TacticsInMore
import Derived.LoopNIn
import Derived.LoopIn
import Derived.Test.YtcebnehlnlcckaaGreatDoorG7
set_option maxRecDepth 100000
set_option maxHeartbeats 4000000
open Go Proofs Proofs.YtcebnehlnlcckaaGreatDoor Proofs.Tryz RowKit AM SpanLaw Q Zz
open Go.IntKind renaming i64→i6
namespace Go.AM
open Go.RowKit Go.Sort Go.Proofs
variable{dr:Prop}
def Wx(xs:List zb)(i:Nat):zb:=xs.getD (if i<xs.length then i else 0) []
theorem kH{xs:List zb}(h:xs≠[])(i:Nat):Wx xs i∈xs:=by
 have b:0<xs.length:=jl.2 h;have a:(if i<xs.length then i else 0)<xs.length:=by split<;>assumption
 unfold Wx;rw[JO,zl a];exact zj _
theorem MV{xs:List zb}{i:Nat}(h:i<xs.length):Wx xs i=xs[i]:=by unfold Wx;rw[ze h,JO,zl h];rfl
def lF(cf:zb->zb->Int)(xs:List zb)(i j:Nat):Int:=cf (Wx xs i) (Wx xs j)
def Zw(cf:zb->zb->Int)(xs:List zb):Array Nat:=pdq (ltOf (lF cf xs)) (Array.range xs.length) 0 xs.length (Lib.bitLen xs.length) true true
def We(cf:zb->zb->Int)(xs:List zb):List zb:=if xs.length=0 then[]else(Zw cf xs).toList.map (Wx xs)
structure KN (cf:List O->List O->Int) (xs:List (List O)):Prop where
 irrefl:∀x∈xs,0<=cf x x
 trans:∀x∈xs,∀y∈xs,∀z∈xs,cf x y<0->cf y z<0->cf x z<0
 ntrans:∀x∈xs,∀y∈xs,∀z∈xs,0<=cf x y->0<=cf y z->0<=cf x z
section
variable{cf:zb->zb->Int}{xs:List zb}
theorem Fy{i j:Nat}(h:ltOf (lF cf xs) i j=true):cf (Wx xs i) (Wx xs j)<0:=cY h
theorem lG{i j:Nat}(h:ltOf (lF cf xs) i j=false):0<=cf (Wx xs i) (Wx xs j):=Int.not_lt.1 (of_decide_eq_false h)
theorem MW{i j:Nat}(h:cf (Wx xs i) (Wx xs j)<0):ltOf (lF cf xs) i j=true:=decide_eq_true h
theorem Fz{i j:Nat}(h:0<=cf (Wx xs i) (Wx xs j)):ltOf (lF cf xs) i j=false:=decide_eq_false (Int.not_lt.2 h)
theorem KN.swo(h:KN cf xs)(a:xs≠[]):SWO (ltOf (lF cf xs)) where
 irrefl i:=Fz (h.irrefl _ (kH a i))
 trans i j k b c:=MW (h.trans _ (kH a i) _ (kH a j) _ (kH a k) (Fy b) (Fy c))
 ntrans i j k b c:=Fz (h.ntrans _ (kH a i) _ (kH a j) _ (kH a k) (lG b) (lG c))
theorem Kk(h:KN cf xs)(a:xs≠[]):PermIn 0 xs.length (Array.range xs.length) (Zw cf xs)/\SortedIn (ltOf (lF cf xs)) 0 xs.length (Zw cf xs):=
 pdq_sorts (ltOf (lF cf xs)) (h.swo a) (Array.range xs.length) 0 xs.length (Lib.bitLen xs.length) true true (j9 _) (by simp) (Or.inl rfl)
theorem Kl(h:KN cf xs)(a:xs≠[]):(Zw cf xs).size=xs.length:=by have:=(Kk h a).1.1;simpa using this
theorem aE(h:KN cf xs):(We cf xs).Perm xs:=by
 unfold We;split
 ·rename_i a;have:xs=[]:=zT.1 a;subst this;exact .refl _
 ·rename_i a;have c:xs≠[]:=by rintro rfl;simp at a
  obtain⟨k,_,d⟩:=(Kk h c).1;have hs:=Kl h c;have f:(Zw cf xs).extract 0 xs.length=Zw cf xs:=by rw[<-hs];simp
  have g:(Array.range xs.length).extract 0 xs.length=Array.range xs.length:=by
   conv=>lhs;rw[show xs.length=(Array.range xs.length).size by simp]
   simp
  rw[f,g]at d;have e:=d.map (Wx xs);have j:(Array.range xs.length).toList.map (Wx xs)=xs:=by
   apply List.ext_getElem
   ·simp
   ·intro i hi b;simp[MV b]
  rw[j]at e;exact e
theorem sg(h:KN cf xs):(We cf xs).Pairwise (fun x y=>0<=cf y x):=by
 unfold We;split
 ·exact List.Pairwise.nil
 ·rename_i e;have c:xs≠[]:=by rintro rfl;simp at e
  have hs:=Kl h c;have f:=(Kk h c).2;rw[List.pairwise_map,E3];intro i j hi a b;have d:=f i j (j9 _) b (by simp at a;omega);simp at hi a;rw[WU _ i hi,WU _ j a]at d;simpa using lG d
theorem si(h:KN cf xs):(We cf xs).length=xs.length:=(aE h).length_eq
end
def MX(P:Program)(f k:Nat):Prop:=
 (∀(α:Type) [Inhabited α] (V:α->List Value) (_:∀x,(V x).length=k) (_:∀x,∀v∈V x,v.oneCell'=true) (cf:α->α->Int) (_:SWO (ltOf cf)) (g:Nat) (blk off cap:Nat) (d:Array α) (w:World)
  (_:∀args w,(callFunc g args).run P w=.ok (.enter g args) w) (_:CmpLays P g #[] V k cf blk off d.size w) (_:HoldsK V k w blk off d) (_:blk<w.heap.size) (_:d.size<4611686018427387904),
  Calls P f #[.slice (some ⟨blk,off,none⟩) d.size cap,.func (.func g) #[] #[]] w fun e w'=>
   e=.returned (.tuple #[])/\∃n a,w'=sortWorldK V k w blk off n (pdq (ltOf cf) d 0 d.size (Lib.bitLen d.size) true true) a) /\
 ∀(p:Option Addr) (cap:Nat) (b:Value) (w:World),Calls P f #[.slice p 0 cap,b] w fun e w'=>e=.returned (.tuple #[])/\w'=w
def T7(P:Program)(g k:Nat)(cf:zb->zb->Int)(dom:zb->Prop):Prop:=
 (∀args w,(callFunc g args).run P w=.ok (.enter g args) w)/\∃a,zf P g a/\∀x y,x.length=k->y.length=k->dom x->dom y->a [.agg x,.agg y] (fun _=>none) 0=some (.v (.int .i64 (cf x y)),fun _=>none,0)
open Classical in
noncomputable def lH (k:Nat) (g:Nat) (cf:zb->zb->Int) (dom:zb->Prop):AM.Spec:=fun args Y Z=>
 match args with
 |[.nil,.fn _ _ _]=>some (.wP [],Y,Z)
 |[.own id off n,.fn (.func a) [] []]=>if n=0 then some (.wP [],Y,Z)else match Y id with
  |some b=>if a=g/\b.arr=true/\b.s=k/\off+n<=b.es.length/\n<4611686018427387904/\KN cf ((b.es.drop off).take n)/\∀x∈(b.es.drop off).take n,dom x then
    some (.wP [],qR Y id (some ⟨b.e,b.s,b.arr,b.es.take off++We cf ((b.es.drop off).take n)++b.es.drop (off+n)⟩),Z)else none
  |none=>none
 |_=>none
theorem DH{W w':World}(h:Fr True W (fun _=>False) w'):∃q c,w'=grow (W.drewN q) c:=by
 refine⟨w'.drawn-W.drawn,w'.heap.extract W.heap.size w'.heap.size,?_⟩;obtain⟨a,e,d,n,b⟩:=w';obtain⟨f,g,j,m,k,l⟩:=h;simp only at f g j m k l;unfold grow World.drewN;simp only[World.mk.injEq];refine⟨?_,g,by have:=k trivial;omega,f,j⟩;apply Array.ext_getElem?;intro i;by_cases hi:i<W.heap.size
 ·rw[l i hi (fun h=>h),vm hi]
 ·rw[Array.getElem?_append_right (by omega),Array.getElem?_extract];by_cases o:i<a.size
  ·rw[ze (by omega)];congr 1;omega
  ·rw[zd (by omega),Array.getElem?_eq_none (by omega)]
theorem kO.grown{P:Program}{Y:Hp}{Z:Nat}{S:Nat->Prop}{G:Nat->GI}{w w':World}(h:Inv P w S G Y Z)(c:Fr dr w (fun _=>False) w'):kO dr P Y Z S G w Y Z S G w':=by
 have d:∀b,b<w.heap.size->w'.heap[b]?=w.heap[b]?:=fun b a=>c.block b a (fun h=>h)
 refine⟨⟨fun b a=>yZ (h.st b a) c.size,h.top,fun id b a=>?_,h.apart,h.inj,h.gT.mono fun b a=>⟨a,d b (h.st b a)⟩⟩,zk _,fun _ _=>rfl,fun _ a=>a,fun _ a=>.inl a,fun id b a=>.inl ⟨id,b,a,rfl⟩,⟨c.os,c.tape,c.output,c.size,c.drawn,fun k f _=>c.block k f (fun h=>h)⟩⟩;have e:=h.live id b a;exact e.mono (fun b a=>⟨a,d b (h.st b a)⟩) (zk _) (fun _ _=>rfl) (d _ e.lt)
theorem Km{α:Type}[Inhabited α](V:α->List Value)(k:Nat)(w:World)(blk off m:Nat)(d:Array α)(a:Array Obj):Fr dr (putRowK V k w blk off d) (fun _=>False) (sortWorldK V k w blk off m d a):=by
 refine⟨rfl,rfl,rfl,?_,fun _=>?_,fun b c _=>?_⟩
 ·show _<=(_++a).size;rw[Ql];exact Nat.le_add_right _ _
 ·exact Nat.le_add_right _ _
 ·exact vm c
theorem QZ{α:Type}[Inhabited α](V:α->List Value)(k:Nat)(w:World)(blk off:Nat)(d:Array α){a:Array Value}{e:TypeId}(h:w.heap[blk]?=some (.cells a e (0,0))) :
  putRowK V k w blk off d=w.setRow blk (putCells (fun v:Value=>v) off (flatK V k d) a):=by
 unfold putRowK putRow mapBlock World.setRow;congr 1;apply Array.ext_getElem?;intro i;simp only[vT];by_cases hi:blk=i
 ·subst hi;simp only[qB,h,zy,onCells];rfl
 ·simp[hi]
section
variable{P:Program}{f k g:Nat}{cf:zb->zb->Int}{dom:zb->Prop}
theorem Am(h0:0<k)(hfn:∃fn,P.funcs[f]?=some fn/\(fn.name== "runtime.NumGoroutine")=false/\fn.body.isNone=false)(hso:MX P f k)(hco:T7 P g k cf dom):kh dr P f (lH k g cf dom):=by
 refine⟨hfn,?_⟩;intro args Y Z r Y' Z' h w S G vs hi hz;unfold lH at h;split at h
 ·injection h with h;injection h with e1 h;injection h with e2 e3;subst e1;subst e2;subst e3;obtain⟨u,us,rfl,hu,z⟩:=hz.jG;obtain⟨v,us,rfl,hv,z⟩:=z.jG;obtain rfl:=z.Wq;obtain rfl:=hu.Zd;refine(hso.2 none 0 v w).mono fun e w' hh=>?_
  obtain⟨rfl,rfl⟩:=hh;exact⟨_,_,_,rfl,.refl hi,jM⟩
 ·rename_i id off n g';obtain⟨u,us,rfl,hu,z⟩:=hz.jG;obtain⟨v,us,rfl,hv,z⟩:=z.jG;obtain rfl:=z.Wq;have o:=hu.xk;obtain⟨cap,g1,g2,g3,g4,rfl⟩:=hu.vH;split at h
  ·rename_i hn0;subst hn0;injection h with h
   injection h with e1 h;injection h with e2 e3;subst e1;subst e2;subst e3;refine(hso.2 _ cap v w).mono fun e w' hh=>?_
   obtain⟨rfl,rfl⟩:=hh;exact⟨_,_,_,rfl,.refl hi,jM⟩
  rename_i hn0;split at h
  case h_2=>cases h
  rename_i b hb;split at h
  case isFalse=>cases h
  rename_i hc;obtain⟨rfl,harr,hbk,X,hn,hW,M⟩:=hc;injection h with h
  injection h with e1 h;injection h with e2 e3;subst e1;subst e2;subst e3;have d:=hi.live id b hb;obtain⟨us,ts,rfl,hus,hts,_,_⟩:=hv.tR;obtain rfl:us=#[]:=Array.eq_empty_of_size_eq_zero (by simpa using hus.symm);obtain rfl:ts=#[]:=Array.eq_empty_of_size_eq_zero (by simpa using hts.symm);have A:(G id).s=k:=by rw[<-d.bs];exact hbk
  obtain⟨N,c1,c2,c3⟩:=d.row o;rw[A]at c3 g4;obtain⟨xs,Q⟩:=yx ((b.es.drop off).take n);rw[Q]at hW M;have H:xs.length=n:=by rw[<-Q];simp;omega
  have I:xs≠[]:=by rintro rfl;simp at H;omega
  have B:∀x∈xs,x.length=k:=fun x I=>by rw[<-A];rw[<-Q]at I;exact d.len o x (List.mem_of_mem_drop (JQ I))
  have hxg:∀i,i<n->xs[i]?=b.es[off+i]?:=fun i hi=>by rw[<-Q,qt,ze hi,qK]
  let ix:Nat->Nat:=fun i=>if i<n then i else 0
  have hix:∀i,ix i<n:=fun i=>by show(if i<n then i else 0)<n;split<;>omega
  have hel:∀i,xs[ix i]?=some (Wx xs i):=fun i=>by
   unfold Wx;rw[JO];show xs[if i<n then i else 0]?=_;have:(if i<n then i else 0)<xs.length:=by rw[H];exact hix i
   rw[H,zl this];rfl
  let V:Nat->List Value:=fun i=>(List.range k).map fun j=>(N[(off+ix i)*k+j]?).getD undef
  have hek:∀x,(V x).length=k:=fun x=>by simp[V]
  have l:∀i j C,(Wx xs i)[j]?=some C->∃u,N[(off+ix i)*k+j]?=some u/\(V i)[j]?=some u/\wH w S C u/\u.oneCell'=true:=fun i j C hj=>by
   have J:j<k:=by have:=(zi.1 hj).1;rw[B _ (kH I i)]at this;exact this
   obtain⟨u,T,L⟩:=c3 (off+ix i) j (Wx xs i) C (by rw[<-hxg _ (hix i)];exact hel i) hj;rw[harr]at L;refine⟨u,T,?_,L.1 rfl,L.2.2⟩;simp[V,J,T]
  have E:∀i j,j<k->∃C,(Wx xs i)[j]?=some C:=fun i j hj=>by
   have:j<(Wx xs i).length:=by rw[B _ (kH I i)];exact hj
   exact⟨_,zl this⟩
  have h1c:∀x,∀v∈V x,v.oneCell'=true:=fun x v hv=>by obtain⟨j,hj,rfl⟩:=qw.1 hv;obtain⟨C,Le⟩:=E x j (ye.1 hj);obtain⟨u,T,_,_,q4⟩:=l x j C Le;rw[T];exact q4
  have hblk:(G id).g<w.heap.size:=d.lt;have F:∀m D (p:Array Nat) K,S K->(sortWorldK V k w (G id).g (off*k) m p D).heap[K]?=w.heap[K]?:=fun m D p K a=>by
   have R:K<(putRowK V k w (G id).g (off*k) p).heap.size:=by rw[QZ V k w _ _ p c1,size_setRow];exact hi.st K a
   rw[(Km (dr:=True) V k w (G id).g (off*k) m p D).block K R (fun h=>h),QZ V k w _ _ p c1];exact setRow_other _ _ _ _ fun e=>hi.apart id b hb (e ▸ a)
  have zei:∀m D (p:Array Nat),w.heap.size<=(sortWorldK V k w (G id).g (off*k) m p D).heap.size:=fun m D p=>by have:=(Km (dr:=True) V k w (G id).g (off*k) m p D).size;rw[QZ V k w _ _ p c1,size_setRow]at this;exact this
  obtain⟨eg,spec,hsp,Ph⟩:=hco;have hcmp:CmpLays P g' #[] V k (lF cf xs) (G id).g (off*k) n w:=by
   intro m D p hdk x y;have hagg:∀x,wH (sortWorldK V k w (G id).g (off*k) m p D) S (.agg (Wx xs x)) (.agg (V x).toArray):=fun x=>by
    refine .agg (by simp[hek,B _ (kH I x)]) fun j C u hj hu=>?_
    obtain⟨u',_,L,q3,_⟩:=l x j C hj;have:u=u':=by simpa[L]using hu.symm
    subst this;exact q3.mono fun K a=>⟨a,F m D p K a⟩
   have:=hsp.2 _ _ _ _ _ _ (Ph _ _ (B _ (kH I x)) (B _ (kH I y)) (M _ (kH I x)) (M _ (kH I y))) (sortWorldK V k w (G id).g (off*k) m p D) S G [.agg (V x).toArray,.agg (V y).toArray]
    ⟨fun K a=>yZ (hi.st K a) (zei m D p),fun _ _ h=>(nomatch h),fun _ _ h=>(nomatch h),fun _ _ h=>(nomatch h),fun _ _ _ _ h=>(nomatch h),hi.gT.mono fun K a=>⟨a,F m D p K a⟩⟩ (.cons (.c (hagg x)) (.cons (.c (hagg y)) .nil))
   refine this.mono fun e w' hh=>?_
   obtain⟨v,S',G',rfl,st,hv⟩:=hh;obtain⟨rfl,_⟩:=hv.wX;refine⟨rfl,DH ⟨st.fr.os,st.fr.tape,st.fr.output,st.fr.size,st.fr.drawn,fun k hk _=>st.fr.block k hk ?_⟩⟩;rintro⟨_,_,h,_⟩;cases h
  have hH:HoldsK V k w (G id).g (off*k) (Array.range n):=by
   intro t ht;have ht':t<n*k:=by simpa using ht
   have hd:=Nat.div_add_mod t k;have hm:=zgh t h0;have hdl:t/k<n:=(Nat.div_lt_iff_lt_mul h0).2 ht';rw[get_flatK _ _ _ _ (by simpa using ht')];have hr:(Array.range n)[t/k]! = t/k:=by rw[WU _ _ (by simpa using hdl)];simp
   obtain⟨C,Le⟩:=E (t/k) (t % k) hm;obtain⟨u,T,L,_,_⟩:=l (t/k) (t % k) C Le;have hixe:ix (t/k)=t/k:=ze hdl;constructor
   ·rw[UA w _ _ N _ _ c1,hr,List.getElem!_eq_getElem?_getD,L];rw[hixe]at T;have:off*k+t=(off+t/k)*k+t % k:=by rw[qQ,cX (t/k) k];omega
    rw[this,T];rfl
   ·simp[World.frozen?,c1]
  have hsw:=hW.swo I;have key:=hso.1 Nat V hek h1c (lF cf xs) hsw g' (G id).g (off*k) cap (Array.range n) w eg (by simpa using hcmp) hH hblk (by simpa using hn);have es1:(Array.range n).size=n:=by simp
  rw[es1]at key;rw[A];refine key.mono fun e w' hh=>?_
  obtain⟨rfl,m,D,rfl⟩:=hh;have hidx:pdq (ltOf (lF cf xs)) (Array.range n) 0 n (Lib.bitLen n) true true=Zw cf xs:=by unfold Zw;rw[H]
  rw[hidx];have hds:(Zw cf xs).size=n:=by rw[Kl hW I,H]
  have UE:(We cf xs).length=n:=by rw[si hW,H]
  have hpl:off+(We cf xs).length<=b.es.length:=by rw[UE];exact X
  have hsg:∀i,i<n->(We cf xs)[i]?=some (Wx xs (Zw cf xs)[i]!):=fun i hin=>by unfold We;rw[zd (by omega),qo,Array.getElem?_toList,WU _ i (by omega),jY (by omega)];rfl
  refine⟨_,S,G,rfl,?_,jM⟩;rw[Q];have pS:=kO.set (dr:=dr) hi hb o (putCells (fun v:Value=>v) (off*k) (flatK V k (Zw cf xs)) N) (b.es.take off++We cf xs++b.es.drop (off+n)) (by simp[putCells,c2])
   (fun c hc=>by
    rw[q5]at hc;rcases zK.1 hc with hc|hc
    ·exact d.len o c (JQ hc)
    rcases zK.1 hc with hc|hc
    ·rw[A];exact B c ((aE hW).mem_iff.1 hc)
    ·exact d.len o c (List.mem_of_mem_drop hc))
   (by have:=QT b.es (We cf xs) off hpl;rw[UE]at this;rw[this];exact d.fit o)
   (fun i j c C q W=>by
    have hspl:=vp b.es (We cf xs) off i hpl;rw[UE]at hspl;rw[hspl]at q;rw[A];split at q
    ·rename_i hin;rw[hsg _ (by omega)]at q;injection q with q
     subst q;have J:j<k:=by have:=(zi.1 W).1;rw[B _ (kH I _)]at this;exact this
     obtain⟨u,T,L,q3,q4⟩:=l _ j C W;refine⟨u,?_,fun _=>q3,.c q3,q4⟩;obtain⟨i',rfl⟩:∃i',i=off+i':=⟨i-off,by omega⟩;have e1:off+i'-off=i':=by omega
     rw[e1]at L;have e2:(off+i')*k+j=off*k+(i'*k+j):=by rw[qQ];omega
     have R:i'*k+j<n*k:=j5 (by omega) J;have hcl:off*k+(i'*k+j)<N.size:=by rw[c2];have:=d.fit o;rw[A]at this;have h5:(off+n)*k<=b.es.length*k:=zH k X;rw[qQ]at h5;omega
     rw[e2];unfold putCells;rw[Array.getElem?_mapIdx,jY hcl];simp only[zy,size_flatK,hds];rw[ze ⟨by omega,by omega⟩,show off*k+(i'*k+j)-off*k=i'*k+j by omega,get_flatK _ _ _ _ (by rw[hds];exact R)];have e3:(i'*k+j)/k=i':=by rw[cX,Nat.mul_add_div h0,Nat.div_eq_of_lt J];rfl
     have e4:(i'*k+j) % k=j:=by rw[cX,Nat.mul_add_mod,Nat.mod_eq_of_lt J]
     rw[e3,e4,List.getElem!_eq_getElem?_getD,L];rfl
    ·rename_i hin;obtain⟨u,T,L⟩:=c3 i j c C q W;refine⟨u,?_,L⟩;have J:j<k:=by have:=(zi.1 W).1;rw[d.len o c (zL q),A]at this;exact this
     unfold putCells;rw[Array.getElem?_mapIdx,T];simp only[zy,size_flatK,hds];rw[zd];rintro⟨a1,a2⟩;apply hin;constructor
     ·apply Nat.not_lt.1;intro R;have:(i+1)*k<=off*k:=zH k R;rw[qQ]at this;omega
     ·apply Nat.not_le.1;intro hle;have:(off+n)*k<=i*k:=zH k hle;rw[qQ]at this;omega)
  rw[<-QZ V k w _ _ _ c1]at pS;exact pS.trans (kO.grown pS.inv (Km V k w (G id).g (off*k) m (Zw cf xs) D))
 ·cases h
end
end Go.AM
namespace Go.Q
open Classical in
noncomputable def MY (x y:zb):Int:=if h:∃a b:Cut,x=a.V/\y=b.V then wv (Classical.choose h) (Classical.choose (jo h))else 0
theorem WR(a b:Cut):MY a.V b.V=wv a b:=by have h:∃c d:Cut,a.V=c.V/\b.V=d.V:=⟨a,b,rfl,rfl⟩;unfold MY;rw[Te h];have e:=jo (jo h);exact congr (zt wv (QH e.1).symm) (QH e.2).symm
def qY(l:List Cut):List zb:=l.map Cut.V
theorem MZ(l:List Cut):KN MY (qY l) where
 irrefl x d:=by obtain⟨a,_,rfl⟩:=qw.1 d;rw[WR,we.refl];exact zef _
 trans x d y e z f:=by obtain⟨a,_,rfl⟩:=qw.1 d;obtain⟨b,_,rfl⟩:=qw.1 e;obtain⟨c,_,rfl⟩:=qw.1 f;rw[WR,WR,WR];exact we.trans
 ntrans x d y e z f:=by obtain⟨a,_,rfl⟩:=qw.1 d;obtain⟨b,_,rfl⟩:=qw.1 e;obtain⟨c,_,rfl⟩:=qw.1 f;rw[WR,WR,WR];exact we.ntrans
def RH(x:zb):Prop:=∃a:Cut,x=a.V/\a.v.small
theorem zaG:T7 prog 184 5 MY RH:=by
 refine⟨fun args w=>?_,_,Z9,fun x y _ _ c d=>?_⟩
 ·have h:prog.funcs[184]?=some f184:=func184;simp[callFunc,h,f184]
 ·obtain⟨a,rfl,e⟩:=c;obtain⟨b,rfl,f⟩:=d;rw[WR];exact Jy a b _ _ e f
open Classical in
noncomputable def DI (x:zb):Cut:=if h:∃a:Cut,x=a.V then Classical.choose h else qU
theorem M0(a:Cut):DI a.V=a:=by have h:∃c:Cut,a.V=c.V:=⟨a,rfl⟩;unfold DI;rw[Te h];exact(QH (jo h)).symm
theorem VB(l:List Cut):(qY l).map DI=l:=by
 induction l with
 |nil=>rfl
 |cons a l b=>show DI a.V::(qY l).map DI=_;rw[M0,b]
theorem VC(l:List Cut):∃s:List Cut,We MY (qY l)=qY s/\s.Perm l/\s.Pairwise fun a b=>wv a b<=0:=by
 have Y:=aE (MZ l);have hs:=sg (MZ l);have c:∀(r:List zb),(∀x∈r,∃a:Cut,x=a.V)->∃s:List Cut,r=qY s:=by
  intro r
  induction r with
  |nil=>intro _;exact⟨[],rfl⟩
  |cons x r d=>
   intro h;obtain⟨a,rfl⟩:=h x (by simp);obtain⟨s,rfl⟩:=d fun y f=>h y (by simp[f])
   exact⟨a::s,rfl⟩
 obtain⟨s,e⟩:=c (We MY (qY l)) fun x g=>by have:=Y.mem_iff.1 g;obtain⟨a,_,rfl⟩:=qw.1 this;exact⟨a,rfl⟩
 rw[e]at Y hs;refine⟨s,e,?_,?_⟩
 ·have:=Y.map DI;rwa [VB,VB]at this
 ·rw[qY,List.pairwise_map]at hs;refine hs.imp fun{a b} h=>?_
  rw[WR]at h;exact(we.le a b).2 h
end Go.Q
namespace Go.Q
def Qb(out:List q8)(c:Cut):List q8:=match out.getLast? with
 |some s=>out.dropLast++[⟨s.lo,c,false⟩]
 |none=>out
def X7(a:Cut->Bool)(st:Bool×List q8)(c:Cut):Bool×List q8:=(a c,if(a c&&!st.1)=true then st.2++[wZ c]else if(!a c&&st.1)=true then Qb st.2 c else st.2)
theorem HA(a:Cut->Bool)(st:Bool×List q8)(c:Cut):X7 a (X7 a st c) c=X7 a st c:=by unfold X7;cases a c<;>simp
def KW(a:Cut->Bool)(l:List Cut)(st:Bool×List q8):Bool×List q8:=l.foldl (X7 a) st
open Classical in
noncomputable def bX:List Cut->List Cut
 |[]=>[]
 |a::l=>match bX l with
  |[]=>[a]
  |b::r=>if a=b then b::r else a::b::r
theorem lI(c:Cut->Bool):∀(l:List Cut) (st:Bool×List q8),KW c l st=KW c (bX l) st
 |[],st=>rfl
 |a::l,st=>by
  have d:=lI c l (X7 c st a);show KW c l (X7 c st a)=_;rw[d];simp only[bX];split
  ·rename_i e;rw[e];rfl
  ·rename_i b r e;rw[e];split
   ·rename_i h;subst h;show KW c r (X7 c (X7 c st a) a)=KW c r (X7 c st a);rw[HA]
   ·rfl
theorem dP:∀(l:List Cut) (c:Cut),c∈bX l↔c∈l
 |[],c=>by simp[bX]
 |a::l,c=>by
  have d:=dP l c;simp only[bX];split
  ·rename_i e;rw[e]at d;simp only[zv,gy,or_false];rw[<-d];simp
  ·rename_i b r e;rw[e]at d;split
   ·rename_i h;subst h;rw[zv (b:=a) (l:=l),<-d];simp
   ·rw[zv,zv (b:=a) (l:=l),d]
theorem bY:∀(l:List Cut) (_:∀a∈l,∀b∈l,wv a b=0->a=b),(l.Pairwise fun a b=>wv a b<=0)->(bX l).Pairwise fun a b=>wv a b<0
 |[],_,_=>.nil
 |a::l,j,hs=>by
  obtain⟨m,n⟩:=wG.1 hs;have f:=bY l (fun x o y p=>j x (by simp[o]) y (by simp[p])) n;simp only[bX];split
  ·simp
  ·rename_i b r e;rw[e]at f;split
   ·exact f
   ·rename_i g;refine wG.2 ⟨fun c i=>?_,f⟩;have k:b∈l:=(dP l b).1 (by rw[e];simp);have d:wv a b<0:=by
     rcases XP (m b k)with h|h
     ·exact h
     ·exact absurd (j a (by simp) b (by simp[k]) h) g
    rcases zv.1 i with rfl|i
    ·exact d
    ·exact we.trans d ((wG.1 f).1 c i)
theorem oN:∀(x y:List Cut),(x.Pairwise fun a b=>wv a b<0)->(y.Pairwise fun a b=>wv a b<0)->(∀c,c∈x↔c∈y)->x=y
 |[],[],_,_,_=>rfl
 |[],b::y,_,_,h=>absurd ((h b).2 (by simp)) (by simp)
 |a::x,[],_,_,h=>absurd ((h a).1 (by simp)) (by simp)
 |a::x,b::y,l,m,h=>by
  obtain⟨j,n⟩:=wG.1 l;obtain⟨k,o⟩:=wG.1 m;have d:∀c:Cut,¬wv c c<0:=fun c=>by rw[we.refl];omega
  have i:a=b:=by
   rcases zv.1 ((h a).1 (by simp))with e|p
   ·exact e
   ·rcases zv.1 ((h b).2 (by simp))with e|q
    ·exact e.symm
    ·exact absurd (we.trans (j b q) (k a p)) (d a)
  subst i;rw[oN x y n o fun c=>?_];constructor
  ·intro g;rcases zv.1 ((h c).1 (by simp[g]))with e|f
   ·subst e;exact absurd (j c g) (d c)
   ·exact f
  ·intro g;rcases zv.1 ((h c).2 (by simp[g]))with e|f
   ·subst e;exact absurd (k c g) (d c)
   ·exact f
def qT:List q8->List Cut
 |[]=>[]
 |s::l=>(if s.kc=true then[s.lo]else[s.lo,s.hi])++qT l
theorem Q0(a b:List q8):qT (a++b)=qT a++qT b:=by
 induction a with
 |nil=>rfl
 |cons s a c=>simp only[q7,qT,c,q5]
theorem ZD(a:List q8):(qT a).length<=2*a.length:=by
 induction a with
 |nil=>simp[qT]
 |cons s a b=>simp only[qT,qj,zP];split<;>simp<;>omega
theorem Yh{Q:Cut->Prop}{a:List q8}(h:∀s∈a,Q s.lo/\Q s.hi):∀c∈qT a,Q c:=by
 induction a with
 |nil=>intro c hc;cases hc
 |cons s a d=>
  intro c hc;obtain⟨b,e⟩:=h s (by simp);simp only[qT,zK]at hc;rcases hc with hc|hc
  ·split at hc
   ·rw[yp]at hc;rw[hc];exact b
   ·simp only[zv,gy,or_false]at hc;rcases hc with rfl|rfl
    ·exact b
    ·exact e
  ·exact d (fun x f=>h x (by simp[f])) c hc
noncomputable def Qc (l:List Cut):List Cut:=(We MY (qY l)).map DI
theorem DJ(l:List Cut):We MY (qY l)=qY (Qc l):=by obtain⟨s,h,_⟩:=VC l;unfold Qc;rw[h,VB]
theorem xU(l:List Cut):(Qc l).Perm l:=by obtain⟨s,h,a,_⟩:=VC l;unfold Qc;rw[h,VB];exact a
theorem nn(l:List Cut):(Qc l).Pairwise fun a b=>wv a b<=0:=by obtain⟨s,h,_,c⟩:=VC l;unfold Qc;rw[h,VB];exact c
noncomputable def kI (f:Bool->Bool->Bool) (a b:List q8):List q8:=(KW (fun c=>f (yl a c) (yl b c)) (Qc (qT a++qT b)) (false,[])).2
theorem Ao(out:List q8)(c:Cut):(Qb out c).length=out.length:=by
 unfold Qb;split
 ·rename_i s h;have:out≠[]:=by rintro rfl;cases h
  have:=jl.2 this;simp;omega
 ·rfl
theorem FA(a:Cut->Bool):∀(l:List Cut) (st:Bool×List q8),2*(KW a l st).2.length+(if st.1=true then 1 else 0)<=2*st.2.length+l.length+(if(KW a l st).1=true then 1 else 0)
 |[],st=>by show 2*st.2.length+(if st.1=true then 1 else 0)<=2*st.2.length+0+(if st.1=true then 1 else 0);omega
 |c::l,st=>by
  have b:=FA a l (X7 a st c);have e:KW a (c::l) st=KW a l (X7 a st c):=rfl;rw[e];have hs:2*(X7 a st c).2.length+(if st.1=true then 1 else 0)<=2*st.2.length+1+(if(X7 a st c).1=true then 1 else 0):=by obtain⟨o,out⟩:=st;unfold X7;cases a c<;>cases o<;>simp[Ao]<;>omega
  simp only[zP];omega
theorem Jz(f:Bool->Bool->Bool)(a b:List q8):(kI f a b).length<=a.length+b.length:=by have h:=FA (fun c=>f (yl a c) (yl b c)) (Qc (qT a++qT b)) (false,[]);have d:=(xU (qT a++qT b)).length_eq;have e:=ZD a;have g:=ZD b;rw[qj]at d;unfold kI;simp only[zq,qn,kv]at h;split at h<;>omega
theorem Ap{Q:Cut->Prop}{out:List q8}{c:Cut}(h:∀s∈out,Q s.lo/\Q s.hi)(b:Q c):∀s∈Qb out c,Q s.lo/\Q s.hi:=by
 unfold Qb;split
 ·rename_i s hs;intro x a;rcases zK.1 a with a|a
  ·exact h x (List.dropLast_subset _ a)
  ·rw[yp]at a;rw[a];exact⟨(h s (List.mem_of_getLast? hs)).1,b⟩
 ·exact h
theorem FB{Q:Cut->Prop}(b:Q Qt)(a:Cut->Bool):∀(l:List Cut) (st:Bool×List q8),(∀c∈l,Q c)->(∀s∈st.2,Q s.lo/\Q s.hi)->∀s∈(KW a l st).2,Q s.lo/\Q s.hi
 |[],st,_,h=>h
 |c::l,st,d,h=>by
  refine FB b a l (X7 a st c) (fun x f=>d x (by simp[f])) ?_;have e:=d c (by simp);unfold X7;dsimp only;split
  ·intro s hs;rcases zK.1 hs with hs|hs
   ·exact h s hs
   ·rw[yp]at hs;rw[hs];exact⟨e,b⟩
  ·split
   ·exact Ap h e
   ·exact h
theorem oO{Q:Cut->Prop}(d:Q Qt)(f:Bool->Bool->Bool){a b:List q8}(e:∀s∈a,Q s.lo/\Q s.hi)(g:∀s∈b,Q s.lo/\Q s.hi):∀s∈kI f a b,Q s.lo/\Q s.hi:=
 FB d _ _ _ (fun c i=>by
  have:=(xU _).mem_iff.1 i;rcases zK.1 this with h|h
  ·exact Yh e c h
  ·exact Yh g c h) (fun s hs=>by cases hs)
end Go.Q
namespace Go.AM
variable{dr:Prop}
def dQ(p:List (Option Nat))(b:kN):kN:=⟨b.e,b.s,b.arr,b.es.map (Qq p)⟩
theorem vW.fixed{P:Program}{w:World}{S:Nat->Prop}{G:Nat->GI}{Z:Nat}{g:GI}{b:kN}(h:vW P w S G Z g b)(e:0<g.s)(o:b.arr=true)(p:List (Option Nat)):vW P w S G Z g (dQ p b):=by
 refine vW.vG e h.bs ⟨h.size e,fun c q=>?_,by simpa[dQ]using h.fit e,?_⟩
 ·obtain⟨a,d,rfl⟩:=qw.1 q;rw[vZ];exact h.len e a d
 ·obtain⟨k,r,t,v⟩:=h.row e;refine⟨k,r,t,fun i j c A hi l=>?_⟩;simp only[dQ,qo]at hi;obtain⟨a,d,rfl⟩:∃a,b.es[i]?=some a/\Qq p a=c:=by
   cases m:b.es[i]? with
   |none=>rw[m]at hi;cases hi
   |some a=>rw[m]at hi;injection hi with hi;exact⟨a,rfl,hi⟩
  have f:j<a.length:=by have:=(zi.1 l).1;rwa [vZ]at this
  obtain⟨u,x,y,_,z⟩:=v i j a a[j] d (zl f);have n:=(x4 p a).get (zl f) l _ _ _ (y o);exact⟨u,x,fun _=>n,.c n,z⟩
theorem kO.fixed{P:Program}{Y:Hp}{Z:Nat}{S:Nat->Prop}{G:Nat->GI}{w:World}{Y2:Hp}{g:Nat}{m:Nat->Prop}{j:Nat->GI}{n:World}(k:kO dr P Y Z S G w Y2 g m j n)
  {id:Nat} {b:kN} (o:Y2 id=some b) (r:b.arr=true) (t:0<(j id).s) (p:List (Option Nat)):kO dr P Y Z S G w (qR Y2 id (some (dQ p b))) g m j n:=by
 have d:∀k c,qR Y2 id (some (dQ p b)) k=some c->∃f,Y2 k=some f:=fun k c q=>by
  by_cases e:k=id
  ·subst e;exact⟨b,o⟩
  ·rw[wi _ _ _ _ e]at q;exact⟨c,q⟩
 refine⟨⟨k.inv.st,fun i c a=>?_,fun i c a=>?_,fun i c a=>?_,fun i i' c u a l v=>?_,k.inv.gT⟩,k.up,k.loc,k.keep,k.from_,fun i c a=>?_,k.fr⟩
 ·obtain⟨f,h⟩:=d i c a;exact k.inv.top i f h
 ·by_cases e:i=id
  ·subst e;rw[wL]at a;injection a with a
   subst a;exact(k.inv.live i b o).fixed t r p
  ·rw[wi _ _ _ _ e]at a;exact k.inv.live i c a
 ·obtain⟨f,h⟩:=d i c a;exact k.inv.apart i f h
 ·obtain⟨f,h⟩:=d i c a;obtain⟨x,y⟩:=d i' u l;exact k.inv.inj i i' f x h y v
 ·obtain⟨f,h⟩:=d i c a;exact k.own i f h
def vE(a:List Sh)(F:zb->Option (Option kN)):AM.Spec:=yI [] fun args=>F (bH a args)
def Aq(p:List (Option Nat))(r:Option kN)(x:O)(Y:Hp)(_:Nat):Prop:=match r with
 |none=>x=.nil
 |some b=>∃id a,x=.own id 0 a.es.length/\Y id=some a/\a.arr=true/\b=dQ p a
section
variable{C:Ctx}{pf:FuncId->Bool}{f:FuncId}{fn:Func}{code:Code}
theorem Y6(W:xJ dr C pf)(l:J6 C pf f fn)(z:List Sh)(p:List (Option Nat))(F:zb->Option (Option kN))(hF:∀args r,F args=some r->args.length<=fn.ntmps/\∃x Y Z,jJ C fn args (fun _=>none) 0=some (x,Y,Z)/\Aq p r x Y Z) :
  kh dr C.P f (vE z F):=by
 obtain⟨_,l⟩:=l;refine⟨⟨fn,l.func,l.name,by rw[l.body];rfl⟩,?_⟩;intro args Y Z r Y' Z' h w S G vs hi hz;unfold vE yI at h;split at h
 ·rename_i aZ Y1 A;obtain⟨S1,g,t,_⟩:=jN (dr:=dr) hi A hz;have j:∀id b,Y1 id=some b->Y1 id=some b/\¬False:=fun id b h=>⟨h,fun h=>h⟩
  split at h
  ·rename_i m;obtain⟨B,x,E,H,n,d⟩:=hF _ none m;injection h with h
   injection h with I h;injection h with J K;subst I;subst J;subst K;simp only[Aq]at d;subst d;refine(ZA W l n B g.inv.st g.inv.gT (Jn (Wa t))).mono fun e w' L=>?_
   obtain⟨v,S',G',M,N,a,Q,o,q,_⟩:=L;have R:=dn (dr:=dr) (D:=fun _=>False) (Y2:=Y1) g.inv j (fun _ h=>h.elim) N a o (fun b T=>(q b T).imp (fun h=>h) .inr);have:=Q.Zd;subst this;exact⟨_,_,_,M,g.trans R,.c .nil⟩
  ·rename_i b m;obtain⟨B,x,E,H,n,d⟩:=hF _ (some b) m;injection h with h
   injection h with I h;injection h with J K;subst I;subst J;subst K;obtain⟨id,s,rfl,hid,k,rfl⟩:=d;refine(ZA W l n B g.inv.st g.inv.gT (Jn (Wa t))).mono fun e w' L=>?_
   obtain⟨v,S',G',M,N,a,Q,o,q,u⟩:=L;have R:=uC (dr:=dr) (D:=fun _=>False) (Y2:=Y1) g.inv j (fun _ h=>h.elim) N a o (fun b T=>(q b T).imp (fun h=>h) .inr) hid k (.inr (u id s hid));have y:=uD (Z:=Z) (G:=G) Q;have X:=R.fixed (id:=Z) (by simp) k y.xk p;rw[show qR (qR Y1 Z (some s)) Z (some (dQ p s))=qR Y1 Z (some (dQ p s)) by funext i;unfold qR;split<;>rfl]at X;refine⟨_,_,_,M,g.trans X,?_⟩;rw[show(dQ p s).es.length=s.es.length by simp[dQ]];exact y
  ·cases h
 ·cases h
end
end Go.AM
namespace Go.Proofs
open Go.Shelf
def Tryz.Lf:Go.Shelf.Ren:=⟨fun|6=>183|15=>55|14=>206|28=>97|29=>98|20=>232|21=>233|22=>234|23=>235|24=>236|25=>237|26=>238|27=>239|46=>269|47=>127|48=>128|49=>270|50=>271|57=>284|n=>n,fun|22=>210|24=>193|25=>213|3=>3|39=>85|0=>0|53=>128|55=>130|4=>4|46=>121|45=>120|50=>51|5=>5|9=>9|66=>153|70=>157|76=>167|77=>133|n=>n,fun|n=>n⟩
theorem Tryz.UF:Go.Proofs.SlLaysF0.n6 prog Tryz.Lf:={
 mixed:=by kernel_rfl
 f6:=⟨f183.name,by decide,func183.trans (zt some (by kernel_rfl))⟩
 f14:=⟨f206.name,by decide,func206.trans (zt some (by kernel_rfl))⟩
 f15:=func55.trans (zt some (by kernel_rfl))
 f20:=⟨f232.name,by decide,func232.trans (zt some (by kernel_rfl))⟩
 f21:=⟨f233.name,by decide,func233.trans (zt some (by kernel_rfl))⟩
 f22:=⟨f234.name,by decide,func234.trans (zt some (by kernel_rfl))⟩
 f23:=⟨f235.name,by decide,func235.trans (zt some (by kernel_rfl))⟩
 f24:=⟨f236.name,by decide,func236.trans (zt some (by kernel_rfl))⟩
 f25:=⟨f237.name,by decide,func237.trans (zt some (by kernel_rfl))⟩
 f26:=⟨f238.name,by decide,func238.trans (zt some (by kernel_rfl))⟩
 f27:=⟨f239.name,by decide,func239.trans (zt some (by kernel_rfl))⟩
 f28:=func97.trans (zt some (by kernel_rfl))
 f29:=func98.trans (zt some (by kernel_rfl))
 f46:=⟨f269.name,by decide,func269.trans (zt some (by kernel_rfl))⟩
 f47:=func127.trans (zt some (by kernel_rfl))
 f48:=func128.trans (zt some (by kernel_rfl))
 f49:=⟨f270.name,by decide,func270.trans (zt some (by kernel_rfl))⟩
 f50:=⟨f271.name,by decide,func271.trans (zt some (by kernel_rfl))⟩
 f57:=⟨f284.name,by decide,func284.trans (zt some (by kernel_rfl))⟩
 t0:=underlying0
 a0:=isAgg0
 z0:=sizeOf0
 v0:=zeroValue0
 t3:=underlying3
 a3:=isAgg3
 z3:=sizeOf3
 v3:=zeroValue3
 t4:=underlying4
 a4:=isAgg4
 z4:=sizeOf4
 v4:=zeroValue4
 t5:=underlying5
 a5:=isAgg5
 z5:=sizeOf5
 v5:=zeroValue5
 t9:=underlying9
 a9:=isAgg9
 z9:=sizeOf9
 v9:=zeroValue9
 t22:=underlying210
 a22:=isAgg210
 z22:=sizeOf210
 v22:=zeroValue210
 t25:=underlying213
 a25:=isAgg213
 z25:=sizeOf213
 v25:=zeroValue213
 t39:=underlying85
 a39:=isAgg85
 z39:=sizeOf85
 v39:=zeroValue85
 t45:=underlying120
 a45:=isAgg120
 z45:=sizeOf120
 v45:=zeroValue120
 t46:=underlying121
 a46:=isAgg121
 z46:=sizeOf121
 v46:=zeroValue121
 t50:=underlying51
 a50:=isAgg51
 z50:=sizeOf51
 v50:=zeroValue51
 t53:=underlying128
 a53:=isAgg128
 z53:=sizeOf128
 v53:=zeroValue128
 t55:=underlying130
 a55:=isAgg130
 z55:=sizeOf130
 v55:=zeroValue130
 t66:=underlying153
 a66:=isAgg153
 z66:=sizeOf153
 v66:=zeroValue153
 t70:=underlying157
 a70:=isAgg157
 z70:=sizeOf157
 v70:=zeroValue157
 t76:=underlying167
 a76:=isAgg167
 z76:=sizeOf167
 v76:=zeroValue167
 t77:=underlying133
 a77:=isAgg133
 z77:=sizeOf133
 v77:=zeroValue133}
theorem Tryz.Pj:MX prog 183 5:=⟨fun _ _ V e f h i g blk off cap d w j a k b c=>AnyQ.slices_SortFunc_eq Tryz.UF 5 isAgg193 sizeOf193 V e f h i g #[] blk off cap d w j a k b c,
 fun p cap l w=>AnyF.slices_SortFunc_none Tryz.UF p cap l w⟩
end Go.Proofs
namespace Go.Q
theorem lJ:zf prog 183 (lH 5 184 MY RH):=
 Am (by decide) ⟨_,func183,by kernel_rfl,by kernel_rfl⟩ Tryz.Pj zaG
noncomputable def FBB (f:Bool->Bool->Bool):zb->Option O:=qf (α:=Bool×Bool) (fun a=>[wo a.1,wo a.2]) (fun _=>True) (fun a=>wo (f a.1 a.2))
theorem Ar(f:Bool->Bool->Bool)(a b:Bool)(Y:Hp)(Z:Nat):zg false [] (FBB f) [wo a,wo b] Y Z=some (wo (f a b),Y,Z):=
 XX (a,b) _ _ rfl (fun x y e=>by obtain⟨c,d⟩:=x;obtain⟨g,h⟩:=y;simp only[zh,zA]at e;rw[QD e.1,QD e.2]) trivial (.inl rfl)
theorem As:zf prog 166 (zg false [] (FBB and)):=
 vX jS func166 false [] fun⟨a,b⟩ _=>⟨by simp[f166],_,zm rfl (by cases a<;>simp[zI,f166]),qc _⟩
theorem DK:zf prog 167 (zg false [] (FBB or)):=
 vX jS func167 false [] fun⟨a,b⟩ _=>⟨by simp[f167],_,zm rfl (by cases a<;>simp[zI,f167]),qc _⟩
theorem np{Y:Hp}{Z:Nat}{v:O}{l:List Cut}(h:wa Y Z 193 5 v (qY l))(hs:∀c∈l,c.v.small)(m:l.length<4611686018427387904) :
  ∃b,lH 5 184 MY RH [v,.fn (.func 184) [] []] Y Z=some (.wP [],b,Z)/\wa b Z 193 5 v (qY (Qc l))/\∀j,(∀n,v≠.own j 0 n)->b j=Y j:=by
 have a:(qY (Qc l)).length=(qY l).length:=by have:=(xU l).length_eq;simpa[qY]using this
 rcases h with⟨rfl,o⟩|⟨id,g,rfl,d⟩
 ·refine⟨Y,rfl,.inl ⟨rfl,?_⟩,fun _ _=>rfl⟩;rw[o]at a;exact zT.1 a
 ·by_cases f:(qY l).length=0
  ·refine⟨Y,by simp only[lH,ze f],?_,fun _ _=>rfl⟩;have i:qY l=[]:=zT.1 f;rw[i]at a d;have p:=zT.1 a;rw[i,p];exact .inr ⟨id,g,rfl,d⟩
  ·refine⟨qR Y id (some ⟨193,5,true,qY (Qc l)⟩),?_,.inr ⟨id,g,by rw[a],by simp⟩,fun j q=>zM _ _ _ _ fun e=>q (qY l).length (by subst e;rfl)⟩;unfold lH;simp only[zd f,d];rw[ze ⟨rfl,rfl,rfl,by simp,by simpa[qY]using m,by simpa using MZ l,fun x k=>by simp only[wS,wJ]at k;obtain⟨c,r,rfl⟩:=qw.1 k;exact⟨c,rfl,hs c r⟩⟩]
   simp[DJ]
theorem oP{c:zb}{s:q8}(h:Qq jn c=s.V):∃d k l m n o e,c=[int s.lo.v.a,int s.lo.v.b,int s.lo.v.c,d,wo s.lo.after,k,l,m,n,o,e]/\n1 1 d=.sl 1 (zx s.lo.v.pre)/\d.wW=true:=by
 have f:=vZ jn c;rw[h]at f;simp[q8.V,Cut.V]at f
 match c,f with
 |[B,C,D,i,E,p,q,r,t,u,g],_=>simp[q8.V,Cut.V]at h;obtain⟨w,x,y,j,z,F,G,H,I,J,A⟩:=h;subst w;subst x;subst y;subst z;refine⟨i,p,q,r,t,u,g,rfl,j,?_⟩;cases i<;>first|rfl|(simp[n1]at j)
theorem ff{out:List q8}{m:Nat}(b:m<out.length)(g:out.length=m+1)(c:Cut):Qb out c=out.set m ⟨out[m].lo,c,false⟩:=by
 unfold Qb;have a:out≠[]:=by rintro rfl;simp at b
 rw[List.getLast?_eq_some_getLast a];have d:out.getLast a=out[m]:=by rw[List.getLast_eq_getElem];congr 1;omega
 simp only[d];apply List.ext_getElem
 ·simp;omega
 ·intro i hi f;rw[List.getElem_set];split
  ·rename_i e;subst e;rw[List.getElem_append_right (by simp;omega)];simp
  ·rw[List.getElem_append_left (by simp at hi⊢;omega)];simp
theorem Au(a:Cut->Bool)(st:Bool×List q8)(c:Cut)(h:st.1=true->st.2≠[]):(X7 a st c).1=true->(X7 a st c).2≠[]:=by obtain⟨o,out⟩:=st;unfold X7;cases a c<;>cases o<;>simp at h⊢<;>assumption
theorem bZ(l:List q8)(c:Cut)(Y:Hp)(Z:Nat)(b:jP l)(d:c.v.small):qy [.s 11 jn,.g jK] (FRC fun l c=>wo (yl l c)) [.sl 11 (qa l),.agg c.V] Y Z=some (wo (yl l c),Y,Z):=
 vK (show zD Y [.sl 11 (qa l),.agg c.V]=some ([.sl 11 (qa l),.agg c.V],Y) by simp[Cut.V]) (by
  have e:(Sh.s 11 jn).fix (.sl 11 (qa l))=.sl 11 (qa l):=by simp only[Sh.mN,qa,List.map_map];congr 1
  have f:(Sh.g jK).fix (.agg c.V)=.agg c.V:=by simp[Cut.V]
  show FRC _ [(Sh.s 11 jn).fix (.sl 11 (qa l)),(Sh.g jK).fix (.agg c.V)]=_;rw[e,f];exact qM (V:=fun a:List q8×Cut=>[O.sl 11 (qa a.1),.agg a.2.V]) (a:=(l,c)) zaF ⟨b,d⟩) (.inl rfl)
noncomputable abbrev Ccmb:Ctx:=zR prog [(183,lH 5 184 MY RH),(185,qy [.s 11 jn,.g jK] (FRC fun l c=>wo (yl l c))),
 (166,zg false [] (FBB and)),(167,zg false [] (FBB or))]
theorem RI:AM.Good Ccmb (fun g=>[185].contains g):=qq mixed ⟨lJ,by simp,sf,fun _=>yY _ _,As,by simp,DK,by simp,trivial⟩
theorem oQ{l:List q8}{k:Nat}(h:k<l.length):qT (l.take (k+1))=qT (l.take k)++(if l[k].kc=true then[l[k].lo]else[l[k].lo,l[k].hi]):=by rw[zX h,Q0];simp[qT]
theorem Av(a:Cut->Bool){l:List Cut}{k:Nat}(h:k<l.length)(st:Bool×List q8):KW a (l.take (k+1)) st=X7 a (KW a (l.take k) st) l[k]:=by unfold KW;rw[zX h,List.foldl_append];rfl
theorem oR(a b:List Cut):qY (a++b)=qY a++qY b:=by simp[qY]
noncomputable def Wf (f:Bool->Bool->Bool) (a b:List q8):Option kN:=if kI f a b=[]then none else some ⟨195,11,true,qa (kI f a b)⟩
theorem HB(i o n:Nat)(Y:Hp):Wb (.own i o n) Y=qR Y i none:=rfl
theorem Aw{Y:Hp}{Z e s:Nat}{v:O}{xs:List zb}(h:wa Y Z e s v xs){j:Nat}(a:Z<=j):∀n,v≠.own j 0 n:=by
 rcases h with⟨rfl,_⟩|⟨id,b,rfl,_⟩
 ·intro n e;cases e
 ·intro n e;injection e with e;omega
theorem b4(f:Bool->Bool->Bool)(hv:O)(Ph:∀x y Y Z,jH Ccmb Y Z (some hv) [wo x,wo y]=some (wo (f x y),Y,Z))(a b:List q8)(ha:jP a)(hb:jP b) :
  ∃x Y Z,jJ Ccmb f165 [.sl 11 (qa a),.sl 11 (qa b),hv] (fun _=>none) 0=some (x,Y,Z)/\Aq jn (Wf f a b) x Y Z:=by
 refine qF rfl ?_;have hsa:=ha;have hsb:=hb;obtain⟨ha1,ha2⟩:=ha;obtain⟨hb1,hb2⟩:=hb;unfold zw at ha1 hb1;obtain⟨ls,hls⟩:∃ls:List (List q8),[a,b]=ls:=⟨_,rfl⟩;obtain⟨rows,S⟩:∃rows:List zb,[[O.sl 11 (qa a)],[.sl 11 (qa b)]]=rows:=⟨_,rfl⟩;have K:∀i,i<2->∃l:List q8,(qT (ls.take (i+1)).flatten=qT (ls.take i).flatten++qT l)/\rows[i]?=some [O.sl 11 (qa l)]/\l.length<=268435456/\(∀s∈l,s.small)/\(qT (ls.take i).flatten).length<=536870912:=by
  intro i hi;rw[<-hls,<-S];rcases(by omega:i=0\/i=1)with rfl|rfl
  ·exact⟨a,by simp[qT],rfl,ha1,ha2,by simp[qT]⟩
  ·exact⟨b,by simp[Q0],rfl,hb1,hb2,by have:=ZD a;simp;omega⟩
 simp[zr,zJ,zp,S];refine zF (fun i U Y Z=>U 0=.sl 11 (qa a)/\U 1=.sl 11 (qa b)/\U 2=hv/\U 19=.own 0 0 2/\U 20=int 2/\U 21=int i/\1<=Z/\Y 0=some ⟨169,1,true,rows⟩/\(∀n,U 7≠.own 0 0 n)/\wa Y Z 193 5 (U 7) (qY (qT (ls.take i).flatten))) 2
  ⟨by simp,by simp,by simp,by simp,by simp,by simp,by simp,by simp,by simp,.inl ⟨by simp,by simp[qT,qY]⟩⟩ ?_
 rintro i U Y Z hi ⟨E,F,G,u,w,z,T,b0,L,A⟩;by_cases hlt:i<2
 ·obtain⟨l,hl,hr,hll,hls2,hcl⟩:=K i hlt;obtain⟨hr1,hr2⟩:=zi.1 hr;have hw:=ql i;have p:(qa l).length=l.length:=by simp[qa]
  have hltI:(i:Int)<2:=by omega
  simp[E,F,G,u,w,z,hltI,hlt,b0,hr1,hr2,p];refine zF (fun k U Y Z=>U 0=.sl 11 (qa a)/\U 1=.sl 11 (qa b)/\U 2=hv/\U 19=.own 0 0 2/\U 20=int 2/\U 21=int i/\1<=Z/\Y 0=some ⟨169,1,true,rows⟩/\(∀n,U 7≠.own 0 0 n)/\wa Y Z 193 5 (U 7) (qY (qT (ls.take i).flatten++qT (l.take k))) /\
   U 25=.sl 11 (qa l)/\U 26=int l.length/\U 27=int k) l.length
   ⟨by simp[E],by simp[F],by simp[G],by simp[u],by simp[w],by simp[z],T,b0,by simpa using L,by simpa[qT]using A,by simp,by simp,by simp⟩ ?_
  clear E F G u w z T b0 L A hi U Y Z;rintro k U Y Z hk ⟨E,F,G,u,w,z,T,b0,L,A,UG,UH,Ls⟩;by_cases j:k<l.length
  ·have H:=ql k;have r:∀h:k<(qa l).length,(qa l)[k]=l[k].V:=fun h=>by simp[qa]
   have hcn:=ZD (l.take k);rw[wB]at hcn;have E7:=oQ j;obtain⟨xs,g⟩:=yx (qY (qT (ls.take i).flatten++qT (l.take k)));have B:xs.length<=1073741824+2:=by rw[<-g];simp[qY];omega
   rw[g]at A;have hE:qY (qT (ls.take i).flatten++qT (l.take (k+1)))=xs++(if l[k].kc=true then[l[k].lo]else[l[k].lo,l[k].hi]).map Cut.V:=by rw[E7,<-q5,oR,g];rfl
   have Tv:=fun Y'=>yO A Y' Z (Aw A (zk _))
   have hk0:=fun Y'=>yO A Y' 0 L
   obtain⟨s,hs⟩:=yx (l[k]);rw[hs]at E7 r hE;have q:=wa.y8 (P:=prog) (t:=210) (c:=s.lo.V) (A.more (some ⟨195,11,false,[s.V]⟩)) eT bB oo oq rfl (by omega) (by unfold maxLen;omega) (by omega);have W:=wa.after (Y:=qR Y Z (some ⟨195,11,false,[s.V]⟩)) (Z:=Z+1) (e:=193) (s:=5) (v:=U 7) (xs:=xs) (c:=s.lo.V) (tmp:=some ⟨193,5,true,[s.lo.V]⟩);have C:=wa.y8 (P:=prog) (t:=210) (c:=s.hi.V) W eT bB oo oq rfl (by omega) (by simp;unfold maxLen;omega) (by simp;omega);rw[show(xs++[s.lo.V]).length=xs.length+1 by simp,q5,show[s.lo.V]++[s.hi.V]=[s.lo.V,s.hi.V]from rfl]at C;have X:=wa.after (Y:=qR (Wb (U 7) (qR (qR Y Z (some ⟨195,11,false,[s.V]⟩)) (Z+1) (some ⟨193,5,true,[s.lo.V]⟩))) (Z+1+1) (some ⟨193,5,true,xs++[s.lo.V]⟩)) (Z:=Z+1+2) (e:=193) (s:=5) (v:=.own (Z+1+1) 0 (xs.length+1)) (xs:=xs++[s.lo.V]) (c:=s.hi.V) (tmp:=some ⟨193,5,true,[s.hi.V]⟩);rw[show(xs++[s.lo.V]).length=xs.length+1 by simp,q5,show[s.lo.V]++[s.hi.V]=[s.lo.V,s.hi.V]from rfl]at X;simp only[q8.V,Cut.V,q7,ku]at q C W X r;have m1:¬Z=Z+1+1:=by omega
   have m2:¬Z=Z+1+2:=by omega
   have m3:¬Z=Z+1+2+1:=by omega
   have n1:¬0=Z:=by omega
   have n2:¬0=Z+1:=by omega
   have n3:¬0=Z+2:=by omega
   have n4:¬0=Z+3:=by omega
   have n5:¬0=Z+4:=by omega
   cases M:s.kc
   ·rw[M]at E7;rw[M]at q C W X r;simp[E,F,G,u,w,z,UG,UH,Ls,j,p,r,q,C,Tv,H,m1,m2,m3,zr,zJ,zp];refine⟨by omega,?_,?_⟩
    ·simp[HB,hk0,b0,n1]
    ·rw[hE,M];simp only[zq,qn,wc,KH,Cut.V];exact X
   ·rw[M]at E7;rw[M]at q C W X r;simp[E,F,G,u,w,z,UG,UH,Ls,j,p,r,q,Tv,H,m1,m2,m3,zr,zJ,zp];refine⟨by omega,?_,?_⟩
    ·simp[hk0,b0,n1]
    ·rw[hE,M];simp only[qB,wc,KH,Cut.V];exact W
  ·obtain rfl:k=l.length:=by omega
   rw[wJ,<-hl]at A;simp[E,F,G,u,w,z,UG,UH,Ls,hw];exact⟨by omega,T,b0,L,A⟩
 ·obtain rfl:i=2:=by omega
  have hls3:(ls.take 2).flatten=a++b:=by rw[<-hls];simp
  rw[hls3]at A;have E4:∀c∈qT (a++b),c.v.small:=Yh (Q:=fun c=>c.v.small) fun s hs=>by
   rcases zK.1 hs with h|h
   ·exact ha2 s h
   ·exact hb2 s h
  have hcl:=ZD (a++b);rw[qj]at hcl;obtain⟨Y',I,PK,hfr'⟩:=np A E4 (by omega);obtain⟨v,hv7⟩:=yx (U 7);obtain⟨cs,hcs⟩:=yx (Qc (qT (a++b)));have hcsl:cs.length<=1073741824:=by rw[<-hcs,(xU _).length_eq];omega
  have hcsm:∀c∈cs,c.v.small:=fun c hc=>E4 c ((xU _).mem_iff.1 (by rw[hcs];exact hc))
  have hfin:kI f a b=(KW (fun c=>f (yl a c) (yl b c)) cs (false,[])).2:=by rw[<-hcs,Q0];rfl
  obtain⟨is,his⟩:∃is:Cut->Bool,(fun c=>f (yl a c) (yl b c))=is:=⟨_,rfl⟩;have hisc:∀c,f (yl a c) (yl b c)=is c:=fun c=>by rw[<-his]
  rw[his]at hfin;rw[hv7]at I PK;rw[hcs]at PK;clear A hcs E4 K hls3;have hlen:=PK.len eT;have p:(qY cs).length=cs.length:=by simp[qY]
  rw[p]at hlen;simp[E,F,G,u,w,z,hv7,I,hlen];refine zF (fun k U Y Z=>U 0=.sl 11 (qa a)/\U 1=.sl 11 (qa b)/\U 2=hv/\U 48=v/\U 49=int cs.length/\U 50=int k/\wa Y Z 193 5 v (qY cs)/\∃xs,wa Y Z 195 11 (U 12) xs/\xs.map (Qq jn)=qa (KW is (cs.take k) (false,[])).2 /\
    U 13=wo (KW is (cs.take k) (false,[])).1/\(∀id n m,v=.own id 0 n->U 12≠.own id 0 m)/\((KW is (cs.take k) (false,[])).1=true->(KW is (cs.take k) (false,[])).2≠[])/\xs.length<=k/\(xs=[]->U 12=.nil)) cs.length
   ⟨by simp[E],by simp[F],by simp[G],by simp,by simp,by simp,PK,[],.inl ⟨by simp,rfl⟩,by simp[KW,qa],by simp[KW],by simp,by simp[KW],by simp,by simp⟩ ?_
  clear E F G u w z T b0 L PK hi U Y Z hlt I hlen hfr' hv7 Y';rintro k U Y Z hk ⟨E,F,G,h48,h49,h50,A,xs,hX,g,N,nS,Lt,hxk,hxn⟩;by_cases j:k<cs.length
  ·have H:=ql k;obtain⟨id,hid,rfl,hh⟩:=A.at_ (by rw[p];omega);have o:=Av is j (false,[]);obtain⟨st,Pk⟩:=yx (KW is (cs.take k) (false,[]));obtain⟨c,hc⟩:=yx (cs[k]);rw[hc,Pk]at o;rw[Pk]at g N Lt;have hopn:=Au is st c Lt;have D:c.v.small:=hcsm c (by rw[<-hc];exact zj j);have r:∀h:k<(qY cs).length,(qY cs)[k]=c.V:=fun h=>by simp[qY,hc]
   have hca:=fun Y Z=>bZ a c Y Z hsa D
   have Gr:=fun Y Z=>bZ b c Y Z hsb D
   have d:=fun Y Z=>Ph (yl a c) (yl b c) Y Z
   rw[hisc c]at d;simp only[Cut.V]at hca Gr r;have m0:¬id=Z:=by omega
   have m1:¬id=Z+1:=by omega
   have m2:¬id=Z+1+1:=by omega
   rw[p]at A;have hki:=fun Y'=>yO hX Y' id (fun n=>nS id _ n rfl)
   have Pl:X7 is st c=(is c,if(is c&&!st.1)=true then st.2++[wZ c]else if(!is c&&st.1)=true then Qb st.2 c else st.2):=rfl;rw[Pl]at o;rw[Pl]at hopn;simp only at hopn;obtain⟨op,out⟩:=st;simp only at g N Lt hopn;cases hb:is c<;>cases op
   ·rw[hb]at d o;simp at o;simp[E,F,G,h48,h49,h50,p,j,hh,r,hca,Gr,d,N,H,m0,o];exact⟨by omega,A.more _,xs,hX.more _,g,fun i n m e _=>nS i _ m (by rw[e]),by omega,hxn⟩
   ·rw[hb]at d o;simp at o;have hne:=Lt rfl;obtain⟨m,hm⟩:∃m,out.length=m+1:=⟨out.length-1,by have:=jl.2 hne;omega⟩;have B:xs.length=m+1:=by have:=zt List.length g;simp[qa]at this;omega
    obtain⟨R,hid2,J,hh2⟩:=hX.at_ (by omega);have Cz:¬R=id:=fun e=>nS id _ _ rfl (by rw[J,e])
    have Pm:¬id=R:=fun e=>Cz e.symm
    have p0:¬R=Z:=by omega
    rw[B]at J;have Tw:m<xs.length:=by omega
    have hlo:m<out.length:=by omega
    have hrm:Qq jn xs[m]=out[m].V:=by
     have e1:(xs.map (Qq jn))[m]?=(qa out)[m]?:=by rw[g]
     simp only[qo,zl Tw,qa,zl hlo,zy,zW]at e1;exact e1
    obtain⟨x3,x5,x6,x7,x8,x9,x10,K,Tx,CA⟩:=oP hrm;have wm:=wu (m:Int);have wm1:i6.wrap ((m:Int)+1-1)=(m:Int):=by rw[wR (by omega) (by omega)];omega
    simp[E,F,G,h48,h49,h50,p,j,hh,r,hca,Gr,d,N,H,m0,o,J,hh2,p0,wm,wm1,Tw,K,CA,yS];refine⟨by omega,.inr ⟨id,by omega,by rw[p],by simp[Pm,m0,hh]⟩,xs.set m [int out[m].lo.v.a,int out[m].lo.v.b,int out[m].lo.v.c,x3,wo out[m].lo.after,int c.v.a,int c.v.b,int c.v.c,.sl 1 (zx c.v.pre),wo c.after,wo false],.inr ⟨R,by omega,by simp[B],by simp⟩,?_,fun i n k' e _ e2=>absurd (e2.trans e.symm) Cz,by simp;omega,fun e=>by have:=zt List.length e;rw[Xz,B]at this;cases this⟩;rw[List.map_set,g,ff hlo hm c,qa,qa,List.map_set];simp[Tx,q8.V,Cut.V]
   ·rw[hb]at d o;simp at o;have q:=wa.y8 (P:=prog) (t:=169) (c:=[int c.v.a,int c.v.b,int c.v.c,.sl 1 (zx c.v.pre),wo c.after,int 0,int 0,int 0,.nil,wo false,wo true]) (hX.more (some ⟨193,5,false,[c.V]⟩)) Fl ot uH uI rfl (by omega) (by unfold maxLen;omega) (by omega);simp only[Cut.V]at q;simp[E,F,G,h48,h49,h50,p,j,hh,r,hca,Gr,d,N,H,m0,o,q,qb,qE,zr,zJ,zp];refine⟨by omega,.inr ⟨id,by omega,by rw[p],by simp[hki,hh,m0,m1,m2]⟩,xs++[[int c.v.a,int c.v.b,int c.v.c,.sl 1 (zx c.v.pre),wo c.after,int 0,int 0,int 0,.nil,wo false,wo true]],by simpa using wa.after,?_,fun i n m e _ e2=>by omega,by simp;omega⟩;rw[nR,g];simp[qa,wZ,q8.V,Cut.V,Qt,zx]
   ·rw[hb]at d o;simp at o;simp[E,F,G,h48,h49,h50,p,j,hh,r,hca,Gr,d,N,H,m0,o];exact⟨by omega,A.more _,xs,hX.more _,g,fun i n m e _=>nS i _ m (by rw[e]),Lt rfl,by omega,hxn⟩
  ·obtain rfl:k=cs.length:=by omega
   rw[wJ]at g;rw[<-hfin]at g;have B:xs.length=(kI f a b).length:=by have:=zt List.length g;simpa[qa]using this
   simp[E,F,G,h48,h49,h50,f165];unfold Wf;rcases hX with⟨J,rfl⟩|⟨R,hid2,J,hh2⟩
   ·rw[ze (zT.1 B.symm)];exact J
   ·by_cases hz:kI f a b=[]
    ·rw[ze hz];rw[hz]at B;exact hxn (zT.1 B)
    ·rw[zd hz];refine⟨R,_,J,hh2,rfl,?_⟩;simp only[dQ,g]
theorem JA(l:List q8):(Sh.s 11 jn).fix (.sl 11 (qa l))=.sl 11 (qa l):=by simp only[Sh.mN,qa,List.map_map];congr 1
noncomputable def Ax:zb->Option (Option kN):=fun args=>
 match qf (α:=List q8×List q8) (fun a=>[.sl 11 (qa a.1),.sl 11 (qa a.2),.fn (.func 166) [] []]) (fun a=>jP a.1/\jP a.2) (fun a=>Wf and a.1 a.2) args with
 |some r=>some r
 |none=>qf (α:=List q8×List q8) (fun a=>[.sl 11 (qa a.1),.sl 11 (qa a.2),.fn (.func 167) [] []]) (fun a=>jP a.1/\jP a.2) (fun a=>Wf or a.1 a.2) args
theorem FD(g:O):∀a b:List q8×List q8,[O.sl 11 (qa a.1),.sl 11 (qa a.2),g]=[.sl 11 (qa b.1),.sl 11 (qa b.2),g]->a=b:=by rintro⟨f,h⟩ ⟨i,j⟩ e;simp only[zh,zA]at e;obtain⟨c,d⟩:=e;injection c with _ c;injection d with _ d;rw[ZC c,ZC d]
theorem nq:zf prog 165 (vE [.s 11 jn,.s 11 jn] Ax):=
 Y6 (fn:=f165) RI (qN func165) _ jn _ fun args r h=>by
  unfold Ax at h;split at h
  ·rename_i f e;injection h with h;subst h
   obtain⟨⟨a,b⟩,rfl,⟨c,d⟩,rfl⟩:=zN e;exact⟨by simp[f165],b4 and _ (fun x y Y Z=>by simp[Ar]) a b c d⟩
  ·obtain⟨⟨a,b⟩,rfl,⟨c,d⟩,rfl⟩:=zN h;exact⟨by simp[f165],b4 or _ (fun x y Y Z=>by simp[Ar]) a b c d⟩
theorem Ay(args:zb)(r:Option kN)(h:Z6 9 1 args=some r):args.length<=f30.ntmps/\∃x Y Z,jJ C0 f30 args (fun _=>none) 0=some (x,Y,Z)/\Vi r x Y Z:=by
 unfold Z6 at h;split at h
 ·injection h with h;subst h;exact⟨by simp[f30],qF rfl (by simp[ZV,JS,f30,Vi])⟩
 ·injection h with h;subst h;exact⟨by simp[f30],qF rfl (by simp[ZV,JS,f30,Vi,zr,yW,AM.view,maxLen,zJ,zp])⟩
 ·rename_i es;split at h
  ·rename_i d;obtain⟨rfl,a,b⟩:=d;injection h with h;subst h
   cases es with
   |nil=>exact absurd rfl a
   |cons c es=>
    unfold zw at b;simp at b;have e:es.length+1<=maxLen:=by unfold maxLen;omega
    have f:(es.length+1)*16<=140737488355328:=by omega
    refine⟨by simp[f30],qF rfl ?_⟩;simp[ZV,JS,f30,Vi,zr,yW,AM.view,zJ,zp,e,f]
  ·cases h
 ·cases h
theorem b7:zf prog 30 (yI [] (Z6 9 1)):=
 Z1 (fn:=f30) (code:=_) jS ⟨func30,by kernel_rfl,rfl,by kernel_rfl⟩ [] _ Ay
def idV(v:yf):O:=.agg v.V
def idS(s:q8):O:=.agg s.V
noncomputable def FVe (f:yf->O):zb->Option O:=qf (α:=yf) (fun v=>[.agg v.V]) (fun v=>v.pre.length<=zw) f
theorem Az(f:yf->O)(v:yf)(Y:Hp)(Z:Nat)(h:v.pre.length<=zw):qy [.g va] (FVe f) [.agg v.V] Y Z=some (f v,Y,Z):=
 vK (show zD Y [.agg v.V]=some ([.agg v.V],Y) by simp[yf.V]) (by
  have c:(Sh.g va).fix (.agg v.V)=.agg v.V:=by simp[yf.V]
  show FVe f [(Sh.g va).fix (.agg v.V)]=_;rw[c];exact qM (V:=fun v:yf=>[O.agg v.V]) (a:=v) (fun a b e=>by simp only[zh,zA]at e;injection e with e;exact Jq e) h) (.inr (by simp[yf.V]))
noncomputable abbrev Ccpv:Ctx:=zR prog [(30,yI [] (Z6 9 1))]
theorem RJ:Gd Ccpv:=zS mixed ⟨b7,trivial⟩
theorem dR(v:yf)(y:O)(f:eI 1 (zx v.pre) y)(h:v.pre.length<=zw):∃i,zo Ccpv f186 [.agg [int v.a,int v.b,int v.c,y]]=some i/\qX i (.agg v.V):=by
 obtain⟨a,b,c,p⟩:=v;refine WQ (sh:=.g va) rfl ?_;simp only at h f;generalize e:zx p=T at f;have d:T.length<=zw:=by rw[<-e];simpa[zx]using h
 cases f with
 |nil=>simp[yI,yj,Z6,bI,yf.V,e,f186]
 |em=>simp[yI,yj,Z6,bI,yf.V,e,f186]
 |sl=>rename_i j es;simp only[zP]at d;simp[yI,yj,Z6,bI,yf.V,e,d,f186]
theorem b8:zf prog 186 (qy [.g va] (FVe idV)):=
 Qu (fn:=f186) RJ (qN func186) false [] _ fun args r h w S vs c=>by obtain⟨v,e,d,rfl⟩:=zN h;have a:=Jn (hs:=[.g va]) c;rw[e]at a;obtain⟨u,f,i⟩:=WN a;subst f;obtain⟨y,k,b⟩:=eW i (j:=3) (s:=1) (es:=zx v.pre) (by simp[yf.V]);obtain⟨l,m,n⟩:=dR v y k d;exact⟨_,l,.cons b .nil,by simp[f186],by simpa[yf.V]using m,n⟩
noncomputable def FSt (f:q8->O):zb->Option O:=qf (α:=q8) (fun s=>[.agg s.V]) q8.small f
theorem M1(f:q8->O)(s:q8)(u:O)(Y:Hp)(Z:Nat)(h:s.small)(c:(Sh.g jn).fix u=.agg s.V)(d:qD Y u=some (u,Y))(i:u.noOwn=true):qy [.g jn] (FSt f) [u] Y Z=some (f s,Y,Z):=
 vK (show zD Y [u]=some ([u],Y) by simp only[zD,d]) (by show FSt f [(Sh.g jn).fix u]=_;rw[c];exact qM (V:=fun v:q8=>[O.agg v.V]) (a:=s) (fun a b e=>by simp only[zh,zA]at e;injection e with e;exact lE e) h) (.inr (by rw[wO,i];rfl))
noncomputable abbrev Ccps:Ctx:=zR prog [(186,qy [.g va] (FVe idV))]
theorem RL:AM.Good Ccps (fun g=>[186].contains g):=qq mixed ⟨b8,fun _=>yY _ _,trivial⟩
theorem dS(s:q8)(hs:s.small):zo Ccps f168 [.agg s.V]=some (.agg s.V):=by
 refine zm rfl ?_;have d:∀Y Z,qy [.g va] (FVe idV) [.agg [int s.lo.v.a,int s.lo.v.b,int s.lo.v.c,.sl 1 (zx s.lo.v.pre)]] Y Z=some (.agg [int s.lo.v.a,int s.lo.v.b,int s.lo.v.c,.sl 1 (zx s.lo.v.pre)],Y,Z):=fun Y Z=>Az idV s.lo.v Y Z hs.1.1
 have e:∀Y Z,qy [.g va] (FVe idV) [.agg [int s.hi.v.a,int s.hi.v.b,int s.hi.v.c,.sl 1 (zx s.hi.v.pre)]] Y Z=some (.agg [int s.hi.v.a,int s.hi.v.b,int s.hi.v.c,.sl 1 (zx s.hi.v.pre)],Y,Z):=fun Y Z=>Az idV s.hi.v Y Z hs.2.1
 simp[q8.V,Cut.V,d,e,zI,f168,yS]
theorem b9:zf prog 168 (qy [.g jn] (FSt idS)):=
 wM (fn:=f168) RL (qN func168) _ _ fun args r h=>by obtain⟨s,rfl,a,rfl⟩:=zN h;exact⟨by simp[f168],_,dS s a,qX.refl _⟩
theorem Kn{l:za}{n:Int}(h:xK l=some n):0<=n/\n<=999999:=by
 unfold xK at h;split at h
 ·rename_i a;injection h with h
  obtain⟨b,c⟩:=ll a.1;obtain⟨m,d,e⟩:=Ke l 0 c;have f:Lib.decNat l=some m:=by unfold Lib.decNat;rw[zd (by simpa using b)];exact d
  have g:m<10 ^ 6:=yZ (by simpa using e) (Nat.pow_le_pow_right (by omega) a.2);have i:n=(m:Int):=by rw[<-h];unfold rU;rw[f];rfl
  omega
 ·cases h
theorem HC{v:yf}(h:Qr v=0):(0<=v.a/\v.a<=999999)/\(0<=v.b/\v.b<=999999)/\(0<=v.c/\v.c<=999999)/\v.pre.length<=10/\∀p∈v.pre,yg p=false:=by
 unfold Qr at h;split at h
 ·rename_i d;simp only[jE,zC,qz]at d;split at h
  ·cases h
  ·rename_i g;split at h
   ·cases h
   ·rename_i e;refine⟨d.1,d.2.1,d.2.2,by omega,fun p Y=>?_⟩;cases f:yg p with
    |false=>rfl
    |true=>exact absurd (List.any_eq_true.2 ⟨p,Y,f⟩) e
 ·cases h
theorem RM{t:za}{v:yf}(h:oG t=some v):Qr v=0:=by
 unfold oG at h;split at h
 ·split at h
  ·split at h
   ·rename_i a;injection h with h
    rw[<-h];exact a
   ·cases h
  ·cases h
 ·cases h
theorem DL{p:za}(h:yg p=false):p.length<=20:=by simp only[yg,wA,yM]at h;omega
theorem gI:∀(l:List za) (p q:Part) (i:Nat),yc p i l=some q->(0<=p.n0/\p.n0<=999999)/\(0<=p.n1/\p.n1<=999999)/\(0<=p.n2/\p.n2<=999999)/\0<=p.has/\p.has<=i/\(1<=i->1<=p.has)/\p.pre=[] ->
  (0<=q.n0/\q.n0<=999999)/\(0<=q.n1/\q.n1<=999999)/\(0<=q.n2/\q.n2<=999999)/\0<=q.has/\q.has<=i+l.length/\(1<=i+l.length->1<=q.has)/\q.pre=[]
 |[],p,q,i,h,Y=>by
  simp only[yc]at h;injection h with h
  subst h;simpa using Y
 |t::l,p,q,i,h,Y=>by
  simp only[yc]at h;split at h
  ·rename_i r hs;obtain⟨a,b,c,d,e,f,g⟩:=Y;have m:(0<=r.n0/\r.n0<=999999)/\(0<=r.n1/\r.n1<=999999)/\(0<=r.n2/\r.n2<=999999)/\0<=r.has/\r.has<=(i+1:Nat)/\(1<=i+1->1<=r.has)/\r.pre=[]:=by
    unfold wE at hs;split at hs
    ·rename_i j;injection hs with hs
     obtain⟨n,k⟩:=Option.isSome_iff_exists.1 j.1;have o:=Kn k;rw[k]at hs;simp only[Wo]at hs;subst hs;have s:=j.2;unfold Part.put;split<;>simp only<;>refine⟨?_,?_,?_,?_,?_,?_,g⟩<;>first|assumption|omega
    ·split at hs
     ·rename_i u;injection hs with hs
      subst hs;exact⟨a,b,c,d,by omega,fun _=>f (by omega),g⟩
     ·cases hs
   have:=gI l r q (i+1) h m;rw[zP];refine⟨this.1,this.2.1,this.2.2.1,this.2.2.2.1,?_,?_,this.2.2.2.2.2.2⟩
   ·have:=this.2.2.2.2.1;omega
   ·intro _;exact this.2.2.2.2.2.1 (by omega)
  ·cases h
def Qd(l:List za):Prop:=l.length<=10/\∀p∈l,yg p=false
theorem Y7{l:List za}(h:Qd l):vt l:=⟨by have:=h.1;unfold zw;omega,fun p Y=>by have:=DL (h.2 p Y);unfold zw;omega⟩
theorem oS(s sep:za):qg s sep≠[]:=by
 unfold qg Lib.split;intro h;cases a:Lib.count s sep with
 |zero=>rw[a]at h;cases h
 |succ n=>rw[a]at h;simp only[Lib.splitK]at h;split at h<;>cases h
theorem JB{t:za}(h:(zO t).2=true):(zO t).1.ok/\Qd (zO t).1.pre:=by
 unfold zO at h⊢;split at h
 ·rename_i a;rw[ze a];split at h
  ·rename_i v i;obtain⟨b,c,d,e,f⟩:=HC (RM i);exact⟨⟨b,c,d,⟨by simp,by simp⟩,Y7 ⟨e,f⟩⟩,e,f⟩
  ·cases h
 ·rename_i a;rw[zd a];split at h
  ·cases h
  ·rename_i j;rw[zd j];split at h
   ·rename_i p Y;have:=gI _ wg p 0 Y (by simp[wg]);obtain⟨b,c,d,e,f,k,l⟩:=this;have m:=jl.2 (oS t [46]);have g:Qd p.pre:=by rw[l];exact⟨by simp,by simp⟩
    exact⟨⟨b,c,d,⟨k (by omega),by show p.has<=3;omega⟩,Y7 g⟩,g⟩
   ·cases h
def xM.xl(c:xM):Prop:=c.sign.length<=3/\(c.sign=ji\/((c.p.ok/\Qd c.p.pre)/\(c.sign=[45]->c.tu.ok/\Qd c.tu.pre)))
theorem xM.xl.ok{c:xM}(h:c.xl):c.ok:=⟨by have:=h.1;unfold zw;omega,h.2.imp id fun⟨a,b⟩=>⟨a.1,fun e=>(b e).1⟩⟩
theorem JC:∀(a:List za) (s:za),(wy a s).1=[]\/(wy a s).1∈a
 |[],s=>.inl rfl
 |g::l,s=>by
  simp only[wy];split
  ·exact .inr (by simp)
  ·exact(JC l s).imp id fun h=>by simp[h]
theorem AA{s:za}(h:s=[]\/s∈q9):s.length<=3/\s≠[45]:=by
 rcases h with rfl|h
 ·simp
 ·simp only[q9,zv,gy,or_false]at h;rcases h with rfl|rfl|rfl|rfl|rfl|rfl|rfl<;>simp
theorem HD{w:za}{l l':List za}{c:xM}(h:kp w l=some (c,l')):c.xl/\l'.length<=l.length:=by
 refine⟨?_,MO h⟩;have a:=AA (JC q9 w);unfold kp at h;split at h
 ·injection h with h;injection h with h _;subst h;exact⟨by simp[dL,ji],.inl rfl⟩
 ·split at h
  ·split at h
   ·split at h
    ·rename_i b;injection h with h;injection h with h _;subst h
     exact⟨a.1,.inr ⟨JB b,fun e=>absurd e a.2⟩⟩
    ·cases h
   ·cases h
  ·split at h
   ·rename_i b;injection h with h;injection h with h _;subst h
    exact⟨a.1,.inr ⟨JB b,fun e=>absurd e a.2⟩⟩
   ·cases h
theorem oT:∀(n:Nat) (a:List za) (l:List xM),yo n a=some l->(∀c∈l,c.xl)/\l.length<=a.length
 | 0,a,l,h=>by
  simp only[yo]at h;injection h with h;subst h
  exact⟨by simp,by simp⟩
 |n+1,[],l,h=>by
  simp only[yo]at h;injection h with h;subst h
  exact⟨by simp,by simp⟩
 |n+1,w::a,l,h=>by
  simp only[yo]at h;split at h
  ·rename_i c l' hs;obtain⟨e,g⟩:=HD hs;cases b:yo n l' with
   |none=>rw[b]at h;cases h
   |some r=>
    rw[b]at h;simp only[zy,zW]at h;subst h;obtain⟨f,i⟩:=oT n l' r b;refine⟨fun x d=>?_,by simp;omega⟩;rcases zv.1 d with rfl|d
    ·exact e
    ·exact f x d
  ·cases h
theorem HE{t:za}(h:(Qs t).2=true):(∀c∈(Qs t).1,c.xl)/\(Qs t).1.length<=t.length+1:=by
 have n:(wq (qg t [32])).length<=t.length+1:=zG (zbf _ _) (xT (by simp));have f:∀d:List za,d=wq (qg t [32])->((match yo d.length d with
   |some l=>(l,!l.isEmpty)
   |none=>([],false)):List xM×Bool).2=true->(∀c∈((match yo d.length d with
   |some l=>(l,!l.isEmpty)
   |none=>([],false)):List xM×Bool).1,c.xl)/\((match yo d.length d with
   |some l=>(l,!l.isEmpty)
   |none=>([],false)):List xM×Bool).1.length<=t.length+1:=by
  intro d e i;cases j:yo d.length d with
  |none=>rw[j]at i;cases i
  |some l=>obtain⟨o,k⟩:=oT _ _ _ j;exact⟨o,by rw[e]at k;exact zG k n⟩
 unfold Qs at h⊢;split at h
 ·rename_i a b c e;split at h
  ·rename_i g;simp only[zC]at h;rw[ze g];refine⟨fun x m=>?_,by simp⟩;simp only[yp]at m;subst m;exact⟨by simp,.inr ⟨JB h.1,fun _=>JB h.2⟩⟩
  ·rename_i g;rw[zd g];have:=f [a,b,c] (by rw[e]) h;exact this
 ·exact f _ rfl h
def Cut.xl(c:Cut):Prop:=Qd c.v.pre
theorem Cut.xl.small{c:Cut}(h:c.xl):c.v.small:=Y7 h
theorem oU:Qt.xl:=⟨by simp[Qt],by simp[Qt]⟩
theorem v7:qU.xl:=⟨by simp[qU],by simp[qU,yg,dx,Jp,kZ,yu,Kd,pr]⟩
theorem VD(p:Part)(i:Nat):(jf p i).xl:=by
 have h:(jf p i).v.pre=[[48]]:=by unfold jf;split<;>rfl
 have:=v7;unfold Cut.xl at this⊢;rw[h];exact this
theorem lK{p:Part}(h:Qd p.pre):(Zl p).xl:=h
theorem Xg{p:Part}(h:Qd p.pre):(vw p).xl:=by
 unfold vw;split
 ·exact VD _ _
 ·exact h
theorem Wg{a b:Cut}(c:a.xl)(d:b.xl):(dG a b).length<=1/\∀s∈dG a b,s.lo.xl/\s.hi.xl:=by
 unfold dG;split
 ·exact⟨by simp,by simp⟩
 ·refine⟨by simp,fun s hs=>?_⟩;simp only[yp]at hs;subst hs;exact⟨c,d⟩
theorem QK{a:Cut}(b:a.xl):([wZ a]:List q8).length<=1/\∀s∈[wZ a],s.lo.xl/\s.hi.xl:=by refine⟨by simp,fun s hs=>?_⟩;simp only[yp]at hs;subst hs;exact⟨b,oU⟩
theorem Xh{c:xM}(b:c.xl):(vB c).1.length<=1/\∀s∈(vB c).1,s.lo.xl/\s.hi.xl:=by
 obtain⟨_,b⟩:=b;unfold vB;by_cases d:c.sign=ji
 ·rw[ze d];exact QK v7
 rw[zd d];obtain⟨⟨_,Y⟩,g⟩:=b.resolve_left d;have a:=lK Y;have f:=Xg Y;split
 ·exact QK a
 split
 ·exact Wg v7 a
 split
 ·exact QK f
 split
 ·exact Wg v7 f
 split
 ·rename_i e;exact Wg a (Xg (g e).2)
 split
 ·exact Wg a (VD _ _)
 split
 ·exact Wg a (VD _ _)
 ·exact Wg a f
def jA(l:List q8):Prop:=∀s∈l,s.lo.xl/\s.hi.xl
theorem jA.small{l:List q8}(h:jA l)(a:l.length<=zw):jP l:=⟨a,fun s hs=>⟨(h s hs).1.small,(h s hs).2.small⟩⟩
theorem xi(f:Bool->Bool->Bool){a b:List q8}(c:jA a)(d:jA b):jA (kI f a b):=oO oU f c d
def mQ:List za->Option (List (List xM))
 |[]=>some []
 |s::l=>if(Qs s).2=true then(mQ l).map ((Qs s).1::·)else none
noncomputable def KX:List xM->List q8->Option (List q8)
 |[],m=>some m
 |c::l,m=>if(vB c).2=true then KX l (kI and m (vB c).1)else none
noncomputable def ca:List (List xM)->List q8->Option (List q8)
 |[],o=>some o
 |l::a,o=>match KX l [wZ qU]with
  |some m=>ca a (kI or o m)
  |none=>none
noncomputable def Zx (t:za):List q8×Int:=if(400:Int)<t.length then([],2)else match mQ (qg t [124,124])with
 |none=>([],10)
 |some a=>match ca a []with
  |none=>([],1)
  |some o=>if(100:Int)<o.length then([],2)else(o,0)
theorem AB:∀(l:List za) (d:List (List xM)) (n:Nat),(∀s∈l,s.length<=n)->mQ l=some d->(∀a∈d,(∀c∈a,c.xl)/\a.length<=n+1)/\d.length=l.length
 |[],d,n,_,h=>by
  simp only[mQ]at h;injection h with h;subst h
  exact⟨by simp,rfl⟩
 |s::l,d,n,e,h=>by
  simp only[mQ]at h;split at h
  ·rename_i hs;cases b:mQ l with
   |none=>rw[b]at h;cases h
   |some r=>
    rw[b]at h;simp only[zy,zW]at h;subst h;obtain⟨f,g⟩:=AB l r n (fun x i=>e x (by simp[i])) b;obtain⟨j,k⟩:=HE hs;have:=e s (by simp);refine⟨fun a b=>?_,by simp[g]⟩;rcases zv.1 b with rfl|b
    ·exact⟨j,by omega⟩
    ·exact f a b
  ·cases h
attribute [local go_sem] Oper.semAt_some
theorem DM{P:Program}{g:FuncId}{F:zb->Option O}{us:List Value}{v:Value}(h:kh True P g (zg false [] F))(hF:zg false [] F (us.map O.v) (fun _=>none) 0=some (.v v,fun _=>none,0))(d:∀u∈us,lit u=true){W:World}(i:Gl P W fun b=>b<W.heap.size) :
  Calls P g us.toArray W fun e w'=>e=.returned v/\Fr True W (fun _=>False) w':=by
 have j:Zip (qe W (fun b=>b<W.heap.size) (fun _=>⟨0,0,0⟩) 0) (us.map O.v) us:=by
  induction us with
  |nil=>exact .nil
  |cons u us f=>exact .cons (.c (.v (d u (by simp)))) (by
    clear hF;have:∀us:List Value,(∀u∈us,lit u=true)->Zip (qe W (fun b=>b<W.heap.size) (fun _=>⟨0,0,0⟩) 0) (us.map O.v) us:=by
     intro us
     induction us with
     |nil=>intro _;exact .nil
     |cons u us f=>intro h;exact .cons (.c (.v (h u (by simp)))) (f fun x a=>h x (by simp[a]))
    exact this us fun x a=>d x (by simp[a]))
 refine(h.2 _ _ _ _ _ _ hF W (fun b=>b<W.heap.size) (fun _=>⟨0,0,0⟩) us (dm _ (fun b l=>l) i) j).mono fun e w' m=>?_
 obtain⟨x,o,p,rfl,st,a⟩:=m;obtain⟨rfl,_⟩:=a.wX;exact⟨rfl,⟨st.fr.os,st.fr.tape,st.fr.output,st.fr.size,st.fr.drawn,fun k n _=>st.fr.block k n fun⟨_,_,h,_⟩=>by cases h⟩⟩
theorem gJ{W b:World}{L:Nat->Prop}(h:Fr True W L b){a:Addr}{v:Value}(c:W.cell? a=some v)(d:¬L a.block):b.cell? a=some v:=by rw[<-c];exact V0 (h.block _ (E8 c) d)
def XC(l:List za):List Value:=l.map fun p=>.string ⟨p.toArray⟩
def M3(w:World)(b:Nat):Nat:=match w.cell? ⟨b,0,none⟩with
 |some (.string s)=>s.size
 |_=>0
def vv(w:World)(b:Nat)(v:Value):Prop:=∃cs ty,w.heap[b]?=some (.cells cs ty (0,0))/\cs[0]?=some v
theorem vv.cell{w:World}{b:Nat}{v:Value}(h:vv w b v):w.cell? ⟨b,0,none⟩=some v:=by obtain⟨cs,ty,a,c⟩:=h;simp[World.cell?,a,c]
theorem vv.free{w:World}{b:Nat}{v:Value}(h:vv w b v):w.frozen? ⟨b,0,none⟩=false:=by obtain⟨cs,ty,a,c⟩:=h;simp[World.frozen?,a]
theorem vv.same{w w':World}{b:Nat}{v:Value}(h:vv w b v)(e:w'.heap[b]?=w.heap[b]?):vv w' b v:=by obtain⟨cs,ty,a,c⟩:=h;exact⟨cs,ty,e.trans a,c⟩
theorem vv.lt{w:World}{b:Nat}{v:Value}(h:vv w b v):b<w.heap.size:=by obtain⟨cs,ty,a,c⟩:=h;exact(qh.1 a).1
theorem vv.set{w:World}{b:Nat}{v:Value}(u:Value)(h:vv w b v):vv (w.setCell ⟨b,0,none⟩ u) b u:=by obtain⟨cs,ty,a,c⟩:=h;have d:=(qh.1 c).1;refine⟨cs.setIfInBounds 0 u,ty,?_,by simp[d]⟩;simp[World.setCell,vT,a]
theorem vv.Pn{w:World}{b:Nat}(u:Value)(B:Nat->Prop)(a:B b):Fr True w B (w.setCell ⟨b,0,none⟩ u):=
 ⟨rfl,rfl,rfl,by simp[World.setCell],fun _=>zk _,fun k _ c=>by
  have:¬b=k:=fun e=>c (e ▸ a)
  simp[World.setCell,vT,this]⟩
theorem vv.str{w:World}{b:Nat}{s:ByteArray}(h:vv w b (.string s)):M3 w b=s.size:=by unfold M3;rw[h.cell]
theorem sj(n l B1 B2 B3:Nat)(sep t:za)(hs1:1<=sep.length)(hs2:sep.length<=zw)(ht:t.length<=zw)(h12:B1≠B2)(h23:B3≠B2)(J Jx:List Value->World->Prop)
  (hJ:∀pre W W',J pre W->Fr True W (fun b=>b=B1\/b=B2\/b=B3) W'->J pre W') (hGl:∀pre W,J pre W->Gl prog W fun b=>b<W.heap.size)
  (hY:∀pre x W,J pre W->(XC (qg t sep))[pre.length]?=some x->YieldAt Fence.wide n prog l #[x] W fun e W'=>(e=.returned (.bool true)/\J (pre++[x]) W'/\(∀b,(b=B1\/b=B2\/b=B3)->W'.heap[b]?=W.heap[b]?)/\W.heap.size<=W'.heap.size)\/(e=.returned (.bool false)/\Jx (pre++[x]) W'))
  (W:World) (h0:J [] W) (h1:W.cell? ⟨B1,0,none⟩=some (.string ⟨sep.toArray⟩)) (h2:vv W B2 (.string ⟨t.toArray⟩)) (h3:W.cell? ⟨B3,0,none⟩=some (.int .i64 0)) :
  CallsIn Fence.wide (n+1) prog 198 #[.func (.yield l) #[] #[],.pointer (some ⟨B1,0,none⟩),.pointer (some ⟨B2,0,none⟩),.pointer (some ⟨B3,0,none⟩)] W fun e W'=>(∃v,e=.returned v)/\(J (XC (qg t sep)) W'\/∃pre,Jx pre W'):=by
 refine callsIn_of_wp func198 rfl trivial ?_ rfl;simp only[Tryz.ntmps198,jy,zP,kv,Nat.reduceAdd,Nat.reduceSub,Array.replicate_succ,Array.replicate_zero,List.push_toArray,List.append_toArray,ku,q7];have h2c:=h2.cell;have hse:((sep.length:Int)==0)=false:=jk.2 (by omega)
 gi_wp2
 try simp only[hse]
 have hx:∀cur:za,cur.length<=zw->∀wr:World,Gl prog wr (fun b=>b<wr.heap.size)->Calls prog 200 #[.string ⟨cur.toArray⟩,.string ⟨sep.toArray⟩] wr fun e w'=>e=.returned (.int .i64 (Lib.index cur sep))/\Fr True wr (fun _=>False) w':=fun cur hc wr hg=>by exact DM (us:=[.string ⟨cur.toArray⟩,.string ⟨sep.toArray⟩]) bJ (Jo cur sep _ _ hc hs2) (by simp[lit]) hg
 gi_loopw [] (fun wr=>∃(done:List za) (cur:za),qg t sep=done++qg cur sep/\cur.length<=t.length/\J (XC done) wr/\wr.cell? ⟨B1,0,none⟩=some (.string ⟨sep.toArray⟩)/\vv wr B2 (.string ⟨cur.toArray⟩)/\wr.cell? ⟨B3,0,none⟩=some (.int .i64 0))
  (fun wr=>M3 wr B2)
 case atStart=>exact⟨[],t,rfl,zk _,h0,h1,h2,h3⟩
 case round=>
  obtain⟨done,cur,hsp,hcl,hJs,c1,k2,c3⟩:=hrel;have c2:=k2.cell;have hg:=hGl _ _ hJs
  gi_wp2
  refine⟨trivial,mK.2 ((hx cur (zG hcl ht) wr hg).mono ?_)⟩;rintro e w1 ⟨rfl,fr⟩;dsimp only;have d1:=gJ fr c1 (fun h=>h);have m2:=k2.same (fr.block _ k2.lt fun h=>h);have d2:=m2.cell;have d3:=gJ fr c3 (fun h=>h);have hJ1:=hJ _ _ _ hJs ⟨fr.os,fr.tape,fr.output,fr.size,fr.drawn,fun k hk _=>fr.block k hk fun h=>h⟩;have hel:(XC done).length=done.length:=by simp[XC]
  by_cases hneg:Lib.index cur sep<0
  ·have hsk:qg cur sep=[cur]:=by
    have hm:Lib.index cur sep=-1:=by
     rcases Lib.index_spec cur sep with⟨h,_⟩|⟨i,h,_⟩
     ·exact h
     ·omega
    unfold qg Lib.split;rw[Lib.count_miss hm];rfl
   have hu:(XC (qg t sep))[(XC done).length]?=some (.string ⟨cur.toArray⟩):=by rw[hsp,hsk,hel];simp[XC]
   obtain⟨fn,tmps,assign,body,hy,hR⟩:=hY _ _ w1 hJ1 hu
   gi_wp2
   refine hR.mono ?_;rintro e W3 (⟨rfl,hJ3,hk3,hz3⟩|⟨rfl,hJx3⟩)
   ·gi_wp2
    go_end0
    refine⟨⟨_,rfl⟩,.inl ?_⟩;rw[hsp,hsk];simpa[XC]using hJ3
   ·gi_wp2
    go_end0
    exact⟨⟨_,rfl⟩,.inr ⟨_,hJx3⟩⟩
  ·obtain⟨i,hi⟩:∃i:Nat,Lib.index cur sep=i:=⟨(Lib.index cur sep).toNat,by omega⟩;have hne:sep≠[]:=by rintro rfl;simp at hs1
   have hsk:qg cur sep=cur.take i::qg (cur.drop (i+sep.length)) sep:=by unfold qg Lib.split;rw[Lib.count_hit hne hi,cW 1,aw hi]
   have htk:(cur.drop (i+sep.length)).take (cur.length-(i+sep.length))=cur.drop (i+sep.length):=qL (by simp);have hroom:=Lib.index_room cur sep (by omega);rw[hi]at hroom;unfold zw at ht hs2;have hwi:wrap64 (i:Int)=(i:Int):=by unfold wrap64;omega
   have hu:(XC (qg t sep))[(XC done).length]?=some (.string ⟨(cur.take i).toArray⟩):=by rw[hsp,hsk,hel];simp[XC]
   obtain⟨fn,tmps,assign,body,hy,hR⟩:=hY _ _ w1 hJ1 hu;rw[hi]
   gi_wp2
   refine hR.mono ?_;rintro e W3 (⟨rfl,hJ3,hk3,hz3⟩|⟨rfl,hJx3⟩)
   ·have e1:W3.cell? ⟨B1,0,none⟩=some (.string ⟨sep.toArray⟩):=by rw[<-d1];exact V0 (hk3 B1 (.inl rfl))
    have o2:=m2.same (hk3 B2 (.inr (.inl rfl)));have e2:=o2.cell;have e4:=o2.free;have e3:W3.cell? ⟨B3,0,none⟩=some (.int .i64 0):=by rw[<-d3];exact V0 (hk3 B3 (.inr (.inr rfl)))
    gi_wp2
    go_roundw
    case rel=>
     refine⟨done++[cur.take i],cur.drop (i+sep.length),by rw[hsp,hsk];simp,by simp;omega,?_,?_,?_,?_⟩
     ·have:=hJ _ _ _ hJ3 (vv.Pn (w:=W3) (b:=B2) (.string ⟨(cur.drop (i+sep.length)).toArray⟩) (fun b=>b=B1\/b=B2\/b=B3) (.inr (.inl rfl)));simpa[XC]using this
     ·exact gJ (vv.Pn (w:=W3) (b:=B2) _ (fun b=>b=B2) rfl) e1 h12
     ·exact o2.set (.string ⟨(cur.drop (i+sep.length)).toArray⟩)
     ·exact gJ (vv.Pn (w:=W3) (b:=B2) _ (fun b=>b=B2) rfl) e3 h23
    case measure=>have:=o2.set (.string ⟨(cur.drop (i+sep.length)).toArray⟩);rw[this.str,k2.str];simp;omega
   ·gi_wp2
    refine bodyPost_ret (results_none rfl _ _ _) rfl ?_;exact⟨⟨_,rfl⟩,.inr ⟨_,hJx3⟩⟩
def cc:ZU:=fun cap Y=>match cap with
 |[.ref b 0 0,.ref a 0 0,.ref c 0 0]=>match Y b,Y a,Y c with
  |some ⟨_,1,false,[[.v (.string sep)]]⟩,some ⟨_,1,false,[[.v (.string t)]]⟩,some ⟨_,1,false,[[.v (.int .i64 0)]]⟩=>
   if b≠a/\c≠a/\1<=sep.data.toList.length/\sep.data.toList.length<=zw/\t.data.toList.length<=zw then some ((qg t.data.toList sep.data.toList).map str,qR (qR (qR Y b none) a none) c none)else none
  |_,_,_=>none
 |_=>none
theorem dT{P:Program}{w:World}{S:Nat->Prop}{G:Nat->GI}{Y:Hp}{Z id e:Nat}{u:Value}(hi:Inv P w S G Y Z)(c:Y id=some ⟨e,1,false,[[.v u]]⟩):vv w (G id).g u:=by have b:=hi.live id _ c;have hs:(G id).s=1:=b.bs.symm;obtain⟨a,d,j,f⟩:=b.row (by omega);obtain⟨x,h,i⟩:=f 0 0 [.v u] (.v u) rfl rfl;obtain⟨rfl,_⟩:=i.2.1.wX;exact⟨a,e,d,by simpa[hs]using h⟩
theorem DN:uA True prog 198 cc:=by
 refine⟨⟨_,func198,by kernel_rfl,by kernel_rfl⟩,fun cap Y Z xs Y1 h=>?_⟩;unfold cc at h;split at h
 case h_2=>cases h
 rename_i d c i3;split at h
 case h_2=>cases h
 rename_i e1 sep e2 t e3 r q s;split at h
 case isFalse=>cases h
 rename_i E;obtain⟨u,v,x,y,F⟩:=E;injection h with h
 injection h with H a;subst H;subst a;have f:∀id b,qR (qR (qR Y d none) c none) i3 none id=some b->Y id=some b/\id≠d/\id≠c/\id≠i3:=fun id b a=>by
  by_cases m:id=i3
  ·subst m;rw[wL]at a;cases a
  rw[wi _ _ _ _ m]at a;by_cases o:id=c
  ·subst o;rw[wL]at a;cases a
  rw[wi _ _ _ _ o]at a;by_cases p:id=d
  ·subst p;rw[wL]at a;cases a
  rw[wi _ _ _ _ p]at a;exact⟨a,p,o,m⟩
 refine⟨XC (qg t.data.toList sep.data.toList),by simp[XC],by simp[XC,lit],fun id b a=>(f id b a).1,fun w S G vs hi j=>?_⟩;obtain⟨v1,r1,rfl,I,j⟩:=j.jG;obtain⟨v2,r2,rfl,K,j⟩:=j.jG;obtain⟨v3,r3,rfl,L,j⟩:=j.jG;obtain rfl:=j.Wq;have M:=dT hi r;have N:=dT hi q;have P:=dT hi s;obtain⟨_,rfl⟩:=I.WV;obtain⟨_,rfl⟩:=K.WV;obtain⟨_,rfl⟩:=L.WV;have z:(G d).g≠(G c).g:=fun e=>u (hi.inj _ _ _ _ r q e)
 have A:(G i3).g≠(G c).g:=fun e=>v (hi.inj _ _ _ _ s q e)
 refine⟨fun b=>b=(G d).g\/b=(G c).g\/b=(G i3).g,?_,?_⟩
 ·have k:∀i blk,Y i=some blk->(i=d\/i=c\/i=i3)->kF Y G (G i).g/\K5 S G (qR (qR (qR Y d none) c none) i3 none) (G i).g:=fun i blk a B=>
   ⟨⟨i,blk,a,rfl⟩,hi.apart i blk a,fun id Q hid e=>by
     obtain⟨R,p,o,m⟩:=f id Q hid;have:=hi.inj _ _ _ _ R a e;subst this;rcases B with h|h|h
     ·exact p h
     ·exact o h
     ·exact m h⟩
  rintro b (rfl|rfl|rfl)
  ·exact k d _ r (.inl rfl)
  ·exact k c _ q (.inr (.inl rfl))
  ·exact k i3 _ s (.inr (.inr rfl))
 ·intro n l J T X hJx C hY W h0 D _;have:=sj n l (G d).g (G c).g (G i3).g sep.data.toList t.data.toList x y F z A J T X C hY W h0 (M.same (D _ (.inl rfl))).cell (N.same (D _ (.inr (.inl rfl)))) (P.same (D _ (.inr (.inr rfl)))).cell;simpa using this
end Go.Q
namespace Go.AM
def aF(P:Program)(l:Zu)(g:FuncId)(it:ZU):Ctx:=⟨P,lookup l,fun _=>[],fun _=>[],fun _=>false,fun _=>[],fun k=>if k=g then some it else none⟩
@[simp]theorem zdt(P:Program)(l:Zu)(g:FuncId)(it:ZU):(aF P l g it).P=P:=rfl
@[simp]theorem zdu(P:Program)(l:Zu)(k:FuncId)(it:ZU)(Y:Hp)(Z g:Nat)(x y xs:zb):jH (aF P l k it) Y Z (some (.fn (.func g) x y)) xs=(lookup l g).bind fun s=>s (x++xs++y) Y Z:=by unfold jH aF;simp only;cases lookup l g<;>rfl
@[simp]theorem M4(P:Program)(l:Zu)(k:FuncId)(it:ZU)(i:Nat)(a:Array Oper)(d:Bool)(st:St)(K:Exit->St->Prop):Zy (aF P l k it) (.region i a d) st K=rk (aF P l k it) a a.toList st (KU K):=J1 _ i a d st K rfl rfl
theorem M5{P:Program}{l:Zu}{q:List Nat}{k:FuncId}{it:ZU}(b:P.follows .mixedOrders=true)(h:XA True P q l)(hi:G5 P k it):AM.Good (aF P l k it) (fun g=>q.contains g):=
 let g:=qq b h
 ⟨g.spec,g.quiet,g.mixed,(fun _ _ h=>by cases h),(fun j a h=>by
  have:(if j=k then some it else none)=some a:=h;split at this
  ·rename_i e;injection this with this
   subst this;subst e;exact hi
  ·cases this)⟩
@[simp]theorem zfJ(C:Ctx)(b:Code)(K:Exit->St->Prop)(st:St):asgK C b K .normal st=Zy C b st K:=rfl
@[simp]theorem zfK(I:Nat->Hp->Nat->Prop)(k:Nat)(U:Nat->O)(K:Exit->St->Prop)(st:St):UU I k U K .normal st=I (k+1) st.Y st.Z:=rfl
@[simp]theorem zfL(I:Nat->Hp->Nat->Prop)(k:Nat)(U:Nat->O)(K:Exit->St->Prop)(st:St):UU I k U K .ret st=K .ret ⟨U,st.Y,st.Z⟩:=rfl
theorem JD{Y:Hp}{Z e s:Nat}{v:O}{xs:List zb}(h:wa Y Z e s v xs){j:Nat}{b:kN}(a:Y j=some b)(c:b.arr=false):∀n,v≠.own j 0 n:=by
 rcases h with⟨rfl,_⟩|⟨id,f,rfl,d⟩
 ·intro n e;cases e
 ·intro n e;injection e with e
  subst e;rw[d]at a;injection a with a
  subst a;cases c
end Go.AM
namespace Go.Q
noncomputable def AD (t:za):O:=.wP [.sl 11 (qa (Zx t).1),int (Zx t).2]
theorem lL:zf prog 172 (yq C0 f172):=kQ jS func172
noncomputable abbrev Csq:Ctx:=zR prog [(172,yq C0 f172)]
theorem zaH:Gd Csq:=zS mixed ⟨lL,trivial⟩
theorem DO:zf prog 161 (yq Csq f161):=kQ zaH func161
def RN(t sep:za)(Y:Hp)(Z:Nat):Hp:=qR (qR (qR Y Z (some ⟨9,1,false,[[str t]]⟩)) (Z+1) (some ⟨9,1,false,[[str sep]]⟩)) (Z+1+1) (some ⟨3,1,false,[[int 0]]⟩)
theorem sk(t sep:za)(Y:Hp)(Z:Nat):yq C0 f172 [str t,str sep,int 0] Y Z=some (.fn (.func 198) [] [.ref (Z+1) 0 0,.ref Z 0 0,.ref (Z+1+1) 0 0],RN t sep Y Z,Z+1+1+1):=by unfold yq;rw[ze (by simp[f172])];refine yQ rfl ?_;simp[RN,f172]
theorem M6(t sep:za)(Y:Hp)(Z:Nat):yq Csq f161 [str t,str sep] Y Z=some (.fn (.func 198) [] [.ref (Z+1) 0 0,.ref Z 0 0,.ref (Z+1+1) 0 0],RN t sep Y Z,Z+1+1+1):=by
 have a:=fun Y Z=>sk t sep Y Z
 unfold yq;rw[ze (by simp[f161])];refine yQ rfl ?_;simp[a,f161]
def Jf(Y:Hp)(Z:Nat)(v:O)(m:List q8):Prop:=v=.sl 11 (qa m)\/(v=.nil/\m=[])\/∃id,id<Z/\v=.own id 0 (qa m).length/\Y id=some ⟨195,11,true,qa m⟩
theorem Jf.frz{Y:Hp}{Z:Nat}{v:O}{m:List q8}(h:Jf Y Z v m):∃y Y1,qD Y v=some (y,Y1)/\(Sh.s 11 jn).fix y=.sl 11 (qa m)/\(∀j,(∀n,v≠.own j 0 n)->Y1 j=Y j)/\∀j b,Y1 j=some b->Y j=some b:=by
 rcases h with rfl|⟨rfl,rfl⟩|⟨id,f,rfl,c⟩
 ·exact⟨_,Y,rfl,JA m,fun _ _=>rfl,fun _ _ h=>h⟩
 ·exact⟨_,Y,rfl,rfl,fun _ _=>rfl,fun _ _ h=>h⟩
 ·refine⟨.sl 11 (qa m),qR Y id none,by simp[c],JA m,fun j d=>zM _ _ _ _ fun e=>d _ (by subst e;rfl),fun j b a=>?_⟩;by_cases e:j=id
  ·subst e;rw[wL]at a;cases a
  ·rwa [wi _ _ _ _ e]at a
theorem Jf.keep{Y a:Hp}{Z b:Nat}{v:O}{m:List q8}(h:Jf Y Z v m)(f:Z<=b)(c:∀id,id<Z->(∀n,v=.own id 0 n->a id=Y id)):Jf a b v m:=by
 rcases h with rfl|⟨rfl,rfl⟩|⟨id,d,rfl,e⟩
 ·exact .inl rfl
 ·exact .inr (.inl ⟨rfl,rfl⟩)
 ·exact .inr (.inr ⟨id,by omega,rfl,by rw[c id d _ rfl];exact e⟩)
theorem Jf.len{Y:Hp}{Z:Nat}{v:O}{m:List q8}(h:Jf Y Z v m):JT prog 169 v=some (int m.length):=by rcases h with rfl|⟨rfl,rfl⟩|⟨id,a,rfl,b⟩<;>simp[qa]
theorem Jf.box{Y:Hp}{Z:Nat}{v:O}{m:List q8}(h:Jf Y Z v m){j:Nat}{b:kN}(a:Y j=some b)(c:b.e≠195):∀n,v≠.own j 0 n:=by
 rcases h with rfl|⟨rfl,rfl⟩|⟨id,f,rfl,d⟩
 ·intro n e;cases e
 ·intro n e;cases e
 ·intro n e;injection e with e
  subst e;rw[d]at a;injection a with a
  subst a;exact c rfl
theorem Jf.lt{Y:Hp}{Z:Nat}{v:O}{m:List q8}(h:Jf Y Z v m){j n:Nat}(e:v=.own j 0 n):j<Z:=by
 rcases h with rfl|⟨rfl,rfl⟩|⟨id,a,rfl,b⟩
 ·cases e
 ·cases e
 ·injection e with e;omega
theorem RO(c:xM)(Y:Hp)(Z:Nat)(h:c.ok):qy [.g sa] (FCm Y5) [.agg c.V] Y Z=some (Y5 c,Y,Z):=
 vK (show zD Y [.agg c.V]=some ([.agg c.V],Y) by simp[xM.V]) (by
  have d:(Sh.g sa).fix (.agg c.V)=.agg c.V:=by simp[xM.V]
  show FCm Y5 [(Sh.g sa).fix (.agg c.V)]=_;rw[d];exact qM (V:=fun v:xM=>[O.agg v.V]) (a:=c) (fun a b e=>by simp only[zh,zA]at e;injection e with e;exact Ht e) h) (.inr (by simp[xM.V]))
theorem AE(f:Bool->Bool->Bool)(g:Nat)(D:(f=and/\g=166)\/(f=or/\g=167)){Y:Hp}{Z:Nat}{v w:O}{a b:List q8}(E:Jf Y Z v a)(F:Jf Y Z w b)(h:∀id n k,v=.own id 0 n->w≠.own id 0 k)(A:jP a)(B:jP b) :
  ∃x i l,vE [.s 11 jn,.s 11 jn] Ax [v,w,.fn (.func g) [] []] Y Z=some (x,i,l)/\Jf i l x (kI f a b)/\Z<=l/\(∀j,j<Z->(∀n,v≠.own j 0 n)->(∀n,w≠.own j 0 n)->i j=Y j)/\(∀n j,x=.own j 0 n->Z<=j)/\∀s es,x≠.sl s es:=by
 obtain⟨y,Y1,G,H,m,_⟩:=E.frz;have o:Jf Y1 Z w b:=F.keep (zk _) fun id _ n e=>m id fun I J=>h id I n J e
 obtain⟨z,Y2,K,L,C,_⟩:=o.frz;have d:zD Y [v,w,.fn (.func g) [] []]=some ([y,z,.fn (.func g) [] []],Y2):=by simp only[zD,G,K];rfl
 have hF:Ax (bH [.s 11 jn,.s 11 jn] (yj [] [y,z,.fn (.func g) [] []]))=some (Wf f a b):=by
  show Ax [(Sh.s 11 jn).fix y,(Sh.s 11 jn).fix z,.fn (.func g) [] []]=_;rw[H,L];rcases D with⟨rfl,rfl⟩|⟨rfl,rfl⟩
  ·have:=qM (V:=fun a:List q8×List q8=>[O.sl 11 (qa a.1),.sl 11 (qa a.2),.fn (.func 166) [] []]) (pre:=fun a=>jP a.1/\jP a.2) (out:=fun a=>Wf and a.1 a.2) (a:=(a,b)) (FD _) ⟨A,B⟩;unfold Ax;rw[this]
  ·have:=qM (V:=fun a:List q8×List q8=>[O.sl 11 (qa a.1),.sl 11 (qa a.2),.fn (.func 167) [] []]) (pre:=fun a=>jP a.1/\jP a.2) (out:=fun a=>Wf or a.1 a.2) (a:=(a,b)) (FD _) ⟨A,B⟩;have p:qf (α:=List q8×List q8) (fun a=>[O.sl 11 (qa a.1),.sl 11 (qa a.2),.fn (.func 166) [] []]) (fun a=>jP a.1/\jP a.2) (fun a=>Wf and a.1 a.2) [O.sl 11 (qa a),.sl 11 (qa b),.fn (.func 167) [] []]=none:=by
    cases M:qf (α:=List q8×List q8) (fun a=>[O.sl 11 (qa a.1),.sl 11 (qa a.2),.fn (.func 166) [] []]) (fun a=>jP a.1/\jP a.2) (fun a=>Wf and a.1 a.2) [O.sl 11 (qa a),.sl 11 (qa b),.fn (.func 167) [] []]with
    |none=>rfl
    |some r=>obtain⟨_,e,_⟩:=zN M;simp at e
   unfold Ax;rw[p];exact this
 unfold vE yI;by_cases q:kI f a b=[]
 ·have c:=hF;unfold Wf at c;rw[ze q]at c;simp only[d,c];exact⟨_,_,_,rfl,.inr (.inl ⟨rfl,q⟩),zk _,fun j _ t u=>(C j u).trans (m j t),fun n j e=>(by cases e),fun s es e=>(by cases e)⟩
 ·have c:=hF;unfold Wf at c;rw[zd q]at c;simp only[d,c];exact⟨_,_,_,rfl,.inr (.inr ⟨Z,by omega,rfl,by simp⟩),by omega,fun j N t u=>by rw[zM _ _ _ _ (by omega)];exact(C j u).trans (m j t),fun n j e=>(by injection e with e;omega),fun s es e=>(by cases e)⟩
noncomputable abbrev Crrg:Ctx:=aF prog [(161,yq Csq f161),(162,zg false [] (XB se)),(163,qy [] (Yf aD)),(164,qy [.g sa] (FCm Y5)),(165,vE [.s 11 jn,.s 11 jn] Ax),(168,qy [.g jn] (FSt idS))] 198 cc
theorem zaI:Gd Crrg:=M5 mixed ⟨DO,by simp,bV,by simp,Jt,by simp,fZ,by simp,nq,by simp,b9,by simp,trivial⟩ DN
theorem lM(t:za)(ht:t.length+1<=zw):∃r0,zo Crrg f155 [str t]=some r0/\qX r0 (AD t):=by
 refine yB (sh:=.s 11 jn) rfl ?_;by_cases T:(400:Int)<t.length
 ·have hv:Zx t=([],2):=by unfold Zx;rw[ze T]
  simp[T,AD,hv,qa,qi,f155]
 have hsq:=fun Y Z=>M6 t [124,124] Y Z
 obtain⟨a,u⟩:=yx (qg t [124,124]);have hpl:∀p∈a,p.length<=400:=fun p Y=>by have:=xh (by rw[u];exact Y);omega
 have hpn:a.length<=401:=by have:=xT (s:=t) (sep:=[124,124]) (by simp);rw[u]at this;omega
 have b:Zx t=match mQ a with
  |none=>([],10)
  |some ls=>match ca ls []with
   |none=>([],1)
   |some o=>if(100:Int)<o.length then([],2)else(o,0):=by unfold Zx;rw[zd T,u]<;>rfl
 simp[T,hsq];refine G3 (p:=23) (xs:=a.map str) rfl (by simp;exact⟨rfl,rfl⟩) (it:=cc) rfl (by simp[cc,RN,u];exact⟨⟨by decide,by omega⟩,rfl⟩) (fun k Y Z=>∃(v:O) (done:List (List xM)),6<=Z/\Y 0=some ⟨169,1,false,[[.nil]]⟩/\Y 1=some ⟨27,1,false,[[int 0]]⟩/\Y 2=some ⟨173,1,false,[[v]]⟩ /\
   wa Y Z 177 1 v (done.map fun l=>[.sl 11 (Zm l)])/\done.length=k/\mQ a=(mQ (a.drop k)).map (done++·)) ?_ ?_ ?_
 ·exact⟨.nil,[],by simp,by simp,by simp,by simp,.inl ⟨rfl,rfl⟩,rfl,by rw[wS];cases mQ a<;>rfl⟩
 ·rintro k Y Z hk ⟨v,done,z,f,d,b2,C,hdk,he⟩;have Ty:k<a.length:=by simpa using hk
  have hpk:(a.map str)[k]=str a[k]:=by simp
  have hpkl:=hpl a[k] (zj Ty);have halt:=fun Y Z=>Za se a[k] Y Z (by unfold zw;omega)
  simp only[se]at halt;rw[hpk];rw[zc Ty]at he;simp only[mQ]at he;cases D:(Qs a[k]).2
  ·rw[D]at he;simp only[zq,qn,xL]at he;rw[he]at b;have n0:¬0=Z:=by omega
   have n1:¬1=Z:=by omega
   simp[halt,D,f,d,AD,b,qa,qi,f155]
  ·rw[D]at he;simp only[qB]at he;have nS:=wa.y8 (P:=prog) (t:=173) (c:=[.sl 11 (Zm (Qs a[k]).1)]) C TU zc6 zc7 zc8 rfl (by omega) (by simp[hdk];unfold maxLen;omega) (by simp[hdk];omega);have k0:=fun Y'=>yO C Y' 0 (JD C f rfl)
   have k1:=fun Y'=>yO C Y' 1 (JD C d rfl)
   have k2:=fun Y'=>yO C Y' 2 (JD C b2 rfl)
   have n0:¬0=Z:=by omega
   have n1:¬1=Z:=by omega
   have n2:¬2=Z:=by omega
   have n3:¬1=Z+1:=by omega
   have n4:¬2=Z+1:=by omega
   have n5:¬Z+1=2:=by omega
   simp[halt,D,f,d,b2,nS,k0,k1,k2,n0,n1,n2,n3,n4,n5,zr,zJ,zp];refine⟨by omega,by rw[zM _ _ _ _ (by omega),k1,zM _ _ _ _ (by omega)];exact d,done++[(Qs a[k]).1],.inr ⟨Z+1,by omega,by simp,by rw[zM _ _ _ _ (by omega)];simp⟩,by simp[hdk],?_⟩;rw[he];cases mQ (a.drop (k+1))<;>simp
 ·rintro Y Z ⟨v,done,z,f,d,b2,C,hdk,he⟩;rw[w9]at hdk;rw[w9,zn]at he;simp only[mQ,zy,jL]at he;obtain⟨zej,hdl⟩:=AB a done 400 hpl he;rw[he]at b;simp only at b;have hlen:=C.len TU;rw[w9]at hlen;have hdn:done.length<=401:=by omega
  obtain⟨r,L⟩:=yx (done.map (fun l=>[O.sl 11 (Zm l)]));rw[L]at C;have hrl:r.length=done.length:=by rw[<-L];simp
  simp[b2,hlen];refine zF (fun i U Y Z=>U 2=.ref 0 0 0/\U 3=.ref 1 0 0/\U 35=v/\U 36=int done.length/\U 37=int i/\6<=Z/\Y 0=some ⟨169,1,false,[[.nil]]⟩/\Y 1=some ⟨27,1,false,[[int 0]]⟩ /\
    wa Y Z 177 1 v r/\∃o,Jf Y Z (U 8) o/\(∀s es,U 8≠.sl s es)/\jA o/\o.length<=i*500/\ca done []=ca (done.drop i) o) done.length
   ⟨by simp,by simp,by simp,by simp,by simp,z,f,d,C,[],.inr (.inl ⟨by simp,rfl⟩),by simp,(by intro s hs;cases hs),by simp,by simp⟩ ?_
  clear z f d b2 C hlen Y Z;rintro i U Y Z hi ⟨M,N,H,A,B,z,f,d,C,o,K,Q,hgo,hol,hj⟩;by_cases hlt:i<done.length
  ·obtain⟨idA,I,rfl,E⟩:=C.at_ (by omega);obtain⟨l,hl⟩:=yx (done[i]);have hri:∀h:i<r.length,r[i]=[O.sl 11 (Zm l)]:=fun h=>by
    have:r[i]?=some [O.sl 11 (Zm l)]:=by rw[<-L,qo,zl hlt,hl];rfl
    rw[zl h]at this;injection this
   obtain⟨hgl,hll⟩:=zej l (by rw[<-hl];exact zj hlt);rw[zc hlt,hl]at hj;simp only[ca]at hj;have hev:∀(Y:Hp) (Z:Nat),qy [] (Yf aD) [] Y Z=some (.sl 11 (qa [wZ qU]),Y,Z):=fun Y Z=>QI _ Y Z
   have hwi:=ql i;have hel:(Zm l).length=l.length:=by simp[Zm]
   simp[M,N,H,A,B,hlt,hrl,E,hri,hev,hel];refine zF (fun k U Y Z=>U 2=.ref 0 0 0/\U 3=.ref 1 0 0/\U 35=.own idA 0 r.length/\U 36=int done.length/\U 37=int i/\6<=Z/\Y 0=some ⟨169,1,false,[[.nil]]⟩/\Y 1=some ⟨27,1,false,[[int 0]]⟩ /\
     wa Y Z 177 1 (.own idA 0 r.length) r/\Jf Y Z (U 8) o/\(∀s es,U 8≠.sl s es)/\U 42=.sl 11 (Zm l)/\U 43=int l.length/\U 44=int k/\∃m,Jf Y Z (U 11) m/\jA m/\m.length<=k+1/\(∀id n n',U 8=.own id 0 n->U 11≠.own id 0 n')/\KX l [wZ qU]=KX (l.drop k) m) l.length
    ⟨by simp[M],by simp[N],by simp[H,hrl],by simp[A],by simp[B],z,f,d,C,by simpa using K,by simpa using Q,by simp,by simp,by simp,[wZ qU],.inl (by simp),(QK v7).2,by simp,by simp,by simp⟩ ?_
   clear M N H A B z f d C K Q hi E I U Y Z;rintro k U Y Z hk ⟨M,N,H,A,B,z,f,d,C,K,Q,h42,h43,h44,m,hM,PL,hml,nS,y⟩;by_cases W:k<l.length
   ·obtain⟨c,hc⟩:=yx (l[k]);have hcg:c.xl:=hgl c (by rw[<-hc];exact zj W);obtain⟨hs1,hs2⟩:=Xh hcg;have J:∀h:k<(Zm l).length,(Zm l)[k]=c.V:=fun h=>by simp[Zm,hc]
    have pS:=fun Y Z=>RO c Y Z hcg.ok
    have hwk:=ql k;rw[zc W,hc]at y;simp only[KX]at y;have n0:¬0=Z:=by omega
    have n1:¬1=Z:=by omega
    cases D:(vB c).2
    ·rw[D]at y;simp only[zq,qn]at y;rw[y]at hj;simp only at hj;rw[hj]at b;simp only at b;simp only[Y5,xM.V]at pS J;simp[M,N,H,A,B,h42,h43,h44,W,hel,J,pS,D,f,d,n0,n1,AD,b,qa,qi,f155]
    ·rw[D]at y;simp only[qB]at y;have hM':Jf (qR Y Z (some ⟨185,11,false,[c.V]⟩)) (Z+1) (U 11) m:=hM.keep (by omega) fun id hid n e=>zM _ _ _ _ (by omega)
     obtain⟨x,Y',Z',F,hX,Tz,Ts,X,hxs⟩:=AE and 166 (.inl ⟨rfl,rfl⟩) hM' (.inl rfl:Jf _ _ (.sl 11 (qa (vB c).1)) (vB c).1) (fun id n k e e2=>by cases e2) (PL.small (by unfold zw;omega)) (jA.small hs2 (by unfold zw;omega));have G:∀j,j<Z->(∀n,U 11≠.own j 0 n)->Y' j=Y j:=fun j hj q=>by rw[Ts j (by omega) q (fun n e=>by cases e),zM _ _ _ _ (by omega)]
     have Tw:=Jz and m (vB c).1;obtain⟨idA2,I,R,E⟩:=C.at_ (by omega);injection R with R
     subst R;simp only[Y5,xM.V]at pS J F;simp[M,N,H,A,B,h42,h43,h44,W,hel,J,pS,D,F,hwk];exact⟨by omega,by omega,by rw[G 0 (by omega) (hM.box f (by decide))];exact f,by rw[G 1 (by omega) (hM.box d (by decide))];exact d,.inr ⟨idA,by omega,rfl,by rw[G idA I (hM.box E (by simp))];exact E⟩,K.keep (by omega) (fun id hid n e=>G id hid fun n'=>nS id n n' e),Q,_,hX,xi and PL hs2,by omega,fun id n n' e e2=>by have:=K.lt e;have:=X _ _ e2;omega,y⟩
   ·obtain rfl:k=l.length:=by omega
    rw[zn]at y;simp only[KX]at y;rw[y]at hj;simp only at hj;obtain⟨x,Y',Z',F,hX,Tz,Ts,X,hxs⟩:=AE or 167 (.inr ⟨rfl,rfl⟩) K hM nS (hgo.small (by unfold zw;omega)) (PL.small (by unfold zw;omega));have Tw:=Jz or o m;obtain⟨idA2,I,R,E⟩:=C.at_ (by omega);injection R with R
    subst R;simp[M,N,H,A,B,h42,h43,h44,F,hwi];exact⟨by omega,hrl,by omega,by rw[Ts 0 (by omega) (K.box f (by decide)) (hM.box f (by decide))];exact f,by rw[Ts 1 (by omega) (K.box d (by decide)) (hM.box d (by decide))];exact d,.inr ⟨idA,by omega,by rw[hrl],by rw[Ts idA I (K.box E (by simp)) (hM.box E (by simp))];exact E⟩,_,hX,hxs,xi or hgo PL,by omega,hj⟩
  ·obtain rfl:i=done.length:=by omega
   rw[zn]at hj;simp only[ca]at hj;rw[hj]at b;simp only at b;have S:=K.len;by_cases TA:(100:Int)<o.length
   ·rw[ze TA]at b;simp[M,N,A,B,S,TA,f,d,AD,b,qa,qi,f155]
   rw[zd TA]at b;simp[M,N,A,B,S,TA];obtain⟨w,hw8⟩:=yx (U 8);rw[hw8]at K Q;refine zF (fun j U Y Z=>U 2=.ref 0 0 0/\U 3=.ref 1 0 0/\U 8=w/\U 66=w/\U 67=int o.length/\U 68=int j/\6<=Z/\Y 0=some ⟨169,1,false,[[.nil]]⟩/\Y 1=some ⟨27,1,false,[[int 0]]⟩/\Jf Y Z w o) o.length
    ⟨by simp[M],by simp[N],by simp[hw8],by simp[hw8],by simp,by simp,z,f,d,K⟩ ?_
   clear M N H A B z f d C K hi hw8 U Y Z S;rintro j U Y Z PH ⟨M,N,h8,h66,h67,h68,z,f,d,K⟩;by_cases hltj:j<o.length
   ·have hwj:=ql j;rcases K with rfl|⟨rfl,rfl⟩|⟨id,hid,rfl,hb⟩
    ·exact absurd rfl (Q _ _)
    ·simp at hltj
    ·obtain⟨s,hs⟩:=yx (o[j]);have Tg:=hgo s (by rw[<-hs];exact zj hltj);have hel:(qa o).length=o.length:=by simp[qa]
     have J:∀h:j<(qa o).length,(qa o)[j]=s.V:=fun h=>by simp[qa,hs]
     have hset:(qa o).set j s.V=qa o:=by
      have h':j<(qa o).length:=by omega
      rw[<-J h'];exact List.set_getElem_self h'
     have hcp:∀Y Z,qy [.g jn] (FSt idS) [.agg s.V] Y Z=some (.agg s.V,Y,Z):=fun Y Z=>M1 idS s (.agg s.V) Y Z ⟨Tg.1.small,Tg.2.small⟩ (by simp[q8.V,Cut.V]) (by simp[q8.V,Cut.V]) (by simp[q8.V,Cut.V])
     have m1:¬id=Z:=by omega
     simp only[q8.V,Cut.V,q7,ku]at J hcp hset;have i0:¬0=id:=fun e=>by rw[<-e]at hb;rw[hb]at f;simp at f
     have i1:¬1=id:=fun e=>by rw[<-e]at hb;rw[hb]at d;simp at d
     have n0:¬0=Z:=by omega
     have n1:¬1=Z:=by omega
     simp[M,N,h8,h66,h67,h68,hltj,hel,hb,J,hcp,m1,hwj,hset];exact⟨by omega,by omega,by simp[i0,n0,f],by simp[i1,n1,d],.inr (.inr ⟨id,by omega,by rw[hel],by simp⟩)⟩
   ·obtain rfl:j=o.length:=by omega
    rcases K with rfl|⟨rfl,rfl⟩|⟨id,hid,rfl,hb⟩
    ·exact absurd rfl (Q _ _)
    ·simp[M,N,h8,h66,h67,h68,f,d,AD,b,qi,qa,f155]
    ·have i0:¬id=0:=fun e=>by rw[e]at hb;rw[hb]at f;simp at f
     have i1:¬id=1:=fun e=>by rw[e]at hb;rw[hb]at d;simp at d
     have hfx:=JA o;simp only[Sh.mN,O.sl.injEq,true_and]at hfx;simp[M,N,h8,h66,h67,h68,f,d,hb,i0,i1,AD,b,qi,hfx,f155]
theorem gb:zf prog 155 (zg false [] (XB AD)):=
 Qu (fn:=f155) zaI (qN func155) false [] _ fun args r h w S vs a=>by obtain⟨l,rfl,Y,rfl⟩:=zN h;obtain⟨b,c,d⟩:=lM l Y;exact⟨_,b,a,by simp[f155],c,d⟩
def YI(op:Int):Bool:=jE op 2 6||op==12
def WC(op:Int):Bool:=jE op 7 11
def vf(op:Int):Bool:=jE op 3 6
noncomputable abbrev Cwi:Ctx:=zR prog [(36,zg false [] (F3 jE))]
theorem DP:AM.Good Cwi (fun g=>[36].contains g):=qq mixed ⟨Z2,fun _=>zu _ _,trivial⟩
def sn(f:Int->Bool):zb->Option O
 |[.v (.int .i64 a)]=>some (wo (f a))
 |_=>none
theorem Xi{f:Int->Bool}{args:zb}{r:O}(h:sn f args=some r):∃a,args=[int a]/\r=wo (f a):=by
 unfold sn at h;split at h
 ·injection h with h;exact⟨_,rfl,h.symm⟩
 ·cases h
@[simp]theorem zdv(f:Int->Bool)(a:Int)(Y:Hp)(Z:Nat):zg false [] (sn f) [.v (.int .i64 a)] Y Z=some (wo (f a),Y,Z):=yP rfl rfl (.inl rfl)
theorem AF:zf prog 153 (zg false [] (sn YI)):=
 yt (fn:=f153) DP (qN func153) false [] _ fun args r h=>by obtain⟨a,rfl,rfl⟩:=Xi h;exact⟨by simp[f153],_,zm rfl (by simp[YI,f153]),qc _⟩
theorem fg:zf prog 135 (zg false [] (sn WC)):=
 yt (fn:=f135) DP (qN func135) false [] _ fun args r h=>by obtain⟨a,rfl,rfl⟩:=Xi h;exact⟨by simp[f135],_,zm rfl (by simp[WC,f135]),qc _⟩
theorem fh:zf prog 154 (zg false [] (sn vf)):=
 yt (fn:=f154) DP (qN func154) false [] _ fun args r h=>by obtain⟨a,rfl,rfl⟩:=Xi h;exact⟨by simp[f154],_,zm rfl (by simp[vf,f154]),qc _⟩
noncomputable abbrev Cms (n:Nat):Ctx:=zR prog [(101,zg false [] (FCp (fun c=>.wP [int c.parts,int c.levels]) n))]
theorem sq(n:Nat)(c:qW)(h:c.parts<=zw/\c.parts<=n+1):zo (Cms n) f101 [.agg c.V]=some (.wP [int c.parts,int c.levels]):=by
 have q:=WY c;have f:=ar c;have r:=Dr c;have s:=av c.args;obtain⟨t,x⟩:=h;unfold zw at t;refine zm rfl ?_;simp;refine zF (fun k U Y Z=>U 9=.sl 7 (c.args.map qW.V)/\U 10=int c.args.length/\U 11=int k/\U 2=int ((1+yy (c.args.take k):Nat):Int)/\U 3=int (yL (c.args.take k))) c.args.length
  ⟨by simp,by simp,by simp,by simp[yy],by simp[yL]⟩ ?_
 rintro k U Y Z y ⟨l,d,e,g,i⟩;by_cases a:k<c.args.length
 ·obtain⟨m,u⟩:=zdp a;have z:=au (zj a);have v:=ql k;have o:=oB c.args k;have j:=oB c.args (k+1);have b:=fun Y Z=>Mk (fun c=>.wP [int c.parts,int c.levels]) n c.args[k] Y Z ⟨by unfold zw;omega,by omega⟩
  have p:i6.wrap (((1+yy (c.args.take k):Nat):Int)+c.args[k].parts)=((1+yy (c.args.take (k+1)):Nat):Int):=by rw[wR (by omega) (by omega),m];omega
  have w:(if(yL (c.args.take k))<c.args[k].levels then(c.args[k].levels:Int)else yL (c.args.take k))=(yL (c.args.take (k+1)):Int):=by rw[u];split<;>omega
  simp[g,i,l,d,e,a,b,v];exact⟨by omega,by rw[wR (by omega) (by omega),m];omega,w⟩
 ·obtain rfl:k=c.args.length:=by omega
  rw[wJ]at g i;have p:i6.wrap ((yL c.args:Int)+1)=(c.levels:Int):=by rw[wR (by omega) (by omega),f];omega
  simp[g,i,l,d,e,p,zI,f101];omega
theorem lN:∀n,zf prog 101 (zg false [] (FCp (fun c=>.wP [int c.parts,int c.levels]) n)):=by
 intro n
 induction n with
 |zero=>
  exact Js ⟨_,func101,by kernel_rfl,by kernel_rfl⟩ fun args r h=>by obtain⟨c,_,⟨_,e⟩,_⟩:=zN h;have:=du c;omega
 |succ n a=>have b:Gd (Cms n):=zS mixed ⟨a,trivial⟩;exact vX b func101 false [] fun c d=>⟨zG (zk 1) (by decide),_,sq n c d,qc _⟩
theorem nr(n:Nat):zf prog 101 (zg false [] (FC (fun c=>.wP [int c.parts,int c.levels]) n)):=oC (Ml _ n) (lN zw)
def w1F(c:qW):Bool:=!(c.kind==4)&&(!c.attr.isEmpty||c.op != 0||decide (0<c.kP.length)||!c.pat.isEmpty)
def w2F(c:qW):Bool:=c.kind != 5&&!c.name.isEmpty
def w3F(c:qW):Bool:=!jE c.kind 1 3&&decide (0<c.args.length)
def w4F(c:qW):Bool:=c.kind==4&&!YI c.op&&decide (0<c.kP.length)
def w5F(c:qW):Bool:=c.kind==4&&!WC c.op&&!c.pat.isEmpty
def w6F(c:qW):Bool:=c.kind==3&&(c.args.length:Int) != 1
def w7F(c:qW):Bool:=c.kind==4&&vf c.op&&(c.kP.length:Int) != 1
def Zo(c:qW):Bool:=w1F c||w2F c||w3F c||w4F c||w5F c||w6F c||w7F c
noncomputable abbrev Cfo:Ctx:=zR prog [(36,zg false [] (F3 jE)),(153,zg false [] (sn YI)),(135,zg false [] (sn WC)),(154,zg false [] (sn vf))]
theorem zaJ:AM.Good Cfo (fun g=>[36,153,135,154].contains g):=qq mixed ⟨Z2,fun _=>zu _ _,AF,fun _=>zu _ _,fg,fun _=>zu _ _,fh,fun _=>zu _ _,trivial⟩
@[simp]theorem zdw:kY Cfo 153:=y9 (by rfl) (zu _ _)
@[simp]theorem zdx:kY Cfo 135:=y9 (by rfl) (zu _ _)
@[simp]theorem zdy:kY Cfo 154:=y9 (by rfl) (zu _ _)
theorem lO(c:qW)(h:c.cb<=zw):zo Cfo f133 [.agg c.V]=some (int (if Zo c=true then 3 else 0)):=by
 refine zm rfl ?_;have a:(!(c.kind==4)&&(!c.attr.isEmpty||c.op != 0||decide (0<c.kP.length)||!c.pat.isEmpty))=w1F c:=rfl;have d:(c.kind != 5&&!c.name.isEmpty)=w2F c:=rfl;have f:(!jE c.kind 1 3&&decide (0<c.args.length))=w3F c:=rfl;have i:(c.kind==4&&!YI c.op&&decide (0<c.kP.length))=w4F c:=rfl;have k:(c.kind==4&&!WC c.op&&!c.pat.isEmpty)=w5F c:=rfl;have m:(c.kind==3&&(c.args.length:Int) != 1)=w6F c:=rfl;have o:(c.kind==4&&vf c.op&&(c.kP.length:Int) != 1)=w7F c:=rfl;cases b:w1F c
 case true=>simp[a,b,Zo,f133]
 cases e:w2F c
 case true=>simp[a,b,d,e,Zo,f133]
 cases g:w3F c
 case true=>simp[a,b,d,e,f,g,Zo,f133]
 cases j:w4F c
 case true=>simp[a,b,d,e,f,g,i,j,Zo,f133]
 cases l:w5F c
 case true=>simp[a,b,d,e,f,g,i,j,k,l,Zo,f133]
 cases n:w6F c
 case true=>simp[a,b,d,e,f,g,i,j,k,l,m,n,Zo,f133]
 cases p:w7F c
 case true=>simp[a,b,d,e,f,g,i,j,k,l,m,n,o,p,Zo,f133]
 simp[a,b,d,e,f,g,i,j,k,l,m,n,o,p,Zo,f133]
theorem gd:zf prog 133 (GC fun c=>int (if Zo c=true then 3 else 0)):=
 yt (fn:=f133) zaJ (qN func133) false [] _ fun args r h=>by obtain⟨c,rfl,a,rfl⟩:=Y3 h;exact⟨by simp[f133],_,lO c a.1,qc _⟩
noncomputable def aG (p:Option qu) (v:qu):Bool:=match p with
 |none=>false
 |some p=>decide (0<=wz p v)
def AG(op:Int)(v:qu):Bool:=v.kind==0||vf op&&v.kind != 2
noncomputable def XD (op:Int):Option qu->List qu->Int
 |_,[]=>0
 |p,v::l=>if v.check=0 then(if AG op v=true then 6 else if aG p v=true then 8 else XD op (some v) l)else v.check
noncomputable def ZK (op:Int) (l:List qu):Int:=if(100:Int)<l.length then 2 else XD op none l
def Qv(l:List qu)(k:Nat):Option qu:=if k=0 then none else l[k-1]?
noncomputable def FIv (f:Int->List qu->O):zb->Option O:=qf (α:=Int×List qu) (fun a=>[int a.1,.sl 5 (a.2.map qu.V)]) (fun a=>Ys a.2<=zw) (fun a=>f a.1 a.2)
theorem M7(f:Int->List qu->O)(op:Int)(l:List qu)(Y:Hp)(Z:Nat)(h:Ys l<=zw):zg false [] (FIv f) [int op,.sl 5 (l.map qu.V)] Y Z=some (f op l,Y,Z):=
 XX (op,l) _ _ (by simp) (fun x y e=>by obtain⟨c,d⟩:=x;obtain⟨g,i⟩:=y;simp only[zh,zA]at e;obtain⟨b,a⟩:=e;injection a with _ a;rw[qI b,dF a]) h (.inr (by simp))
noncomputable abbrev Ccv2:Ctx:=zR prog [(65,GV fun v=>int v.check),(154,zg false [] (sn vf)),(68,zg false [] (Lp zw))]
theorem RQ:AM.Good Ccv2 (fun g=>[154,68].contains g):=qq mixed ⟨eZ,by simp,fh,fun _=>zu _ _,VA zw,fun _=>zu _ _,trivial⟩
@[simp]theorem zb6:kY Ccv2 154:=y9 (by rfl) (zu _ _)
theorem dU(op:Int)(l:List qu)(h:Ys l<=zw):zo Ccv2 f134 [int op,.sl 5 (l.map qu.V)]=some (int (ZK op l)):=by
 have A:=ja l;unfold zw at h;refine zm rfl ?_;by_cases c:(100:Int)<l.length
 ·have x:ZK op l=2:=by unfold ZK;rw[ze c]
  simp[c,x,f134]
 have x:ZK op l=XD op none l:=by unfold ZK;rw[zd c]
 rw[x];simp[c];refine zF (fun k U Y Z=>U 0=int op/\U 1=.sl 5 (l.map qu.V)/\U 11=.sl 5 (l.map qu.V)/\U 12=int l.length/\U 13=int k/\XD op none l=XD op (Qv l k) (l.drop k)) l.length
  ⟨by simp,by simp,by simp,by simp,by simp,by simp[Qv]⟩ ?_
 rintro k U Y Z L ⟨p,q,d,e,f,a⟩;by_cases b:k<l.length
 ·have M:=ko (zj b);have B:=ql k;have i:=fun Y Z=>QV (fun v=>int v.check) l[k] Y Z (by unfold zw;omega)
  rw[zc b]at a;simp only[XD]at a;have r:Qv l (k+1)=some l[k]:=by simp[Qv,b]
  have m:(l[k].kind==0||vf op&&l[k].kind != 2)=AG op l[k]:=rfl;by_cases n:l[k].check=0
  case neg=>rw[zd n]at a;have y:=xN n;simp[p,q,d,e,f,b,i,y,a,f134]
  rw[ze n]at a;cases g:AG op l[k]
  case true=>rw[g,ze rfl]at a;simp[p,q,d,e,f,b,i,n,m,g,a,f134]
  rw[g,zd (by simp)]at a;by_cases H:k=0
  ·subst H;have I:aG (Qv l 0) l[0]=false:=rfl;rw[I,zd (by simp)]at a;simp[p,q,d,e,f,b,i,n,m,g,B];exact⟨by omega,by rw[a,show Qv l 1=some l[0]from r];simp⟩
  ·obtain⟨j,rfl⟩:∃j,k=j+1:=⟨k-1,by omega⟩;have u:j<l.length:=by omega
   have J:=ko (zj u);have C:i6.wrap ((j:Int)+1-1)=(j:Int):=by rw[wR (by omega) (by omega)];omega
   have s:=wu (j:Int);have D:((j:Int)+1).toNat=j+1:=by omega
   have E:0<(j:Int)+1:=by omega
   have F:0<=(j:Int)+1:=by omega
   have G:(j:Int)+1<l.length:=by omega
   have t:=fun Y Z=>Wd zw l[j] l[j+1] Y Z ⟨by unfold zw;omega,by unfold zw;omega,by unfold zw;omega⟩
   have z:aG (Qv l (j+1)) l[j+1]=decide (0<=wz l[j] l[j+1]):=by simp[Qv,u,aG]
   rw[z]at a;by_cases w:0<=wz l[j] l[j+1]
   ·have o:decide (0<=wz l[j] l[j+1])=true:=by simpa using w
    rw[ze o]at a;simp[p,q,d,e,f,b,u,i,n,m,g,B,C,s,D,E,F,G,t,w,a,f134]
   ·have o:¬decide (0<=wz l[j] l[j+1])=true:=by simpa using w
    rw[zd o]at a;have K:=wu ((j:Int)+1+1);simp[p,q,d,e,f,b,u,i,n,m,g,K,C,s,D,E,F,G,t,w];exact⟨by omega,by rw[a,r]⟩
 ·obtain rfl:k=l.length:=by omega
  rw[zn]at a;simp only[XD]at a;simp[p,q,d,e,f,a,f134]
theorem cd:zf prog 134 (zg false [] (FIv fun op l=>int (ZK op l))):=
 vX RQ func134 false [] fun⟨op,l⟩ a=>⟨by simp[f134],_,dU op l a,qc _⟩
noncomputable def Yt (op:Int) (s:za):Int:=if(500:Int)<s.length then 2 else if qZ 32 126 s=true then(if op=11 then(Zx s).2 else 0)else 1
noncomputable def FIs (f:Int->za->O):zb->Option O:=qf (α:=Int×za) (fun a=>[int a.1,str a.2]) (fun a=>a.2.length<=zw) (fun a=>f a.1 a.2)
theorem M8(f:Int->za->O)(op:Int)(s:za)(Y:Hp)(Z:Nat)(h:s.length<=zw):zg false [] (FIs f) [int op,str s] Y Z=some (f op s,Y,Z):=
 XX (op,s) _ _ rfl (fun x y e=>by obtain⟨a,b⟩:=x;obtain⟨c,d⟩:=y;simp only[zh,zA]at e;rw[qI e.1,wb e.2]) h (.inr (by simp))
noncomputable abbrev Cpt:Ctx:=zR prog [(155,zg false [] (XB AD))]
theorem zaK:Gd Cpt:=zS mixed ⟨gb,trivial⟩
theorem cg(op:Int)(s:za)(h:s.length<=zw):zo Cpt f136 [int op,str s]=some (int (Yt op s)):=by
 unfold zw at h;refine zm rfl ?_;by_cases a:(500:Int)<s.length
 ·have b:Yt op s=2:=by unfold Yt;rw[ze a]
  simp[a,b,f136]
 have i:=fun Y Z=>Za AD s Y Z (by unfold zw;omega)
 simp only[AD]at i;have b:Yt op s=if qZ 32 126 s=true then(if op=11 then(Zx s).2 else 0)else 1:=by unfold Yt;rw[zd a]
 simp[a];refine zF (fun k U Y Z=>U 0=int op/\U 1=str s/\U 12=int s.length/\U 13=int k/\qZ 32 126 s=qZ 32 126 (s.drop k)) s.length ⟨by simp,by simp,by simp,by simp,by simp⟩ ?_;rintro k U Y Z q ⟨l,m,c,d,g⟩;by_cases e:k<s.length
 ·have p:=ql k;rw[x2 e]at g;have o:=Vm 32 126 s[k];simp only[Zr]at o;cases n:pr 32 126 s[k]
  ·have g:qZ 32 126 s=false:=by rw[g,n];rfl
   rw[g,zd (by simp)]at b;simp[l,m,c,d,e,b,o,n,f136]
  ·simp[l,m,c,d,e,o,n,p];exact⟨e,by rw[g,n];rfl⟩
 ·obtain rfl:k=s.length:=by omega
  have g:qZ 32 126 s=true:=by rw[g,zn];rfl
  rw[g,ze rfl]at b;by_cases f:op=11
  ·rw[ze f]at b;subst f;simp[l,m,c,d,i,b,f136]
  ·rw[zd f]at b;have j:=jD f;simp[l,m,c,d,j,b,f136]
theorem aH:zf prog 136 (zg false [] (FIs fun op s=>int (Yt op s))):=
 vX zaK func136 false [] fun⟨op,s⟩ a=>⟨by simp[f136],_,cg op s a,qc _⟩
def fj(c:qW):Bool:=!jE c.kind 1 5
def M9(c:qW):Bool:=c.kind==4&&!jE c.op 1 12
def X8(c:qW):Bool:=(c.kind==4&&!qG c.attr)||(c.kind==5&&!qG c.name)
def DQ(c:qW):Bool:=c.kind==4&&WC c.op
noncomputable def vL (c:qW):Int:=if(fj c||M9 c)=true then 4 else if Zo c=true then 3 else if X8 c=true then 5 else if ZK c.op c.kP=0 then(if DQ c=true then Yt c.op c.pat else 0)else ZK c.op c.kP
mutual
noncomputable def qW.fault:qW->Int
 | .mk k a o v p n l=>if vL (.mk k a o v p n l)=0 then x0 l else vL (.mk k a o v p n l)
noncomputable def x0:List qW->Int
 |[]=>0
 |c::l=>if c.fault=0 then x0 l else c.fault
end
theorem oV(c:qW):c.fault=if vL c=0 then x0 c.args else vL c:=by cases c;simp only[qW.fault];rfl
theorem VE{l:List qW}{k:Nat}(h:k<l.length):x0 (l.drop k)=if l[k].fault=0 then x0 (l.drop (k+1))else l[k].fault:=by rw[zc h,x0]
noncomputable abbrev Na (n:Nat):Ctx:=zR prog [(102,zg false [] (FC (fun c=>int c.fault) n)),(36,zg false [] (F3 jE)),(133,GC fun c=>int (if Zo c=true then 3 else 0)),(22,zg false [] (FS qG)),
 (134,zg false [] (FIv fun op l=>int (ZK op l))),(135,zg false [] (sn WC)),(136,zg false [] (FIs fun op s=>int (Yt op s)))]
@[simp]theorem zb7(n:Nat):kY (Na n) 36:=y9 (by rfl) (zu _ _)
@[simp]theorem zb8(n:Nat):kY (Na n) 22:=y9 (by rfl) (zu _ _)
@[simp]theorem zb9(n:Nat):kY (Na n) 135:=y9 (by rfl) (zu _ _)
theorem gg(n:Nat)(c:qW)(h:c.cb<=zw/\c.cb<=n+1):zo (Na n) f102 [.agg c.V]=some (int c.fault):=by
 have M:=Jm c;have N:=xR c.args;obtain⟨L,R⟩:=h;have x:=oV c;have i:=fun Y Z=>Zv (fun c=>int (if Zo c=true then 3 else 0)) c Y Z L
 have r:=fun Y Z=>M7 (fun op l=>int (ZK op l)) c.op c.kP Y Z (by omega)
 have D:=fun Y Z=>M8 (fun op s=>int (Yt op s)) c.op c.pat Y Z (by omega)
 have j:c.attr.length<=zw:=by omega
 have m:c.name.length<=zw:=by omega
 unfold zw at L;refine zm rfl ?_;have v:(!jE c.kind 1 5)=fj c:=rfl;have y:(c.kind==4&&!jE c.op 1 12)=M9 c:=rfl;have E:((c.kind==4&&!qG c.attr)||(c.kind==5&&!qG c.name))=X8 c:=rfl;have H:(c.kind==4&&WC c.op)=DQ c:=rfl;cases q:fj c
 case true=>simp[v,q,x,vL,f102]
 cases t:M9 c
 case true=>simp[v,q,y,t,x,vL,f102]
 cases w:Zo c
 case true=>simp[v,q,y,t,i,w,x,vL,f102]
 cases z:X8 c
 case true=>simp[v,q,y,t,i,w,j,m,E,z,x,vL,f102]
 by_cases A:ZK c.op c.kP=0
 case neg=>have I:=xN A;simp[v,q,y,t,i,w,j,m,E,z,r,A,I,x,vL,f102]
 have o:∀(C:vL c=0),c.fault=x0 c.args:=fun C=>by rw[x,ze C]
 cases F:DQ c
 case false=>
  have C:vL c=0:=by simp[vL,q,t,w,z,A,F]
  have p:=o C;simp[v,q,y,t,i,w,j,m,E,z,r,A,H,F];refine zF (fun k U Y Z=>U 73=.sl 7 (c.args.map qW.V)/\U 74=int c.args.length/\U 75=int k/\x0 c.args=x0 (c.args.drop k)) c.args.length ⟨by simp,by simp,by simp,by simp⟩ ?_;rintro k U Y Z P ⟨e,f,g,b⟩;by_cases d:k<c.args.length
  ·have Q:=Z8 (zj d);have J:=ql k;have a:=fun Y Z=>QX (fun c=>int c.fault) n c.args[k] Y Z ⟨by unfold zw;omega,by omega⟩
   rw[VE d]at b;by_cases u:c.args[k].fault=0
   ·rw[ze u]at b;simp[e,f,g,d,a,u,J];exact⟨by omega,b⟩
   ·rw[zd u]at b;have B:=xN u;simp[e,f,g,d,a,B,p,b,f102]
  ·obtain rfl:k=c.args.length:=by omega
   rw[zn]at b;have b:x0 c.args=0:=by rw[b];rfl
   simp[e,f,g,p,b,f102]
 case true=>
  by_cases G:Yt c.op c.pat=0
  case neg=>have K:=xN G;simp[v,q,y,t,i,w,j,m,E,z,r,A,H,F,D,G,K,x,vL,f102]
  have C:vL c=0:=by simp[vL,q,t,w,z,A,F,G]
  have p:=o C;simp[v,q,y,t,i,w,j,m,E,z,r,A,H,F,D,G];refine zF (fun k U Y Z=>U 73=.sl 7 (c.args.map qW.V)/\U 74=int c.args.length/\U 75=int k/\x0 c.args=x0 (c.args.drop k)) c.args.length ⟨by simp,by simp,by simp,by simp⟩ ?_;rintro k U Y Z P ⟨e,f,g,b⟩;by_cases d:k<c.args.length
  ·have Q:=Z8 (zj d);have J:=ql k;have a:=fun Y Z=>QX (fun c=>int c.fault) n c.args[k] Y Z ⟨by unfold zw;omega,by omega⟩
   rw[VE d]at b;by_cases u:c.args[k].fault=0
   ·rw[ze u]at b;simp[e,f,g,d,a,u,J];exact⟨by omega,b⟩
   ·rw[zd u]at b;have B:=xN u;simp[e,f,g,d,a,B,p,b,f102]
  ·obtain rfl:k=c.args.length:=by omega
   rw[zn]at b;have b:x0 c.args=0:=by rw[b];rfl
   simp[e,f,g,p,b,f102]
theorem dV:∀n,zf prog 102 (zg false [] (FC (fun c=>int c.fault) n)):=by
 intro n
 induction n with
 |zero=>exact rQ ⟨_,func102,by kernel_rfl,by kernel_rfl⟩
 |succ n a=>
  have b:AM.Good (Na n) (fun g=>[36,22,135].contains g):=qq mixed ⟨a,by simp,Z2,fun _=>zu _ _,gd,by simp,xf,fun _=>zu _ _,cd,by simp,fg,fun _=>zu _ _,aH,by simp,trivial⟩;exact yt (fn:=f102) b (qN func102) false [] _ fun args r h=>by obtain⟨c,rfl,d,rfl⟩:=Y3 h;exact⟨zG (zk 1) (by decide),_,gg n c d,qc _⟩
noncomputable def qW.check (c:qW):Int:=if(decide ((200:Int)<c.parts)||decide ((20:Int)<c.levels))=true then 2 else c.fault
noncomputable abbrev Ccch:Ctx:=zR prog [(102,GC fun c=>int c.fault),(101,GC fun c=>.wP [int c.parts,int c.levels])]
theorem ch:zf prog 60 (GC fun c=>int c.check):=
 yt (fn:=f60) (zS mixed ⟨dV zw,nr zw,trivial⟩:AM.Good Ccch _) (qN func60) false [] _ fun args r h=>by
  obtain⟨c,rfl,a,rfl⟩:=Y3 h;have b:=fun Y Z=>Zv (fun c=>int c.fault) c Y Z a.1
  have d:=fun Y Z=>Zv (fun c=>.wP [int c.parts,int c.levels]) c Y Z a.1
  refine⟨by simp[f60],_,zm rfl ?_,qc _⟩;cases e:(decide ((200:Int)<c.parts)||decide ((20:Int)<c.levels))
  ·simp[b,d,e,f60,qW.check]
  ·simp[b,d,e,f60,qW.check]
structure XS (v:qu) (o3 o4:O) (Y:Hp) (Z:Nat):Prop where
 b0:Y 0=some ⟨100,5,false,[[int v.kind,int v.n,str v.s,o3,o4]]⟩
 b1:Y 1=some ⟨100,5,false,[[int 0,int 0,.v (.string ⟨#[]⟩),.nil,.nil]]⟩
 s3:wa Y Z 100 5 o3 (v.items.map qu.V)
 s4:wa Y Z 143 6 o4 (v.fields.map kj)
 d3:∀id m,id<2->o3≠.own id 0 m
 d4:∀id m,id<2->o4≠.own id 0 m
 d:∀id m m',o3=.own id 0 m->o4≠.own id 0 m'
 CJ:2<=Z
structure Ctxt where
 key:List UInt8
 attrs:List (List UInt8×qu)
theorem sr(a b:UInt8):a<b\/a=b\/b<a:=by
 rcases Nat.lt_trichotomy a.toNat b.toNat with h|h|h
 ·exact .inl (vV.2 h)
 ·exact .inr (.inl (Yq.1 h))
 ·exact .inr (.inr (vV.2 h))
theorem aI(a:UInt8):¬a<a:=fun h=>Nat.lt_irrefl _ (vV.1 h)
theorem lP{a b:UInt8}(h:a<b):¬b<a:=fun c=>Nat.lt_asymm (vV.1 h) (vV.1 c)
theorem Nb{a b c:UInt8}(h:a<b)(d:b<c):a<c:=vV.2 (Nat.lt_trans (vV.1 h) (vV.1 d))
theorem Ko:∀a b:za,yJ a b<0↔Op.bytesLess a b=true
 |[],[]=>by simp[yJ,Lib.compareBytes,Op.bytesLess]
 |[],_::_=>by simp[yJ,Lib.compareBytes,Op.bytesLess]
 |_::_,[]=>by simp[yJ,Lib.compareBytes,Op.bytesLess]
 |a::x,b::y=>by
  have d:=Ko x y;unfold yJ at d⊢;rcases sr a b with h|rfl|h
  ·simp[Lib.compareBytes,Op.bytesLess,h]
  ·simp[Lib.compareBytes,Op.bytesLess,aI,d]
  ·have c:¬a=b:=fun e=>aI b (e ▸ h)
   simp[Lib.compareBytes,Op.bytesLess,h,lP h,c]
theorem xz:∀a b:za,yJ a b=0↔a=b
 |[],[]=>by simp[yJ,Lib.compareBytes]
 |[],_::_=>by simp[yJ,Lib.compareBytes]
 |_::_,[]=>by simp[yJ,Lib.compareBytes]
 |a::x,b::y=>by
  have d:=xz x y;unfold yJ at d⊢;rcases sr a b with h|rfl|h
  ·have c:¬a=b:=fun e=>aI b (e ▸ h)
   simp[Lib.compareBytes,h,c]
  ·simp[Lib.compareBytes,aI,d]
  ·have c:¬a=b:=fun e=>aI b (e ▸ h)
   simp[Lib.compareBytes,h,lP h,c]
theorem xV:∀{a b c:za},Op.bytesLess a b=true->Op.bytesLess b c=true->Op.bytesLess a c=true
 |_,[],_,h,_=>by simp[Op.bytesLess]at h
 |_,_::_,[],_,h=>by simp[Op.bytesLess]at h
 |[],_::_,_::_,_,_=>by simp[Op.bytesLess]
 |a::x,b::y,c::z,e,d=>by
  simp only[Op.bytesLess,qS,qz,zC,jq]at e d⊢;rcases e with e|⟨rfl,e⟩
  ·rcases d with d|⟨rfl,d⟩
   ·exact .inl (Nb e d)
   ·exact .inl e
  ·rcases d with d|⟨rfl,d⟩
   ·exact .inl d
   ·exact .inr ⟨rfl,xV e d⟩
theorem vM:∀{a b:za},Vs a b=false->Op.bytesLess b a=true
 |[],[],h=>by simp[Vs]at h
 |[],_::_,h=>by simp[Vs,Op.bytesLess]at h
 |_::_,[],_=>by simp[Op.bytesLess]
 |a::x,b::y,h=>by
  simp only[Vs,Op.bytesLess,wA,yM,Bool.and_eq_false_iff,jk]at h;obtain⟨⟨d,c⟩,f⟩:=h;simp only[Op.bytesLess,qS,qz,zC,jq];rcases sr a b with g|rfl|g
  ·exact absurd g d
  ·refine .inr ⟨rfl,vM ?_⟩;rcases c with c|c
   ·exact absurd rfl c
   ·have:¬x=y:=fun e=>f (by rw[e])
    simp[Vs,c,this]
  ·exact .inl g
def ZT(f:Nat->Bool)(lo hi:Nat):Nat:=if h:lo<hi then(if f ((lo+hi)/2)then ZT f ((lo+hi)/2+1) hi else ZT f lo ((lo+hi)/2))else lo
termination_by hi-lo
decreasing_by all_goals omega
theorem Xj{f:Nat->Bool}{lo hi:Nat}(h:lo<hi):ZT f lo hi=if f ((lo+hi)/2)then ZT f ((lo+hi)/2+1) hi else ZT f lo ((lo+hi)/2):=by rw[ZT,Te h]
theorem cj{f:Nat->Bool}{lo hi:Nat}(h:¬lo<hi):ZT f lo hi=lo:=by rw[ZT,dif_neg h]
theorem HF{f:Nat->Bool}{n m:Nat}(i:∀k,k<m->f k=true)(j:∀k,m<=k->k<n->f k=false):∀{lo hi:Nat},lo<=m->m<=hi->hi<=n->ZT f lo hi=m:=by
 intro lo hi
 induction lo,hi using ZT.induct (f:=f)with
 |case1 lo hi a c d=>
  intro e g h;rw[ZT,Te a,ze c];refine d ?_ g h;apply Nat.succ_le_of_lt;refine Nat.lt_of_not_le fun b=>?_
  rw[j _ b (by omega)]at c;cases c
 |case2 lo hi a c d=>
  intro e g h;rw[ZT,Te a,zd c];refine d e ?_ (by omega);refine Nat.le_of_not_lt fun b=>?_
  exact c (i _ b)
 |case3 lo hi a=>intro e g _;rw[ZT,dif_neg a];omega
noncomputable def v8 (l:List za) (s:za) (k:Nat):Bool:=match l[k]? with
 |some x=>decide (yJ x s<0)
 |none=>false
noncomputable def Qp (l:List za) (s:za):Nat×Bool:=(ZT (v8 l s) 0 l.length,match l[ZT (v8 l s) 0 l.length]? with
 |some x=>yJ x s==0
 |none=>false)
theorem ss{l:List za}{s:za}(h:(Qp l s).2=true):l[(Qp l s).1]?=some s:=by
 unfold Qp at h⊢;simp only at h⊢;split at h
 ·rename_i x a;rw[a,(xz x s).1 (by simpa using h)]
 ·cases h
theorem Nc{l:List za}{s:za}(h:(Qp l s).2=true):(Qp l s).1<l.length:=(zi.1 (ss h)).1
def XE(l:List za):Prop:=l.Pairwise fun a b=>Op.bytesLess a b=true
theorem JE(a:za):Op.bytesLess a a=false:=by
 cases h:Op.bytesLess a a with
 |false=>rfl
 |true=>have b:=(Ko a a).2 h;have c:=(xz a a).2 rfl;omega
theorem lQ{l:List za}{s:za}(f:XE l){j:Nat}(g:l[j]?=some s):Qp l s=(j,true):=by
 obtain⟨a,b⟩:=zi.1 g;have i:ZT (v8 l s) 0 l.length=j:=by
  refine HF (n:=l.length) (fun k d=>?_) (fun k d c=>?_) (j9 _) (Nat.le_of_lt a) (zk _)
  ·have:=E3.1 f k j (by omega) a d;rw[b]at this;simp[v8,show k<l.length by omega,(Ko _ _).2 this]
  ·rcases Nat.lt_or_eq_of_le d with h|rfl
   ·have:=E3.1 f j k a c h;rw[b]at this;have e:¬yJ l[k] s<0:=fun m=>by have:=xV this ((Ko _ _).1 m);rw[JE]at this;cases this
    simp[v8,c,e]
   ·have e:¬yJ s s<0:=by rw[(xz s s).2 rfl];omega
    simp[v8,a,b,e]
 unfold Qp;rw[i,g];simp[(xz s s).2 rfl]
end Go.Q
namespace Go.AM
def qP{S α:Type}(f:S->α->Bool×S):S->List α->Bool×S
 |s,[]=>(false,s)
 |s,a::l=>if(f s a).1=true then(true,(f s a).2)else qP f (f s a).2 l
theorem oW{S α:Type}(f:S->α->Bool×S):∀(s:S) (l m:List α),qP f s (l++m)=if(qP f s l).1=true then(true,(qP f s l).2)else qP f (qP f s l).2 m
 |s,[],m=>by simp[qP]
 |s,a::l,m=>by
  simp only[q7,qP];split
  ·simp
  ·exact oW f _ l m
def yE(succ:Nat->List Nat):Nat->List Int->Nat->Bool×List Int
 | 0,st,_=>(false,st)
 |n+1,st,i=>if st[i]?=some 0 then((qP (yE succ n) (st.set i 1) (succ i)).1,(qP (yE succ n) (st.set i 1) (succ i)).2.set i 2)else(decide (st[i]?=some 1),st)
def vN(st:List Int):Nat:=st.count 0
theorem Xk{st:List Int}{i:Nat}{v:Int}(h:st[i]?=some 0)(b:v≠0):vN (st.set i v)+1=vN st:=by
 unfold vN
 induction st generalizing i with
 |nil=>simp at h
 |cons a l c=>
  cases i with
  |zero=>simp at h;subst h;simp[b]
  |succ i=>have:=c (i:=i) (by simpa using h);simp only[List.set_cons_succ,List.count_cons]at this⊢;omega
theorem su{st:List Int}{i:Nat}{v:Int}(b:v≠0):vN (st.set i v)<=vN st:=by
 unfold vN
 induction st generalizing i with
 |nil=>simp
 |cons a l c=>
  cases i with
  |zero=>simp[List.count_cons,b]
  |succ i=>have:=c (i:=i);simp only[List.set_cons_succ,List.count_cons]at this⊢;omega
structure Kept (st st':List Int):Prop where
 len:st'.length=st.length
 wh:vN st'<=vN st
 black:∀j:Nat,st[j]?=some 2->st'[j]?=some 2
 Lg:∀j:Nat,st'[j]?=some 1↔st[j]?=some 1
 kP:(∀v∈st,v=0\/v=1\/v=2)->∀v∈st',v=0\/v=1\/v=2
theorem Kept.refl(st:List Int):Kept st st:=⟨rfl,zk _,fun _ h=>h,fun _=>Iff.rfl,fun h=>h⟩
theorem Kept.trans{a b c:List Int}(h:Kept a b)(g:Kept b c):Kept a c:=
 ⟨g.len.trans h.len,zG g.wh h.wh,fun j d=>g.black j (h.black j d),fun j=>(g.Lg j).trans (h.Lg j),fun e=>g.kP (h.kP e)⟩
theorem Yi{f:List Int->Nat->Bool×List Int}(b:∀st i,Kept st (f st i).2):∀(l:List Nat) (st:List Int),Kept st (qP f st l).2
 |[],st=>Kept.refl st
 |a::l,st=>by
  simp only[qP];split
  ·exact b st a
  ·exact(b st a).trans (Yi b l _)
theorem jt(succ:Nat->List Nat):∀(n:Nat) (st:List Int) (i:Nat),Kept st (yE succ n st i).2
 | 0,st,i=>Kept.refl st
 |n+1,st,i=>by
  simp only[yE];split
  ·rename_i c;have k:i<st.length:=(zi.1 c).1;have b:=Yi (jt succ n) (succ i) (st.set i 1);obtain⟨r,g⟩:=yx ((qP (yE succ n) (st.set i 1) (succ i)).2);rw[g]at b;simp only[g];have l:r.length=st.length:=by rw[b.len,Xz]
   refine⟨by rw[Xz,l],?_,fun j d=>?_,fun j=>?_,fun m v e=>?_⟩
   ·have o:=b.wh;have p:=Xk c (v:=1) (by decide);have q:=su (st:=r) (i:=i) (v:=2) (by decide);omega
   ·by_cases a:i=j
    ·subst a;rw[c]at d;simp at d
    ·rw[yV a];exact b.black j (by rw[yV a];exact d)
   ·by_cases a:i=j
    ·subst a;rw[Zb (by omega),c];simp
    ·rw[yV a,b.Lg,yV a]
   ·have f:=b.kP (fun v e=>by
     rcases ZR e with h|rfl
     ·exact m v h
     ·exact .inr (.inl rfl))
    rcases ZR e with h|rfl
    ·exact f v h
    ·exact .inr (.inr rfl)
  ·exact Kept.refl st
inductive Wr (E:Nat->Nat->Prop):Nat->Nat->Prop
 |one {a b:Nat}:E a b->Wr E a b
 |tail {a b c:Nat}:Wr E a b->E b c->Wr E a c
theorem Wr.trans{E:Nat->Nat->Prop}{a b c:Nat}(h:Wr E a b)(g:Wr E b c):Wr E a c:=by
 induction g with
 |one e=>exact .tail h e
 |tail _ e d=>exact .tail d e
theorem Wr.head{E:Nat->Nat->Prop}{a c:Nat}(h:Wr E a c):∃b,E a b/\(b=c\/Wr E b c):=by
 induction h with
 |one e=>exact⟨_,e,.inl rfl⟩
 |tail _ e d=>
  obtain⟨b,f,h2⟩:=d;refine⟨b,f,.inr ?_⟩;rcases h2 with rfl|h2
  ·exact .one e
  ·exact .tail h2 e
theorem AH{E:Nat->Nat->Prop}{a:Nat}(h:Acc (fun x y=>E y x) a):¬Wr E a a:=by
 induction h with
 |intro x _ c=>
  intro d;obtain⟨y,b,h2⟩:=d.head;rcases h2 with rfl|h2
  ·exact c y b d
  ·exact c y b (.tail h2 b)
theorem VF(succ:Nat->List Nat):∀(n:Nat) (st:List Int) (i:Nat),(∀v∈st,v=0\/v=1\/v=2)->vN st<n->i<st.length->(∀a,∀b∈succ a,b<st.length)->(∀j:Nat,st[j]?=some 2->Acc (fun x y=>x∈succ y) j)->(yE succ n st i).1=false ->
  (∀j:Nat,(yE succ n st i).2[j]?=some 2->Acc (fun x y=>x∈succ y) j)/\(yE succ n st i).2[i]?=some 2
 | 0,st,i,_,E,_,_,_,_=>by omega
 |n+1,st,i,D,E,hi,hs,hb,e=>by
  simp only[yE]at e⊢;split at e
  ·rename_i f;rw[ze f];simp only at e⊢;have o:i<st.length:=hi;have F:=Xk f (v:=1) (by decide);have z:∀v∈st.set i 1,v=0\/v=1\/v=2:=fun v G=>by
    rcases ZR G with h|rfl
    ·exact D v h
    ·exact .inr (.inl rfl)
   have A:∀j:Nat,(st.set i 1)[j]?=some 2->Acc (fun x y=>x∈succ y) j:=fun j g=>by
    by_cases c:i=j
    ·subst c;rw[Zb o]at g;simp at g
    ·rw[yV c]at g;exact hb j g
   have B:∀(l:List Nat) (s:List Int),(∀v∈s,v=0\/v=1\/v=2)->vN s<n->s.length=st.length->(∀b∈l,b<st.length)->(∀j:Nat,s[j]?=some 2->Acc (fun x y=>x∈succ y) j)->(qP (yE succ n) s l).1=false ->
     (∀j:Nat,(qP (yE succ n) s l).2[j]?=some 2->Acc (fun x y=>x∈succ y) j)/\∀b∈l,(qP (yE succ n) s l).2[b]?=some 2:=by
    intro l
    induction l with
    |nil=>intro s _ _ _ _ k _;exact⟨k,fun b hb=>by cases hb⟩
    |cons a l H=>
     intro s p q m r k d;simp only[qP]at d⊢;split at d
     ·simp at d
     ·rename_i t;rw[zd t];have u:=jt succ n s a;obtain⟨w,C⟩:=VF succ n s a p q (by rw[m];exact r a (by simp)) (fun x b hb=>by rw[m];exact hs x b hb) k (by simpa using t);obtain⟨I,J⟩:=H _ (u.kP p) (vY u.wh q) (u.len.trans m) (fun b hb=>r b (by simp[hb])) w d;refine⟨I,fun b hb=>?_⟩;rcases zv.1 hb with rfl|hb
      ·exact(Yi (jt succ n) l _).black _ C
      ·exact J b hb
   obtain⟨w,C⟩:=B (succ i) (st.set i 1) z (by omega) (by rw[Xz]) (hs i) A e;have u:=Yi (jt succ n) (succ i) (st.set i 1);refine⟨fun j g=>?_,by rw[Zb (by rw[u.len,Xz];exact o)]⟩;by_cases c:i=j
   ·subst c;exact⟨_,fun b hb=>w b (C b hb)⟩
   ·rw[yV c]at g;exact w j g
  ·rename_i f;rw[zd f];simp only at e⊢;refine⟨hb,?_⟩;have K:st[i]?=some st[i]:=zl hi;have L:=D _ (zj hi);rw[K]at f e⊢;rcases L with h|h|h
   ·rw[h]at f;exact(f rfl).elim
   ·rw[h]at e;simp at e
   ·rw[h]
theorem aJ(succ:Nat->List Nat):∀(n:Nat) (st:List Int) (i:Nat),(∀g:Nat,st[g]?=some 1->Wr (fun a b=>b∈succ a) g i)->(yE succ n st i).1=true->∃c,Wr (fun a b=>b∈succ a) c c
 | 0,st,i,_,h=>by simp[yE]at h
 |n+1,st,i,p,h=>by
  simp only[yE]at h;split at h
  ·rename_i r;simp only at h;have t:i<st.length:=(zi.1 r).1;have m:∀(l:List Nat) (s:List Int),(∀g:Nat,s[g]?=some 1↔(st.set i 1)[g]?=some 1)->(∀b∈l,b∈succ i)->(qP (yE succ n) s l).1=true->∃c,Wr (fun a b=>b∈succ a) c c:=by
    intro l
    induction l with
    |nil=>intro s _ _ e;simp[qP]at e
    |cons a l u=>
     intro s f j e;simp only[qP]at e;split at e
     ·rename_i v;refine aJ succ n s a (fun g d=>?_) v;have d:=(f g).1 d;have q:a∈succ i:=j a (by simp);by_cases k:i=g
      ·subst k;exact .one q
      ·rw[yV k]at d;exact .tail (p g d) q
     ·exact u _ (fun g=>((jt succ n s a).Lg g).trans (f g)) (fun b o=>j b (by simp[o])) e
   exact m (succ i) (st.set i 1) (fun _=>Iff.rfl) (fun _ o=>o) h
  ·simp at h;exact⟨i,p i h⟩
theorem oX{α:Type}{p q:α->Bool}:∀{l:List α},(∀x∈l,p x=true->q x=true)->(∃x∈l,q x=true/\p x=false)->l.countP p<l.countP q
 |[],_,⟨x,b,_⟩=>by cases b
 |a::l,h,⟨x,b,d,e⟩=>by
  have f:l.countP p<=l.countP q:=List.countP_mono_left fun y c=>h y (by simp[c])
  rcases zv.1 b with rfl|b
  ·rw[List.countP_cons,List.countP_cons,d,e];simp;omega
  ·have:=oX (l:=l) (fun y c=>h y (by simp[c])) ⟨x,b,d,e⟩;rw[List.countP_cons,List.countP_cons];have g:=h a (by simp);cases Y:p a
   ·simp only[zq,qn];split<;>omega
   ·rw[g Y];simp;omega
structure CB {α:Type} (next:α->List α) (start out queue:List α):Prop where
 nodup:out.Nodup
 strt:∀a∈start,a∈out\/a∈queue
 step:∀a∈out,∀b∈next a,b∈out\/b∈queue
 only:∀(Q:α->Prop),(∀a∈start,Q a)->(∀a b,Q a->b∈next a->Q b)->(∀a∈out,Q a)/\∀a∈queue,Q a
theorem CB.begin{α:Type}(next:α->List α)(start:List α):CB next start [] start:=
 ⟨.nil,fun a h=>.inr h,(fun a h=>by cases h),fun Q h _=>⟨(fun a h=>by cases h),h⟩⟩
theorem CB.skip{α:Type}{next:α->List α}{start out queue:List α}{a:α}(h:CB next start out (a::queue))(e:a∈out):CB next start out queue:=by
 refine⟨h.nodup,fun b d=>?_,fun b d c i=>?_,fun Q f g=>⟨(h.only Q f g).1,fun b d=>(h.only Q f g).2 b (by simp[d])⟩⟩
 ·rcases h.strt b d with h|h
  ·exact .inl h
  ·rcases zv.1 h with rfl|h
   ·exact .inl e
   ·exact .inr h
 ·rcases h.step b d c i with h|h
  ·exact .inl h
  ·rcases zv.1 h with rfl|h
   ·exact .inl e
   ·exact .inr h
theorem CB.take{α:Type}{next:α->List α}{start out e:List α}{a:α}(h:CB next start out (a::e))(m:a ∉ out):CB next start (out++[a]) (e++next a):=by
 have f:∀b,b∈out\/b∈a::e->b∈out++[a]\/b∈e++next a:=fun b d=>by
  simp only[zK,zv,gy,or_false]at d⊢;rcases d with d|d|d
  ·exact .inl (.inl d)
  ·exact .inl (.inr d)
  ·exact .inr (.inl d)
 refine⟨?_,fun b d=>f b (h.strt b d),fun b d c g=>?_,fun Q n i=>?_⟩
 ·rw[Gj];refine⟨h.nodup,by simp,fun x o y j=>?_⟩;rintro rfl;simp at j;subst j;exact m o
 ·rcases zK.1 d with d|d
  ·exact f c (h.step b d c g)
  ·simp at d;subst d;exact .inr (zK.2 (.inr g))
 ·obtain⟨p,k⟩:=h.only Q n i;have l:Q a:=k a (by simp);refine⟨fun b d=>?_,fun b d=>?_⟩
  ·rcases zK.1 d with d|d
   ·exact p b d
   ·simp at d;subst d;exact l
  ·rcases zK.1 d with d|d
   ·exact k b (by simp[d])
   ·exact i a b l d
inductive Yu {α:Type} (next:α->List α) (start:List α):α->Prop
 |here {a:α}:a∈start->Yu next start a
 |there {a b:α}:Yu next start a->b∈next a->Yu next start b
theorem CB.done{α:Type}{next:α->List α}{start out:List α}(h:CB next start out [])(a:α):a∈out↔Yu next start a:=by
 constructor
 ·exact(h.only (Yu next start) (fun _=>.here) (fun _ _=>.there)).1 a
 ·intro b
  induction b with
  |here c=>exact(h.strt _ c).resolve_right (by simp)
  |there _ d e=>exact(h.step _ e _ d).resolve_right (by simp)
def fixT(F:Nat->(Nat->Bool)->Bool):Nat->Nat->Bool
 | 0,_=>false
 |n+1,i=>F i (fixT F n)
end Go.AM
