/- Lemmas. -/
import Derived.Shelf.SlSortCmp.InsertionK
import Derived.Sort.AssemblyPlain
import Derived.Shelf.SlSortCmp.WholeK
import Derived.Shelf.SlSortCmp.NoneTotal
import Derived.Test.YtgkaeihkflnckaaGreatDoorProg
import Derived.RangeFuncBox
import Derived.RangeFuncLeaves
import Derived.Shelf.Abstract
import Derived.WalkKit
import Derived.OwnWalkIn
import Derived.TacticsInMore
import Derived.LoopNIn
import Derived.LoopIn
import Derived.Test.YtgkaeihkflnckaaGreatDoorG7
set_option maxRecDepth 100000
set_option maxHeartbeats 4000000
open Go Proofs Proofs.YtgkaeihkflnckaaGreatDoor Proofs.Tryz RowKit AM SpanLaw Q Zz
open Go.IntKind renaming i64→i6
namespace Go.AM
open Go.RowKit Go.Sort Go.Proofs
variable{dr:Prop}
def WX(xs:List zb)(i:Nat):zb:=xs.getD (if i<xs.length then i else 0) []
theorem kA{xs:List zb}(h:xs≠[])(i:Nat):WX xs i∈xs:=by
 have b:0<xs.length:=vm.2 h;have a:(if i<xs.length then i else 0)<xs.length:=by split<;>assumption
 unfold WX;rw[Kc,zl a];exact zj _
theorem OU{xs:List zb}{i:Nat}(h:i<xs.length):WX xs i=xs[i]:=by unfold WX;rw[zd h,Kc,zl h];rfl
def mS(cf:zb->zb->Int)(xs:List zb)(i j:Nat):Int:=cf (WX xs i) (WX xs j)
def ZS(cf:zb->zb->Int)(xs:List zb):Array Nat:=pdq (ltOf (mS cf xs)) (Array.range xs.length) 0 xs.length (Lib.bitLen xs.length) true true
def Wz(cf:zb->zb->Int)(xs:List zb):List zb:=if xs.length=0 then[]else(ZS cf xs).toList.map (WX xs)
structure Vf (cf:List O->List O->Int) (xs:List (List O)):Prop where
 irrefl:∀x∈xs,0<=cf x x
 trans:∀x∈xs,∀y∈xs,∀z∈xs,cf x y<0->cf y z<0->cf x z<0
 ntrans:∀x∈xs,∀y∈xs,∀z∈xs,0<=cf x y->0<=cf y z->0<=cf x z
section
variable{cf:zb->zb->Int}{xs:List zb}
theorem HS{i j:Nat}(h:ltOf (mS cf xs) i j=true):cf (WX xs i) (WX xs j)<0:=xG h
theorem mT{i j:Nat}(h:ltOf (mS cf xs) i j=false):0<=cf (WX xs i) (WX xs j):=Int.not_lt.1 (of_decide_eq_false h)
theorem OV{i j:Nat}(h:cf (WX xs i) (WX xs j)<0):ltOf (mS cf xs) i j=true:=Em h
theorem HT{i j:Nat}(h:0<=cf (WX xs i) (WX xs j)):ltOf (mS cf xs) i j=false:=decide_eq_false (Int.not_lt.2 h)
theorem Vf.swo(h:Vf cf xs)(a:xs≠[]):SWO (ltOf (mS cf xs)) where
 irrefl i:=HT (h.irrefl _ (kA a i))
 trans i j k b c:=OV (h.trans _ (kA a i) _ (kA a j) _ (kA a k) (HS b) (HS c))
 ntrans i j k b c:=HT (h.ntrans _ (kA a i) _ (kA a j) _ (kA a k) (mT b) (mT c))
theorem KI(h:Vf cf xs)(a:xs≠[]):PermIn 0 xs.length (Array.range xs.length) (ZS cf xs)/\SortedIn (ltOf (mS cf xs)) 0 xs.length (ZS cf xs):=
 pdq_sorts (ltOf (mS cf xs)) (h.swo a) (Array.range xs.length) 0 xs.length (Lib.bitLen xs.length) true true (vA _) (by simp) (Or.inl rfl)
theorem KJ(h:Vf cf xs)(a:xs≠[]):(ZS cf xs).size=xs.length:=by have:=(KI h a).1.1;simpa using this
theorem bG(h:Vf cf xs):(Wz cf xs).Perm xs:=by
 unfold Wz;split
 ·rename_i a;have:xs=[]:=qy.1 a;subst this;exact .refl _
 ·rename_i a;have c:xs≠[]:=by rintro rfl;simp at a
  obtain⟨k,_,d⟩:=(KI h c).1;have hs:=KJ h c;have f:(ZS cf xs).extract 0 xs.length=ZS cf xs:=by rw[<-hs];simp
  have g:(Array.range xs.length).extract 0 xs.length=Array.range xs.length:=by
   conv=>lhs;rw[show xs.length=(Array.range xs.length).size by simp]
   simp
  rw[f,g]at d;have e:=d.map (WX xs);have j:(Array.range xs.length).toList.map (WX xs)=xs:=by
   apply List.ext_getElem
   ·simp
   ·intro i hi b;simp[OU b]
  rw[j]at e;exact e
theorem uz(h:Vf cf xs):(Wz cf xs).Pairwise (fun x y=>0<=cf y x):=by
 unfold Wz;split
 ·exact List.Pairwise.nil
 ·rename_i e;have c:xs≠[]:=by rintro rfl;simp at e
  have hs:=KJ h c;have f:=(KI h c).2;rw[List.pairwise_map,vI];intro i j hi a b;have d:=f i j (vA _) b (by simp at a;omega);simp at hi a;rw[yn _ i hi,yn _ j a]at d;simpa using mT d
theorem uA(h:Vf cf xs):(Wz cf xs).length=xs.length:=(bG h).length_eq
end
def OW(P:Program)(f k:Nat):Prop:=
 (∀(α:Type) [Inhabited α] (V:α->List Value) (_:∀x,(V x).length=k) (_:∀x,∀v∈V x,v.oneCell'=true) (cf:α->α->Int) (_:SWO (ltOf cf)) (g:Nat) (blk off cap:Nat) (d:Array α) (w:World)
  (_:∀args w,(callFunc g args).run P w=.ok (.enter g args) w) (_:CmpLays P g #[] V k cf blk off d.size w) (_:HoldsK V k w blk off d) (_:blk<w.heap.size) (_:d.size<4611686018427387904),
  Calls P f #[.slice (some ⟨blk,off,none⟩) d.size cap,.func (.func g) #[] #[]] w fun e w'=>
   e=.returned (.tuple #[])/\∃n a,w'=sortWorldK V k w blk off n (pdq (ltOf cf) d 0 d.size (Lib.bitLen d.size) true true) a) /\
 ∀(p:Option Addr) (cap:Nat) (b:Value) (w:World),Calls P f #[.slice p 0 cap,b] w fun e w'=>e=.returned (.tuple #[])/\w'=w
def zbe(P:Program)(g k:Nat)(cf:zb->zb->Int)(dom:zb->Prop):Prop:=
 (∀args w,(callFunc g args).run P w=.ok (.enter g args) w)/\∃a,zg P g a/\∀x y,x.length=k->y.length=k->dom x->dom y->a [.agg x,.agg y] (fun _=>none) 0=some (.v (.int .i64 (cf x y)),fun _=>none,0)
open Classical in
noncomputable def mU (k:Nat) (g:Nat) (cf:zb->zb->Int) (dom:zb->Prop):AM.Spec:=fun args Y Z=>
 match args with
 |[.nil,.fn _ _ _]=>some (.wG [],Y,Z)
 |[.own id off n,.fn (.func a) [] []]=>if n=0 then some (.wG [],Y,Z)else match Y id with
  |some b=>if a=g/\b.arr=true/\b.s=k/\off+n<=b.es.length/\n<4611686018427387904/\Vf cf ((b.es.drop off).take n)/\∀x∈(b.es.drop off).take n,dom x then
    some (.wG [],qv Y id (some ⟨b.e,b.s,b.arr,b.es.take off++Wz cf ((b.es.drop off).take n)++b.es.drop (off+n)⟩),Z)else none
  |none=>none
 |_=>none
theorem FN{W w':World}(h:Fr True W (fun _=>False) w'):∃q c,w'=grow (W.drewN q) c:=by
 refine⟨w'.drawn-W.drawn,w'.heap.extract W.heap.size w'.heap.size,?_⟩;obtain⟨a,e,d,n,b⟩:=w';obtain⟨f,g,j,m,k,l⟩:=h;simp only at f g j m k l;unfold grow World.drewN;simp only[World.mk.injEq];refine⟨?_,g,by have:=k trivial;omega,f,j⟩;apply Array.ext_getElem?;intro i;by_cases hi:i<W.heap.size
 ·rw[l i hi (fun h=>h),vg hi]
 ·rw[Array.getElem?_append_right (by omega),Array.getElem?_extract];by_cases o:i<a.size
  ·rw[zd (by omega)];congr 1;omega
  ·rw[zc (by omega),Array.getElem?_eq_none (by omega)]
theorem kx.grown{P:Program}{Y:Hp}{Z:Nat}{S:Nat->Prop}{G:Nat->GI}{w w':World}(h:Inv P w S G Y Z)(c:Fr dr w (fun _=>False) w'):kx dr P Y Z S G w Y Z S G w':=by
 have d:∀b,b<w.heap.size->w'.heap[b]?=w.heap[b]?:=fun b a=>c.block b a (fun h=>h)
 refine⟨⟨fun b a=>yb (h.st b a) c.size,h.top,fun id b a=>?_,h.apart,h.inj,h.iQ.mono fun b a=>⟨a,d b (h.st b a)⟩⟩,zf _,fun _ _=>rfl,fun _ a=>a,fun _ a=>.inl a,fun id b a=>.inl ⟨id,b,a,rfl⟩,⟨c.os,c.tape,c.output,c.size,c.drawn,fun k f _=>c.block k f (fun h=>h)⟩⟩;have e:=h.live id b a;exact e.mono (fun b a=>⟨a,d b (h.st b a)⟩) (zf _) (fun _ _=>rfl) (d _ e.lt)
theorem KK{α:Type}[Inhabited α](V:α->List Value)(k:Nat)(w:World)(blk off m:Nat)(d:Array α)(a:Array Obj):Fr dr (putRowK V k w blk off d) (fun _=>False) (sortWorldK V k w blk off m d a):=by
 refine⟨rfl,rfl,rfl,?_,fun _=>?_,fun b c _=>?_⟩
 ·show _<=(_++a).size;rw[QF];exact Nat.le_add_right _ _
 ·exact Nat.le_add_right _ _
 ·exact vg c
theorem Wj{α:Type}[Inhabited α](V:α->List Value)(k:Nat)(w:World)(blk off:Nat)(d:Array α){a:Array Value}{e:TypeId}(h:w.heap[blk]?=some (.cells a e (0,0))) :
  putRowK V k w blk off d=w.setRow blk (putCells (fun v:Value=>v) off (flatK V k d) a):=by
 unfold putRowK putRow mapBlock World.setRow;congr 1;apply Array.ext_getElem?;intro i;simp only[vR];by_cases hi:blk=i
 ·subst hi;simp only[qH,h,zC,onCells];rfl
 ·simp[hi]
section
variable{P:Program}{f k g:Nat}{cf:zb->zb->Int}{dom:zb->Prop}
theorem Ce(h0:0<k)(hfn:∃fn,P.funcs[f]?=some fn/\(fn.name== "runtime.NumGoroutine")=false/\fn.body.isNone=false)(hso:OW P f k)(hco:zbe P g k cf dom):kq dr P f (mU k g cf dom):=by
 refine⟨hfn,?_⟩;intro args Y Z r Y' Z' h w S G vs hi hz;unfold mU at h;split at h
 ·injection h with h;injection h with e1 h;injection h with e2 e3;subst e1;subst e2;subst e3;obtain⟨u,us,rfl,hu,z⟩:=hz.jC;obtain⟨v,us,rfl,hv,z⟩:=z.jC;obtain rfl:=z.WO;obtain rfl:=hu.Zj;refine(hso.2 none 0 v w).mono fun e w' hh=>?_
  obtain⟨rfl,rfl⟩:=hh;exact⟨_,_,_,rfl,.refl hi,jL⟩
 ·rename_i id off n g';obtain⟨u,us,rfl,hu,z⟩:=hz.jC;obtain⟨v,us,rfl,hv,z⟩:=z.jC;obtain rfl:=z.WO;have o:=hu.xh;obtain⟨cap,g1,g2,g3,g4,rfl⟩:=hu.vK;split at h
  ·rename_i hn0;subst hn0;injection h with h
   injection h with e1 h;injection h with e2 e3;subst e1;subst e2;subst e3;refine(hso.2 _ cap v w).mono fun e w' hh=>?_
   obtain⟨rfl,rfl⟩:=hh;exact⟨_,_,_,rfl,.refl hi,jL⟩
  rename_i hn0;split at h
  case h_2=>cases h
  rename_i b hb;split at h
  case isFalse=>cases h
  rename_i hc;obtain⟨rfl,harr,hbk,X,hn,hW,M⟩:=hc;injection h with h
  injection h with e1 h;injection h with e2 e3;subst e1;subst e2;subst e3;have d:=hi.live id b hb;obtain⟨us,ts,rfl,hus,hts,_,_⟩:=hv.AR;obtain rfl:us=#[]:=Array.eq_empty_of_size_eq_zero (by simpa using hus.symm);obtain rfl:ts=#[]:=Array.eq_empty_of_size_eq_zero (by simpa using hts.symm);have A:(G id).s=k:=by rw[<-d.bs];exact hbk
  obtain⟨N,c1,c2,c3⟩:=d.row o;rw[A]at c3 g4;obtain⟨xs,Q⟩:=jc ((b.es.drop off).take n);rw[Q]at hW M;have H:xs.length=n:=by rw[<-Q];simp;omega
  have I:xs≠[]:=by rintro rfl;simp at H;omega
  have B:∀x∈xs,x.length=k:=fun x I=>by rw[<-A];rw[<-Q]at I;exact d.len o x (List.mem_of_mem_drop (zgf I))
  have hxg:∀i,i<n->xs[i]?=b.es[off+i]?:=fun i hi=>by rw[<-Q,qu,zd hi,qN]
  let ix:Nat->Nat:=fun i=>if i<n then i else 0
  have hix:∀i,ix i<n:=fun i=>by show(if i<n then i else 0)<n;split<;>omega
  have hel:∀i,xs[ix i]?=some (WX xs i):=fun i=>by
   unfold WX;rw[Kc];show xs[if i<n then i else 0]?=_;have:(if i<n then i else 0)<xs.length:=by rw[H];exact hix i
   rw[H,zl this];rfl
  let V:Nat->List Value:=fun i=>(List.range k).map fun j=>(N[(off+ix i)*k+j]?).getD undef
  have hek:∀x,(V x).length=k:=fun x=>by simp[V]
  have l:∀i j C,(WX xs i)[j]?=some C->∃u,N[(off+ix i)*k+j]?=some u/\(V i)[j]?=some u/\wJ w S C u/\u.oneCell'=true:=fun i j C hj=>by
   have J:j<k:=by have:=(zi.1 hj).1;rw[B _ (kA I i)]at this;exact this
   obtain⟨u,T,L⟩:=c3 (off+ix i) j (WX xs i) C (by rw[<-hxg _ (hix i)];exact hel i) hj;rw[harr]at L;refine⟨u,T,?_,L.1 rfl,L.2.2⟩;simp[V,J,T]
  have E:∀i j,j<k->∃C,(WX xs i)[j]?=some C:=fun i j hj=>by
   have:j<(WX xs i).length:=by rw[B _ (kA I i)];exact hj
   exact⟨_,zl this⟩
  have h1c:∀x,∀v∈V x,v.oneCell'=true:=fun x v hv=>by obtain⟨j,hj,rfl⟩:=qj.1 hv;obtain⟨C,hpv⟩:=E x j (yj.1 hj);obtain⟨u,T,_,_,q4⟩:=l x j C hpv;rw[T];exact q4
  have hblk:(G id).g<w.heap.size:=d.lt;have F:∀m D (p:Array Nat) K,S K->(sortWorldK V k w (G id).g (off*k) m p D).heap[K]?=w.heap[K]?:=fun m D p K a=>by
   have R:K<(putRowK V k w (G id).g (off*k) p).heap.size:=by rw[Wj V k w _ _ p c1,size_setRow];exact hi.st K a
   rw[(KK (dr:=True) V k w (G id).g (off*k) m p D).block K R (fun h=>h),Wj V k w _ _ p c1];exact setRow_other _ _ _ _ fun e=>hi.apart id b hb (e ▸ a)
  have zgj:∀m D (p:Array Nat),w.heap.size<=(sortWorldK V k w (G id).g (off*k) m p D).heap.size:=fun m D p=>by have:=(KK (dr:=True) V k w (G id).g (off*k) m p D).size;rw[Wj V k w _ _ p c1,size_setRow]at this;exact this
  obtain⟨eg,spec,hsp,SC⟩:=hco;have hcmp:CmpLays P g' #[] V k (mS cf xs) (G id).g (off*k) n w:=by
   intro m D p hdk x y;have hagg:∀x,wJ (sortWorldK V k w (G id).g (off*k) m p D) S (.agg (WX xs x)) (.agg (V x).toArray):=fun x=>by
    refine .agg (by simp[hek,B _ (kA I x)]) fun j C u hj hu=>?_
    obtain⟨u',_,L,q3,_⟩:=l x j C hj;have:u=u':=by simpa[L]using hu.symm
    subst this;exact q3.mono fun K a=>⟨a,F m D p K a⟩
   have:=hsp.2 _ _ _ _ _ _ (SC _ _ (B _ (kA I x)) (B _ (kA I y)) (M _ (kA I x)) (M _ (kA I y))) (sortWorldK V k w (G id).g (off*k) m p D) S G [.agg (V x).toArray,.agg (V y).toArray]
    ⟨fun K a=>yb (hi.st K a) (zgj m D p),fun _ _ h=>(nomatch h),fun _ _ h=>(nomatch h),fun _ _ h=>(nomatch h),fun _ _ _ _ h=>(nomatch h),hi.iQ.mono fun K a=>⟨a,F m D p K a⟩⟩ (.cons (.c (hagg x)) (.cons (.c (hagg y)) .nil))
   refine this.mono fun e w' hh=>?_
   obtain⟨v,S',G',rfl,st,hv⟩:=hh;obtain⟨rfl,_⟩:=hv.w8;refine⟨rfl,FN ⟨st.fr.os,st.fr.tape,st.fr.output,st.fr.size,st.fr.drawn,fun k hk _=>st.fr.block k hk ?_⟩⟩;rintro⟨_,_,h,_⟩;cases h
  have hH:HoldsK V k w (G id).g (off*k) (Array.range n):=by
   intro t ht;have ht':t<n*k:=by simpa using ht
   have hd:=Nat.div_add_mod t k;have hm:=Nat.mod_lt t h0;have hdl:t/k<n:=(Nat.div_lt_iff_lt_mul h0).2 ht';rw[get_flatK _ _ _ _ (by simpa using ht')];have hr:(Array.range n)[t/k]! = t/k:=by rw[yn _ _ (by simpa using hdl)];simp
   obtain⟨C,hpv⟩:=E (t/k) (t % k) hm;obtain⟨u,T,L,_,_⟩:=l (t/k) (t % k) C hpv;have hixe:ix (t/k)=t/k:=zd hdl;constructor
   ·rw[zbI w _ _ N _ _ c1,hr,List.getElem!_eq_getElem?_getD,L];rw[hixe]at T;have:off*k+t=(off+t/k)*k+t % k:=by rw[qI,zaB (t/k) k];omega
    rw[this,T];rfl
   ·simp[World.frozen?,c1]
  have hsw:=hW.swo I;have key:=hso.1 Nat V hek h1c (mS cf xs) hsw g' (G id).g (off*k) cap (Array.range n) w eg (by simpa using hcmp) hH hblk (by simpa using hn);have es1:(Array.range n).size=n:=by simp
  rw[es1]at key;rw[A];refine key.mono fun e w' hh=>?_
  obtain⟨rfl,m,D,rfl⟩:=hh;have hidx:pdq (ltOf (mS cf xs)) (Array.range n) 0 n (Lib.bitLen n) true true=ZS cf xs:=by unfold ZS;rw[H]
  rw[hidx];have hds:(ZS cf xs).size=n:=by rw[KJ hW I,H]
  have hsl:(Wz cf xs).length=n:=by rw[uA hW,H]
  have hpl:off+(Wz cf xs).length<=b.es.length:=by rw[hsl];exact X
  have hsg:∀i,i<n->(Wz cf xs)[i]?=some (WX xs (ZS cf xs)[i]!):=fun i hin=>by unfold Wz;rw[zc (by omega),qo,ia,yn _ i (by omega),Qf (by omega)];rfl
  refine⟨_,S,G,rfl,?_,jL⟩;rw[Q];have o1:=kx.set (dr:=dr) hi hb o (putCells (fun v:Value=>v) (off*k) (flatK V k (ZS cf xs)) N) (b.es.take off++Wz cf xs++b.es.drop (off+n)) (by simp[putCells,c2])
   (fun c hc=>by
    rw[qM]at hc;rcases zM.1 hc with hc|hc
    ·exact d.len o c (zgf hc)
    rcases zM.1 hc with hc|hc
    ·rw[A];exact B c ((bG hW).mem_iff.1 hc)
    ·exact d.len o c (List.mem_of_mem_drop hc))
   (by have:=We b.es (Wz cf xs) off hpl;rw[hsl]at this;rw[this];exact d.fit o)
   (fun i j c C q W=>by
    have hspl:=vo b.es (Wz cf xs) off i hpl;rw[hsl]at hspl;rw[hspl]at q;rw[A];split at q
    ·rename_i hin;rw[hsg _ (by omega)]at q;injection q with q
     subst q;have J:j<k:=by have:=(zi.1 W).1;rw[B _ (kA I _)]at this;exact this
     obtain⟨u,T,L,q3,q4⟩:=l _ j C W;refine⟨u,?_,fun _=>q3,.c q3,q4⟩;obtain⟨i',rfl⟩:∃i',i=off+i':=⟨i-off,by omega⟩;have e1:off+i'-off=i':=by omega
     rw[e1]at L;have e2:(off+i')*k+j=off*k+(i'*k+j):=by rw[qI];omega
     have R:i'*k+j<n*k:=kR (by omega) J;have hcl:off*k+(i'*k+j)<N.size:=by rw[c2];have:=d.fit o;rw[A]at this;have h5:(off+n)*k<=b.es.length*k:=zK k X;rw[qI]at h5;omega
     rw[e2];unfold putCells;rw[Array.getElem?_mapIdx,Qf hcl];simp only[zC,size_flatK,hds];rw[zd ⟨by omega,by omega⟩,show off*k+(i'*k+j)-off*k=i'*k+j by omega,get_flatK _ _ _ _ (by rw[hds];exact R)];have e3:(i'*k+j)/k=i':=by rw[zaB,Nat.mul_add_div h0,Nat.div_eq_of_lt J];rfl
     have e4:(i'*k+j) % k=j:=by rw[zaB,Nat.mul_add_mod,Nat.mod_eq_of_lt J]
     rw[e3,e4,List.getElem!_eq_getElem?_getD,L];rfl
    ·rename_i hin;obtain⟨u,T,L⟩:=c3 i j c C q W;refine⟨u,?_,L⟩;have J:j<k:=by have:=(zi.1 W).1;rw[d.len o c (zG q),A]at this;exact this
     unfold putCells;rw[Array.getElem?_mapIdx,T];simp only[zC,size_flatK,hds];rw[zc];rintro⟨a1,a2⟩;apply hin;constructor
     ·apply Nat.not_lt.1;intro R;have:(i+1)*k<=off*k:=zK k R;rw[qI]at this;omega
     ·apply Nat.not_le.1;intro hle;have:(off+n)*k<=i*k:=zK k hle;rw[qI]at this;omega)
  rw[<-Wj V k w _ _ _ c1]at o1;exact o1.trans (kx.grown o1.inv (KK V k w (G id).g (off*k) m (ZS cf xs) D))
 ·cases h
end
end Go.AM
namespace Go.Q
open Classical in
noncomputable def OX (x y:zb):Int:=if h:∃a b:Cut,x=a.V/\y=b.V then wb (Classical.choose h) (Classical.choose (jr h))else 0
theorem Yo(a b:Cut):OX a.V b.V=wb a b:=by have h:∃c d:Cut,a.V=c.V/\b.V=d.V:=⟨a,b,rfl,rfl⟩;unfold OX;rw[zg7 h];have e:=jr (jr h);exact congr (zr wb (Zf e.1).symm) (Zf e.2).symm
def wc(l:List Cut):List zb:=l.map Cut.V
theorem OY(l:List Cut):Vf OX (wc l) where
 irrefl x d:=by obtain⟨a,_,rfl⟩:=qj.1 d;rw[Yo,wj.refl];exact zgg _
 trans x d y e z f:=by obtain⟨a,_,rfl⟩:=qj.1 d;obtain⟨b,_,rfl⟩:=qj.1 e;obtain⟨c,_,rfl⟩:=qj.1 f;rw[Yo,Yo,Yo];exact wj.trans
 ntrans x d y e z f:=by obtain⟨a,_,rfl⟩:=qj.1 d;obtain⟨b,_,rfl⟩:=qj.1 e;obtain⟨c,_,rfl⟩:=qj.1 f;rw[Yo,Yo,Yo];exact wj.ntrans
def T3(x:zb):Prop:=∃a:Cut,x=a.V/\a.v.small
theorem zcB:zbe prog 216 5 OX T3:=by
 refine⟨fun args w=>?_,_,xB,fun x y _ _ c d=>?_⟩
 ·have h:prog.funcs[216]?=some f216:=func216;simp[callFunc,h,f216]
 ·obtain⟨a,rfl,e⟩:=c;obtain⟨b,rfl,f⟩:=d;rw[Yo];exact ZD a b _ _ e f
open Classical in
noncomputable def FO (x:zb):Cut:=if h:∃a:Cut,x=a.V then Classical.choose h else qU
theorem OZ(a:Cut):FO a.V=a:=by have h:∃c:Cut,a.V=c.V:=⟨a,rfl⟩;unfold FO;rw[zg7 h];exact(Zf (jr h)).symm
theorem VZ(l:List Cut):(wc l).map FO=l:=by
 induction l with
 |nil=>rfl
 |cons a l b=>show FO a.V::(wc l).map FO=_;rw[OZ,b]
theorem V1(l:List Cut):∃s:List Cut,Wz OX (wc l)=wc s/\s.Perm l/\s.Pairwise fun a b=>wb a b<=0:=by
 have Y:=bG (OY l);have hs:=uz (OY l);have c:∀(r:List zb),(∀x∈r,∃a:Cut,x=a.V)->∃s:List Cut,r=wc s:=by
  intro r
  induction r with
  |nil=>intro _;exact⟨[],rfl⟩
  |cons x r d=>
   intro h;obtain⟨a,rfl⟩:=h x (by simp);obtain⟨s,rfl⟩:=d fun y f=>h y (by simp[f])
   exact⟨a::s,rfl⟩
 obtain⟨s,e⟩:=c (Wz OX (wc l)) fun x g=>by have:=Y.mem_iff.1 g;obtain⟨a,_,rfl⟩:=qj.1 this;exact⟨a,rfl⟩
 rw[e]at Y hs;refine⟨s,e,?_,?_⟩
 ·have:=Y.map FO;rwa [VZ,VZ]at this
 ·rw[wc,List.pairwise_map]at hs;refine hs.imp fun{a b} h=>?_
  rw[Yo]at h;exact(wj.le a b).2 h
end Go.Q
namespace Go.Q
def Qu(out:List qK)(c:Cut):List qK:=match out.getLast? with
 |some s=>out.dropLast++[⟨s.lo,c,false⟩]
 |none=>out
def aU(a:Cut->Bool)(st:Bool×List qK)(c:Cut):Bool×List qK:=(a c,if(a c&&!st.1)=true then st.2++[w5 c]else if(!a c&&st.1)=true then Qu st.2 c else st.2)
theorem LK(a:Cut->Bool)(st:Bool×List qK)(c:Cut):aU a (aU a st c) c=aU a st c:=by unfold aU;cases a c<;>simp
def Vo(a:Cut->Bool)(l:List Cut)(st:Bool×List qK):Bool×List qK:=l.foldl (aU a) st
open Classical in
noncomputable def cV:List Cut->List Cut
 |[]=>[]
 |a::l=>match cV l with
  |[]=>[a]
  |b::r=>if a=b then b::r else a::b::r
theorem mV(c:Cut->Bool):∀(l:List Cut) (st:Bool×List qK),Vo c l st=Vo c (cV l) st
 |[],st=>rfl
 |a::l,st=>by
  have d:=mV c l (aU c st a);show Vo c l (aU c st a)=_;rw[d];simp only[cV];split
  ·rename_i e;rw[e];rfl
  ·rename_i b r e;rw[e];split
   ·rename_i h;subst h;show Vo c r (aU c (aU c st a) a)=Vo c r (aU c st a);rw[LK]
   ·rfl
theorem fe:∀(l:List Cut) (c:Cut),c∈cV l↔c∈l
 |[],c=>by simp[cV]
 |a::l,c=>by
  have d:=fe l c;simp only[cV];split
  ·rename_i e;rw[e]at d;simp only[zv,K9,or_false];rw[<-d];simp
  ·rename_i b r e;rw[e]at d;split
   ·rename_i h;subst h;rw[zv (b:=a) (l:=l),<-d];simp
   ·rw[zv,zv (b:=a) (l:=l),d]
theorem cW:∀(l:List Cut) (_:∀a∈l,∀b∈l,wb a b=0->a=b),(l.Pairwise fun a b=>wb a b<=0)->(cV l).Pairwise fun a b=>wb a b<0
 |[],_,_=>.nil
 |a::l,j,hs=>by
  obtain⟨m,n⟩:=wV.1 hs;have f:=cW l (fun x o y p=>j x (by simp[o]) y (by simp[p])) n;simp only[cV];split
  ·simp
  ·rename_i b r e;rw[e]at f;split
   ·exact f
   ·rename_i g;refine wV.2 ⟨fun c i=>?_,f⟩;have k:b∈l:=(fe l b).1 (by rw[e];simp);have d:wb a b<0:=by
     rcases ZM (m b k)with h|h
     ·exact h
     ·exact absurd (j a (by simp) b (by simp[k]) h) g
    rcases zv.1 i with rfl|i
    ·exact d
    ·exact wj.trans d ((wV.1 f).1 c i)
theorem se:∀(x y:List Cut),(x.Pairwise fun a b=>wb a b<0)->(y.Pairwise fun a b=>wb a b<0)->(∀c,c∈x↔c∈y)->x=y
 |[],[],_,_,_=>rfl
 |[],b::y,_,_,h=>absurd ((h b).2 (by simp)) (by simp)
 |a::x,[],_,_,h=>absurd ((h a).1 (by simp)) (by simp)
 |a::x,b::y,l,m,h=>by
  obtain⟨j,n⟩:=wV.1 l;obtain⟨k,o⟩:=wV.1 m;have d:∀c:Cut,¬wb c c<0:=fun c=>by rw[wj.refl];omega
  have i:a=b:=by
   rcases zv.1 ((h a).1 (by simp))with e|p
   ·exact e
   ·rcases zv.1 ((h b).2 (by simp))with e|q
    ·exact e.symm
    ·exact absurd (wj.trans (j b q) (k a p)) (d a)
  subst i;rw[se x y n o fun c=>?_];constructor
  ·intro g;rcases zv.1 ((h c).1 (by simp[g]))with e|f
   ·subst e;exact absurd (j c g) (d c)
   ·exact f
  ·intro g;rcases zv.1 ((h c).2 (by simp[g]))with e|f
   ·subst e;exact absurd (k c g) (d c)
   ·exact f
def qW:List qK->List Cut
 |[]=>[]
 |s::l=>(if s.yv=true then[s.lo]else[s.lo,s.hi])++qW l
theorem Wk(a b:List qK):qW (a++b)=qW a++qW b:=by
 induction a with
 |nil=>rfl
 |cons s a c=>simp only[q6,qW,c,qM]
theorem ZY(a:List qK):(qW a).length<=2*a.length:=by
 induction a with
 |nil=>simp[qW]
 |cons s a b=>simp only[qW,zL,zO];split<;>simp<;>omega
theorem YL{Q:Cut->Prop}{a:List qK}(h:∀s∈a,Q s.lo/\Q s.hi):∀c∈qW a,Q c:=by
 induction a with
 |nil=>intro c hc;cases hc
 |cons s a d=>
  intro c hc;obtain⟨b,e⟩:=h s (by simp);simp only[qW,zM]at hc;rcases hc with hc|hc
  ·split at hc
   ·rw[wM]at hc;rw[hc];exact b
   ·simp only[zv,K9,or_false]at hc;rcases hc with rfl|rfl
    ·exact b
    ·exact e
  ·exact d (fun x f=>h x (by simp[f])) c hc
noncomputable def Qv (l:List Cut):List Cut:=(Wz OX (wc l)).map FO
theorem FQ(l:List Cut):Wz OX (wc l)=wc (Qv l):=by obtain⟨s,h,_⟩:=V1 l;unfold Qv;rw[h,VZ]
theorem xR(l:List Cut):(Qv l).Perm l:=by obtain⟨s,h,a,_⟩:=V1 l;unfold Qv;rw[h,VZ];exact a
theorem pz(l:List Cut):(Qv l).Pairwise fun a b=>wb a b<=0:=by obtain⟨s,h,_,c⟩:=V1 l;unfold Qv;rw[h,VZ];exact c
noncomputable def kB (f:Bool->Bool->Bool) (a b:List qK):List qK:=(Vo (fun c=>f (yl a c) (yl b c)) (Qv (qW a++qW b)) (false,[])).2
theorem Cf(out:List qK)(c:Cut):(Qu out c).length=out.length:=by
 unfold Qu;split
 ·rename_i s h;have:out≠[]:=by rintro rfl;cases h
  have:=vm.2 this;simp;omega
 ·rfl
theorem HU(a:Cut->Bool):∀(l:List Cut) (st:Bool×List qK),2*(Vo a l st).2.length+(if st.1=true then 1 else 0)<=2*st.2.length+l.length+(if(Vo a l st).1=true then 1 else 0)
 |[],st=>by show 2*st.2.length+(if st.1=true then 1 else 0)<=2*st.2.length+0+(if st.1=true then 1 else 0);omega
 |c::l,st=>by
  have b:=HU a l (aU a st c);have e:Vo a (c::l) st=Vo a l (aU a st c):=rfl;rw[e];have hs:2*(aU a st c).2.length+(if st.1=true then 1 else 0)<=2*st.2.length+1+(if(aU a st c).1=true then 1 else 0):=by obtain⟨o,out⟩:=st;unfold aU;cases a c<;>cases o<;>simp[Cf]<;>omega
  simp only[zO];omega
theorem Yx(f:Bool->Bool->Bool)(a b:List qK):(kB f a b).length<=a.length+b.length:=by have h:=HU (fun c=>f (yl a c) (yl b c)) (Qv (qW a++qW b)) (false,[]);have d:=(xR (qW a++qW b)).length_eq;have e:=ZY a;have g:=ZY b;rw[zL]at d;unfold kB;simp only[zF,qR,yV]at h;split at h<;>omega
theorem Cg{Q:Cut->Prop}{out:List qK}{c:Cut}(h:∀s∈out,Q s.lo/\Q s.hi)(b:Q c):∀s∈Qu out c,Q s.lo/\Q s.hi:=by
 unfold Qu;split
 ·rename_i s hs;intro x a;rcases zM.1 a with a|a
  ·exact h x (List.dropLast_subset _ a)
  ·rw[wM]at a;rw[a];exact⟨(h s (List.mem_of_getLast? hs)).1,b⟩
 ·exact h
theorem HV{Q:Cut->Prop}(b:Q QM)(a:Cut->Bool):∀(l:List Cut) (st:Bool×List qK),(∀c∈l,Q c)->(∀s∈st.2,Q s.lo/\Q s.hi)->∀s∈(Vo a l st).2,Q s.lo/\Q s.hi
 |[],st,_,h=>h
 |c::l,st,d,h=>by
  refine HV b a l (aU a st c) (fun x f=>d x (by simp[f])) ?_;have e:=d c (by simp);unfold aU;dsimp only;split
  ·intro s hs;rcases zM.1 hs with hs|hs
   ·exact h s hs
   ·rw[wM]at hs;rw[hs];exact⟨e,b⟩
  ·split
   ·exact Cg h e
   ·exact h
theorem sf{Q:Cut->Prop}(d:Q QM)(f:Bool->Bool->Bool){a b:List qK}(e:∀s∈a,Q s.lo/\Q s.hi)(g:∀s∈b,Q s.lo/\Q s.hi):∀s∈kB f a b,Q s.lo/\Q s.hi:=
 HV d _ _ _ (fun c i=>by
  have:=(xR _).mem_iff.1 i;rcases zM.1 this with h|h
  ·exact YL e c h
  ·exact YL g c h) (fun s hs=>by cases hs)
end Go.Q
namespace Go.AM
variable{dr:Prop}
def ff(p:List (Option Nat))(b:kv):kv:=⟨b.e,b.s,b.arr,b.es.map (QJ p)⟩
theorem vT.fixed{P:Program}{w:World}{S:Nat->Prop}{G:Nat->GI}{Z:Nat}{g:GI}{b:kv}(h:vT P w S G Z g b)(e:0<g.s)(o:b.arr=true)(p:List (Option Nat)):vT P w S G Z g (ff p b):=by
 refine vT.vJ e h.bs ⟨h.size e,fun c q=>?_,by simpa[ff]using h.fit e,?_⟩
 ·obtain⟨a,d,rfl⟩:=qj.1 q;rw[vW];exact h.len e a d
 ·obtain⟨k,r,t,v⟩:=h.row e;refine⟨k,r,t,fun i j c A hi l=>?_⟩;simp only[ff,qo]at hi;obtain⟨a,d,rfl⟩:∃a,b.es[i]?=some a/\QJ p a=c:=by
   cases m:b.es[i]? with
   |none=>rw[m]at hi;cases hi
   |some a=>rw[m]at hi;injection hi with hi;exact⟨a,rfl,hi⟩
  have f:j<a.length:=by have:=(zi.1 l).1;rwa [vW]at this
  obtain⟨u,x,y,_,z⟩:=v i j a a[j] d (zl f);have n:=(Ze p a).get (zl f) l _ _ _ (y o);exact⟨u,x,fun _=>n,.c n,z⟩
theorem kx.fixed{P:Program}{Y:Hp}{Z:Nat}{S:Nat->Prop}{G:Nat->GI}{w:World}{Y2:Hp}{g:Nat}{m:Nat->Prop}{j:Nat->GI}{n:World}(k:kx dr P Y Z S G w Y2 g m j n)
  {id:Nat} {b:kv} (o:Y2 id=some b) (r:b.arr=true) (t:0<(j id).s) (p:List (Option Nat)):kx dr P Y Z S G w (qv Y2 id (some (ff p b))) g m j n:=by
 have d:∀k c,qv Y2 id (some (ff p b)) k=some c->∃f,Y2 k=some f:=fun k c q=>by
  by_cases e:k=id
  ·subst e;exact⟨b,o⟩
  ·rw[qO _ _ _ _ e]at q;exact⟨c,q⟩
 refine⟨⟨k.inv.st,fun i c a=>?_,fun i c a=>?_,fun i c a=>?_,fun i i' c u a l v=>?_,k.inv.iQ⟩,k.up,k.loc,k.keep,k.from_,fun i c a=>?_,k.fr⟩
 ·obtain⟨f,h⟩:=d i c a;exact k.inv.top i f h
 ·by_cases e:i=id
  ·subst e;rw[wQ]at a;injection a with a
   subst a;exact(k.inv.live i b o).fixed t r p
  ·rw[qO _ _ _ _ e]at a;exact k.inv.live i c a
 ·obtain⟨f,h⟩:=d i c a;exact k.inv.apart i f h
 ·obtain⟨f,h⟩:=d i c a;obtain⟨x,y⟩:=d i' u l;exact k.inv.inj i i' f x h y v
 ·obtain⟨f,h⟩:=d i c a;exact k.own i f h
def vE(a:List Sh)(F:zb->Option (Option kv)):AM.Spec:=yR [] fun args=>F (cF a args)
def Ch(p:List (Option Nat))(r:Option kv)(x:O)(Y:Hp)(_:Nat):Prop:=match r with
 |none=>x=.nil
 |some b=>∃id a,x=.own id 0 a.es.length/\Y id=some a/\a.arr=true/\b=ff p a
section
variable{C:Ctx}{pf:FuncId->Bool}{f:FuncId}{fn:Func}{code:Code}
theorem Jz(W:xa dr C pf)(l:QZ C pf f fn)(z:List Sh)(p:List (Option Nat))(F:zb->Option (Option kv))(hF:∀args r,F args=some r->args.length<=fn.ntmps/\∃x Y Z,jF C fn args (fun _=>none) 0=some (x,Y,Z)/\Ch p r x Y Z) :
  kq dr C.P f (vE z F):=by
 obtain⟨_,l⟩:=l;refine⟨⟨fn,l.func,l.name,by rw[l.body];rfl⟩,?_⟩;intro args Y Z r Y' Z' h w S G vs hi hz;unfold vE yR at h;split at h
 ·rename_i aZ Y1 A;obtain⟨S1,g,t,_⟩:=jh (dr:=dr) hi A hz;have j:∀id b,Y1 id=some b->Y1 id=some b/\¬False:=fun id b h=>⟨h,fun h=>h⟩
  split at h
  ·rename_i m;obtain⟨B,x,E,H,n,d⟩:=hF _ none m;injection h with h
   injection h with I h;injection h with J K;subst I;subst J;subst K;simp only[Ch]at d;subst d;refine(ZV W l n B g.inv.st g.inv.iQ (JO (Wv t))).mono fun e w' L=>?_
   obtain⟨v,S',G',M,N,a,Q,o,q,_⟩:=L;have R:=eB (dr:=dr) (D:=fun _=>False) (Y2:=Y1) g.inv j (fun _ h=>h.elim) N a o (fun b T=>(q b T).imp (fun h=>h) .inr);have:=Q.Zj;subst this;exact⟨_,_,_,M,g.trans R,.c .nil⟩
  ·rename_i b m;obtain⟨B,x,E,H,n,d⟩:=hF _ (some b) m;injection h with h
   injection h with I h;injection h with J K;subst I;subst J;subst K;obtain⟨id,s,rfl,hid,k,rfl⟩:=d;refine(ZV W l n B g.inv.st g.inv.iQ (JO (Wv t))).mono fun e w' L=>?_
   obtain⟨v,S',G',M,N,a,Q,o,q,u⟩:=L;have R:=Bv (dr:=dr) (D:=fun _=>False) (Y2:=Y1) g.inv j (fun _ h=>h.elim) N a o (fun b T=>(q b T).imp (fun h=>h) .inr) hid k (.inr (u id s hid));have y:=Bw (Z:=Z) (G:=G) Q;have X:=R.fixed (id:=Z) (by simp) k y.xh p;rw[show qv (qv Y1 Z (some s)) Z (some (ff p s))=qv Y1 Z (some (ff p s)) by funext i;unfold qv;split<;>rfl]at X;refine⟨_,_,_,M,g.trans X,?_⟩;rw[show(ff p s).es.length=s.es.length by simp[ff]];exact y
  ·cases h
 ·cases h
end
end Go.AM
namespace Go.Proofs
open Go.Shelf
def Tryz.Nh:Go.Shelf.Ren:=⟨fun|6=>215|15=>51|14=>249|28=>102|29=>103|20=>278|21=>279|22=>280|23=>281|24=>282|25=>283|26=>284|27=>285|46=>294|47=>144|48=>145|49=>295|50=>296|57=>302|n=>n,fun|22=>219|24=>179|25=>222|3=>3|39=>83|0=>0|53=>119|55=>121|4=>4|46=>112|45=>111|50=>64|5=>5|9=>9|66=>144|70=>148|76=>193|77=>89|n=>n,fun|n=>n⟩
theorem Tryz.zbK:Go.Proofs.SlLaysF0.n6 prog Tryz.Nh:={
 mixed:=by kernel_rfl
 f6:=⟨f215.name,by decide,func215.trans (zr some (by kernel_rfl))⟩
 f14:=⟨f249.name,by decide,func249.trans (zr some (by kernel_rfl))⟩
 f15:=func51.trans (zr some (by kernel_rfl))
 f20:=⟨f278.name,by decide,func278.trans (zr some (by kernel_rfl))⟩
 f21:=⟨f279.name,by decide,func279.trans (zr some (by kernel_rfl))⟩
 f22:=⟨f280.name,by decide,func280.trans (zr some (by kernel_rfl))⟩
 f23:=⟨f281.name,by decide,func281.trans (zr some (by kernel_rfl))⟩
 f24:=⟨f282.name,by decide,func282.trans (zr some (by kernel_rfl))⟩
 f25:=⟨f283.name,by decide,func283.trans (zr some (by kernel_rfl))⟩
 f26:=⟨f284.name,by decide,func284.trans (zr some (by kernel_rfl))⟩
 f27:=⟨f285.name,by decide,func285.trans (zr some (by kernel_rfl))⟩
 f28:=func102.trans (zr some (by kernel_rfl))
 f29:=func103.trans (zr some (by kernel_rfl))
 f46:=⟨f294.name,by decide,func294.trans (zr some (by kernel_rfl))⟩
 f47:=func144.trans (zr some (by kernel_rfl))
 f48:=func145.trans (zr some (by kernel_rfl))
 f49:=⟨f295.name,by decide,func295.trans (zr some (by kernel_rfl))⟩
 f50:=⟨f296.name,by decide,func296.trans (zr some (by kernel_rfl))⟩
 f57:=⟨f302.name,by decide,func302.trans (zr some (by kernel_rfl))⟩
 t0:=underlying0
 a0:=isAgg0
 z0:=sizeOf0
 v0:=zeroValue0
 t3:=underlying3
 a3:=isAgg3
 z3:=sizeOf3
 v3:=zeroValue3
 t4:=underlying4
 a4:=isAgg4
 z4:=sizeOf4
 v4:=zeroValue4
 t5:=underlying5
 a5:=isAgg5
 z5:=sizeOf5
 v5:=zeroValue5
 t9:=underlying9
 a9:=isAgg9
 z9:=sizeOf9
 v9:=zeroValue9
 t22:=underlying219
 a22:=isAgg219
 z22:=sizeOf219
 v22:=zeroValue219
 t25:=underlying222
 a25:=isAgg222
 z25:=sizeOf222
 v25:=zeroValue222
 t39:=underlying83
 a39:=isAgg83
 z39:=sizeOf83
 v39:=zeroValue83
 t45:=underlying111
 a45:=isAgg111
 z45:=sizeOf111
 v45:=zeroValue111
 t46:=underlying112
 a46:=isAgg112
 z46:=sizeOf112
 v46:=zeroValue112
 t50:=underlying64
 a50:=isAgg64
 z50:=sizeOf64
 v50:=zeroValue64
 t53:=underlying119
 a53:=isAgg119
 z53:=sizeOf119
 v53:=zeroValue119
 t55:=underlying121
 a55:=isAgg121
 z55:=sizeOf121
 v55:=zeroValue121
 t66:=underlying144
 a66:=isAgg144
 z66:=sizeOf144
 v66:=zeroValue144
 t70:=underlying148
 a70:=isAgg148
 z70:=sizeOf148
 v70:=zeroValue148
 t76:=underlying193
 a76:=isAgg193
 z76:=sizeOf193
 v76:=zeroValue193
 t77:=underlying89
 a77:=isAgg89
 z77:=sizeOf89
 v77:=zeroValue89}
theorem Tryz.SD:OW prog 215 5:=⟨fun _ _ V e f h i g blk off cap d w j a k b c=>AnyQ.slices_SortFunc_eq Tryz.zbK 5 isAgg179 sizeOf179 V e f h i g #[] blk off cap d w j a k b c,
 fun p cap l w=>AnyF.slices_SortFunc_none Tryz.zbK p cap l w⟩
end Go.Proofs
namespace Go.Q
theorem mW:zg prog 215 (mU 5 216 OX T3):=
 Ce (by decide) ⟨_,func215,by kernel_rfl,by kernel_rfl⟩ Tryz.SD zcB
noncomputable def FBB (f:Bool->Bool->Bool):zb->Option O:=ql (α:=Bool×Bool) (fun a=>[qS a.1,qS a.2]) (fun _=>True) (fun a=>qS (f a.1 a.2))
theorem Cj(f:Bool->Bool->Bool)(a b:Bool)(Y:Hp)(Z:Nat):zh false [] (FBB f) [qS a,qS b] Y Z=some (qS (f a b),Y,Z):=
 Ja (a,b) _ _ rfl (fun x y e=>by obtain⟨c,d⟩:=x;obtain⟨g,h⟩:=y;simp only[zk,zI]at e;rw[Yu e.1,Yu e.2]) trivial (.inl rfl)
theorem Cl:zg prog 170 (zh false [] (FBB and)):=
 xy jG func170 false [] fun⟨a,b⟩ _=>⟨by simp[f170],_,zm rfl (by cases a<;>simp[wa,f170]),qb _⟩
theorem FT:zg prog 171 (zh false [] (FBB or)):=
 xy jG func171 false [] fun⟨a,b⟩ _=>⟨by simp[f171],_,zm rfl (by cases a<;>simp[wa,f171]),qb _⟩
theorem pA{Y:Hp}{Z:Nat}{v:O}{l:List Cut}(h:qT Y Z 179 5 v (wc l))(hs:∀c∈l,c.v.small)(m:l.length<4611686018427387904) :
  ∃b,mU 5 216 OX T3 [v,.fn (.func 216) [] []] Y Z=some (.wG [],b,Z)/\qT b Z 179 5 v (wc (Qv l))/\∀j,(∀n,v≠.own j 0 n)->b j=Y j:=by
 have a:(wc (Qv l)).length=(wc l).length:=by have:=(xR l).length_eq;simpa[wc]using this
 rcases h with⟨rfl,o⟩|⟨id,g,rfl,d⟩
 ·refine⟨Y,rfl,.inl ⟨rfl,?_⟩,fun _ _=>rfl⟩;rw[o]at a;exact qy.1 a
 ·by_cases f:(wc l).length=0
  ·refine⟨Y,by simp only[mU,zd f],?_,fun _ _=>rfl⟩;have i:wc l=[]:=qy.1 f;rw[i]at a d;have p:=qy.1 a;rw[i,p];exact .inr ⟨id,g,rfl,d⟩
  ·refine⟨qv Y id (some ⟨179,5,true,wc (Qv l)⟩),?_,.inr ⟨id,g,by rw[a],by simp⟩,fun j q=>zx _ _ _ _ fun e=>q (wc l).length (by subst e;rfl)⟩;unfold mU;simp only[zc f,d];rw[zd ⟨rfl,rfl,rfl,by simp,by simpa[wc]using m,by simpa using OY l,fun x k=>by simp only[ke,wF]at k;obtain⟨c,r,rfl⟩:=qj.1 k;exact⟨c,rfl,hs c r⟩⟩]
   simp[FQ]
theorem sg{c:zb}{s:qK}(h:QJ jn c=s.V):∃d k l m n o e,c=[int s.lo.v.a,int s.lo.v.b,int s.lo.v.c,d,qS s.lo.after,k,l,m,n,o,e]/\n1 1 d=.sl 1 (zy s.lo.v.pre)/\d.wZ=true:=by
 have f:=vW jn c;rw[h]at f;simp[qK.V,Cut.V]at f
 match c,f with
 |[B,C,D,i,E,p,q,r,t,u,g],_=>simp[qK.V,Cut.V]at h;obtain⟨w,x,y,j,z,F,G,H,I,J,A⟩:=h;subst w;subst x;subst y;subst z;refine⟨i,p,q,r,t,u,g,rfl,j,?_⟩;cases i<;>first|rfl|(simp[n1]at j)
theorem gD{out:List qK}{m:Nat}(b:m<out.length)(g:out.length=m+1)(c:Cut):Qu out c=out.set m ⟨out[m].lo,c,false⟩:=by
 unfold Qu;have a:out≠[]:=by rintro rfl;simp at b
 rw[List.getLast?_eq_some_getLast a];have d:out.getLast a=out[m]:=by rw[List.getLast_eq_getElem];congr 1;omega
 simp only[d];apply List.ext_getElem
 ·simp;omega
 ·intro i hi f;rw[List.getElem_set];split
  ·rename_i e;subst e;rw[List.getElem_append_right (by simp;omega)];simp
  ·rw[List.getElem_append_left (by simp at hi⊢;omega)];simp
theorem Cm(a:Cut->Bool)(st:Bool×List qK)(c:Cut)(h:st.1=true->st.2≠[]):(aU a st c).1=true->(aU a st c).2≠[]:=by obtain⟨o,out⟩:=st;unfold aU;cases a c<;>cases o<;>simp at h⊢<;>assumption
theorem V2(l:List qK)(c:Cut)(Y:Hp)(Z:Nat)(b:yE l)(d:c.v.small):qn [.s 11 jn,.g jm] (FRC fun l c=>qS (yl l c)) [.sl 11 (zW l),.agg c.V] Y Z=some (qS (yl l c),Y,Z):=
 vN (show zD Y [.sl 11 (zW l),.agg c.V]=some ([.sl 11 (zW l),.agg c.V],Y) by simp[Cut.V]) (by
  have e:(Sh.s 11 jn).fix (.sl 11 (zW l))=.sl 11 (zW l):=by simp only[Sh.oU,zW,zaD];congr 1
  have f:(Sh.g jm).fix (.agg c.V)=.agg c.V:=by simp[Cut.V]
  show FRC _ [(Sh.s 11 jn).fix (.sl 11 (zW l)),(Sh.g jm).fix (.agg c.V)]=_;rw[e,f];exact qF (V:=fun a:List qK×Cut=>[O.sl 11 (zW a.1),.agg a.2.V]) (a:=(l,c)) zcA ⟨b,d⟩) (.inl rfl)
noncomputable abbrev Ccmb:Ctx:=zR prog [(215,mU 5 216 OX T3),(217,qn [.s 11 jn,.g jm] (FRC fun l c=>qS (yl l c))),
 (170,zh false [] (FBB and)),(171,zh false [] (FBB or))]
theorem T4:AM.Good Ccmb (fun g=>[217].contains g):=qw mixed ⟨mW,by simp,uy,fun _=>yG _ _,Cl,by simp,FT,by simp,trivial⟩
theorem si{l:List qK}{k:Nat}(h:k<l.length):qW (l.take (k+1))=qW (l.take k)++(if l[k].yv=true then[l[k].lo]else[l[k].lo,l[k].hi]):=by rw[qq h,Wk];simp[qW]
theorem Cn(a:Cut->Bool){l:List Cut}{k:Nat}(h:k<l.length)(st:Bool×List qK):Vo a (l.take (k+1)) st=aU a (Vo a (l.take k) st) l[k]:=by unfold Vo;rw[qq h,List.foldl_append];rfl
theorem sj(a b:List Cut):wc (a++b)=wc a++wc b:=by simp[wc]
noncomputable def WA (f:Bool->Bool->Bool) (a b:List qK):Option kv:=if kB f a b=[]then none else some ⟨181,11,true,zW (kB f a b)⟩
theorem LL(i o n:Nat)(Y:Hp):Zl (.own i o n) Y=qv Y i none:=rfl
theorem Co{Y:Hp}{Z e s:Nat}{v:O}{xs:List zb}(h:qT Y Z e s v xs){j:Nat}(a:Z<=j):∀n,v≠.own j 0 n:=by
 rcases h with⟨rfl,_⟩|⟨id,b,rfl,_⟩
 ·intro n e;cases e
 ·intro n e;injection e with e;omega
theorem cX(f:Bool->Bool->Bool)(hv:O)(SC:∀x y Y Z,jD Ccmb Y Z (some hv) [qS x,qS y]=some (qS (f x y),Y,Z))(a b:List qK)(ha:yE a)(hb:yE b) :
  ∃x Y Z,jF Ccmb f169 [.sl 11 (zW a),.sl 11 (zW b),hv] (fun _=>none) 0=some (x,Y,Z)/\Ch jn (WA f a b) x Y Z:=by
 refine qE rfl ?_;have hsa:=ha;have hsb:=hb;obtain⟨ha1,ha2⟩:=ha;obtain⟨hb1,hb2⟩:=hb;unfold zu at ha1 hb1;obtain⟨ls,hls⟩:∃ls:List (List qK),[a,b]=ls:=⟨_,rfl⟩;obtain⟨rows,S⟩:∃rows:List zb,[[O.sl 11 (zW a)],[.sl 11 (zW b)]]=rows:=⟨_,rfl⟩;have K:∀i,i<2->∃l:List qK,(qW (ls.take (i+1)).flatten=qW (ls.take i).flatten++qW l)/\rows[i]?=some [O.sl 11 (zW l)]/\l.length<=2097152/\(∀s∈l,s.small)/\(qW (ls.take i).flatten).length<=4194304:=by
  intro i hi;rw[<-hls,<-S];rcases(by omega:i=0\/i=1)with rfl|rfl
  ·exact⟨a,by simp[qW],rfl,ha1,ha2,by simp[qW]⟩
  ·exact⟨b,by simp[Wk],rfl,hb1,hb2,by have:=ZY a;simp;omega⟩
 simp[zp,zE,zo,S];refine zP (fun i U Y Z=>U 0=.sl 11 (zW a)/\U 1=.sl 11 (zW b)/\U 2=hv/\U 19=.own 0 0 2/\U 20=int 2/\U 21=int i/\1<=Z/\Y 0=some ⟨138,1,true,rows⟩/\(∀n,U 7≠.own 0 0 n)/\qT Y Z 179 5 (U 7) (wc (qW (ls.take i).flatten))) 2
  ⟨by simp,by simp,by simp,by simp,by simp,by simp,by simp,by simp,by simp,.inl ⟨by simp,by simp[qW,wc]⟩⟩ ?_
 rintro i U Y Z hi ⟨E,F,G,u,w,z,T,b0,L,A⟩;by_cases hlt:i<2
 ·obtain⟨l,hl,hr,hll,hls2,hcl⟩:=K i hlt;obtain⟨hr1,hr2⟩:=zi.1 hr;have hw:=qG i;have p:(zW l).length=l.length:=by simp[zW]
  have hltI:(i:Int)<2:=by omega
  simp[E,F,G,u,w,z,hltI,hlt,b0,hr1,hr2,p];refine zP (fun k U Y Z=>U 0=.sl 11 (zW a)/\U 1=.sl 11 (zW b)/\U 2=hv/\U 19=.own 0 0 2/\U 20=int 2/\U 21=int i/\1<=Z/\Y 0=some ⟨138,1,true,rows⟩/\(∀n,U 7≠.own 0 0 n)/\qT Y Z 179 5 (U 7) (wc (qW (ls.take i).flatten++qW (l.take k))) /\
   U 25=.sl 11 (zW l)/\U 26=int l.length/\U 27=int k) l.length
   ⟨by simp[E],by simp[F],by simp[G],by simp[u],by simp[w],by simp[z],T,b0,by simpa using L,by simpa[qW]using A,by simp,by simp,by simp⟩ ?_
  clear E F G u w z T b0 L A hi U Y Z;rintro k U Y Z hk ⟨E,F,G,u,w,z,T,b0,L,A,h25,h26,h27⟩;by_cases j:k<l.length
  ·have H:=qG k;have r:∀h:k<(zW l).length,(zW l)[k]=l[k].V:=fun h=>by simp[zW]
   have hcn:=ZY (l.take k);rw[yF]at hcn;have hct:=si j;obtain⟨xs,g⟩:=jc (wc (qW (ls.take i).flatten++qW (l.take k)));have B:xs.length<=8388608+2:=by rw[<-g];simp[wc];omega
   rw[g]at A;have hE:wc (qW (ls.take i).flatten++qW (l.take (k+1)))=xs++(if l[k].yv=true then[l[k].lo]else[l[k].lo,l[k].hi]).map Cut.V:=by rw[hct,<-qM,sj,g];rfl
   have hkn:=fun Y'=>yM A Y' Z (Co A (zf _))
   have hk0:=fun Y'=>yM A Y' 0 L
   obtain⟨s,hs⟩:=jc (l[k]);rw[hs]at hct r hE;have q:=qT.jd (P:=prog) (t:=219) (c:=s.lo.V) (A.more (some ⟨181,11,false,[s.V]⟩)) gp cy rN rO rfl (by omega) (by unfold maxLen;omega) (by omega);have W:=qT.after (Y:=qv Y Z (some ⟨181,11,false,[s.V]⟩)) (Z:=Z+1) (e:=179) (s:=5) (v:=U 7) (xs:=xs) (c:=s.lo.V) (tmp:=some ⟨179,5,true,[s.lo.V]⟩);have C:=qT.jd (P:=prog) (t:=219) (c:=s.hi.V) W gp cy rN rO rfl (by omega) (by simp;unfold maxLen;omega) (by simp;omega);rw[show(xs++[s.lo.V]).length=xs.length+1 by simp,qM,show[s.lo.V]++[s.hi.V]=[s.lo.V,s.hi.V]from rfl]at C;have X:=qT.after (Y:=qv (Zl (U 7) (qv (qv Y Z (some ⟨181,11,false,[s.V]⟩)) (Z+1) (some ⟨179,5,true,[s.lo.V]⟩))) (Z+1+1) (some ⟨179,5,true,xs++[s.lo.V]⟩)) (Z:=Z+1+2) (e:=179) (s:=5) (v:=.own (Z+1+1) 0 (xs.length+1)) (xs:=xs++[s.lo.V]) (c:=s.hi.V) (tmp:=some ⟨179,5,true,[s.hi.V]⟩);rw[show(xs++[s.lo.V]).length=xs.length+1 by simp,qM,show[s.lo.V]++[s.hi.V]=[s.lo.V,s.hi.V]from rfl]at X;simp only[qK.V,Cut.V,q6,jJ]at q C W X r;have m1:¬Z=Z+1+1:=by omega
   have m2:¬Z=Z+1+2:=by omega
   have m3:¬Z=Z+1+2+1:=by omega
   have n1:¬0=Z:=by omega
   have n2:¬0=Z+1:=by omega
   have n3:¬0=Z+2:=by omega
   have n4:¬0=Z+3:=by omega
   have n5:¬0=Z+4:=by omega
   cases M:s.yv
   ·rw[M]at hct;rw[M]at q C W X r;simp[E,F,G,u,w,z,h25,h26,h27,j,p,r,q,C,hkn,H,m1,m2,m3,zp,zE,zo];refine⟨by omega,?_,?_⟩
    ·simp[LL,hk0,b0,n1]
    ·rw[hE,M];simp only[zF,qR,we,K7,Cut.V];exact X
   ·rw[M]at hct;rw[M]at q C W X r;simp[E,F,G,u,w,z,h25,h26,h27,j,p,r,q,hkn,H,m1,m2,m3,zp,zE,zo];refine⟨by omega,?_,?_⟩
    ·simp[hk0,b0,n1]
    ·rw[hE,M];simp only[qH,we,K7,Cut.V];exact W
  ·obtain rfl:k=l.length:=by omega
   rw[wF,<-hl]at A;simp[E,F,G,u,w,z,h25,h26,h27,hw];exact⟨by omega,T,b0,L,A⟩
 ·obtain rfl:i=2:=by omega
  have hls3:(ls.take 2).flatten=a++b:=by rw[<-hls];simp
  rw[hls3]at A;have Ng:∀c∈qW (a++b),c.v.small:=YL (Q:=fun c=>c.v.small) fun s hs=>by
   rcases zM.1 hs with h|h
   ·exact ha2 s h
   ·exact hb2 s h
  have hcl:=ZY (a++b);rw[zL]at hcl;obtain⟨Y',I,S6,hfr'⟩:=pA A Ng (by omega);obtain⟨v,hv7⟩:=jc (U 7);obtain⟨cs,hcs⟩:=jc (Qv (qW (a++b)));have hcsl:cs.length<=8388608:=by rw[<-hcs,(xR _).length_eq];omega
  have hcsm:∀c∈cs,c.v.small:=fun c hc=>Ng c ((xR _).mem_iff.1 (by rw[hcs];exact hc))
  have hfin:kB f a b=(Vo (fun c=>f (yl a c) (yl b c)) cs (false,[])).2:=by rw[<-hcs,Wk];rfl
  obtain⟨is,his⟩:∃is:Cut->Bool,(fun c=>f (yl a c) (yl b c))=is:=⟨_,rfl⟩;have hisc:∀c,f (yl a c) (yl b c)=is c:=fun c=>by rw[<-his]
  rw[his]at hfin;rw[hv7]at I S6;rw[hcs]at S6;clear A hcs Ng K hls3;have hlen:=S6.len gp;have p:(wc cs).length=cs.length:=by simp[wc]
  rw[p]at hlen;simp[E,F,G,u,w,z,hv7,I,hlen];refine zP (fun k U Y Z=>U 0=.sl 11 (zW a)/\U 1=.sl 11 (zW b)/\U 2=hv/\U 48=v/\U 49=int cs.length/\U 50=int k/\qT Y Z 179 5 v (wc cs)/\∃xs,qT Y Z 181 11 (U 12) xs/\xs.map (QJ jn)=zW (Vo is (cs.take k) (false,[])).2 /\
    U 13=qS (Vo is (cs.take k) (false,[])).1/\(∀id n m,v=.own id 0 n->U 12≠.own id 0 m)/\((Vo is (cs.take k) (false,[])).1=true->(Vo is (cs.take k) (false,[])).2≠[])/\xs.length<=k/\(xs=[]->U 12=.nil)) cs.length
   ⟨by simp[E],by simp[F],by simp[G],by simp,by simp,by simp,S6,[],.inl ⟨by simp,rfl⟩,by simp[Vo,zW],by simp[Vo],by simp,by simp[Vo],by simp,by simp⟩ ?_
  clear E F G u w z T b0 L S6 hi U Y Z hlt I hlen hfr' hv7 Y';rintro k U Y Z hk ⟨E,F,G,h48,h49,h50,A,xs,hX,g,N,rn,EM,hxk,hxn⟩;by_cases j:k<cs.length
  ·have H:=qG k;obtain⟨id,hid,rfl,hh⟩:=A.at_ (by rw[p];omega);have o:=Cn is j (false,[]);obtain⟨st,SE⟩:=jc (Vo is (cs.take k) (false,[]));obtain⟨c,hc⟩:=jc (cs[k]);rw[hc,SE]at o;rw[SE]at g N EM;have hopn:=Cm is st c EM;have D:c.v.small:=hcsm c (by rw[<-hc];exact zj j);have r:∀h:k<(wc cs).length,(wc cs)[k]=c.V:=fun h=>by simp[wc,hc]
   have hca:=fun Y Z=>V2 a c Y Z hsa D
   have A4:=fun Y Z=>V2 b c Y Z hsb D
   have d:=fun Y Z=>SC (yl a c) (yl b c) Y Z
   rw[hisc c]at d;simp only[Cut.V]at hca A4 r;have m0:¬id=Z:=by omega
   have m1:¬id=Z+1:=by omega
   have m2:¬id=Z+1+1:=by omega
   rw[p]at A;have hki:=fun Y'=>yM hX Y' id (fun n=>rn id _ n rfl)
   have SF:aU is st c=(is c,if(is c&&!st.1)=true then st.2++[w5 c]else if(!is c&&st.1)=true then Qu st.2 c else st.2):=rfl;rw[SF]at o;rw[SF]at hopn;simp only at hopn;obtain⟨op,out⟩:=st;simp only at g N EM hopn;cases hb:is c<;>cases op
   ·rw[hb]at d o;simp at o;simp[E,F,G,h48,h49,h50,p,j,hh,r,hca,A4,d,N,H,m0,o];exact⟨by omega,A.more _,xs,hX.more _,g,fun i n m e _=>rn i _ m (by rw[e]),by omega,hxn⟩
   ·rw[hb]at d o;simp at o;have hne:=EM rfl;obtain⟨m,hm⟩:∃m,out.length=m+1:=⟨out.length-1,by have:=vm.2 hne;omega⟩;have B:xs.length=m+1:=by have:=zr List.length g;simp[zW]at this;omega
    obtain⟨R,hid2,J,hh2⟩:=hX.at_ (by omega);have ED:¬R=id:=fun e=>rn id _ _ rfl (by rw[J,e])
    have SG:¬id=R:=fun e=>ED e.symm
    have p0:¬R=Z:=by omega
    rw[B]at J;have hlm:m<xs.length:=by omega
    have hlo:m<out.length:=by omega
    have hrm:QJ jn xs[m]=out[m].V:=by
     have e1:(xs.map (QJ jn))[m]?=(zW out)[m]?:=by rw[g]
     simp only[qo,zl hlm,zW,zl hlo,zC,z6]at e1;exact e1
    obtain⟨x3,x5,x6,x7,x8,x9,x10,K,hn3,EE⟩:=sg hrm;have wm:=wz (m:Int);have wm1:i6.wrap ((m:Int)+1-1)=(m:Int):=by rw[wu (by omega) (by omega)];omega
    simp[E,F,G,h48,h49,h50,p,j,hh,r,hca,A4,d,N,H,m0,o,J,hh2,p0,wm,wm1,hlm,K,EE,ja];refine⟨by omega,.inr ⟨id,by omega,by rw[p],by simp[SG,m0,hh]⟩,xs.set m [int out[m].lo.v.a,int out[m].lo.v.b,int out[m].lo.v.c,x3,qS out[m].lo.after,int c.v.a,int c.v.b,int c.v.c,.sl 1 (zy c.v.pre),qS c.after,qS false],.inr ⟨R,by omega,by simp[B],by simp⟩,?_,fun i n k' e _ e2=>absurd (e2.trans e.symm) ED,by simp;omega,fun e=>by have:=zr List.length e;rw[aj,B]at this;cases this⟩;rw[zaE,g,gD hlo hm c,zW,zW,zaE];simp[hn3,qK.V,Cut.V]
   ·rw[hb]at d o;simp at o;have q:=qT.jd (P:=prog) (t:=138) (c:=[int c.v.a,int c.v.b,int c.v.c,.sl 1 (zy c.v.pre),qS c.after,int 0,int 0,int 0,.nil,qS false,qS true]) (hX.more (some ⟨179,5,false,[c.V]⟩)) HI rP BC BD rfl (by omega) (by unfold maxLen;omega) (by omega);simp only[Cut.V]at q;simp[E,F,G,h48,h49,h50,p,j,hh,r,hca,A4,d,N,H,m0,o,q,z8,qB,zp,zE,zo];refine⟨by omega,.inr ⟨id,by omega,by rw[p],by simp[hki,hh,m0,m1,m2]⟩,xs++[[int c.v.a,int c.v.b,int c.v.c,.sl 1 (zy c.v.pre),qS c.after,int 0,int 0,int 0,.nil,qS false,qS true]],by simpa using qT.after,?_,fun i n m e _ e2=>by omega,by simp;omega⟩;rw[zbJ,g];simp[zW,w5,qK.V,Cut.V,QM,zy]
   ·rw[hb]at d o;simp at o;simp[E,F,G,h48,h49,h50,p,j,hh,r,hca,A4,d,N,H,m0,o];exact⟨by omega,A.more _,xs,hX.more _,g,fun i n m e _=>rn i _ m (by rw[e]),EM rfl,by omega,hxn⟩
  ·obtain rfl:k=cs.length:=by omega
   rw[wF]at g;rw[<-hfin]at g;have B:xs.length=(kB f a b).length:=by have:=zr List.length g;simpa[zW]using this
   simp[E,F,G,h48,h49,h50,f169];unfold WA;rcases hX with⟨J,rfl⟩|⟨R,hid2,J,hh2⟩
   ·rw[zd (qy.1 B.symm)];exact J
   ·by_cases hz:kB f a b=[]
    ·rw[zd hz];rw[hz]at B;exact hxn (qy.1 B)
    ·rw[zc hz];refine⟨R,_,J,hh2,rfl,?_⟩;simp only[ff,g]
theorem JY(l:List qK):(Sh.s 11 jn).fix (.sl 11 (zW l))=.sl 11 (zW l):=by simp only[Sh.oU,zW,zaD];congr 1
noncomputable def Cp:zb->Option (Option kv):=fun args=>
 match ql (α:=List qK×List qK) (fun a=>[.sl 11 (zW a.1),.sl 11 (zW a.2),.fn (.func 170) [] []]) (fun a=>yE a.1/\yE a.2) (fun a=>WA and a.1 a.2) args with
 |some r=>some r
 |none=>ql (α:=List qK×List qK) (fun a=>[.sl 11 (zW a.1),.sl 11 (zW a.2),.fn (.func 171) [] []]) (fun a=>yE a.1/\yE a.2) (fun a=>WA or a.1 a.2) args
theorem HW(g:O):∀a b:List qK×List qK,[O.sl 11 (zW a.1),.sl 11 (zW a.2),g]=[.sl 11 (zW b.1),.sl 11 (zW b.2),g]->a=b:=by rintro⟨f,h⟩ ⟨i,j⟩ e;simp only[zk,zI]at e;obtain⟨c,d⟩:=e;injection c with _ c;injection d with _ d;rw[xd c,xd d]
theorem pB:zg prog 169 (vE [.s 11 jn,.s 11 jn] Cp):=
 Jz (fn:=f169) T4 (qD func169) _ jn _ fun args r h=>by
  unfold Cp at h;split at h
  ·rename_i f e;injection h with h;subst h
   obtain⟨⟨a,b⟩,rfl,⟨c,d⟩,rfl⟩:=zN e;exact⟨by simp[f169],cX and _ (fun x y Y Z=>by simp[Cj]) a b c d⟩
  ·obtain⟨⟨a,b⟩,rfl,⟨c,d⟩,rfl⟩:=zN h;exact⟨by simp[f169],cX or _ (fun x y Y Z=>by simp[Cj]) a b c d⟩
theorem Cq(args:zb)(r:Option kv)(h:Qr 9 1 args=some r):args.length<=f91.ntmps/\∃x Y Z,jF C0 f91 args (fun _=>none) 0=some (x,Y,Z)/\VM r x Y Z:=by
 unfold Qr at h;split at h
 ·injection h with h;subst h;exact⟨by simp[f91],qE rfl (by simp[Qj,Kh,f91,VM])⟩
 ·injection h with h;subst h;exact⟨by simp[f91],qE rfl (by simp[Qj,Kh,f91,VM,zp,yK,AM.view,maxLen,zE,zo])⟩
 ·rename_i es;split at h
  ·rename_i d;obtain⟨rfl,a,b⟩:=d;injection h with h;subst h
   cases es with
   |nil=>exact absurd rfl a
   |cons c es=>
    unfold zu at b;simp at b;have e:es.length+1<=maxLen:=by unfold maxLen;omega
    have f:(es.length+1)*16<=140737488355328:=by omega
    refine⟨by simp[f91],qE rfl ?_⟩;simp[Qj,Kh,f91,VM,zp,yK,AM.view,zE,zo,e,f]
  ·cases h
 ·cases h
theorem cY:zg prog 91 (yR [] (Qr 9 1)):=
 Qn (fn:=f91) (code:=_) jG ⟨func91,by kernel_rfl,rfl,by kernel_rfl⟩ [] _ Cq
def idV(v:wy):O:=.agg v.V
def idS(s:qK):O:=.agg s.V
noncomputable def FVe (f:wy->O):zb->Option O:=ql (α:=wy) (fun v=>[.agg v.V]) (fun v=>v.pre.length<=zu) f
theorem Cr(f:wy->O)(v:wy)(Y:Hp)(Z:Nat)(h:v.pre.length<=zu):qn [.g jY] (FVe f) [.agg v.V] Y Z=some (f v,Y,Z):=
 vN (show zD Y [.agg v.V]=some ([.agg v.V],Y) by simp[wy.V]) (by
  have c:(Sh.g jY).fix (.agg v.V)=.agg v.V:=by simp[wy.V]
  show FVe f [(Sh.g jY).fix (.agg v.V)]=_;rw[c];exact qF (V:=fun v:wy=>[O.agg v.V]) (a:=v) (fun a b e=>by simp only[zk,zI]at e;injection e with e;exact Wx e) h) (.inr (by simp[wy.V]))
noncomputable abbrev Ccpv:Ctx:=zR prog [(91,yR [] (Qr 9 1))]
theorem T5:Gd Ccpv:=zU mixed ⟨cY,trivial⟩
theorem fg(v:wy)(y:O)(f:fX 1 (zy v.pre) y)(h:v.pre.length<=zu):∃i,zq Ccpv f218 [.agg [int v.a,int v.b,int v.c,y]]=some i/\qX i (.agg v.V):=by
 obtain⟨a,b,c,p⟩:=v;refine Yn (sh:=.g jY) rfl ?_;simp only at h f;generalize e:zy p=T at f;have d:T.length<=zu:=by rw[<-e];simpa[zy]using h
 cases f with
 |nil=>simp[yR,yg,Qr,cG,wy.V,e,f218]
 |em=>simp[yR,yg,Qr,cG,wy.V,e,f218]
 |sl=>rename_i j es;simp only[zO]at d;simp[yR,yg,Qr,cG,wy.V,e,d,f218]
theorem cZ:zg prog 218 (qn [.g jY] (FVe idV)):=
 Qq (fn:=f218) T5 (qD func218) false [] _ fun args r h w S vs c=>by obtain⟨v,e,d,rfl⟩:=zN h;have a:=JO (hs:=[.g jY]) c;rw[e]at a;obtain⟨u,f,i⟩:=Yk a;subst f;obtain⟨y,k,b⟩:=gx i (j:=3) (s:=1) (es:=zy v.pre) (by simp[wy.V]);obtain⟨l,m,n⟩:=fg v y k d;exact⟨_,l,.cons b .nil,by simp[f218],by simpa[wy.V]using m,n⟩
noncomputable def FSt (f:qK->O):zb->Option O:=ql (α:=qK) (fun s=>[.agg s.V]) qK.small f
theorem O0(f:qK->O)(s:qK)(u:O)(Y:Hp)(Z:Nat)(h:s.small)(c:(Sh.g jn).fix u=.agg s.V)(d:qA Y u=some (u,Y))(i:u.noOwn=true):qn [.g jn] (FSt f) [u] Y Z=some (f s,Y,Z):=
 vN (show zD Y [u]=some ([u],Y) by simp only[zD,d]) (by show FSt f [(Sh.g jn).fix u]=_;rw[c];exact qF (V:=fun v:qK=>[O.agg v.V]) (a:=s) (fun a b e=>by simp only[zk,zI]at e;injection e with e;exact mR e) h) (.inr (by rw[wI,i];rfl))
noncomputable abbrev Ccps:Ctx:=zR prog [(218,qn [.g jY] (FVe idV))]
theorem T6:AM.Good Ccps (fun g=>[218].contains g):=qw mixed ⟨cZ,fun _=>yG _ _,trivial⟩
theorem fh(s:qK)(hs:s.small):zq Ccps f172 [.agg s.V]=some (.agg s.V):=by
 refine zm rfl ?_;have d:∀Y Z,qn [.g jY] (FVe idV) [.agg [int s.lo.v.a,int s.lo.v.b,int s.lo.v.c,.sl 1 (zy s.lo.v.pre)]] Y Z=some (.agg [int s.lo.v.a,int s.lo.v.b,int s.lo.v.c,.sl 1 (zy s.lo.v.pre)],Y,Z):=fun Y Z=>Cr idV s.lo.v Y Z hs.1.1
 have e:∀Y Z,qn [.g jY] (FVe idV) [.agg [int s.hi.v.a,int s.hi.v.b,int s.hi.v.c,.sl 1 (zy s.hi.v.pre)]] Y Z=some (.agg [int s.hi.v.a,int s.hi.v.b,int s.hi.v.c,.sl 1 (zy s.hi.v.pre)],Y,Z):=fun Y Z=>Cr idV s.hi.v Y Z hs.2.1
 simp[qK.V,Cut.V,d,e,wa,f172,ja]
theorem c7:zg prog 172 (qn [.g jn] (FSt idS)):=
 wO (fn:=f172) T6 (qD func172) _ _ fun args r h=>by obtain⟨s,rfl,a,rfl⟩:=zN h;exact⟨by simp[f172],_,fh s a,qX.refl _⟩
theorem ZZ{l:za}{n:Int}(h:jW l=some n):0<=n/\n<=999999:=by
 unfold jW at h;split at h
 ·rename_i a;injection h with h
  obtain⟨b,c⟩:=mz a.1;obtain⟨m,d,e⟩:=KB l 0 c;have f:Lib.decNat l=some m:=by unfold Lib.decNat;rw[zc (by simpa using b)];exact d
  have g:m<10 ^ 6:=yb (by simpa using e) (Nat.pow_le_pow_right (by omega) a.2);have i:n=(m:Int):=by rw[<-h];unfold ua;rw[f];rfl
  omega
 ·cases h
theorem LM{v:wy}(h:yS v=0):(0<=v.a/\v.a<=999999)/\(0<=v.b/\v.b<=999999)/\(0<=v.c/\v.c<=999999)/\v.pre.length<=10/\∀p∈v.pre,wD p=false:=by
 unfold yS at h;split at h
 ·rename_i d;simp only[kI,zz,zT]at d;split at h
  ·cases h
  ·rename_i g;split at h
   ·cases h
   ·rename_i e;refine⟨d.1,d.2.1,d.2.2,by omega,fun p Y=>?_⟩;cases f:wD p with
    |false=>rfl
    |true=>exact absurd (WN.2 ⟨p,Y,f⟩) e
 ·cases h
theorem T7{t:za}{v:wy}(h:cK t=some v):yS v=0:=by
 unfold cK at h;split at h
 ·split at h
  ·split at h
   ·rename_i a;injection h with h
    rw[<-h];exact a
   ·cases h
  ·cases h
 ·cases h
theorem FU{p:za}(h:wD p=false):p.length<=20:=by simp only[wD,wE,yw]at h;omega
theorem lg:∀(l:List za) (p q:Part) (i:Nat),yi p i l=some q->(0<=p.n0/\p.n0<=999999)/\(0<=p.n1/\p.n1<=999999)/\(0<=p.n2/\p.n2<=999999)/\0<=p.has/\p.has<=i/\(1<=i->1<=p.has)/\p.pre=[] ->
  (0<=q.n0/\q.n0<=999999)/\(0<=q.n1/\q.n1<=999999)/\(0<=q.n2/\q.n2<=999999)/\0<=q.has/\q.has<=i+l.length/\(1<=i+l.length->1<=q.has)/\q.pre=[]
 |[],p,q,i,h,Y=>by
  simp only[yi]at h;injection h with h
  subst h;simpa using Y
 |t::l,p,q,i,h,Y=>by
  simp only[yi]at h;split at h
  ·rename_i r hs;obtain⟨a,b,c,d,e,f,g⟩:=Y;have m:(0<=r.n0/\r.n0<=999999)/\(0<=r.n1/\r.n1<=999999)/\(0<=r.n2/\r.n2<=999999)/\0<=r.has/\r.has<=(i+1:Nat)/\(1<=i+1->1<=r.has)/\r.pre=[]:=by
    unfold wK at hs;split at hs
    ·rename_i j;injection hs with hs
     obtain⟨n,k⟩:=Option.isSome_iff_exists.1 j.1;have o:=ZZ k;rw[k]at hs;simp only[iN]at hs;subst hs;have s:=j.2;unfold Part.put;split<;>simp only<;>refine⟨?_,?_,?_,?_,?_,?_,g⟩<;>first|assumption|omega
    ·split at hs
     ·rename_i u;injection hs with hs
      subst hs;exact⟨a,b,c,d,by omega,fun _=>f (by omega),g⟩
     ·cases hs
   have:=lg l r q (i+1) h m;rw[zO];refine⟨this.1,this.2.1,this.2.2.1,this.2.2.2.1,?_,?_,this.2.2.2.2.2.2⟩
   ·have:=this.2.2.2.2.1;omega
   ·intro _;exact this.2.2.2.2.2.1 (by omega)
  ·cases h
def Qw(l:List za):Prop:=l.length<=10/\∀p∈l,wD p=false
theorem JA{l:List za}(h:Qw l):vt l:=⟨by have:=h.1;unfold zu;omega,fun p Y=>by have:=FU (h.2 p Y);unfold zu;omega⟩
theorem sk(s sep:za):qc s sep≠[]:=by
 unfold qc Lib.split;intro h;cases a:Lib.count s sep with
 |zero=>rw[a]at h;cases h
 |succ n=>rw[a]at h;simp only[Lib.splitK]at h;split at h<;>cases h
theorem JZ{t:za}(h:(zQ t).2=true):(zQ t).1.ok/\Qw (zQ t).1.pre:=by
 unfold zQ at h⊢;split at h
 ·rename_i a;rw[zd a];split at h
  ·rename_i v i;obtain⟨b,c,d,e,f⟩:=LM (T7 i);exact⟨⟨b,c,d,⟨by simp,by simp⟩,JA ⟨e,f⟩⟩,e,f⟩
  ·cases h
 ·rename_i a;rw[zc a];split at h
  ·cases h
  ·rename_i j;rw[zc j];split at h
   ·rename_i p Y;have:=lg _ q9 p 0 Y (by simp[q9]);obtain⟨b,c,d,e,f,k,l⟩:=this;have m:=vm.2 (sk t [46]);have g:Qw p.pre:=by rw[l];exact⟨by simp,by simp⟩
    exact⟨⟨b,c,d,⟨k (by omega),by show p.has<=3;omega⟩,JA g⟩,g⟩
   ·cases h
def xH.vU(c:xH):Prop:=c.sign.length<=3/\(c.sign=jq\/((c.p.ok/\Qw c.p.pre)/\(c.sign=[45]->c.tu.ok/\Qw c.tu.pre)))
theorem xH.vU.ok{c:xH}(h:c.vU):c.ok:=⟨by have:=h.1;unfold zu;omega,h.2.imp id fun⟨a,b⟩=>⟨a.1,fun e=>(b e).1⟩⟩
theorem J0:∀(a:List za) (s:za),(wB a s).1=[]\/(wB a s).1∈a
 |[],s=>.inl rfl
 |g::l,s=>by
  simp only[wB];split
  ·exact .inr (by simp)
  ·exact(J0 l s).imp id fun h=>by simp[h]
theorem Cs{s:za}(h:s=[]\/s∈wo):s.length<=3/\s≠[45]:=by
 rcases h with rfl|h
 ·simp
 ·simp only[wo,zv,K9,or_false]at h;rcases h with rfl|rfl|rfl|rfl|rfl|rfl|rfl<;>simp
theorem LN{w:za}{l l':List za}{c:xH}(h:km w l=some (c,l')):c.vU/\l'.length<=l.length:=by
 refine⟨?_,ON h⟩;have a:=Cs (J0 wo w);unfold km at h;split at h
 ·injection h with h;injection h with h _;subst h;exact⟨by simp[eZ,jq],.inl rfl⟩
 ·split at h
  ·split at h
   ·split at h
    ·rename_i b;injection h with h;injection h with h _;subst h
     exact⟨a.1,.inr ⟨JZ b,fun e=>absurd e a.2⟩⟩
    ·cases h
   ·cases h
  ·split at h
   ·rename_i b;injection h with h;injection h with h _;subst h
    exact⟨a.1,.inr ⟨JZ b,fun e=>absurd e a.2⟩⟩
   ·cases h
theorem sn:∀(n:Nat) (a:List za) (l:List xH),yu n a=some l->(∀c∈l,c.vU)/\l.length<=a.length
 | 0,a,l,h=>by
  simp only[yu]at h;injection h with h;subst h
  exact⟨by simp,by simp⟩
 |n+1,[],l,h=>by
  simp only[yu]at h;injection h with h;subst h
  exact⟨by simp,by simp⟩
 |n+1,w::a,l,h=>by
  simp only[yu]at h;split at h
  ·rename_i c l' hs;obtain⟨e,g⟩:=LN hs;cases b:yu n l' with
   |none=>rw[b]at h;cases h
   |some r=>
    rw[b]at h;simp only[zC,z6]at h;subst h;obtain⟨f,i⟩:=sn n l' r b;refine⟨fun x d=>?_,by simp;omega⟩;rcases zv.1 d with rfl|d
    ·exact e
    ·exact f x d
  ·cases h
theorem LO{t:za}(h:(QK t).2=true):(∀c∈(QK t).1,c.vU)/\(QK t).1.length<=t.length+1:=by
 have n:(wq (qc t [32])).length<=t.length+1:=zw (ic _ _) (xQ (by simp));have f:∀d:List za,d=wq (qc t [32])->((match yu d.length d with
   |some l=>(l,!l.isEmpty)
   |none=>([],false)):List xH×Bool).2=true->(∀c∈((match yu d.length d with
   |some l=>(l,!l.isEmpty)
   |none=>([],false)):List xH×Bool).1,c.vU)/\((match yu d.length d with
   |some l=>(l,!l.isEmpty)
   |none=>([],false)):List xH×Bool).1.length<=t.length+1:=by
  intro d e i;cases j:yu d.length d with
  |none=>rw[j]at i;cases i
  |some l=>obtain⟨o,k⟩:=sn _ _ _ j;exact⟨o,by rw[e]at k;exact zw k n⟩
 unfold QK at h⊢;split at h
 ·rename_i a b c e;split at h
  ·rename_i g;simp only[zz]at h;rw[zd g];refine⟨fun x m=>?_,by simp⟩;simp only[wM]at m;subst m;exact⟨by simp,.inr ⟨JZ h.1,fun _=>JZ h.2⟩⟩
  ·rename_i g;rw[zc g];have:=f [a,b,c] (by rw[e]) h;exact this
 ·exact f _ rfl h
def Cut.vU(c:Cut):Prop:=Qw c.v.pre
theorem Cut.vU.small{c:Cut}(h:c.vU):c.v.small:=JA h
theorem sq:QM.vU:=⟨by simp[QM],by simp[QM]⟩
theorem kZ:qU.vU:=⟨by simp[qU],by simp[qU,wD,eJ,JQ,kV,yx,KA,pr]⟩
theorem V3(p:Part)(i:Nat):(jk p i).vU:=by
 have h:(jk p i).v.pre=[[48]]:=by unfold jk;split<;>rfl
 have:=kZ;unfold Cut.vU at this⊢;rw[h];exact this
theorem mX{p:Part}(h:Qw p.pre):(ZA p).vU:=h
theorem XQ{p:Part}(h:Qw p.pre):(vy p).vU:=by
 unfold vy;split
 ·exact V3 _ _
 ·exact h
theorem WB{a b:Cut}(c:a.vU)(d:b.vU):(eU a b).length<=1/\∀s∈eU a b,s.lo.vU/\s.hi.vU:=by
 unfold eU;split
 ·exact⟨by simp,by simp⟩
 ·refine⟨by simp,fun s hs=>?_⟩;simp only[wM]at hs;subst hs;exact⟨c,d⟩
theorem Qa{a:Cut}(b:a.vU):([w5 a]:List qK).length<=1/\∀s∈[w5 a],s.lo.vU/\s.hi.vU:=by refine⟨by simp,fun s hs=>?_⟩;simp only[wM]at hs;subst hs;exact⟨b,sq⟩
theorem J1{c:xH}(b:c.vU):(vu c).1.length<=1/\∀s∈(vu c).1,s.lo.vU/\s.hi.vU:=by
 obtain⟨_,b⟩:=b;unfold vu;by_cases d:c.sign=jq
 ·rw[zd d];exact Qa kZ
 rw[zc d];obtain⟨⟨_,Y⟩,g⟩:=b.resolve_left d;have a:=mX Y;have f:=XQ Y;split
 ·exact Qa a
 split
 ·exact WB kZ a
 split
 ·exact Qa f
 split
 ·exact WB kZ f
 split
 ·rename_i e;exact WB a (XQ (g e).2)
 split
 ·exact WB a (V3 _ _)
 split
 ·exact WB a (V3 _ _)
 ·exact WB a f
def yW(l:List qK):Prop:=∀s∈l,s.lo.vU/\s.hi.vU
theorem yW.small{l:List qK}(h:yW l)(a:l.length<=zu):yE l:=⟨a,fun s hs=>⟨(h s hs).1.small,(h s hs).2.small⟩⟩
theorem kC(f:Bool->Bool->Bool){a b:List qK}(c:yW a)(d:yW b):yW (kB f a b):=sf sq f c d
def oW:List za->Option (List (List xH))
 |[]=>some []
 |s::l=>if(QK s).2=true then(oW l).map ((QK s).1::·)else none
noncomputable def YM:List xH->List qK->Option (List qK)
 |[],m=>some m
 |c::l,m=>if(vu c).2=true then YM l (kB and m (vu c).1)else none
noncomputable def Vp:List (List xH)->List qK->Option (List qK)
 |[],o=>some o
 |l::a,o=>match YM l [w5 qU]with
  |some m=>Vp a (kB or o m)
  |none=>none
noncomputable def vF (t:za):List qK×Int:=if(400:Int)<t.length then([],2)else match oW (qc t [124,124])with
 |none=>([],10)
 |some a=>match Vp a []with
  |none=>([],1)
  |some o=>if(100:Int)<o.length then([],2)else(o,0)
theorem mY:∀(l:List xH) (m r:List qK),(∀c∈l,c.vU)->yW m->YM l m=some r->yW r/\r.length<=m.length+l.length
 |[],m,r,_,a,h=>by
  simp only[YM]at h;injection h with h;subst h
  exact⟨a,by simp⟩
 |c::l,m,r,b,a,h=>by
  simp only[YM]at h;split at h
  ·obtain⟨g,d⟩:=J1 (b c (by simp));obtain⟨e,i⟩:=mY l _ r (fun x f=>b x (by simp[f])) (kC and a d) h;have:=Yx and m (vu c).1;exact⟨e,by simp only[zO];omega⟩
  ·cases h
theorem mZ:∀(l:List za) (d:List (List xH)) (n:Nat),(∀s∈l,s.length<=n)->oW l=some d->(∀a∈d,(∀c∈a,c.vU)/\a.length<=n+1)/\d.length=l.length
 |[],d,n,_,h=>by
  simp only[oW]at h;injection h with h;subst h
  exact⟨by simp,rfl⟩
 |s::l,d,n,e,h=>by
  simp only[oW]at h;split at h
  ·rename_i hs;cases b:oW l with
   |none=>rw[b]at h;cases h
   |some r=>
    rw[b]at h;simp only[zC,z6]at h;subst h;obtain⟨f,g⟩:=mZ l r n (fun x i=>e x (by simp[i])) b;obtain⟨j,k⟩:=LO hs;have:=e s (by simp);refine⟨fun a b=>?_,by simp[g]⟩;rcases zv.1 b with rfl|b
    ·exact⟨j,by omega⟩
    ·exact f a b
  ·cases h
attribute [local go_sem] Oper.semAt_some
theorem FW{P:Program}{g:FuncId}{F:zb->Option O}{us:List Value}{v:Value}(h:kq True P g (zh false [] F))(hF:zh false [] F (us.map O.v) (fun _=>none) 0=some (.v v,fun _=>none,0))(d:∀u∈us,lit u=true){W:World}(i:IE P W fun b=>b<W.heap.size) :
  Calls P g us.toArray W fun e w'=>e=.returned v/\Fr True W (fun _=>False) w':=by
 have j:Zip (qf W (fun b=>b<W.heap.size) (fun _=>⟨0,0,0⟩) 0) (us.map O.v) us:=by
  induction us with
  |nil=>exact .nil
  |cons u us f=>exact .cons (.c (.v (d u (by simp)))) (by
    clear hF;have:∀us:List Value,(∀u∈us,lit u=true)->Zip (qf W (fun b=>b<W.heap.size) (fun _=>⟨0,0,0⟩) 0) (us.map O.v) us:=by
     intro us
     induction us with
     |nil=>intro _;exact .nil
     |cons u us f=>intro h;exact .cons (.c (.v (h u (by simp)))) (f fun x a=>h x (by simp[a]))
    exact this us fun x a=>d x (by simp[a]))
 refine(h.2 _ _ _ _ _ _ hF W (fun b=>b<W.heap.size) (fun _=>⟨0,0,0⟩) us (eA _ (fun b l=>l) i) j).mono fun e w' m=>?_
 obtain⟨x,o,p,rfl,st,a⟩:=m;obtain⟨rfl,_⟩:=a.w8;exact⟨rfl,⟨st.fr.os,st.fr.tape,st.fr.output,st.fr.size,st.fr.drawn,fun k n _=>st.fr.block k n fun⟨_,_,h,_⟩=>by cases h⟩⟩
theorem lh{W b:World}{L:Nat->Prop}(h:Fr True W L b){a:Addr}{v:Value}(c:W.cell? a=some v)(d:¬L a.block):b.cell? a=some v:=by rw[<-c];exact XA (h.block _ (Hv c) d)
def ao(l:List za):List Value:=l.map fun p=>.string ⟨p.toArray⟩
def O1(w:World)(b:Nat):Nat:=match w.cell? ⟨b,0,none⟩with
 |some (.string s)=>s.size
 |_=>0
def vx(w:World)(b:Nat)(v:Value):Prop:=∃cs ty,w.heap[b]?=some (.cells cs ty (0,0))/\cs[0]?=some v
theorem vx.cell{w:World}{b:Nat}{v:Value}(h:vx w b v):w.cell? ⟨b,0,none⟩=some v:=by obtain⟨cs,ty,a,c⟩:=h;simp[World.cell?,a,c]
theorem vx.free{w:World}{b:Nat}{v:Value}(h:vx w b v):w.frozen? ⟨b,0,none⟩=false:=by obtain⟨cs,ty,a,c⟩:=h;simp[World.frozen?,a]
theorem vx.same{w w':World}{b:Nat}{v:Value}(h:vx w b v)(e:w'.heap[b]?=w.heap[b]?):vx w' b v:=by obtain⟨cs,ty,a,c⟩:=h;exact⟨cs,ty,e.trans a,c⟩
theorem vx.lt{w:World}{b:Nat}{v:Value}(h:vx w b v):b<w.heap.size:=by obtain⟨cs,ty,a,c⟩:=h;exact(qg.1 a).1
theorem vx.set{w:World}{b:Nat}{v:Value}(u:Value)(h:vx w b v):vx (w.setCell ⟨b,0,none⟩ u) b u:=by obtain⟨cs,ty,a,c⟩:=h;have d:=(qg.1 c).1;refine⟨cs.setIfInBounds 0 u,ty,?_,by simp[d]⟩;simp[World.setCell,vR,a]
theorem vx.SH{w:World}{b:Nat}(u:Value)(B:Nat->Prop)(a:B b):Fr True w B (w.setCell ⟨b,0,none⟩ u):=
 ⟨rfl,rfl,rfl,by simp[World.setCell],fun _=>zf _,fun k _ c=>by
  have:¬b=k:=fun e=>c (e ▸ a)
  simp[World.setCell,vR,this]⟩
theorem vx.str{w:World}{b:Nat}{s:ByteArray}(h:vx w b (.string s)):O1 w b=s.size:=by unfold O1;rw[h.cell]
theorem uB(n l B1 B2 B3:Nat)(sep t:za)(hs1:1<=sep.length)(hs2:sep.length<=zu)(ht:t.length<=zu)(h12:B1≠B2)(h23:B3≠B2)(J Jx:List Value->World->Prop)
  (hJ:∀pre W W',J pre W->Fr True W (fun b=>b=B1\/b=B2\/b=B3) W'->J pre W') (hGl:∀pre W,J pre W->IE prog W fun b=>b<W.heap.size)
  (hY:∀pre x W,J pre W->(ao (qc t sep))[pre.length]?=some x->YieldAt Fence.wide n prog l #[x] W fun e W'=>(e=.returned (.bool true)/\J (pre++[x]) W'/\(∀b,(b=B1\/b=B2\/b=B3)->W'.heap[b]?=W.heap[b]?)/\W.heap.size<=W'.heap.size)\/(e=.returned (.bool false)/\Jx (pre++[x]) W'))
  (W:World) (h0:J [] W) (h1:W.cell? ⟨B1,0,none⟩=some (.string ⟨sep.toArray⟩)) (h2:vx W B2 (.string ⟨t.toArray⟩)) (h3:W.cell? ⟨B3,0,none⟩=some (.int .i64 0)) :
  CallsIn Fence.wide (n+1) prog 246 #[.func (.yield l) #[] #[],.pointer (some ⟨B1,0,none⟩),.pointer (some ⟨B2,0,none⟩),.pointer (some ⟨B3,0,none⟩)] W fun e W'=>(∃v,e=.returned v)/\(J (ao (qc t sep)) W'\/∃pre,Jx pre W'):=by
 refine callsIn_of_wp func246 rfl trivial ?_ rfl;simp only[Tryz.ntmps246,jv,zO,yV,Nat.reduceAdd,Nat.reduceSub,Array.replicate_succ,Array.replicate_zero,List.push_toArray,List.append_toArray,jJ,q6];have h2c:=h2.cell;have hse:((sep.length:Int)==0)=false:=wN.2 (by omega)
 gi_wp2
 try simp only[hse]
 have hx:∀cur:za,cur.length<=zu->∀wr:World,IE prog wr (fun b=>b<wr.heap.size)->Calls prog 159 #[.string ⟨cur.toArray⟩,.string ⟨sep.toArray⟩] wr fun e w'=>e=.returned (.int .i64 (Lib.index cur sep))/\Fr True wr (fun _=>False) w':=fun cur hc wr hg=>by exact FW (us:=[.string ⟨cur.toArray⟩,.string ⟨sep.toArray⟩]) cH (JP cur sep _ _ hc hs2) (by simp[lit]) hg
 gi_loopw [] (fun wr=>∃(done:List za) (cur:za),qc t sep=done++qc cur sep/\cur.length<=t.length/\J (ao done) wr/\wr.cell? ⟨B1,0,none⟩=some (.string ⟨sep.toArray⟩)/\vx wr B2 (.string ⟨cur.toArray⟩)/\wr.cell? ⟨B3,0,none⟩=some (.int .i64 0))
  (fun wr=>O1 wr B2)
 case atStart=>exact⟨[],t,rfl,zf _,h0,h1,h2,h3⟩
 case round=>
  obtain⟨done,cur,hsp,hcl,hJs,c1,k2,c3⟩:=hrel;have c2:=k2.cell;have hg:=hGl _ _ hJs
  gi_wp2
  refine⟨trivial,aC.2 ((hx cur (zw hcl ht) wr hg).mono ?_)⟩;rintro e w1 ⟨rfl,fr⟩;dsimp only;have d1:=lh fr c1 (fun h=>h);have m2:=k2.same (fr.block _ k2.lt fun h=>h);have d2:=m2.cell;have d3:=lh fr c3 (fun h=>h);have hJ1:=hJ _ _ _ hJs ⟨fr.os,fr.tape,fr.output,fr.size,fr.drawn,fun k hk _=>fr.block k hk fun h=>h⟩;have hel:(ao done).length=done.length:=by simp[ao]
  by_cases hneg:Lib.index cur sep<0
  ·have hsk:qc cur sep=[cur]:=by
    have hm:Lib.index cur sep=-1:=by
     rcases Lib.index_spec cur sep with⟨h,_⟩|⟨i,h,_⟩
     ·exact h
     ·omega
    unfold qc Lib.split;rw[Lib.count_miss hm];rfl
   have hu:(ao (qc t sep))[(ao done).length]?=some (.string ⟨cur.toArray⟩):=by rw[hsp,hsk,hel];simp[ao]
   obtain⟨fn,tmps,assign,body,hy,hR⟩:=hY _ _ w1 hJ1 hu
   gi_wp2
   refine hR.mono ?_;rintro e W3 (⟨rfl,hJ3,hk3,hz3⟩|⟨rfl,hJx3⟩)
   ·gi_wp2
    go_end0
    refine⟨⟨_,rfl⟩,.inl ?_⟩;rw[hsp,hsk];simpa[ao]using hJ3
   ·gi_wp2
    go_end0
    exact⟨⟨_,rfl⟩,.inr ⟨_,hJx3⟩⟩
  ·obtain⟨i,hi⟩:∃i:Nat,Lib.index cur sep=i:=⟨(Lib.index cur sep).toNat,by omega⟩;have hne:sep≠[]:=by rintro rfl;simp at hs1
   have hsk:qc cur sep=cur.take i::qc (cur.drop (i+sep.length)) sep:=by unfold qc Lib.split;rw[Lib.count_hit hne hi,AO 1,bz hi]
   have htk:(cur.drop (i+sep.length)).take (cur.length-(i+sep.length))=cur.drop (i+sep.length):=qx (by simp);have hroom:=Lib.index_room cur sep (by omega);rw[hi]at hroom;unfold zu at ht hs2;have hwi:wrap64 (i:Int)=(i:Int):=by unfold wrap64;omega
   have hu:(ao (qc t sep))[(ao done).length]?=some (.string ⟨(cur.take i).toArray⟩):=by rw[hsp,hsk,hel];simp[ao]
   obtain⟨fn,tmps,assign,body,hy,hR⟩:=hY _ _ w1 hJ1 hu;rw[hi]
   gi_wp2
   refine hR.mono ?_;rintro e W3 (⟨rfl,hJ3,hk3,hz3⟩|⟨rfl,hJx3⟩)
   ·have e1:W3.cell? ⟨B1,0,none⟩=some (.string ⟨sep.toArray⟩):=by rw[<-d1];exact XA (hk3 B1 (.inl rfl))
    have o2:=m2.same (hk3 B2 (.inr (.inl rfl)));have e2:=o2.cell;have e4:=o2.free;have e3:W3.cell? ⟨B3,0,none⟩=some (.int .i64 0):=by rw[<-d3];exact XA (hk3 B3 (.inr (.inr rfl)))
    gi_wp2
    go_roundw
    case rel=>
     refine⟨done++[cur.take i],cur.drop (i+sep.length),by rw[hsp,hsk];simp,by simp;omega,?_,?_,?_,?_⟩
     ·have:=hJ _ _ _ hJ3 (vx.SH (w:=W3) (b:=B2) (.string ⟨(cur.drop (i+sep.length)).toArray⟩) (fun b=>b=B1\/b=B2\/b=B3) (.inr (.inl rfl)));simpa[ao]using this
     ·exact lh (vx.SH (w:=W3) (b:=B2) _ (fun b=>b=B2) rfl) e1 h12
     ·exact o2.set (.string ⟨(cur.drop (i+sep.length)).toArray⟩)
     ·exact lh (vx.SH (w:=W3) (b:=B2) _ (fun b=>b=B2) rfl) e3 h23
    case measure=>have:=o2.set (.string ⟨(cur.drop (i+sep.length)).toArray⟩);rw[this.str,k2.str];simp;omega
   ·gi_wp2
    refine bodyPost_ret (results_none rfl _ _ _) rfl ?_;exact⟨⟨_,rfl⟩,.inr ⟨_,hJx3⟩⟩
def c8:Qi:=fun cap Y=>match cap with
 |[.ref b 0 0,.ref a 0 0,.ref c 0 0]=>match Y b,Y a,Y c with
  |some ⟨_,1,false,[[.v (.string sep)]]⟩,some ⟨_,1,false,[[.v (.string t)]]⟩,some ⟨_,1,false,[[.v (.int .i64 0)]]⟩=>
   if b≠a/\c≠a/\1<=sep.data.toList.length/\sep.data.toList.length<=zu/\t.data.toList.length<=zu then some ((qc t.data.toList sep.data.toList).map str,qv (qv (qv Y b none) a none) c none)else none
  |_,_,_=>none
 |_=>none
theorem fj{P:Program}{w:World}{S:Nat->Prop}{G:Nat->GI}{Y:Hp}{Z id e:Nat}{u:Value}(hi:Inv P w S G Y Z)(c:Y id=some ⟨e,1,false,[[.v u]]⟩):vx w (G id).g u:=by have b:=hi.live id _ c;have hs:(G id).s=1:=b.bs.symm;obtain⟨a,d,j,f⟩:=b.row (by omega);obtain⟨x,h,i⟩:=f 0 0 [.v u] (.v u) rfl rfl;obtain⟨rfl,_⟩:=i.2.1.w8;exact⟨a,e,d,by simpa[hs]using h⟩
theorem FY:Bt True prog 246 c8:=by
 refine⟨⟨_,func246,by kernel_rfl,by kernel_rfl⟩,fun cap Y Z xs Y1 h=>?_⟩;unfold c8 at h;split at h
 case h_2=>cases h
 rename_i d c i3;split at h
 case h_2=>cases h
 rename_i e1 sep e2 t e3 r q s;split at h
 case isFalse=>cases h
 rename_i E;obtain⟨u,v,x,y,F⟩:=E;injection h with h
 injection h with H a;subst H;subst a;have f:∀id b,qv (qv (qv Y d none) c none) i3 none id=some b->Y id=some b/\id≠d/\id≠c/\id≠i3:=fun id b a=>by
  by_cases m:id=i3
  ·subst m;rw[wQ]at a;cases a
  rw[qO _ _ _ _ m]at a;by_cases o:id=c
  ·subst o;rw[wQ]at a;cases a
  rw[qO _ _ _ _ o]at a;by_cases p:id=d
  ·subst p;rw[wQ]at a;cases a
  rw[qO _ _ _ _ p]at a;exact⟨a,p,o,m⟩
 refine⟨ao (qc t.data.toList sep.data.toList),by simp[ao],by simp[ao,lit],fun id b a=>(f id b a).1,fun w S G vs hi j=>?_⟩;obtain⟨v1,r1,rfl,I,j⟩:=j.jC;obtain⟨v2,r2,rfl,K,j⟩:=j.jC;obtain⟨v3,r3,rfl,L,j⟩:=j.jC;obtain rfl:=j.WO;have M:=fj hi r;have N:=fj hi q;have P:=fj hi s;obtain⟨_,rfl⟩:=I.Wq;obtain⟨_,rfl⟩:=K.Wq;obtain⟨_,rfl⟩:=L.Wq;have z:(G d).g≠(G c).g:=fun e=>u (hi.inj _ _ _ _ r q e)
 have A:(G i3).g≠(G c).g:=fun e=>v (hi.inj _ _ _ _ s q e)
 refine⟨fun b=>b=(G d).g\/b=(G c).g\/b=(G i3).g,?_,?_⟩
 ·have k:∀i blk,Y i=some blk->(i=d\/i=c\/i=i3)->jz Y G (G i).g/\Vz S G (qv (qv (qv Y d none) c none) i3 none) (G i).g:=fun i blk a B=>
   ⟨⟨i,blk,a,rfl⟩,hi.apart i blk a,fun id Q hid e=>by
     obtain⟨R,p,o,m⟩:=f id Q hid;have:=hi.inj _ _ _ _ R a e;subst this;rcases B with h|h|h
     ·exact p h
     ·exact o h
     ·exact m h⟩
  rintro b (rfl|rfl|rfl)
  ·exact k d _ r (.inl rfl)
  ·exact k c _ q (.inr (.inl rfl))
  ·exact k i3 _ s (.inr (.inr rfl))
 ·intro n l J T X hJx C hY W h0 D _;have:=uB n l (G d).g (G c).g (G i3).g sep.data.toList t.data.toList x y F z A J T X C hY W h0 (M.same (D _ (.inl rfl))).cell (N.same (D _ (.inr (.inl rfl)))) (P.same (D _ (.inr (.inr rfl)))).cell;simpa using this
end Go.Q
namespace Go.AM
def bH(P:Program)(l:Qg)(g:FuncId)(it:Qi):Ctx:=⟨P,lookup l,fun _=>[],fun _=>[],fun _=>false,fun _=>[],fun k=>if k=g then some it else none⟩
@[simp]theorem zfC(P:Program)(l:Qg)(g:FuncId)(it:Qi):(bH P l g it).P=P:=rfl
@[simp]theorem zfD(P:Program)(l:Qg)(k:FuncId)(it:Qi)(Y:Hp)(Z g:Nat)(x y xs:zb):jD (bH P l k it) Y Z (some (.fn (.func g) x y)) xs=(lookup l g).bind fun s=>s (x++xs++y) Y Z:=by unfold jD bH;simp only;cases lookup l g<;>rfl
@[simp]theorem O2(P:Program)(l:Qg)(k:FuncId)(it:Qi)(i:Nat)(a:Array Oper)(d:Bool)(st:St)(K:Exit->St->Prop):Zy (bH P l k it) (.region i a d) st K=iU (bH P l k it) a a.toList st (Y9 K):=YE _ i a d st K rfl rfl
theorem O3{P:Program}{l:Qg}{q:List Nat}{k:FuncId}{it:Qi}(b:P.follows .mixedOrders=true)(h:cx True P q l)(hi:Lg P k it):AM.Good (bH P l k it) (fun g=>q.contains g):=
 let g:=qw b h
 ⟨g.spec,g.quiet,g.mixed,(fun _ _ h=>by cases h),(fun j a h=>by
  have:(if j=k then some it else none)=some a:=h;split at this
  ·rename_i e;injection this with this
   subst this;subst e;exact hi
  ·cases this)⟩
@[simp]theorem zhw(C:Ctx)(b:Code)(K:Exit->St->Prop)(st:St):asgK C b K .normal st=Zy C b st K:=rfl
@[simp]theorem zhx(I:Nat->Hp->Nat->Prop)(k:Nat)(U:Nat->O)(K:Exit->St->Prop)(st:St):rngK I k U K .normal st=I (k+1) st.Y st.Z:=rfl
@[simp]theorem zhy(I:Nat->Hp->Nat->Prop)(k:Nat)(U:Nat->O)(K:Exit->St->Prop)(st:St):rngK I k U K .ret st=K .ret ⟨U,st.Y,st.Z⟩:=rfl
theorem xS{Y:Hp}{Z e s:Nat}{v:O}{xs:List zb}(h:qT Y Z e s v xs){j:Nat}{b:kv}(a:Y j=some b)(c:b.arr=false):∀n,v≠.own j 0 n:=by
 rcases h with⟨rfl,_⟩|⟨id,f,rfl,d⟩
 ·intro n e;cases e
 ·intro n e;injection e with e
  subst e;rw[d]at a;injection a with a
  subst a;cases c
end Go.AM
namespace Go.Q
noncomputable def na (t:za):O:=.wG [.sl 11 (zW (vF t).1),int (vF t).2]
theorem nb:zg prog 204 (yr C0 f204):=ky jG func204
noncomputable abbrev Csq:Ctx:=zR prog [(204,yr C0 f204)]
theorem zcC:Gd Csq:=zU mixed ⟨nb,trivial⟩
theorem FZ:zg prog 165 (yr Csq f165):=ky zcC func165
def T8(t sep:za)(Y:Hp)(Z:Nat):Hp:=qv (qv (qv Y Z (some ⟨9,1,false,[[str t]]⟩)) (Z+1) (some ⟨9,1,false,[[str sep]]⟩)) (Z+1+1) (some ⟨3,1,false,[[int 0]]⟩)
theorem uC(t sep:za)(Y:Hp)(Z:Nat):yr C0 f204 [str t,str sep,int 0] Y Z=some (.fn (.func 246) [] [.ref (Z+1) 0 0,.ref Z 0 0,.ref (Z+1+1) 0 0],T8 t sep Y Z,Z+1+1+1):=by unfold yr;rw[zd (by simp[f204])];refine y0 rfl ?_;simp[T8,f204]
theorem O4(t sep:za)(Y:Hp)(Z:Nat):yr Csq f165 [str t,str sep] Y Z=some (.fn (.func 246) [] [.ref (Z+1) 0 0,.ref Z 0 0,.ref (Z+1+1) 0 0],T8 t sep Y Z,Z+1+1+1):=by
 have a:=fun Y Z=>uC t sep Y Z
 unfold yr;rw[zd (by simp[f165])];refine y0 rfl ?_;simp[a,f165]
def JI(Y:Hp)(Z:Nat)(v:O)(m:List qK):Prop:=v=.sl 11 (zW m)\/(v=.nil/\m=[])\/∃id,id<Z/\v=.own id 0 (zW m).length/\Y id=some ⟨181,11,true,zW m⟩
theorem JI.frz{Y:Hp}{Z:Nat}{v:O}{m:List qK}(h:JI Y Z v m):∃y Y1,qA Y v=some (y,Y1)/\(Sh.s 11 jn).fix y=.sl 11 (zW m)/\(∀j,(∀n,v≠.own j 0 n)->Y1 j=Y j)/\∀j b,Y1 j=some b->Y j=some b:=by
 rcases h with rfl|⟨rfl,rfl⟩|⟨id,f,rfl,c⟩
 ·exact⟨_,Y,rfl,JY m,fun _ _=>rfl,fun _ _ h=>h⟩
 ·exact⟨_,Y,rfl,rfl,fun _ _=>rfl,fun _ _ h=>h⟩
 ·refine⟨.sl 11 (zW m),qv Y id none,by simp[c],JY m,fun j d=>zx _ _ _ _ fun e=>d _ (by subst e;rfl),fun j b a=>?_⟩;by_cases e:j=id
  ·subst e;rw[wQ]at a;cases a
  ·rwa [qO _ _ _ _ e]at a
theorem JI.keep{Y a:Hp}{Z b:Nat}{v:O}{m:List qK}(h:JI Y Z v m)(f:Z<=b)(c:∀id,id<Z->(∀n,v=.own id 0 n->a id=Y id)):JI a b v m:=by
 rcases h with rfl|⟨rfl,rfl⟩|⟨id,d,rfl,e⟩
 ·exact .inl rfl
 ·exact .inr (.inl ⟨rfl,rfl⟩)
 ·exact .inr (.inr ⟨id,by omega,rfl,by rw[c id d _ rfl];exact e⟩)
theorem JI.len{Y:Hp}{Z:Nat}{v:O}{m:List qK}(h:JI Y Z v m):Ki prog 138 v=some (int m.length):=by rcases h with rfl|⟨rfl,rfl⟩|⟨id,a,rfl,b⟩<;>simp[zW]
theorem JI.box{Y:Hp}{Z:Nat}{v:O}{m:List qK}(h:JI Y Z v m){j:Nat}{b:kv}(a:Y j=some b)(c:b.e≠181):∀n,v≠.own j 0 n:=by
 rcases h with rfl|⟨rfl,rfl⟩|⟨id,f,rfl,d⟩
 ·intro n e;cases e
 ·intro n e;cases e
 ·intro n e;injection e with e
  subst e;rw[d]at a;injection a with a
  subst a;exact c rfl
theorem JI.lt{Y:Hp}{Z:Nat}{v:O}{m:List qK}(h:JI Y Z v m){j n:Nat}(e:v=.own j 0 n):j<Z:=by
 rcases h with rfl|⟨rfl,rfl⟩|⟨id,a,rfl,b⟩
 ·cases e
 ·cases e
 ·injection e with e;omega
theorem T9(c:xH)(Y:Hp)(Z:Nat)(h:c.ok):qn [.g uu] (FCm Jy) [.agg c.V] Y Z=some (Jy c,Y,Z):=
 vN (show zD Y [.agg c.V]=some ([.agg c.V],Y) by simp[xH.V]) (by
  have d:(Sh.g uu).fix (.agg c.V)=.agg c.V:=by simp[xH.V]
  show FCm Jy [(Sh.g uu).fix (.agg c.V)]=_;rw[d];exact qF (V:=fun v:xH=>[O.agg v.V]) (a:=c) (fun a b e=>by simp only[zk,zI]at e;injection e with e;exact LD e) h) (.inr (by simp[xH.V]))
theorem Ct(f:Bool->Bool->Bool)(g:Nat)(D:(f=and/\g=170)\/(f=or/\g=171)){Y:Hp}{Z:Nat}{v w:O}{a b:List qK}(E:JI Y Z v a)(F:JI Y Z w b)(h:∀id n k,v=.own id 0 n->w≠.own id 0 k)(A:yE a)(B:yE b) :
  ∃x i l,vE [.s 11 jn,.s 11 jn] Cp [v,w,.fn (.func g) [] []] Y Z=some (x,i,l)/\JI i l x (kB f a b)/\Z<=l/\(∀j,j<Z->(∀n,v≠.own j 0 n)->(∀n,w≠.own j 0 n)->i j=Y j)/\(∀n j,x=.own j 0 n->Z<=j)/\∀s es,x≠.sl s es:=by
 obtain⟨y,Y1,G,H,m,_⟩:=E.frz;have o:JI Y1 Z w b:=F.keep (zf _) fun id _ n e=>m id fun I J=>h id I n J e
 obtain⟨z,Y2,K,L,C,_⟩:=o.frz;have d:zD Y [v,w,.fn (.func g) [] []]=some ([y,z,.fn (.func g) [] []],Y2):=by simp only[zD,G,K];rfl
 have hF:Cp (cF [.s 11 jn,.s 11 jn] (yg [] [y,z,.fn (.func g) [] []]))=some (WA f a b):=by
  show Cp [(Sh.s 11 jn).fix y,(Sh.s 11 jn).fix z,.fn (.func g) [] []]=_;rw[H,L];rcases D with⟨rfl,rfl⟩|⟨rfl,rfl⟩
  ·have:=qF (V:=fun a:List qK×List qK=>[O.sl 11 (zW a.1),.sl 11 (zW a.2),.fn (.func 170) [] []]) (pre:=fun a=>yE a.1/\yE a.2) (out:=fun a=>WA and a.1 a.2) (a:=(a,b)) (HW _) ⟨A,B⟩;unfold Cp;rw[this]
  ·have:=qF (V:=fun a:List qK×List qK=>[O.sl 11 (zW a.1),.sl 11 (zW a.2),.fn (.func 171) [] []]) (pre:=fun a=>yE a.1/\yE a.2) (out:=fun a=>WA or a.1 a.2) (a:=(a,b)) (HW _) ⟨A,B⟩;have p:ql (α:=List qK×List qK) (fun a=>[O.sl 11 (zW a.1),.sl 11 (zW a.2),.fn (.func 170) [] []]) (fun a=>yE a.1/\yE a.2) (fun a=>WA and a.1 a.2) [O.sl 11 (zW a),.sl 11 (zW b),.fn (.func 171) [] []]=none:=by
    cases M:ql (α:=List qK×List qK) (fun a=>[O.sl 11 (zW a.1),.sl 11 (zW a.2),.fn (.func 170) [] []]) (fun a=>yE a.1/\yE a.2) (fun a=>WA and a.1 a.2) [O.sl 11 (zW a),.sl 11 (zW b),.fn (.func 171) [] []]with
    |none=>rfl
    |some r=>obtain⟨_,e,_⟩:=zN M;simp at e
   unfold Cp;rw[p];exact this
 unfold vE yR;by_cases q:kB f a b=[]
 ·have c:=hF;unfold WA at c;rw[zd q]at c;simp only[d,c];exact⟨_,_,_,rfl,.inr (.inl ⟨rfl,q⟩),zf _,fun j _ t u=>(C j u).trans (m j t),fun n j e=>(by cases e),fun s es e=>(by cases e)⟩
 ·have c:=hF;unfold WA at c;rw[zc q]at c;simp only[d,c];exact⟨_,_,_,rfl,.inr (.inr ⟨Z,by omega,rfl,by simp⟩),by omega,fun j N t u=>by rw[zx _ _ _ _ (by omega)];exact(C j u).trans (m j t),fun n j e=>(by injection e with e;omega),fun s es e=>(by cases e)⟩
noncomputable abbrev Crrg:Ctx:=bH prog [(165,yr Csq f165),(166,zh false [] (YY ux)),(167,qn [] (YK bF)),(168,qn [.g uu] (FCm Jy)),(169,vE [.s 11 jn,.s 11 jn] Cp),(172,qn [.g jn] (FSt idS))] 246 c8
theorem zcD:Gd Crrg:=O3 mixed ⟨FZ,by simp,cT,by simp,JU,by simp,iy,by simp,pB,by simp,c7,by simp,trivial⟩ FY
theorem nc(t:za)(ht:t.length+1<=zu):∃r0,zq Crrg f126 [str t]=some r0/\qX r0 (na t):=by
 refine yB (sh:=.s 11 jn) rfl ?_;by_cases T:(400:Int)<t.length
 ·have hv:vF t=([],2):=by unfold vF;rw[zd T]
  simp[T,na,hv,zW,qi,f126]
 have hsq:=fun Y Z=>O4 t [124,124] Y Z
 obtain⟨a,u⟩:=jc (qc t [124,124]);have hpl:∀p∈a,p.length<=400:=fun p Y=>by have:=vr (by rw[u];exact Y);omega
 have hpn:a.length<=401:=by have:=xQ (s:=t) (sep:=[124,124]) (by simp);rw[u]at this;omega
 have b:vF t=match oW a with
  |none=>([],10)
  |some ls=>match Vp ls []with
   |none=>([],1)
   |some o=>if(100:Int)<o.length then([],2)else(o,0):=by unfold vF;rw[zc T,u]<;>rfl
 simp[T,hsq];refine Lf (p:=23) (xs:=a.map str) rfl (by simp;exact⟨rfl,rfl⟩) (it:=c8) rfl (by simp[c8,T8,u];exact⟨⟨by decide,by omega⟩,rfl⟩) (fun k Y Z=>∃(v:O) (done:List (List xH)),6<=Z/\Y 0=some ⟨138,1,false,[[.nil]]⟩/\Y 1=some ⟨30,1,false,[[int 0]]⟩/\Y 2=some ⟨162,1,false,[[v]]⟩ /\
   qT Y Z 166 1 v (done.map fun l=>[.sl 11 (ZB l)])/\done.length=k/\oW a=(oW (a.drop k)).map (done++·)) ?_ ?_ ?_
 ·exact⟨.nil,[],by simp,by simp,by simp,by simp,.inl ⟨rfl,rfl⟩,rfl,by rw[ke];cases oW a<;>rfl⟩
 ·rintro k Y Z hk ⟨v,done,z,f,d,b2,C,hdk,he⟩;have hk':k<a.length:=by simpa using hk
  have hpk:(a.map str)[k]=str a[k]:=by simp
  have hpkl:=hpl a[k] (zj hk');have halt:=fun Y Z=>j6 ux a[k] Y Z (by unfold zu;omega)
  simp only[ux]at halt;rw[hpk];rw[ze hk']at he;simp only[oW]at he;cases D:(QK a[k]).2
  ·rw[D]at he;simp only[zF,qR,xL]at he;rw[he]at b;have n0:¬0=Z:=by omega
   have n1:¬1=Z:=by omega
   simp[halt,D,f,d,na,b,zW,qi,f126]
  ·rw[D]at he;simp only[qH]at he;have rn:=qT.jd (P:=prog) (t:=162) (c:=[.sl 11 (ZB (QK a[k]).1)]) C za5 zff zfg zfh rfl (by omega) (by simp[hdk];unfold maxLen;omega) (by simp[hdk];omega);have k0:=fun Y'=>yM C Y' 0 (xS C f rfl)
   have k1:=fun Y'=>yM C Y' 1 (xS C d rfl)
   have k2:=fun Y'=>yM C Y' 2 (xS C b2 rfl)
   have n0:¬0=Z:=by omega
   have n1:¬1=Z:=by omega
   have n2:¬2=Z:=by omega
   have n3:¬1=Z+1:=by omega
   have n4:¬2=Z+1:=by omega
   have n5:¬Z+1=2:=by omega
   simp[halt,D,f,d,b2,rn,k0,k1,k2,n0,n1,n2,n3,n4,n5,zp,zE,zo];refine⟨by omega,by rw[zx _ _ _ _ (by omega),k1,zx _ _ _ _ (by omega)];exact d,done++[(QK a[k]).1],.inr ⟨Z+1,by omega,by simp,by rw[zx _ _ _ _ (by omega)];simp⟩,by simp[hdk],?_⟩;rw[he];cases oW (a.drop (k+1))<;>simp
 ·rintro Y Z ⟨v,done,z,f,d,b2,C,hdk,he⟩;rw[vB]at hdk;rw[vB,zn]at he;simp only[oW,zC,yU]at he;obtain⟨zgk,hdl⟩:=mZ a done 400 hpl he;rw[he]at b;simp only at b;have hlen:=C.len za5;rw[vB]at hlen;have hdn:done.length<=401:=by omega
  obtain⟨r,L⟩:=jc (done.map (fun l=>[O.sl 11 (ZB l)]));rw[L]at C;have hrl:r.length=done.length:=by rw[<-L];simp
  simp[b2,hlen];refine zP (fun i U Y Z=>U 2=.ref 0 0 0/\U 3=.ref 1 0 0/\U 35=v/\U 36=int done.length/\U 37=int i/\6<=Z/\Y 0=some ⟨138,1,false,[[.nil]]⟩/\Y 1=some ⟨30,1,false,[[int 0]]⟩ /\
    qT Y Z 166 1 v r/\∃o,JI Y Z (U 8) o/\(∀s es,U 8≠.sl s es)/\yW o/\o.length<=i*500/\Vp done []=Vp (done.drop i) o) done.length
   ⟨by simp,by simp,by simp,by simp,by simp,z,f,d,C,[],.inr (.inl ⟨by simp,rfl⟩),by simp,(by intro s hs;cases hs),by simp,by simp⟩ ?_
  clear z f d b2 C hlen Y Z;rintro i U Y Z hi ⟨M,N,H,A,B,z,f,d,C,o,K,Q,hgo,hol,hj⟩;by_cases hlt:i<done.length
  ·obtain⟨idA,I,rfl,E⟩:=C.at_ (by omega);obtain⟨l,hl⟩:=jc (done[i]);have hri:∀h:i<r.length,r[i]=[O.sl 11 (ZB l)]:=fun h=>by
    have:r[i]?=some [O.sl 11 (ZB l)]:=by rw[<-L,qo,zl hlt,hl];rfl
    rw[zl h]at this;injection this
   obtain⟨hgl,hll⟩:=zgk l (by rw[<-hl];exact zj hlt);rw[ze hlt,hl]at hj;simp only[Vp]at hj;have hev:∀(Y:Hp) (Z:Nat),qn [] (YK bF) [] Y Z=some (.sl 11 (zW [w5 qU]),Y,Z):=fun Y Z=>Q3 _ Y Z
   have hwi:=qG i;have hel:(ZB l).length=l.length:=by simp[ZB]
   simp[M,N,H,A,B,hlt,hrl,E,hri,hev,hel];refine zP (fun k U Y Z=>U 2=.ref 0 0 0/\U 3=.ref 1 0 0/\U 35=.own idA 0 r.length/\U 36=int done.length/\U 37=int i/\6<=Z/\Y 0=some ⟨138,1,false,[[.nil]]⟩/\Y 1=some ⟨30,1,false,[[int 0]]⟩ /\
     qT Y Z 166 1 (.own idA 0 r.length) r/\JI Y Z (U 8) o/\(∀s es,U 8≠.sl s es)/\U 42=.sl 11 (ZB l)/\U 43=int l.length/\U 44=int k/\∃m,JI Y Z (U 11) m/\yW m/\m.length<=k+1/\(∀id n n',U 8=.own id 0 n->U 11≠.own id 0 n')/\YM l [w5 qU]=YM (l.drop k) m) l.length
    ⟨by simp[M],by simp[N],by simp[H,hrl],by simp[A],by simp[B],z,f,d,C,by simpa using K,by simpa using Q,by simp,by simp,by simp,[w5 qU],.inl (by simp),(Qa kZ).2,by simp,by simp,by simp⟩ ?_
   clear M N H A B z f d C K Q hi E I U Y Z;rintro k U Y Z hk ⟨M,N,H,A,B,z,f,d,C,K,Q,h42,h43,h44,m,hM,S7,hml,rn,y⟩;by_cases W:k<l.length
   ·obtain⟨c,hc⟩:=jc (l[k]);have hcg:c.vU:=hgl c (by rw[<-hc];exact zj W);obtain⟨hs1,hs2⟩:=J1 hcg;have J:∀h:k<(ZB l).length,(ZB l)[k]=c.V:=fun h=>by simp[ZB,hc]
    have o1:=fun Y Z=>T9 c Y Z hcg.ok
    have hwk:=qG k;rw[ze W,hc]at y;simp only[YM]at y;have n0:¬0=Z:=by omega
    have n1:¬1=Z:=by omega
    cases D:(vu c).2
    ·rw[D]at y;simp only[zF,qR]at y;rw[y]at hj;simp only at hj;rw[hj]at b;simp only at b;simp only[Jy,xH.V]at o1 J;simp[M,N,H,A,B,h42,h43,h44,W,hel,J,o1,D,f,d,n0,n1,na,b,zW,qi,f126]
    ·rw[D]at y;simp only[qH]at y;have hM':JI (qv Y Z (some ⟨173,11,false,[c.V]⟩)) (Z+1) (U 11) m:=hM.keep (by omega) fun id hid n e=>zx _ _ _ _ (by omega)
     obtain⟨x,Y',Z',F,hX,hnx',Nt,X,hxs⟩:=Ct and 170 (.inl ⟨rfl,rfl⟩) hM' (.inl rfl:JI _ _ (.sl 11 (zW (vu c).1)) (vu c).1) (fun id n k e e2=>by cases e2) (S7.small (by unfold zu;omega)) (yW.small hs2 (by unfold zu;omega));have G:∀j,j<Z->(∀n,U 11≠.own j 0 n)->Y' j=Y j:=fun j hj q=>by rw[Nt j (by omega) q (fun n e=>by cases e),zx _ _ _ _ (by omega)]
     have hlm:=Yx and m (vu c).1;obtain⟨idA2,I,R,E⟩:=C.at_ (by omega);injection R with R
     subst R;simp only[Jy,xH.V]at o1 J F;simp[M,N,H,A,B,h42,h43,h44,W,hel,J,o1,D,F,hwk];exact⟨by omega,by omega,by rw[G 0 (by omega) (hM.box f (by decide))];exact f,by rw[G 1 (by omega) (hM.box d (by decide))];exact d,.inr ⟨idA,by omega,rfl,by rw[G idA I (hM.box E (by simp))];exact E⟩,K.keep (by omega) (fun id hid n e=>G id hid fun n'=>rn id n n' e),Q,_,hX,kC and S7 hs2,by omega,fun id n n' e e2=>by have:=K.lt e;have:=X _ _ e2;omega,y⟩
   ·obtain rfl:k=l.length:=by omega
    rw[zn]at y;simp only[YM]at y;rw[y]at hj;simp only at hj;obtain⟨x,Y',Z',F,hX,hnx',Nt,X,hxs⟩:=Ct or 171 (.inr ⟨rfl,rfl⟩) K hM rn (hgo.small (by unfold zu;omega)) (S7.small (by unfold zu;omega));have hlm:=Yx or o m;obtain⟨idA2,I,R,E⟩:=C.at_ (by omega);injection R with R
    subst R;simp[M,N,H,A,B,h42,h43,h44,F,hwi];exact⟨by omega,hrl,by omega,by rw[Nt 0 (by omega) (K.box f (by decide)) (hM.box f (by decide))];exact f,by rw[Nt 1 (by omega) (K.box d (by decide)) (hM.box d (by decide))];exact d,.inr ⟨idA,by omega,by rw[hrl],by rw[Nt idA I (K.box E (by simp)) (hM.box E (by simp))];exact E⟩,_,hX,hxs,kC or hgo S7,by omega,hj⟩
  ·obtain rfl:i=done.length:=by omega
   rw[zn]at hj;simp only[Vp]at hj;rw[hj]at b;simp only at b;have S:=K.len;by_cases h100:(100:Int)<o.length
   ·rw[zd h100]at b;simp[M,N,A,B,S,h100,f,d,na,b,zW,qi,f126]
   rw[zc h100]at b;simp[M,N,A,B,S,h100];obtain⟨w,hw8⟩:=jc (U 8);rw[hw8]at K Q;refine zP (fun j U Y Z=>U 2=.ref 0 0 0/\U 3=.ref 1 0 0/\U 8=w/\U 66=w/\U 67=int o.length/\U 68=int j/\6<=Z/\Y 0=some ⟨138,1,false,[[.nil]]⟩/\Y 1=some ⟨30,1,false,[[int 0]]⟩/\JI Y Z w o) o.length
    ⟨by simp[M],by simp[N],by simp[hw8],by simp[hw8],by simp,by simp,z,f,d,K⟩ ?_
   clear M N H A B z f d C K hi hw8 U Y Z S;rintro j U Y Z hjl ⟨M,N,h8,h66,h67,h68,z,f,d,K⟩;by_cases hltj:j<o.length
   ·have hwj:=qG j;rcases K with rfl|⟨rfl,rfl⟩|⟨id,hid,rfl,hb⟩
    ·exact absurd rfl (Q _ _)
    ·simp at hltj
    ·obtain⟨s,hs⟩:=jc (o[j]);have hgs:=hgo s (by rw[<-hs];exact zj hltj);have hel:(zW o).length=o.length:=by simp[zW]
     have J:∀h:j<(zW o).length,(zW o)[j]=s.V:=fun h=>by simp[zW,hs]
     have hset:(zW o).set j s.V=zW o:=by
      have h':j<(zW o).length:=by omega
      rw[<-J h'];exact List.set_getElem_self h'
     have hcp:∀Y Z,qn [.g jn] (FSt idS) [.agg s.V] Y Z=some (.agg s.V,Y,Z):=fun Y Z=>O0 idS s (.agg s.V) Y Z ⟨hgs.1.small,hgs.2.small⟩ (by simp[qK.V,Cut.V]) (by simp[qK.V,Cut.V]) (by simp[qK.V,Cut.V])
     have m1:¬id=Z:=by omega
     simp only[qK.V,Cut.V,q6,jJ]at J hcp hset;have i0:¬0=id:=fun e=>by rw[<-e]at hb;rw[hb]at f;simp at f
     have i1:¬1=id:=fun e=>by rw[<-e]at hb;rw[hb]at d;simp at d
     have n0:¬0=Z:=by omega
     have n1:¬1=Z:=by omega
     simp[M,N,h8,h66,h67,h68,hltj,hel,hb,J,hcp,m1,hwj,hset];exact⟨by omega,by omega,by simp[i0,n0,f],by simp[i1,n1,d],.inr (.inr ⟨id,by omega,by rw[hel],by simp⟩)⟩
   ·obtain rfl:j=o.length:=by omega
    rcases K with rfl|⟨rfl,rfl⟩|⟨id,hid,rfl,hb⟩
    ·exact absurd rfl (Q _ _)
    ·simp[M,N,h8,h66,h67,h68,f,d,na,b,qi,zW,f126]
    ·have i0:¬id=0:=fun e=>by rw[e]at hb;rw[hb]at f;simp at f
     have i1:¬id=1:=fun e=>by rw[e]at hb;rw[hb]at d;simp at d
     have hfx:=JY o;simp only[Sh.oU,O.sl.injEq,true_and]at hfx;simp[M,N,h8,h66,h67,h68,f,d,hb,i0,i1,na,b,qi,hfx,f126]
theorem Vq:zg prog 126 (zh false [] (YY na)):=
 Qq (fn:=f126) zcD (qD func126) false [] _ fun args r h w S vs a=>by obtain⟨l,rfl,Y,rfl⟩:=zN h;obtain⟨b,c,d⟩:=nc l Y;exact⟨_,b,a,by simp[f126],c,d⟩
def Jf(op:Int):Bool:=kI op 2 6||op==12
def Zn(op:Int):Bool:=kI op 7 11
def y7(op:Int):Bool:=kI op 3 6
noncomputable abbrev Cwi:Ctx:=zR prog [(59,zh false [] (F3 kI))]
theorem F0:AM.Good Cwi (fun g=>[59].contains g):=qw mixed ⟨Qo,fun _=>zt _ _,trivial⟩
def oX(f:Int->Bool):zb->Option O
 |[.v (.int .i64 a)]=>some (qS (f a))
 |_=>none
theorem XR{f:Int->Bool}{args:zb}{r:O}(h:oX f args=some r):∃a,args=[int a]/\r=qS (f a):=by
 unfold oX at h;split at h
 ·injection h with h;exact⟨_,rfl,h.symm⟩
 ·cases h
@[simp]theorem zfE(f:Int->Bool)(a:Int)(Y:Hp)(Z:Nat):zh false [] (oX f) [.v (.int .i64 a)] Y Z=some (qS (f a),Y,Z):=yA rfl rfl (.inl rfl)
theorem Cu:zg prog 150 (zh false [] (oX Jf)):=
 wW (fn:=f150) F0 (qD func150) false [] _ fun args r h=>by obtain⟨a,rfl,rfl⟩:=XR h;exact⟨by simp[f150],_,zm rfl (by simp[Jf,f150]),qb _⟩
theorem gE:zg prog 111 (zh false [] (oX Zn)):=
 wW (fn:=f111) F0 (qD func111) false [] _ fun args r h=>by obtain⟨a,rfl,rfl⟩:=XR h;exact⟨by simp[f111],_,zm rfl (by simp[Zn,f111]),qb _⟩
theorem V4:zg prog 73 (zh false [] (oX y7)):=
 wW (fn:=f73) F0 (qD func73) false [] _ fun args r h=>by obtain⟨a,rfl,rfl⟩:=XR h;exact⟨by simp[f73],_,zm rfl (by simp[y7,f73]),qb _⟩
noncomputable abbrev Cms (n:Nat):Ctx:=zR prog [(56,zh false [] (FC (fun c=>.wG [int c.parts,int c.levels]) n))]
theorem uD(n:Nat)(c:qe)(h:c.cb<=zu/\c.cb<=n+1):zq (Cms n) f56 [.agg c.V]=some (.wG [int c.parts,int c.levels]):=by
 have q:=eF c;have r:=XM c;have s:=Zm c;have f:=br c;have t:=Fq c;have u:=jf c.args;obtain⟨v,B⟩:=h;unfold zu at v;refine zm rfl ?_;simp;refine zP (fun k U Y Z=>U 9=.sl 7 (c.args.map qe.V)/\U 10=int c.args.length/\U 11=int k/\U 2=int ((1+yZ (c.args.take k):Nat):Int)/\U 3=int (yT (c.args.take k))) c.args.length
  ⟨by simp,by simp,by simp,by simp[yZ],by simp[yT]⟩ ?_
 rintro k U Y Z C ⟨l,d,e,g,i⟩;by_cases a:k<c.args.length
 ·obtain⟨m,w⟩:=zft a;have D:=kj (zj a);have y:=qG k;have o:=rW c.args k;have j:=rW c.args (k+1);have z:=bw c.args fun x E=>eF x
  have b:=fun Y Z=>Zd (fun c=>.wG [int c.parts,int c.levels]) n c.args[k] Y Z ⟨by unfold zu;omega,by omega⟩
  have p:i6.wrap (((1+yZ (c.args.take k):Nat):Int)+c.args[k].parts)=((1+yZ (c.args.take (k+1)):Nat):Int):=by rw[wu (by omega) (by omega),m];omega
  have A:(if(yT (c.args.take k))<c.args[k].levels then(c.args[k].levels:Int)else yT (c.args.take k))=(yT (c.args.take (k+1)):Int):=by rw[w];split<;>omega
  simp[g,i,l,d,e,a,b,y];exact⟨by omega,by rw[wu (by omega) (by omega),m];omega,A⟩
 ·obtain rfl:k=c.args.length:=by omega
  rw[wF]at g i;have p:i6.wrap ((yT c.args:Int)+1)=(c.levels:Int):=by rw[wu (by omega) (by omega),f];omega
  simp[g,i,l,d,e,p,wa,f56];omega
theorem pC:∀n,zg prog 56 (zh false [] (FC (fun c=>.wG [int c.parts,int c.levels]) n)):=by
 intro n
 induction n with
 |zero=>exact cE ⟨_,func56,by kernel_rfl,by kernel_rfl⟩
 |succ n a=>
  have b:Gd (Cms n):=zU mixed ⟨a,trivial⟩;exact wW (fn:=f56) b (qD func56) false [] _ fun args r h=>by obtain⟨c,rfl,d,rfl⟩:=Q0 h;exact⟨zw (zf 1) (by decide),_,uD n c d,qb _⟩
def w1F(c:qe):Bool:=!(c.kind==4)&&(!c.attr.isEmpty||c.op != 0||decide (0<c.yp.length)||!c.pat.isEmpty)
def w2F(c:qe):Bool:=c.kind != 5&&!c.name.isEmpty
def w3F(c:qe):Bool:=!kI c.kind 1 3&&decide (0<c.args.length)
def w4F(c:qe):Bool:=c.kind==4&&!Jf c.op&&decide (0<c.yp.length)
def w5F(c:qe):Bool:=c.kind==4&&!Zn c.op&&!c.pat.isEmpty
def w6F(c:qe):Bool:=c.kind==3&&(c.args.length:Int) != 1
def w7F(c:qe):Bool:=c.kind==4&&y7 c.op&&(c.yp.length:Int) != 1
def Zo(c:qe):Bool:=w1F c||w2F c||w3F c||w4F c||w5F c||w6F c||w7F c
noncomputable abbrev Cfo:Ctx:=zR prog [(59,zh false [] (F3 kI)),(150,zh false [] (oX Jf)),(111,zh false [] (oX Zn)),(73,zh false [] (oX y7))]
theorem zcE:AM.Good Cfo (fun g=>[59,150,111,73].contains g):=qw mixed ⟨Qo,fun _=>zt _ _,Cu,fun _=>zt _ _,gE,fun _=>zt _ _,V4,fun _=>zt _ _,trivial⟩
@[simp]theorem zfF:kT Cfo 150:=je (by rfl) (zt _ _)
@[simp]theorem zfG:kT Cfo 111:=je (by rfl) (zt _ _)
@[simp]theorem zfH:kT Cfo 73:=je (by rfl) (zt _ _)
theorem nf(c:qe)(h:c.cb<=zu):zq Cfo f109 [.agg c.V]=some (int (if Zo c=true then 3 else 0)):=by
 refine zm rfl ?_;have a:(!(c.kind==4)&&(!c.attr.isEmpty||c.op != 0||decide (0<c.yp.length)||!c.pat.isEmpty))=w1F c:=rfl;have d:(c.kind != 5&&!c.name.isEmpty)=w2F c:=rfl;have f:(!kI c.kind 1 3&&decide (0<c.args.length))=w3F c:=rfl;have i:(c.kind==4&&!Jf c.op&&decide (0<c.yp.length))=w4F c:=rfl;have k:(c.kind==4&&!Zn c.op&&!c.pat.isEmpty)=w5F c:=rfl;have m:(c.kind==3&&(c.args.length:Int) != 1)=w6F c:=rfl;have o:(c.kind==4&&y7 c.op&&(c.yp.length:Int) != 1)=w7F c:=rfl;cases b:w1F c
 case true=>simp[a,b,Zo,f109]
 cases e:w2F c
 case true=>simp[a,b,d,e,Zo,f109]
 cases g:w3F c
 case true=>simp[a,b,d,e,f,g,Zo,f109]
 cases j:w4F c
 case true=>simp[a,b,d,e,f,g,i,j,Zo,f109]
 cases l:w5F c
 case true=>simp[a,b,d,e,f,g,i,j,k,l,Zo,f109]
 cases n:w6F c
 case true=>simp[a,b,d,e,f,g,i,j,k,l,m,n,Zo,f109]
 cases p:w7F c
 case true=>simp[a,b,d,e,f,g,i,j,k,l,m,n,o,p,Zo,f109]
 simp[a,b,d,e,f,g,i,j,k,l,m,n,o,p,Zo,f109]
theorem iA:zg prog 109 (GC fun c=>int (if Zo c=true then 3 else 0)):=
 wW (fn:=f109) zcE (qD func109) false [] _ fun args r h=>by obtain⟨c,rfl,a,rfl⟩:=Q0 h;exact⟨by simp[f109],_,nf c a.1,qb _⟩
noncomputable def V5 (p:Option qa) (v:qa):Bool:=match p with
 |none=>false
 |some p=>decide (0<=qL p v)
def Cv(op:Int)(v:qa):Bool:=v.kind==0||y7 op&&v.kind != 2
noncomputable def Vv (op:Int):Option qa->List qa->Int
 |_,[]=>0
 |p,v::l=>if v.check=0 then(if Cv op v=true then 6 else if V5 p v=true then 8 else Vv op (some v) l)else v.check
noncomputable def ZE (op:Int) (l:List qa):Int:=if(100:Int)<l.length then 2 else Vv op none l
def QO(l:List qa)(k:Nat):Option qa:=if k=0 then none else l[k-1]?
noncomputable def FIv (f:Int->List qa->O):zb->Option O:=ql (α:=Int×List qa) (fun a=>[int a.1,.sl 5 (a.2.map qa.V)]) (fun a=>Kd a.2<=zu) (fun a=>f a.1 a.2)
theorem O5(f:Int->List qa->O)(op:Int)(l:List qa)(Y:Hp)(Z:Nat)(h:Kd l<=zu):zh false [] (FIv f) [int op,.sl 5 (l.map qa.V)] Y Z=some (f op l,Y,Z):=
 Ja (op,l) _ _ (by simp) (fun x y e=>by obtain⟨c,d⟩:=x;obtain⟨g,i⟩:=y;simp only[zk,zI]at e;obtain⟨b,a⟩:=e;injection a with _ a;rw[qV b,eT a]) h (.inr (by simp))
noncomputable abbrev Ccv2:Ctx:=zR prog [(28,GV fun v=>int v.check),(73,zh false [] (oX y7)),(119,zh false [] (OC zu))]
theorem Ua:AM.Good Ccv2 (fun g=>[73,119].contains g):=qw mixed ⟨gv,by simp,V4,fun _=>zt _ _,VY zu,fun _=>zt _ _,trivial⟩
@[simp]theorem zd7:kT Ccv2 73:=je (by rfl) (zt _ _)
theorem fk(op:Int)(l:List qa)(h:Kd l<=zu):zq Ccv2 f110 [int op,.sl 5 (l.map qa.V)]=some (int (ZE op l)):=by
 have A:=yY l;unfold zu at h;refine zm rfl ?_;by_cases c:(100:Int)<l.length
 ·have x:ZE op l=2:=by unfold ZE;rw[zd c]
  simp[c,x,f110]
 have x:ZE op l=Vv op none l:=by unfold ZE;rw[zc c]
 rw[x];simp[c];refine zP (fun k U Y Z=>U 0=int op/\U 1=.sl 5 (l.map qa.V)/\U 11=.sl 5 (l.map qa.V)/\U 12=int l.length/\U 13=int k/\Vv op none l=Vv op (QO l k) (l.drop k)) l.length
  ⟨by simp,by simp,by simp,by simp,by simp,by simp[QO]⟩ ?_
 rintro k U Y Z L ⟨p,q,d,e,f,a⟩;by_cases b:k<l.length
 ·have M:=jR (zj b);have B:=qG k;have i:=fun Y Z=>Wg (fun v=>int v.check) l[k] Y Z (by unfold zu;omega)
  rw[ze b]at a;simp only[Vv]at a;have r:QO l (k+1)=some l[k]:=by simp[QO,b]
  have m:(l[k].kind==0||y7 op&&l[k].kind != 2)=Cv op l[k]:=rfl;by_cases n:l[k].check=0
  case neg=>rw[zc n]at a;have y:=Za n;simp[p,q,d,e,f,b,i,y,a,f110]
  rw[zd n]at a;cases g:Cv op l[k]
  case true=>rw[g,zd rfl]at a;simp[p,q,d,e,f,b,i,n,m,g,a,f110]
  rw[g,zc (by simp)]at a;by_cases H:k=0
  ·subst H;have I:V5 (QO l 0) l[0]=false:=rfl;rw[I,zc (by simp)]at a;simp[p,q,d,e,f,b,i,n,m,g,B];exact⟨by omega,by rw[a,show QO l 1=some l[0]from r];simp⟩
  ·obtain⟨j,rfl⟩:∃j,k=j+1:=⟨k-1,by omega⟩;have u:j<l.length:=by omega
   have J:=jR (zj u);have C:i6.wrap ((j:Int)+1-1)=(j:Int):=by rw[wu (by omega) (by omega)];omega
   have s:=wz (j:Int);have D:((j:Int)+1).toNat=j+1:=by omega
   have E:0<(j:Int)+1:=by omega
   have F:0<=(j:Int)+1:=by omega
   have G:(j:Int)+1<l.length:=by omega
   have t:=fun Y Z=>Wy zu l[j] l[j+1] Y Z ⟨by unfold zu;omega,by unfold zu;omega,by unfold zu;omega⟩
   have z:V5 (QO l (j+1)) l[j+1]=decide (0<=qL l[j] l[j+1]):=by simp[QO,u,V5]
   rw[z]at a;by_cases w:0<=qL l[j] l[j+1]
   ·have o:decide (0<=qL l[j] l[j+1])=true:=by simpa using w
    rw[zd o]at a;simp[p,q,d,e,f,b,u,i,n,m,g,B,C,s,D,E,F,G,t,w,a,f110]
   ·have o:¬decide (0<=qL l[j] l[j+1])=true:=by simpa using w
    rw[zc o]at a;have K:=wz ((j:Int)+1+1);simp[p,q,d,e,f,b,u,i,n,m,g,K,C,s,D,E,F,G,t,w];exact⟨by omega,by rw[a,r]⟩
 ·obtain rfl:k=l.length:=by omega
  rw[zn]at a;simp only[Vv]at a;simp[p,q,d,e,f,a,f110]
theorem c9:zg prog 110 (zh false [] (FIv fun op l=>int (ZE op l))):=
 xy Ua func110 false [] fun⟨op,l⟩ a=>⟨by simp[f110],_,fk op l a,qb _⟩
noncomputable def YZ (op:Int) (s:za):Int:=if(500:Int)<s.length then 2 else if wg 32 126 s=true then(if op=11 then(vF s).2 else 0)else 1
noncomputable def FIs (f:Int->za->O):zb->Option O:=ql (α:=Int×za) (fun a=>[int a.1,str a.2]) (fun a=>a.2.length<=zu) (fun a=>f a.1 a.2)
theorem O9(f:Int->za->O)(op:Int)(s:za)(Y:Hp)(Z:Nat)(h:s.length<=zu):zh false [] (FIs f) [int op,str s] Y Z=some (f op s,Y,Z):=
 Ja (op,s) _ _ rfl (fun x y e=>by obtain⟨a,b⟩:=x;obtain⟨c,d⟩:=y;simp only[zk,zI]at e;rw[qV e.1,wR e.2]) h (.inr (by simp))
noncomputable abbrev Cpt:Ctx:=zR prog [(126,zh false [] (YY na))]
theorem zcF:Gd Cpt:=zU mixed ⟨Vq,trivial⟩
theorem da(op:Int)(s:za)(h:s.length<=zu):zq Cpt f112 [int op,str s]=some (int (YZ op s)):=by
 unfold zu at h;refine zm rfl ?_;by_cases a:(500:Int)<s.length
 ·have b:YZ op s=2:=by unfold YZ;rw[zd a]
  simp[a,b,f112]
 have i:=fun Y Z=>j6 na s Y Z (by unfold zu;omega)
 simp only[na]at i;have b:YZ op s=if wg 32 126 s=true then(if op=11 then(vF s).2 else 0)else 1:=by unfold YZ;rw[zc a]
 simp[a];refine zP (fun k U Y Z=>U 0=int op/\U 1=str s/\U 12=int s.length/\U 13=int k/\wg 32 126 s=wg 32 126 (s.drop k)) s.length ⟨by simp,by simp,by simp,by simp,by simp⟩ ?_;rintro k U Y Z q ⟨l,m,c,d,g⟩;by_cases e:k<s.length
 ·have p:=qG k;rw[Zc e]at g;have o:=VQ 32 126 s[k];simp only[ZK]at o;cases n:pr 32 126 s[k]
  ·have g:wg 32 126 s=false:=by rw[g,n];rfl
   rw[g,zc (by simp)]at b;simp[l,m,c,d,e,b,o,n,f112]
  ·simp[l,m,c,d,e,o,n,p];exact⟨e,by rw[g,n];rfl⟩
 ·obtain rfl:k=s.length:=by omega
  have g:wg 32 126 s=true:=by rw[g,zn];rfl
  rw[g,zd rfl]at b;by_cases f:op=11
  ·rw[zd f]at b;subst f;simp[l,m,c,d,i,b,f112]
  ·rw[zc f]at b;have j:=wU f;simp[l,m,c,d,j,b,f112]
theorem bI:zg prog 112 (zh false [] (FIs fun op s=>int (YZ op s))):=
 xy zcF func112 false [] fun⟨op,s⟩ a=>⟨by simp[f112],_,da op s a,qb _⟩
def aV(c:qe):Bool:=!kI c.kind 1 5
def LP(c:qe):Bool:=c.kind==4&&!kI c.op 1 12
def aW(c:qe):Bool:=(c.kind==4&&!wS c.attr)||(c.kind==5&&!wS c.name)
def F1(c:qe):Bool:=c.kind==4&&Zn c.op
noncomputable def va (c:qe):Int:=if(aV c||LP c)=true then 4 else if Zo c=true then 3 else if aW c=true then 5 else if ZE c.op c.yp=0 then(if F1 c=true then YZ c.op c.pat else 0)else ZE c.op c.yp
mutual
noncomputable def qe.fault:qe->Int
 | .mk k a o v p n l=>if va (.mk k a o v p n l)=0 then xi l else va (.mk k a o v p n l)
noncomputable def xi:List qe->Int
 |[]=>0
 |c::l=>if c.fault=0 then xi l else c.fault
end
theorem XT(c:qe):c.fault=if va c=0 then xi c.args else va c:=by cases c;simp only[qe.fault];rfl
theorem V6{l:List qe}{k:Nat}(h:k<l.length):xi (l.drop k)=if l[k].fault=0 then xi (l.drop (k+1))else l[k].fault:=by rw[ze h,xi]
noncomputable abbrev Pb (n:Nat):Ctx:=zR prog [(57,zh false [] (FC (fun c=>int c.fault) n)),(59,zh false [] (F3 kI)),(109,GC fun c=>int (if Zo c=true then 3 else 0)),(27,zh false [] (FS wS)),
 (110,zh false [] (FIv fun op l=>int (ZE op l))),(111,zh false [] (oX Zn)),(112,zh false [] (FIs fun op s=>int (YZ op s)))]
@[simp]theorem zd8(n:Nat):kT (Pb n) 59:=je (by rfl) (zt _ _)
@[simp]theorem zd9(n:Nat):kT (Pb n) 27:=je (by rfl) (zt _ _)
@[simp]theorem zea(n:Nat):kT (Pb n) 111:=je (by rfl) (zt _ _)
theorem iB(n:Nat)(c:qe)(h:c.cb<=zu/\c.cb<=n+1):zq (Pb n) f57 [.agg c.V]=some (int c.fault):=by
 have M:=Zm c;have N:=jf c.args;obtain⟨L,R⟩:=h;have x:=XT c;have i:=fun Y Z=>ZR (fun c=>int (if Zo c=true then 3 else 0)) c Y Z L
 have r:=fun Y Z=>O5 (fun op l=>int (ZE op l)) c.op c.yp Y Z (by omega)
 have D:=fun Y Z=>O9 (fun op s=>int (YZ op s)) c.op c.pat Y Z (by omega)
 have j:c.attr.length<=zu:=by omega
 have m:c.name.length<=zu:=by omega
 unfold zu at L;refine zm rfl ?_;have v:(!kI c.kind 1 5)=aV c:=rfl;have y:(c.kind==4&&!kI c.op 1 12)=LP c:=rfl;have E:((c.kind==4&&!wS c.attr)||(c.kind==5&&!wS c.name))=aW c:=rfl;have H:(c.kind==4&&Zn c.op)=F1 c:=rfl;cases q:aV c
 case true=>simp[v,q,x,va,f57]
 cases t:LP c
 case true=>simp[v,q,y,t,x,va,f57]
 cases w:Zo c
 case true=>simp[v,q,y,t,i,w,x,va,f57]
 cases z:aW c
 case true=>simp[v,q,y,t,i,w,j,m,E,z,x,va,f57]
 by_cases A:ZE c.op c.yp=0
 case neg=>have I:=Za A;simp[v,q,y,t,i,w,j,m,E,z,r,A,I,x,va,f57]
 have o:∀(C:va c=0),c.fault=xi c.args:=fun C=>by rw[x,zd C]
 cases F:F1 c
 case false=>
  have C:va c=0:=by simp[va,q,t,w,z,A,F]
  have p:=o C;simp[v,q,y,t,i,w,j,m,E,z,r,A,H,F];refine zP (fun k U Y Z=>U 73=.sl 7 (c.args.map qe.V)/\U 74=int c.args.length/\U 75=int k/\xi c.args=xi (c.args.drop k)) c.args.length ⟨by simp,by simp,by simp,by simp⟩ ?_;rintro k U Y Z P ⟨e,f,g,b⟩;by_cases d:k<c.args.length
  ·have Q:=kj (zj d);have J:=qG k;have a:=fun Y Z=>Zd (fun c=>int c.fault) n c.args[k] Y Z ⟨by unfold zu;omega,by omega⟩
   rw[V6 d]at b;by_cases u:c.args[k].fault=0
   ·rw[zd u]at b;simp[e,f,g,d,a,u,J];exact⟨by omega,b⟩
   ·rw[zc u]at b;have B:=Za u;simp[e,f,g,d,a,B,p,b,f57]
  ·obtain rfl:k=c.args.length:=by omega
   rw[zn]at b;have b:xi c.args=0:=by rw[b];rfl
   simp[e,f,g,p,b,f57]
 case true=>
  by_cases G:YZ c.op c.pat=0
  case neg=>have K:=Za G;simp[v,q,y,t,i,w,j,m,E,z,r,A,H,F,D,G,K,x,va,f57]
  have C:va c=0:=by simp[va,q,t,w,z,A,F,G]
  have p:=o C;simp[v,q,y,t,i,w,j,m,E,z,r,A,H,F,D,G];refine zP (fun k U Y Z=>U 73=.sl 7 (c.args.map qe.V)/\U 74=int c.args.length/\U 75=int k/\xi c.args=xi (c.args.drop k)) c.args.length ⟨by simp,by simp,by simp,by simp⟩ ?_;rintro k U Y Z P ⟨e,f,g,b⟩;by_cases d:k<c.args.length
  ·have Q:=kj (zj d);have J:=qG k;have a:=fun Y Z=>Zd (fun c=>int c.fault) n c.args[k] Y Z ⟨by unfold zu;omega,by omega⟩
   rw[V6 d]at b;by_cases u:c.args[k].fault=0
   ·rw[zd u]at b;simp[e,f,g,d,a,u,J];exact⟨by omega,b⟩
   ·rw[zc u]at b;have B:=Za u;simp[e,f,g,d,a,B,p,b,f57]
  ·obtain rfl:k=c.args.length:=by omega
   rw[zn]at b;have b:xi c.args=0:=by rw[b];rfl
   simp[e,f,g,p,b,f57]
theorem fl:∀n,zg prog 57 (zh false [] (FC (fun c=>int c.fault) n)):=by
 intro n
 induction n with
 |zero=>exact cE ⟨_,func57,by kernel_rfl,by kernel_rfl⟩
 |succ n a=>
  have b:AM.Good (Pb n) (fun g=>[59,27,111].contains g):=qw mixed ⟨a,by simp,Qo,fun _=>zt _ _,iA,by simp,Yl,fun _=>zt _ _,c9,by simp,gE,fun _=>zt _ _,bI,by simp,trivial⟩;exact wW (fn:=f57) b (qD func57) false [] _ fun args r h=>by obtain⟨c,rfl,d,rfl⟩:=Q0 h;exact⟨zw (zf 1) (by decide),_,iB n c d,qb _⟩
noncomputable def qe.check (c:qe):Int:=if(decide ((200:Int)<c.parts)||decide ((20:Int)<c.levels))=true then 2 else c.fault
noncomputable abbrev Ccch:Ctx:=zR prog [(57,GC fun c=>int c.fault),(56,GC fun c=>.wG [int c.parts,int c.levels])]
theorem db:zg prog 24 (GC fun c=>int c.check):=
 wW (fn:=f24) (zU mixed ⟨fl zu,pC zu,trivial⟩:AM.Good Ccch _) (qD func24) false [] _ fun args r h=>by
  obtain⟨c,rfl,a,rfl⟩:=Q0 h;have b:=fun Y Z=>ZR (fun c=>int c.fault) c Y Z a.1
  have d:=fun Y Z=>ZR (fun c=>.wG [int c.parts,int c.levels]) c Y Z a.1
  refine⟨by simp[f24],_,zm rfl ?_,qb _⟩;cases e:(decide ((200:Int)<c.parts)||decide ((20:Int)<c.levels))
  ·simp[b,d,e,f24,qe.check]
  ·simp[b,d,e,f24,qe.check]
structure XS (v:qa) (o3 o4:O) (Y:Hp) (Z:Nat):Prop where
 b0:Y 0=some ⟨57,5,false,[[int v.kind,int v.n,str v.s,o3,o4]]⟩
 b1:Y 1=some ⟨57,5,false,[[int 0,int 0,.v (.string ⟨#[]⟩),.nil,.nil]]⟩
 s3:qT Y Z 57 5 o3 (v.items.map qa.V)
 s4:qT Y Z 129 6 o4 (v.fields.map yk)
 d3:∀id m,id<2->o3≠.own id 0 m
 d4:∀id m,id<2->o4≠.own id 0 m
 d:∀id m m',o3=.own id 0 m->o4≠.own id 0 m'
 Sr:2<=Z
structure qY where
 key:List UInt8
 attrs:List (List UInt8×qa)
def qY.V(x:qY):zb:=[str x.key,.sl 6 (x.attrs.map yk)]
def qY.cb(x:qY):Nat:=x.key.length+ak x.attrs
theorem V7(x:qY):x.cb=x.key.length+ak x.attrs:=rfl
theorem ng{a b:za×qa}(h:yk a=yk b):a=b:=by simp only[yk,zk]at h;exact Prod.ext (wR h.1) (ZQ h.2)
theorem J2{a b:qY}(h:a.V=b.V):a=b:=by obtain⟨k,l⟩:=a;obtain⟨e,l'⟩:=b;simp only[qY.V,zk,zI]at h;obtain⟨d,c⟩:=h;injection c with _ c;rw[wR d,kS (fun _ _=>ng) c]
def sr(a:za):Bool:=!wS a||a==[107,101,121]
def Z1:Option za->List (za×qa)->Int
 |_,[]=>0
 |p,(a,v)::l=>if sr a then 5 else if kr p a then 8 else if v.check=0 then(if v.kind=0 then 6 else Z1 (some a) l)else v.check
theorem gF{l:List (za×qa)}{k:Nat}(h:k<l.length)(p:Option za):Z1 p (l.drop k)=if sr l[k].1 then 5 else if kr p l[k].1 then 8 else if l[k].2.check=0 then(if l[k].2.kind=0 then 6 else Z1 (some l[k].1) (l.drop (k+1)))else l[k].2.check:=by rw[ze h,Z1]
def qY.fault(x:qY):Int:=if vq x.key then(if(50:Int)<x.attrs.length then 2 else Z1 none x.attrs)else 3
noncomputable def FX (out:qY->O):zb->Option O:=ql (α:=qY) (fun x=>[.agg x.V]) (fun x=>x.cb<=zu) out
theorem gG(Y:Hp)(x:qY):qA Y (.agg x.V)=some (.agg x.V,Y):=by simp[qY.V]
theorem nh(x:qY):O.noOwn (.agg x.V)=true:=by simp[qY.V]
theorem HX(out:qY->O)(x:qY)(Y:Hp)(Z:Nat)(h:x.cb<=zu):zh false [] (FX out) [.agg x.V] Y Z=some (out x,Y,Z):=
 yA (Y1:=Y) (show zD Y [.agg x.V]=some ([.agg x.V],Y) by simp only[zD,gG])
  (qF (V:=fun x:qY=>[O.agg x.V]) (a:=x) (fun a b e=>by simp only[zk,zI,O.agg.injEq]at e;exact J2 e) h) (.inr (by simp only[wI,nh,K8,Bool.and_self]))
noncomputable abbrev Ccc:Ctx:=zR prog [(26,zh false [] (FS vq)),(27,zh false [] (FS wS)),(28,GV fun v=>int v.check)]
noncomputable abbrev Crx:Ctx:=zR prog [(38,zh false [] (FS vq)),(39,zh false [] (FS wS)),(40,GV fun v=>int v.check)]
theorem pD(x:qY)(h:x.cb<=zu):zq Ccc f12 [.agg x.V]=some (int x.fault):=by
 have I:=V7 x;have J:=jt x.attrs;have p:x.key.length<=zu:=by omega
 unfold zu at h;refine zm rfl ?_;rw[qY.fault];cases F:vq x.key
 ·simp[qY.V,p,F,f12]
 by_cases H:(50:Int)<x.attrs.length
 ·simp[qY.V,p,F,H,f12]
 simp[qY.V,p,F,H];refine zP (fun k U Y Z=>U 1=.ref 0 0 0/\U 15=.sl 6 (x.attrs.map yk)/\U 16=int x.attrs.length/\U 17=int k/\1<=Z/\Y 0=some ⟨29,2,false,[[str x.key,.sl 6 (x.attrs.map yk)]]⟩/\Z1 none x.attrs=Z1 (jA x.attrs k) (x.attrs.drop k)) x.attrs.length
  ⟨by simp,by simp,by simp,by simp,by simp,by simp,by simp[jA]⟩ ?_
 rintro k U Y Z P ⟨m,d,e,f,K,s,b⟩;have t:¬0=Z:=by omega
 by_cases c:k<x.attrs.length
 ·have Q:=vC (zj c);have R:=qG k;have i:x.attrs[k].1.length<=zu:=by unfold zu;omega
  have a:=fun Y Z=>Wg (fun v=>int v.check) x.attrs[k].2 Y Z (by unfold zu;omega)
  have en:(!wS x.attrs[k].1||x.attrs[k].1==[107,101,121])=sr x.attrs[k].1:=rfl;rw[gF c]at b;cases n:sr x.attrs[k].1
  case true=>simp[m,d,e,f,c,i,en,n,b,f12]
  have w:jA x.attrs (k+1)=some x.attrs[k].1:=by simp[jA,c]
  simp only[n,zF,qR]at b;by_cases L:k=0
  ·subst L;simp only[jA,kr,qH,zF,qR]at b;by_cases l:x.attrs[0].2.check=0
   ·rw[zd l]at b;by_cases g:x.attrs[0].2.kind=0
    ·rw[zd g]at b;simp[m,d,e,f,c,i,en,n,a,l,g,b,f12]
    ·rw[zc g]at b;have q:=wU g;have M:=wz 1;simp[m,d,e,f,c,i,en,n,a,l,q,M]
     and_intros<;>first|omega|(rw[b];rw[w];simp;done)|simp[t,s]
   ·rw[zc l]at b;have r:=Za l;simp[m,d,e,f,c,i,en,n,a,r,b,f12]
  ·obtain⟨j,rfl⟩:∃j,k=j+1:=⟨k-1,by omega⟩;have y:j<x.attrs.length:=by omega
   have z:i6.wrap ((j:Int)+1-1)=(j:Int):=by rw[wu (by omega) (by omega)];omega
   have o:=wz (j:Int);have A:((j:Int)+1).toNat=j+1:=by omega
   have B:0<(j:Int)+1:=by omega
   have C:0<=(j:Int)+1:=by omega
   have D:(j:Int)+1<x.attrs.length:=by omega
   have N:=wz ((j:Int)+1+1);have E:(Op.bytesLess x.attrs[j+1].1 x.attrs[j].1||x.attrs[j+1].1==x.attrs[j].1)=cD x.attrs[j+1].1 x.attrs[j].1:=rfl;have G:jA x.attrs (j+1)=some x.attrs[j].1:=by simp[jA,y]
   simp only[G,kr]at b;cases u:cD x.attrs[j+1].1 x.attrs[j].1
   case true=>simp only[u,qH]at b;simp[m,d,e,f,c,y,i,en,n,a,s,t,z,o,A,B,C,D,E,u,b,f12]
   simp only[u,zF,qR]at b;by_cases l:x.attrs[j+1].2.check=0
   ·rw[zd l]at b;by_cases g:x.attrs[j+1].2.kind=0
    ·rw[zd g]at b;simp[m,d,e,f,c,y,i,en,n,a,s,t,z,o,A,B,C,D,E,u,l,g,b,f12]
    ·rw[zc g]at b;have q:=wU g;simp[m,d,e,f,c,y,i,en,n,a,s,t,z,o,A,B,C,D,E,u,l,q,N]
     and_intros<;>first|omega|(rw[b];rw[w])|simp[t,s]
   ·rw[zc l]at b;have r:=Za l;simp[m,d,e,f,c,y,i,en,n,a,s,t,z,o,A,B,C,D,E,u,r,b,f12]
 ·obtain rfl:k=x.attrs.length:=by omega
  rw[zn]at b;have b:Z1 none x.attrs=0:=by rw[b];rfl
  simp[m,d,e,f,b,f12]
theorem nj(x:qY)(h:x.cb<=zu):zq Crx f16 [.agg x.V]=some (int x.fault):=by
 have I:=V7 x;have J:=jt x.attrs;have p:x.key.length<=zu:=by omega
 unfold zu at h;refine zm rfl ?_;rw[qY.fault];cases F:vq x.key
 ·simp[qY.V,p,F,f16]
 by_cases H:(50:Int)<x.attrs.length
 ·simp[qY.V,p,F,H,f16]
 simp[qY.V,p,F,H];refine zP (fun k U Y Z=>U 1=.ref 0 0 0/\U 17=.sl 6 (x.attrs.map yk)/\U 18=int x.attrs.length/\U 19=int k/\1<=Z/\Y 0=some ⟨29,2,false,[[str x.key,.sl 6 (x.attrs.map yk)]]⟩/\Z1 none x.attrs=Z1 (jA x.attrs k) (x.attrs.drop k)) x.attrs.length
  ⟨by simp,by simp,by simp,by simp,by simp,by simp,by simp[jA]⟩ ?_
 rintro k U Y Z P ⟨m,d,e,f,K,s,b⟩;have t:¬0=Z:=by omega
 by_cases c:k<x.attrs.length
 ·have Q:=vC (zj c);have R:=qG k;have i:x.attrs[k].1.length<=zu:=by unfold zu;omega
  have a:=fun Y Z=>Wg (fun v=>int v.check) x.attrs[k].2 Y Z (by unfold zu;omega)
  have en:(!wS x.attrs[k].1||x.attrs[k].1==[107,101,121])=sr x.attrs[k].1:=rfl;rw[gF c]at b;cases n:sr x.attrs[k].1
  case true=>simp[m,d,e,f,c,i,en,n,b,f16]
  have w:jA x.attrs (k+1)=some x.attrs[k].1:=by simp[jA,c]
  simp only[n,zF,qR]at b;by_cases L:k=0
  ·subst L;simp only[jA,kr,qH,zF,qR]at b;by_cases l:x.attrs[0].2.check=0
   ·rw[zd l]at b;by_cases g:x.attrs[0].2.kind=0
    ·rw[zd g]at b;simp[m,d,e,f,c,i,en,n,a,l,g,b,f16]
    ·rw[zc g]at b;have q:=wU g;have M:=wz 1;simp[m,d,e,f,c,i,en,n,a,l,q,M]
     and_intros<;>first|omega|(rw[b];rw[w];simp;done)|simp[t,s]
   ·rw[zc l]at b;have r:=Za l;simp[m,d,e,f,c,i,en,n,a,r,b,f16]
  ·obtain⟨j,rfl⟩:∃j,k=j+1:=⟨k-1,by omega⟩;have y:j<x.attrs.length:=by omega
   have z:i6.wrap ((j:Int)+1-1)=(j:Int):=by rw[wu (by omega) (by omega)];omega
   have o:=wz (j:Int);have A:((j:Int)+1).toNat=j+1:=by omega
   have B:0<(j:Int)+1:=by omega
   have C:0<=(j:Int)+1:=by omega
   have D:(j:Int)+1<x.attrs.length:=by omega
   have N:=wz ((j:Int)+1+1);have E:(Op.bytesLess x.attrs[j+1].1 x.attrs[j].1||x.attrs[j+1].1==x.attrs[j].1)=cD x.attrs[j+1].1 x.attrs[j].1:=rfl;have G:jA x.attrs (j+1)=some x.attrs[j].1:=by simp[jA,y]
   simp only[G,kr]at b;cases u:cD x.attrs[j+1].1 x.attrs[j].1
   case true=>simp only[u,qH]at b;simp[m,d,e,f,c,y,i,en,n,a,s,t,z,o,A,B,C,D,E,u,b,f16]
   simp only[u,zF,qR]at b;by_cases l:x.attrs[j+1].2.check=0
   ·rw[zd l]at b;by_cases g:x.attrs[j+1].2.kind=0
    ·rw[zd g]at b;simp[m,d,e,f,c,y,i,en,n,a,s,t,z,o,A,B,C,D,E,u,l,g,b,f16]
    ·rw[zc g]at b;have q:=wU g;simp[m,d,e,f,c,y,i,en,n,a,s,t,z,o,A,B,C,D,E,u,l,q,N]
     and_intros<;>first|omega|(rw[b];rw[w])|simp[t,s]
   ·rw[zc l]at b;have r:=Za l;simp[m,d,e,f,c,y,i,en,n,a,s,t,z,o,A,B,C,D,E,u,r,b,f16]
 ·obtain rfl:k=x.attrs.length:=by omega
  rw[zn]at b;have b:Z1 none x.attrs=0:=by rw[b];rfl
  simp[m,d,e,f,b,f16]
theorem nk:zg prog 12 (zh false [] (FX fun x=>int x.fault)):=
 xy (zU mixed ⟨VR,Yl,gv,trivial⟩:AM.Good Ccc _) func12 false [] fun x a=>⟨zw (zf 1) (by decide),_,pD x a,qb _⟩
theorem iC:zg prog 16 (zh false [] (FX fun x=>int x.fault)):=
 xy (zU mixed ⟨cA,Jv,cM,trivial⟩:AM.Good Crx _) func16 false [] fun x a=>⟨zw (zf 1) (by decide),_,nj x a,qb _⟩
theorem uE(a b:UInt8):a<b\/a=b\/b<a:=by
 rcases Nat.lt_trichotomy a.toNat b.toNat with h|h|h
 ·exact .inl (vS.2 h)
 ·exact .inr (.inl (Qh.1 h))
 ·exact .inr (.inr (vS.2 h))
theorem bJ(a:UInt8):¬a<a:=fun h=>Nat.lt_irrefl _ (vS.1 h)
theorem nm{a b:UInt8}(h:a<b):¬b<a:=fun c=>Nat.lt_asymm (vS.1 h) (vS.1 c)
theorem Pd{a b c:UInt8}(h:a<b)(d:b<c):a<c:=vS.2 (Nat.lt_trans (vS.1 h) (vS.1 d))
theorem Yp:∀a b:za,yD a b<0↔Op.bytesLess a b=true
 |[],[]=>by simp[yD,Lib.compareBytes,Op.bytesLess]
 |[],_::_=>by simp[yD,Lib.compareBytes,Op.bytesLess]
 |_::_,[]=>by simp[yD,Lib.compareBytes,Op.bytesLess]
 |a::x,b::y=>by
  have d:=Yp x y;unfold yD at d⊢;rcases uE a b with h|rfl|h
  ·simp[Lib.compareBytes,Op.bytesLess,h]
  ·simp[Lib.compareBytes,Op.bytesLess,bJ,d]
  ·have c:¬a=b:=fun e=>bJ b (e ▸ h)
   simp[Lib.compareBytes,Op.bytesLess,h,nm h,c]
theorem kP:∀a b:za,yD a b=0↔a=b
 |[],[]=>by simp[yD,Lib.compareBytes]
 |[],_::_=>by simp[yD,Lib.compareBytes]
 |_::_,[]=>by simp[yD,Lib.compareBytes]
 |a::x,b::y=>by
  have d:=kP x y;unfold yD at d⊢;rcases uE a b with h|rfl|h
  ·have c:¬a=b:=fun e=>bJ b (e ▸ h)
   simp[Lib.compareBytes,h,c]
  ·simp[Lib.compareBytes,bJ,d]
  ·have c:¬a=b:=fun e=>bJ b (e ▸ h)
   simp[Lib.compareBytes,h,nm h,c]
theorem xT:∀{a b c:za},Op.bytesLess a b=true->Op.bytesLess b c=true->Op.bytesLess a c=true
 |_,[],_,h,_=>by simp[Op.bytesLess]at h
 |_,_::_,[],_,h=>by simp[Op.bytesLess]at h
 |[],_::_,_::_,_,_=>by simp[Op.bytesLess]
 |a::x,b::y,c::z,e,d=>by
  simp only[Op.bytesLess,qp,zT,zz,yJ]at e d⊢;rcases e with e|⟨rfl,e⟩
  ·rcases d with d|⟨rfl,d⟩
   ·exact .inl (Pd e d)
   ·exact .inl e
  ·rcases d with d|⟨rfl,d⟩
   ·exact .inl d
   ·exact .inr ⟨rfl,xT e d⟩
theorem xU:∀{a b:za},cD a b=false->Op.bytesLess b a=true
 |[],[],h=>by simp[cD]at h
 |[],_::_,h=>by simp[cD,Op.bytesLess]at h
 |_::_,[],_=>by simp[Op.bytesLess]
 |a::x,b::y,h=>by
  simp only[cD,Op.bytesLess,wE,yw,Bool.and_eq_false_iff,wN]at h;obtain⟨⟨d,c⟩,f⟩:=h;simp only[Op.bytesLess,qp,zT,zz,yJ];rcases uE a b with g|rfl|g
  ·exact absurd g d
  ·refine .inr ⟨rfl,xU ?_⟩;rcases c with c|c
   ·exact absurd rfl c
   ·have:¬x=y:=fun e=>f (by rw[e])
    simp[cD,c,this]
  ·exact .inl g
def Zk(f:Nat->Bool)(lo hi:Nat):Nat:=if h:lo<hi then(if f ((lo+hi)/2)then Zk f ((lo+hi)/2+1) hi else Zk f lo ((lo+hi)/2))else lo
termination_by hi-lo
decreasing_by all_goals omega
theorem XU{f:Nat->Bool}{lo hi:Nat}(h:lo<hi):Zk f lo hi=if f ((lo+hi)/2)then Zk f ((lo+hi)/2+1) hi else Zk f lo ((lo+hi)/2):=by rw[Zk,zg7 h]
theorem dd{f:Nat->Bool}{lo hi:Nat}(h:¬lo<hi):Zk f lo hi=lo:=by rw[Zk,dif_neg h]
theorem fm{f:Nat->Bool}{n m:Nat}(i:∀k,k<m->f k=true)(j:∀k,m<=k->k<n->f k=false):∀{lo hi:Nat},lo<=m->m<=hi->hi<=n->Zk f lo hi=m:=by
 intro lo hi
 induction lo,hi using Zk.induct (f:=f)with
 |case1 lo hi a c d=>
  intro e g h;rw[Zk,zg7 a,zd c];refine d ?_ g h;apply Nat.succ_le_of_lt;refine Nat.lt_of_not_le fun b=>?_
  rw[j _ b (by omega)]at c;cases c
 |case2 lo hi a c d=>
  intro e g h;rw[Zk,zg7 a,zc c];refine d e ?_ (by omega);refine Nat.le_of_not_lt fun b=>?_
  exact c (i _ b)
 |case3 lo hi a=>intro e g _;rw[Zk,dif_neg a];omega
noncomputable def W6 (l:List za) (s:za) (k:Nat):Bool:=match l[k]? with
 |some x=>decide (yD x s<0)
 |none=>false
noncomputable def JJ (l:List za) (s:za):Nat×Bool:=(Zk (W6 l s) 0 l.length,match l[Zk (W6 l s) 0 l.length]? with
 |some x=>yD x s==0
 |none=>false)
theorem F2{l:List za}{s:za}(h:(JJ l s).2=true):l[(JJ l s).1]?=some s:=by
 unfold JJ at h⊢;simp only at h⊢;split at h
 ·rename_i x a;rw[a,(kP x s).1 (by simpa using h)]
 ·cases h
theorem zcG{l:List za}{s:za}(h:(JJ l s).2=true):(JJ l s).1<l.length:=(zi.1 (F2 h)).1
def aq(l:List za):Prop:=l.Pairwise fun a b=>Op.bytesLess a b=true
theorem J3(a:za):Op.bytesLess a a=false:=by
 cases h:Op.bytesLess a a with
 |false=>rfl
 |true=>have b:=(Yp a a).2 h;have c:=(kP a a).2 rfl;omega
theorem F4{l:List za}{s:za}(f:aq l){j:Nat}(g:l[j]?=some s):JJ l s=(j,true):=by
 obtain⟨a,b⟩:=zi.1 g;have i:Zk (W6 l s) 0 l.length=j:=by
  refine fm (n:=l.length) (fun k d=>?_) (fun k d c=>?_) (vA _) (Nat.le_of_lt a) (zf _)
  ·have:=vI.1 f k j (by omega) a d;rw[b]at this;simp[W6,show k<l.length by omega,(Yp _ _).2 this]
  ·rcases zh3 d with h|rfl
   ·have:=vI.1 f j k a c h;rw[b]at this;have e:¬yD l[k] s<0:=fun m=>by have:=xT this ((Yp _ _).1 m);rw[J3]at this;cases this
    simp[W6,c,e]
   ·have e:¬yD s s<0:=by rw[(kP s s).2 rfl];omega
    simp[W6,a,b,e]
 unfold JJ;rw[i,g];simp[(kP s s).2 rfl]
end Go.Q
