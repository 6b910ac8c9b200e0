/- Lemmas. -/
import Derived.Test.YtmdpcoooleipcaaGreatDoorG4
set_option maxRecDepth 8000
open Go Proofs Proofs.YtmdpcoooleipcaaGreatDoor Proofs.Tryz RowKit AM SpanLaw Q Zz
namespace Go.AM
open Go.RowKit Go.WideShapes Go.ChangeShapes
def jw{H:Type}(P:Program):Nat->TypeId->DataW H->zb->Prop
 | 0,_,_,_=>False
 |n+1,t,d,a=>match P.underlying t with
  |some .bool=>∃b,d=.lit (.bool b)/\a=[.v (.bool b)]
  |some (.int k)=>∃i,d=.lit (.int k i)/\a=[.v (.int k i)]/\(Lit.int k i).wf=true
  |some .string=>∃s:ByteArray,d=.lit (.string s.data.toList)/\a=[.v (.string s)]/\s.size<=maxLen
  |some (.slice e)=>∃(es:List zb) (ds:List (DataW H)),((d=.nil/\ds=[])\/∃sp,d=.slice ds sp)/\a=[.sl (P.cellsOf e) es]/\es.length<=maxLen/\Zip (fun c y=>c.length=P.cellsOf e/\jw P n e y c) es ds
  |some (.struct g)=>∃ds:List (DataW H),d=.agg ds/\a.length=P.cellsOf t/\ds.length=g.size/\∀(i:Nat) f y,g[i]?=some f->ds[i]?=some y->jw P n f.type y ((a.drop f.offset).take (P.cellsOf f.type))
  |_=>False
section
variable{H:Type}{V:TypeId×Value->H}{P:Program}{w:World}{sp:Nat->Bool}{held:Bool}
theorem WY{T:List TypeId}(hT:a6 P T=true):∀(I:Nat) (t:TypeId) (cs:List Value) (d:DataW H) (ps:List MemPlace),t∈T->DataW.trod V P w 0 sp held I t cs=some (d,ps) ->
  ∃o,Zip (fun z u=>qO w (fun b=>b<w.heap.size) z u/\u.oneCell'=true) o cs/\cs.length=P.cellsOf t/\jw P I t d o
 | 0,t,cs,d,ps,_,h=>by simp[DataW.trod]at h
 |n+1,t,cs,d,ps,ht,h=>by
  have r:=qc.1 hT t ht;have one:∀{z:O} {u:Value},qO w (fun b=>b<w.heap.size) z u->u.oneCell'=true->Zip (fun z u=>qO w (fun b=>b<w.heap.size) z u/\u.oneCell'=true) [z] [u]:=fun E h2=>.cons ⟨E,h2⟩ .nil
  split at r
  ·rename_i B;obtain⟨b,rfl,A⟩:=DataW.trod_bool B h;simp only[bo]at A;exact⟨[.v (.bool b)],one (.v rfl) rfl,by simpa using(by simpa using r:P.cellsOf t=1).symm,by unfold jw;rw[B];exact⟨b,A.1,rfl⟩⟩
  ·rename_i k B;obtain⟨i,rfl,A,hwf⟩:=DataW.trod_int B h;simp only[bo]at A;exact⟨[.v (.int k i)],one (.v rfl) rfl,by simpa using(by simpa using r:P.cellsOf t=1).symm,by unfold jw;rw[B];exact⟨i,A.1,rfl,hwf⟩⟩
  ·rename_i B;obtain⟨s,rfl,A,hs⟩:=DataW.trod_string B h;simp only[bo]at A;exact⟨[.v (.string s)],one (.v rfl) rfl,by simpa using(by simpa using r:P.cellsOf t=1).symm,by unfold jw;rw[B];exact⟨s,A.1,rfl,hs⟩⟩
  ·rename_i e B;simp only[zs,yJ,qE,List.contains_iff_mem]at r;obtain⟨⟨U,heT⟩,Tv⟩:=r;rcases DataW.trod_slice B h with⟨rfl,A⟩|⟨a,len,cap,g,rest,m,hm,rfl,A,_,hlc,HU,hel,W,_,_⟩
   ·simp only[bo]at A;refine⟨[.sl (P.cellsOf e) []],one ?_ rfl,by simp[U],by unfold jw;rw[B];exact⟨[],[],.inl ⟨A.1,rfl⟩,rfl,by simp,.nil⟩⟩;exact qO.sl (es:=[]) (s:=P.cellsOf e) (fun _ _=>undef) (by simp) (by simp) (by simp[maxLen]) (by simp) (by simp) (by simp)
   ·obtain rfl:m=n:=by omega
    simp only[bo]at A;have hel':∀i (l:i<len),∃cs',w.cells? 0 (a.add (i*P.cellsOf e)) (P.cellsOf e)=some cs'/\DataW.trod V P w 0 sp held m e cs'=some (g[i]'(by omega)):=by
     intro i l;have E:=W i l;have h2:g[i]?=some (g[i]'(by omega)):=zm (by omega);rw[h2]at E;cases hc:w.cells? 0 (a.add (i*P.cellsOf e)) (P.cellsOf e)with
     |none=>simp[hc]at E
     |some cs'=>exact⟨cs',rfl,by simpa[hc]using E⟩
    have hch:∀i,∃q:List Value×zb,∀l:i<len,w.cells? 0 (a.add (i*P.cellsOf e)) (P.cellsOf e)=some q.1/\Zip (fun z u=>qO w (fun b=>b<w.heap.size) z u/\u.oneCell'=true) q.2 q.1/\q.1.length=P.cellsOf e/\jw P m e (g[i]'(by omega)).1 q.2:=by
     intro i;by_cases l:i<len
     ·obtain⟨cs',g1,g3⟩:=hel' i l;obtain⟨o,q1,q2,q3⟩:=WY hT m e cs' (g[i]'(by omega)).1 (g[i]'(by omega)).2 heT (by rw[g3]);exact⟨(cs',o),fun _=>⟨g1,q1,q2,q3⟩⟩
     ·exact⟨([],[]),fun h=>absurd h l⟩
    let q:Nat->List Value×zb:=fun i=>Classical.choose (hch i)
    have hq:∀i (l:i<len),w.cells? 0 (a.add (i*P.cellsOf e)) (P.cellsOf e)=some (q i).1/\Zip (fun z u=>qO w (fun b=>b<w.heap.size) z u/\u.oneCell'=true) (q i).2 (q i).1/\(q i).1.length=P.cellsOf e/\jw P m e (g[i]'(by omega)).1 (q i).2:=fun i=>wJ (hch i)
    have D:((List.range len).map fun i=>(q i).2).length=len:=by simp
    have J:∀(i:Nat) (c:zb),((List.range len).map fun i=>(q i).2)[i]?=some c->i<len/\c=(q i).2:=by
     intro i c l;have p:i<len:=by have:=(ze.1 l).1;simpa using this
     rw[z8,xR p]at l;simp at l;exact⟨p,l.symm⟩
    have key:qO w (fun b=>b<w.heap.size) (.sl (P.cellsOf e) ((List.range len).map fun i=>(q i).2)) (.slice (some a) ((List.range len).map fun i=>(q i).2).length cap):=by
     refine .sl (fun i j=>((q i).1[j]?).getD undef) (by simp) (by rw[D];exact hlc) HU (fun c hc=>?_) (fun i j c z l K=>?_) (fun i j c z l K=>?_)
     ·obtain⟨i,l,rfl⟩:=zZ.1 hc;have E:=hq i (vy.1 l);rw[E.2.1.1,E.2.2.1]
     ·obtain⟨p,rfl⟩:=J i c l;obtain⟨g1,L,g3,_⟩:=hq i p;have M:j<(q i).1.length:=by rw[<-L.1];exact(ze.1 K).1
      have C:(q i).1[j]?=some ((q i).1[j]):=zm M;obtain⟨_,g5,g6⟩:=World.cells?_some g1;have x:=g6 j (by omega);rw[KL]at x;rw[C]at x;refine⟨a,rfl,?_,?_,?_⟩
      ·have:=block_lt_of_cell x;rwa [xy]at this
      ·rw[x,C];rfl
      ·rw[C];exact(L.2 j z _ K C).2
     ·obtain⟨p,rfl⟩:=J i c l;obtain⟨g1,L,g3,_⟩:=hq i p;have M:j<(q i).1.length:=by rw[<-L.1];exact(ze.1 K).1
      have C:(q i).1[j]?=some ((q i).1[j]):=zm M;rw[C];exact(L.2 j z _ K C).1
    rw[D]at key;refine⟨[.sl (P.cellsOf e) ((List.range len).map fun i=>(q i).2)],one key rfl,by simp[U],?_⟩;unfold jw;rw[B];refine⟨_,g.map (·.1),.inr ⟨_,A.1⟩,rfl,by rw[D];omega,by rw[D,yK,hel],fun i c y l F=>?_⟩;obtain⟨p,rfl⟩:=J i c l;have E:=hq i p;rw[z8,zm (by omega)]at F;simp only[zO,qu]at F;subst F;exact⟨by rw[E.2.1.1,E.2.2.1],E.2.2.2⟩
  ·rename_i fs B;simp only[zs,yJ,qc,List.contains_iff_mem]at r;obtain⟨N,hfT⟩:=r;obtain⟨xs,m,hm,A,hcl,I2,hf⟩:=DataW.trod_struct B h;obtain rfl:m=n:=by omega
   simp only[bo]at A;obtain⟨o,g1,L,g3⟩:=fe (P:=P) (R:=fun z u=>qO w (fun b=>b<w.heap.size) z u/\u.oneCell'=true) (Q:=fun f o=>∀(i:Nat) y,fs[i]?=some f->(xs.map (·.1))[i]?=some y->jw P m f.type y o) fs.toList 0 (P.cellsOf t) cs N hcl (fun f G=>by
    obtain⟨i,l⟩:=List.getElem?_of_mem G;have S:=hf i f (by simpa using l);have p:i<xs.length:=by rw[I2];have:=(ze.1 l).1;simpa using this
    rw[zm p]at S;obtain⟨o,q1,_,q3⟩:=WY hT m f.type _ (xs[i]).1 (xs[i]).2 (hfT f G) S;refine⟨o,q1,fun k y hk F=>?_⟩;have hfk:=hf k f hk;rw[S]at hfk;rw[z8,<-hfk]at F;simp only[zO,qu]at F;subst F;exact q3)
   refine⟨o,⟨by omega,fun j z u K hu'=>L j z u K (by simpa using hu')⟩,hcl,?_⟩;unfold jw;rw[B];refine⟨xs.map (·.1),A.1,by omega,by rw[yK,I2],fun i f y l F=>?_⟩;have G:f∈fs.toList:=by
    have:fs.toList[i]?=some f:=by simpa using l
    exact zI this
   have:=(g3 f G).2 i y l F;simpa using this
  ·cases r
theorem rU{T:List TypeId}(g:a6 P T=true){t:TypeId}{v:Value}{d:DataW H}{e:List MemPlace}{r:Reach}{base:Nat}{i:Array Field}(k:t∈T)(l:P.underlying t=some (.struct i))(m:Value.okWide P w r base t v)(h:DataW.Trod V P w 0 sp held t v d e) :
  ∃(n:Nat) (a:zb),jw P n t d a/\qO w (fun b=>b<w.heap.size) (.agg a) v:=by
 obtain⟨n,o⟩:=h;obtain⟨a,f,y,p⟩:=WY g n t v.cells.toList d e k o;obtain⟨cs,rfl,q⟩:=okWide_struct l m;exact⟨n,a,p,.agg (by have:=f.1;simpa[Value.cells]using this) (fun j s u x c=>(f.2 j s u x (by simpa[Value.cells]using c)).1)⟩
theorem Eo{T:List TypeId}(x:a6 P T=true){t:TypeId}{v:Value}{d:DataW H}{y:List MemPlace}{r:Reach}{base:Nat}(z:t∈T)(A:¬∃f,P.underlying t=some (.struct f))(i:Value.okWide P w r base t v)(h:DataW.Trod V P w 0 sp held t v d y) :
  ∃(n:Nat) (p:O),jw P n t d [p]/\qO w (fun b=>b<w.heap.size) p v:=by
 obtain⟨n,B⟩:=h;obtain⟨j,e,k,g⟩:=WY x n t v.cells.toList d y z B;have c:=qc.1 x t z;have m:P.cellsOf t=1:=by
  split at c
  ·simpa using c
  ·simpa using c
  ·simpa using c
  ·simp only[zs,yJ]at c;exact c.1.1
  ·rename_i f a;exact absurd ⟨f,a⟩ A
  ·cases c
 rw[m]at k
 match j,e,g with
 |[],e,g=>have:=e.1;rw[k]at this;simp at this
 |p::q::l,e,g=>have:=e.1;rw[k]at this;simp at this
 |[p],e,g=>
  obtain⟨u,o,C,D⟩:=Wl e;have s:v=u:=by
   cases v with
   |agg cs=>
    exfalso;split at c
    ·rename_i a;simp[Value.okWide,a,Cell.okWide,Cell.ok]at i
    ·rename_i a;simp[Value.okWide,a,Cell.okWide,Cell.ok]at i
    ·rename_i a;simp[Value.okWide,a,Cell.okWide,Cell.ok]at i
    ·rename_i a;simp[Value.okWide,a,Cell.okWide,Cell.ok]at i
    ·rename_i f a;exact A ⟨f,a⟩
    ·cases c
   |_=>simpa[Value.cells]using o
  subst s;exact⟨n,p,g,C⟩
end
end Go.AM
namespace Go.AM
def KF(P:Program)(t:TypeId):Option (List (TypeId×Nat×Nat)):=match P.underlying t with
 |some (.struct a)=>some (a.toList.map fun f=>(f.type,f.offset,P.cellsOf f.type))
 |_=>none
def JG{H:Type}(P:Program)(n:Nat)(pvs:zb):List (TypeId×Nat×Nat)->List (DataW H)->Prop
 |[],[]=>True
 |(t,o,c)::l,y::ds=>jw P n t y ((pvs.drop o).take c)/\JG P n pvs l ds
 |_,_=>False
section
variable{H:Type}{P:Program}{n:Nat}{t:TypeId}{d:DataW H}{pvs:zb}
theorem dY(n:Nat)(pvs:zb):∀(a:List Field) (ds:List (DataW H)),ds.length=a.length->(∀(i:Nat) f y,a[i]?=some f->ds[i]?=some y->jw P n f.type y ((pvs.drop f.offset).take (P.cellsOf f.type)))->JG P n pvs (a.map fun f=>(f.type,f.offset,P.cellsOf f.type)) ds
 |[],[],_,_=>trivial
 |f::a,y::ds,b,h=>⟨h 0 f y rfl rfl,dY n pvs a ds (by simpa using b) fun i f' c d e=>h (i+1) f' c (by simpa using d) (by simpa using e)⟩
theorem VS{l:List (TypeId×Nat×Nat)}(hs:KF P t=some l):∃a,P.underlying t=some (.struct a)/\l=a.toList.map fun f=>(f.type,f.offset,P.cellsOf f.type):=by
 unfold KF at hs;split at hs
 ·rename_i a b;injection hs with hs
  exact⟨a,b,hs.symm⟩
 ·cases hs
theorem WZ{l:List (TypeId×Nat×Nat)}(hs:KF P t=some l)(h:jw P n t d pvs):∃(m:Nat) (ds:List (DataW H)),n=m+1/\d=.agg ds/\pvs.length=P.cellsOf t/\JG P m pvs l ds:=by
 obtain⟨a,b,rfl⟩:=VS hs;cases n with
 |zero=>exact h.elim
 |succ m=>unfold jw at h;rw[b]at h;obtain⟨ds,c,e,g,j⟩:=h;exact⟨m,ds,rfl,c,e,dY m pvs a.toList ds (by simpa using g) fun i f y k o=>j i f y (by simpa using k) o⟩
theorem wR{o c:Nat}{l:List (TypeId×Nat×Nat)}{ds:List (DataW H)}(h:JG P n pvs ((t,o,c)::l) ds):∃y a,ds=y::a/\jw P n t y ((pvs.drop o).take c)/\JG P n pvs l a:=by
 cases ds with
 |nil=>exact h.elim
 |cons y a=>exact⟨y,a,rfl,h.1,h.2⟩
theorem Jb{ds:List (DataW H)}(h:JG P n pvs [] ds):ds=[]:=by
 cases ds with
 |nil=>rfl
 |cons y a=>exact h.elim
theorem JH{k:IntKind}(a:P.underlying t=some (.int k))(h:jw P n t d pvs):∃i,d=.lit (.int k i)/\pvs=[.v (.int k i)]/\(Lit.int k i).wf=true:=by
 cases n with
 |zero=>exact h.elim
 |succ m=>unfold jw at h;rw[a]at h;exact h
theorem vd(a:P.underlying t=some .string)(h:jw P n t d pvs):∃l:za,d=.lit (.string l)/\pvs=[str l]/\l.length<=maxLen:=by
 cases n with
 |zero=>exact h.elim
 |succ m=>unfold jw at h;rw[a]at h;obtain⟨s,b,c,e⟩:=h;exact⟨s.data.toList,b,by rw[c],e⟩
theorem Qv{e:TypeId}(a:P.underlying t=some (.slice e))(h:jw P n t d pvs):∃(m:Nat) (es:List zb) (ds:List (DataW H)),n=m+1/\((d=.nil/\ds=[])\/∃b,d=.slice ds b)/\pvs=[.sl (P.cellsOf e) es]/\es.length<=maxLen/\Zip (fun c y=>c.length=P.cellsOf e/\jw P m e y c) es ds:=by
 cases n with
 |zero=>exact h.elim
 |succ m=>unfold jw at h;rw[a]at h;obtain⟨es,ds,f,g,i,j⟩:=h;exact⟨m,es,ds,rfl,f,g,i,j⟩
theorem Z6{α:Type}{V:α->zb}{w:α->Nat}{b:DataW H->Nat}{R:zb->DataW H->Prop}(d:∀c y,R c y->∃a,c=V a/\w a<=b y):∀{es:List zb} {ds:List (DataW H)},Zip R es ds->∃l:List α,es=l.map V/\(l.map w).sum<=(ds.map b).sum
 |[],[],_=>⟨[],rfl,by simp⟩
 |[],_::_,h=>by have:=h.1;simp at this
 |_::_,[],h=>by have:=h.1;simp at this
 |c::es,y::ds,h=>by obtain⟨a,rfl,k⟩:=d c y (h.2 0 c y rfl rfl);obtain⟨l,rfl,m⟩:=Z6 d (es:=es) (ds:=ds) ⟨by have:=h.1;simpa using this,fun i e f g j=>h.2 (i+1) e f (by simpa using g) (by simpa using j)⟩;exact⟨a::l,rfl,by simp;omega⟩
end
end Go.AM
