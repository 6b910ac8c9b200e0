/- Lemmas. -/
import Derived.Test.YtmngbpkapamhoaaGreatDoorG4
set_option maxRecDepth 8000
open Go Proofs Proofs.YtmngbpkapamhoaaGreatDoor Proofs.Tryz RowKit AM SpanLaw Q Zz
namespace Go.AM
open Go.RowKit Go.WideShapes Go.ChangeShapes
def jU{H:Type}(P:Program):Nat->TypeId->DataW H->zb->Prop
 | 0,_,_,_=>False
 |n+1,t,d,a=>match P.underlying t with
  |some .bool=>∃b,d=.lit (.bool b)/\a=[.v (.bool b)]
  |some (.int k)=>∃i,d=.lit (.int k i)/\a=[.v (.int k i)]/\(Lit.int k i).wf=true
  |some .string=>∃s:ByteArray,d=.lit (.string s.data.toList)/\a=[.v (.string s)]/\s.size<=maxLen
  |some (.slice e)=>∃(es:List zb) (ds:List (DataW H)),((d=.nil/\ds=[])\/∃sp,d=.slice ds sp)/\a=[.sl (P.cellsOf e) es]/\es.length<=maxLen/\Zip (fun c y=>c.length=P.cellsOf e/\jU P n e y c) es ds
  |some (.struct g)=>∃ds:List (DataW H),d=.agg ds/\a.length=P.cellsOf t/\ds.length=g.size/\∀(i:Nat) f y,g[i]?=some f->ds[i]?=some y->jU P n f.type y ((a.drop f.offset).take (P.cellsOf f.type))
  |_=>False
section
variable{H:Type}{V:TypeId×Value->H}{P:Program}{w:World}{sp:Nat->Bool}{held:Bool}
theorem V1{T:List TypeId}(hT:mH P T=true):∀(I:Nat) (t:TypeId) (cs:List Value) (d:DataW H) (ps:List MemPlace),t∈T->DataW.trod V P w 0 sp held I t cs=some (d,ps) ->
  ∃l,Zip (fun x u=>ya w (fun b=>b<w.heap.size) x u/\u.oneCell'=true) l cs/\cs.length=P.cellsOf t/\jU P I t d l
 | 0,t,cs,d,ps,_,h=>by simp[DataW.trod]at h
 |n+1,t,cs,d,ps,ht,h=>by
  have p:=ql.1 hT t ht;have one:∀{x:O} {u:Value},ya w (fun b=>b<w.heap.size) x u->u.oneCell'=true->Zip (fun x u=>ya w (fun b=>b<w.heap.size) x u/\u.oneCell'=true) [x] [u]:=fun E h2=>.cons ⟨E,h2⟩ .nil
  split at p
  ·rename_i A;obtain⟨b,rfl,z⟩:=DataW.trod_bool A h;simp only[Pr]at z;exact⟨[.v (.bool b)],one (.v rfl) rfl,by simpa using(by simpa using p:P.cellsOf t=1).symm,by unfold jU;rw[A];exact⟨b,z.1,rfl⟩⟩
  ·rename_i k A;obtain⟨i,rfl,z,hwf⟩:=DataW.trod_int A h;simp only[Pr]at z;exact⟨[.v (.int k i)],one (.v rfl) rfl,by simpa using(by simpa using p:P.cellsOf t=1).symm,by unfold jU;rw[A];exact⟨i,z.1,rfl,hwf⟩⟩
  ·rename_i A;obtain⟨s,rfl,z,hs⟩:=DataW.trod_string A h;simp only[Pr]at z;exact⟨[.v (.string s)],one (.v rfl) rfl,by simpa using(by simpa using p:P.cellsOf t=1).symm,by unfold jU;rw[A];exact⟨s,z.1,rfl,hs⟩⟩
  ·rename_i e A;simp only[zE,jY,zS,List.contains_iff_mem]at p;obtain⟨⟨U,heT⟩,hce⟩:=p;rcases DataW.trod_slice A h with⟨rfl,z⟩|⟨a,len,cap,g,rest,m,hm,rfl,z,_,hlc,hcm,hel,W,_,_⟩
   ·simp only[Pr]at z;refine⟨[.sl (P.cellsOf e) []],one ?_ rfl,by simp[U],by unfold jU;rw[A];exact⟨[],[],.inl ⟨z.1,rfl⟩,rfl,by simp,.nil⟩⟩;exact ya.sl (es:=[]) (s:=P.cellsOf e) (fun _ _=>undef) (by simp) (by simp) (by simp[maxLen]) (by simp) (by simp) (by simp)
   ·obtain rfl:m=n:=by omega
    simp only[Pr]at z;have X:∀i (hi:i<len),∃B,w.cells? 0 (a.add (i*P.cellsOf e)) (P.cellsOf e)=some B/\DataW.trod V P w 0 sp held m e B=some (g[i]'(by omega)):=by
     intro i hi;have E:=W i hi;have h2:g[i]?=some (g[i]'(by omega)):=zq (by omega);rw[h2]at E;cases hc:w.cells? 0 (a.add (i*P.cellsOf e)) (P.cellsOf e)with
     |none=>simp[hc]at E
     |some B=>exact⟨B,rfl,by simpa[hc]using E⟩
    have hch:∀i,∃q:List Value×zb,∀hi:i<len,w.cells? 0 (a.add (i*P.cellsOf e)) (P.cellsOf e)=some q.1/\Zip (fun x u=>ya w (fun b=>b<w.heap.size) x u/\u.oneCell'=true) q.2 q.1/\q.1.length=P.cellsOf e/\jU P m e (g[i]'(by omega)).1 q.2:=by
     intro i;by_cases hi:i<len
     ·obtain⟨B,g1,g3⟩:=X i hi;obtain⟨l,q1,q2,q3⟩:=V1 hT m e B (g[i]'(by omega)).1 (g[i]'(by omega)).2 heT (by rw[g3]);exact⟨(B,l),fun _=>⟨g1,q1,q2,q3⟩⟩
     ·exact⟨([],[]),fun h=>absurd h hi⟩
    let q:Nat->List Value×zb:=fun i=>Classical.choose (hch i)
    have hq:∀i (hi:i<len),w.cells? 0 (a.add (i*P.cellsOf e)) (P.cellsOf e)=some (q i).1/\Zip (fun x u=>ya w (fun b=>b<w.heap.size) x u/\u.oneCell'=true) (q i).2 (q i).1/\(q i).1.length=P.cellsOf e/\jU P m e (g[i]'(by omega)).1 (q i).2:=fun i=>jX (hch i)
    have D:((List.range len).map fun i=>(q i).2).length=len:=by simp
    have J:∀(i:Nat) (c:zb),((List.range len).map fun i=>(q i).2)[i]?=some c->i<len/\c=(q i).2:=by
     intro i c hi;have o:i<len:=by have:=(zk.1 hi).1;simpa using this
     rw[qz,kJ o]at hi;simp at hi;exact⟨o,hi.symm⟩
    have key:ya w (fun b=>b<w.heap.size) (.sl (P.cellsOf e) ((List.range len).map fun i=>(q i).2)) (.slice (some a) ((List.range len).map fun i=>(q i).2).length cap):=by
     refine .sl (fun i j=>((q i).1[j]?).getD undef) (by simp) (by rw[D];exact hlc) hcm (fun c hc=>?_) (fun i j c x hi K=>?_) (fun i j c x hi K=>?_)
     ·obtain⟨i,hi,rfl⟩:=q9.1 hc;have E:=hq i (jK.1 hi);rw[E.2.1.1,E.2.2.1]
     ·obtain⟨o,rfl⟩:=J i c hi;obtain⟨g1,L,g3,_⟩:=hq i o;have M:j<(q i).1.length:=by rw[<-L.1];exact(zk.1 K).1
      have C:(q i).1[j]?=some ((q i).1[j]):=zq M;obtain⟨_,g5,g6⟩:=World.cells?_some g1;have r:=g6 j (by omega);rw[dI]at r;rw[C]at r;refine⟨a,rfl,?_,?_,?_⟩
      ·have:=block_lt_of_cell r;rwa [Wm]at this
      ·rw[r,C];rfl
      ·rw[C];exact(L.2 j x _ K C).2
     ·obtain⟨o,rfl⟩:=J i c hi;obtain⟨g1,L,g3,_⟩:=hq i o;have M:j<(q i).1.length:=by rw[<-L.1];exact(zk.1 K).1
      have C:(q i).1[j]?=some ((q i).1[j]):=zq M;rw[C];exact(L.2 j x _ K C).1
    rw[D]at key;refine⟨[.sl (P.cellsOf e) ((List.range len).map fun i=>(q i).2)],one key rfl,by simp[U],?_⟩;unfold jU;rw[A];refine⟨_,g.map (·.1),.inr ⟨_,z.1⟩,rfl,by rw[D];omega,by rw[D,Zn,hel],fun i c y hi F=>?_⟩;obtain⟨o,rfl⟩:=J i c hi;have E:=hq i o;rw[qz,zq (by omega)]at F;simp only[zH,qa]at F;subst F;exact⟨by rw[E.2.1.1,E.2.2.1],E.2.2.2⟩
  ·rename_i fs A;simp only[zE,jY,ql,List.contains_iff_mem]at p;obtain⟨N,hfT⟩:=p;obtain⟨xs,m,hm,z,hcl,PO,hf⟩:=DataW.trod_struct A h;obtain rfl:m=n:=by omega
   simp only[Pr]at z;obtain⟨l,g1,L,g3⟩:=tN (P:=P) (R:=fun x u=>ya w (fun b=>b<w.heap.size) x u/\u.oneCell'=true) (Q:=fun f l=>∀(i:Nat) y,fs[i]?=some f->(xs.map (·.1))[i]?=some y->jU P m f.type y l) fs.toList 0 (P.cellsOf t) cs N hcl (fun f G=>by
    obtain⟨i,hi⟩:=Va G;have S:=hf i f (by simpa using hi);have o:i<xs.length:=by rw[PO];have:=(zk.1 hi).1;simpa using this
    rw[zq o]at S;obtain⟨l,q1,_,q3⟩:=V1 hT m f.type _ (xs[i]).1 (xs[i]).2 (hfT f G) S;refine⟨l,q1,fun k y hk F=>?_⟩;have hfk:=hf k f hk;rw[S]at hfk;rw[qz,<-hfk]at F;simp only[zH,qa]at F;subst F;exact q3)
   refine⟨l,⟨by omega,fun j x u K hu'=>L j x u K (by simpa using hu')⟩,hcl,?_⟩;unfold jU;rw[A];refine⟨xs.map (·.1),z.1,by omega,by rw[Zn,PO],fun i f y hi F=>?_⟩;have G:f∈fs.toList:=by
    have:fs.toList[i]?=some f:=by simpa using hi
    exact zN this
   have:=(g3 f G).2 i y hi F;simpa using this
  ·cases p
theorem Lm{T:List TypeId}(g:mH P T=true){t:TypeId}{v:Value}{d:DataW H}{e:List MemPlace}{r:Reach}{base:Nat}{i:Array Field}(k:t∈T)(l:P.underlying t=some (.struct i))(m:Value.okWide P w r base t v)(h:DataW.Trod V P w 0 sp held t v d e) :
  ∃(n:Nat) (a:zb),jU P n t d a/\ya w (fun b=>b<w.heap.size) (.agg a) v:=by
 obtain⟨n,o⟩:=h;obtain⟨a,f,y,p⟩:=V1 g n t v.cells.toList d e k o;obtain⟨cs,rfl,q⟩:=okWide_struct l m;exact⟨n,a,p,.agg (by have:=f.1;simpa[Value.cells]using this) (fun j s u x c=>(f.2 j s u x (by simpa[Value.cells]using c)).1)⟩
theorem US{T:List TypeId}(x:mH P T=true){t:TypeId}{v:Value}{d:DataW H}{y:List MemPlace}{r:Reach}{base:Nat}(z:t∈T)(A:¬∃f,P.underlying t=some (.struct f))(i:Value.okWide P w r base t v)(h:DataW.Trod V P w 0 sp held t v d y) :
  ∃(n:Nat) (p:O),jU P n t d [p]/\ya w (fun b=>b<w.heap.size) p v:=by
 obtain⟨n,B⟩:=h;obtain⟨j,e,k,g⟩:=V1 x n t v.cells.toList d y z B;have c:=ql.1 x t z;have m:P.cellsOf t=1:=by
  split at c
  ·simpa using c
  ·simpa using c
  ·simpa using c
  ·simp only[zE,jY]at c;exact c.1.1
  ·rename_i f a;exact absurd ⟨f,a⟩ A
  ·cases c
 rw[m]at k
 match j,e,g with
 |[],e,g=>have:=e.1;rw[k]at this;simp at this
 |p::q::l,e,g=>have:=e.1;rw[k]at this;simp at this
 |[p],e,g=>
  obtain⟨u,o,C,D⟩:=YS e;have s:v=u:=by
   cases v with
   |agg cs=>
    exfalso;split at c
    ·rename_i a;simp[Value.okWide,a,Cell.okWide,Cell.ok]at i
    ·rename_i a;simp[Value.okWide,a,Cell.okWide,Cell.ok]at i
    ·rename_i a;simp[Value.okWide,a,Cell.okWide,Cell.ok]at i
    ·rename_i a;simp[Value.okWide,a,Cell.okWide,Cell.ok]at i
    ·rename_i f a;exact A ⟨f,a⟩
    ·cases c
   |_=>simpa[Value.cells]using o
  subst s;exact⟨n,p,g,C⟩
end
end Go.AM
namespace Go.AM
def Qv(P:Program)(t:TypeId):Option (List (TypeId×Nat×Nat)):=match P.underlying t with
 |some (.struct a)=>some (a.toList.map fun f=>(f.type,f.offset,P.cellsOf f.type))
 |_=>none
def br{H:Type}(P:Program)(n:Nat)(pvs:zb):List (TypeId×Nat×Nat)->List (DataW H)->Prop
 |[],[]=>True
 |(t,o,c)::l,y::ds=>jU P n t y ((pvs.drop o).take c)/\br P n pvs l ds
 |_,_=>False
section
variable{H:Type}{P:Program}{n:Nat}{t:TypeId}{d:DataW H}{pvs:zb}
theorem rU(n:Nat)(pvs:zb):∀(a:List Field) (ds:List (DataW H)),ds.length=a.length->(∀(i:Nat) f y,a[i]?=some f->ds[i]?=some y->jU P n f.type y ((pvs.drop f.offset).take (P.cellsOf f.type)))->br P n pvs (a.map fun f=>(f.type,f.offset,P.cellsOf f.type)) ds
 |[],[],_,_=>trivial
 |f::a,y::ds,b,h=>⟨h 0 f y rfl rfl,rU n pvs a ds (by simpa using b) fun i f' c d e=>h (i+1) f' c (by simpa using d) (by simpa using e)⟩
theorem fG{l:List (TypeId×Nat×Nat)}(hs:Qv P t=some l):∃a,P.underlying t=some (.struct a)/\l=a.toList.map fun f=>(f.type,f.offset,P.cellsOf f.type):=by
 unfold Qv at hs;split at hs
 ·rename_i a b;injection hs with hs
  exact⟨a,b,hs.symm⟩
 ·cases hs
theorem j7{l:List (TypeId×Nat×Nat)}(hs:Qv P t=some l)(h:jU P n t d pvs):∃(m:Nat) (ds:List (DataW H)),n=m+1/\d=.agg ds/\pvs.length=P.cellsOf t/\br P m pvs l ds:=by
 obtain⟨a,b,rfl⟩:=fG hs;cases n with
 |zero=>exact h.elim
 |succ m=>unfold jU at h;rw[b]at h;obtain⟨ds,c,e,g,j⟩:=h;exact⟨m,ds,rfl,c,e,rU m pvs a.toList ds (by simpa using g) fun i f y k o=>j i f y (by simpa using k) o⟩
theorem qg{o c:Nat}{l:List (TypeId×Nat×Nat)}{ds:List (DataW H)}(h:br P n pvs ((t,o,c)::l) ds):∃y a,ds=y::a/\jU P n t y ((pvs.drop o).take c)/\br P n pvs l a:=by
 cases ds with
 |nil=>exact h.elim
 |cons y a=>exact⟨y,a,rfl,h.1,h.2⟩
theorem kG{ds:List (DataW H)}(h:br P n pvs [] ds):ds=[]:=by
 cases ds with
 |nil=>rfl
 |cons y a=>exact h.elim
theorem vK{k:IntKind}(a:P.underlying t=some (.int k))(h:jU P n t d pvs):∃i,d=.lit (.int k i)/\pvs=[.v (.int k i)]/\(Lit.int k i).wf=true:=by
 cases n with
 |zero=>exact h.elim
 |succ m=>unfold jU at h;rw[a]at h;exact h
theorem yW(a:P.underlying t=some .string)(h:jU P n t d pvs):∃l:za,d=.lit (.string l)/\pvs=[str l]/\l.length<=maxLen:=by
 cases n with
 |zero=>exact h.elim
 |succ m=>unfold jU at h;rw[a]at h;obtain⟨s,b,c,e⟩:=h;exact⟨s.data.toList,b,by rw[c],e⟩
theorem jx{e:TypeId}(a:P.underlying t=some (.slice e))(h:jU P n t d pvs):∃(m:Nat) (es:List zb) (ds:List (DataW H)),n=m+1/\((d=.nil/\ds=[])\/∃sp,d=.slice ds sp)/\pvs=[.sl (P.cellsOf e) es]/\es.length<=maxLen/\Zip (fun c y=>c.length=P.cellsOf e/\jU P m e y c) es ds:=by
 cases n with
 |zero=>exact h.elim
 |succ m=>unfold jU at h;rw[a]at h;obtain⟨es,ds,b,f,g,i⟩:=h;exact⟨m,es,ds,rfl,b,f,g,i⟩
theorem jH{α:Type}{V:α->zb}{w:α->Nat}{b:DataW H->Nat}{R:zb->DataW H->Prop}(d:∀c y,R c y->∃a,c=V a/\w a<=b y):∀{es:List zb} {ds:List (DataW H)},Zip R es ds->∃l:List α,es=l.map V/\(l.map w).sum<=(ds.map b).sum
 |[],[],_=>⟨[],rfl,by simp⟩
 |[],_::_,h=>by have:=h.1;simp at this
 |_::_,[],h=>by have:=h.1;simp at this
 |c::es,y::ds,h=>by obtain⟨a,rfl,k⟩:=d c y (h.2 0 c y rfl rfl);obtain⟨l,rfl,m⟩:=jH d (es:=es) (ds:=ds) ⟨by have:=h.1;simpa using this,fun i e f g j=>h.2 (i+1) e f (by simpa using g) (by simpa using j)⟩;exact⟨a::l,rfl,by simp;omega⟩
end
end Go.AM
