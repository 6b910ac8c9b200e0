/-
The abstract machine, part 27: what the row reads, as pure values, datum by datum.
The abstract machine, part 28: data taken apart by their types' shapes.
-/
import Derived.Test.YtanbabpnlgfcpaaGreatDoorG9
set_option maxRecDepth 8000
namespace Go.AM
open Go.RowKit Go.WideShapes Go.ChangeShapes
def wd {H:Type} (P:Program):Nat→TypeId→DataW H→List PV→Prop
 | 0,_,_,_=>False
 | n+1,t,d,pvs=>match P.underlying t with
   | some .bool=>∃b,d=.lit (.bool b)∧pvs=[.v (.bool b)]
   | some (.int k)=>∃i,d=.lit (.int k i)∧pvs=[.v (.int k i)]∧(Lit.int k i).wf=true
   | some .string=>∃s:ByteArray,d=.lit (.string s.data.toList)∧pvs=[.v (.string s)]∧s.size≤maxLen
   | some (.slice e)=>∃(es:List (List PV)) (ds:List (DataW H)),((d=.nil∧ds=[])∨∃sp,d=.slice ds sp)∧pvs=[.sl (P.cellsOf e) es]∧es.length≤maxLen∧Zip (fun c y=>c.length=P.cellsOf e∧wd P n e y c) es ds
   | some (.struct fs)=>∃ds:List (DataW H),d=.agg ds∧pvs.length=P.cellsOf t∧ds.length=fs.size∧∀(i:Nat) f y,fs[i]?=some f→ds[i]?=some y→wd P n f.type y ((pvs.drop f.offset).take (P.cellsOf f.type))
   | _=>False
section
variable {H:Type} {enc:TypeId×Value→H} {P:Program} {w:World} {sp:Nat→Bool} {held:Bool}
theorem vO {T:List TypeId} (hT:typesOk P T=true):∀(fuel:Nat) (t:TypeId) (cs:List Value) (d:DataW H) (ps:List MemPlace),t∈T→DataW.trod enc P w 0 sp held fuel t cs=some (d,ps) →
  ∃pvs,Zip (fun pv u=>RepC w (fun b=>b<w.heap.size) pv u∧u.oneCell'=true) pvs cs∧cs.length=P.cellsOf t∧wd P fuel t d pvs
 | 0,t,cs,d,ps,_,h=>by simp[DataW.trod] at h
 | n+1,t,cs,d,ps,ht,h=>by
   have hTt:=List.all_eq_true.1 hT t ht
   have one:∀{pv:PV} {u:Value},RepC w (fun b=>b<w.heap.size) pv u→u.oneCell'=true→Zip (fun pv u=>RepC w (fun b=>b<w.heap.size) pv u∧u.oneCell'=true) [pv] [u]:=fun h1 h2=>.cons ⟨h1,h2⟩ .nil
   split at hTt
   ·rename_i hu
    obtain⟨b,rfl,hx⟩:=DataW.trod_bool hu h
    simp only[Prod.mk.injEq] at hx
    exact⟨[.v (.bool b)],one (.v rfl) rfl,by simpa using (by simpa using hTt:P.cellsOf t=1).symm,by unfold wd;rw[hu];exact⟨b,hx.1,rfl⟩⟩
   ·rename_i k hu
    obtain⟨i,rfl,hx,hwf⟩:=DataW.trod_int hu h
    simp only[Prod.mk.injEq] at hx
    exact⟨[.v (.int k i)],one (.v rfl) rfl,by simpa using (by simpa using hTt:P.cellsOf t=1).symm,by unfold wd;rw[hu];exact⟨i,hx.1,rfl,hwf⟩⟩
   ·rename_i hu
    obtain⟨s,rfl,hx,hs⟩:=DataW.trod_string hu h
    simp only[Prod.mk.injEq] at hx
    exact⟨[.v (.string s)],one (.v rfl) rfl,by simpa using (by simpa using hTt:P.cellsOf t=1).symm,by unfold wd;rw[hu];exact⟨s,hx.1,rfl,hs⟩⟩
   ·rename_i e hu
    simp only[Bool.and_eq_true,beq_iff_eq,decide_eq_true_eq,List.contains_iff_mem] at hTt
    obtain⟨⟨hc1,heT⟩,hce⟩:=hTt
    rcases DataW.trod_slice hu h with⟨rfl,hx⟩ | ⟨a,len,cap,elems,rest,m,hm,rfl,hx,_,hlc,hcm,hel,hget,_,_⟩
    ·simp only[Prod.mk.injEq] at hx
     refine⟨[.sl (P.cellsOf e) []],one ?_ rfl,by simp[hc1],by unfold wd;rw[hu];exact⟨[],[],.inl ⟨hx.1,rfl⟩,rfl,by simp,.nil⟩⟩
     exact RepC.sl (es:=[]) (s:=P.cellsOf e) (fun _ _=>undef) (by simp) (by simp) (by simp[maxLen]) (by simp) (by simp) (by simp)
    ·obtain rfl:m=n:=by omega
     simp only[Prod.mk.injEq] at hx
     have hel':∀i (hi:i<len),∃cs',w.cells? 0 (a.add (i*P.cellsOf e)) (P.cellsOf e)=some cs'∧DataW.trod enc P w 0 sp held m e cs'=some (elems[i]'(by omega)):=by
      intro i hi
      have h1:=hget i hi
      have h2:elems[i]?=some (elems[i]'(by omega)):=List.getElem?_eq_getElem (by omega)
      rw[h2] at h1
      cases hc:w.cells? 0 (a.add (i*P.cellsOf e)) (P.cellsOf e) with
      | none=>simp[hc] at h1
      | some cs'=>exact⟨cs',rfl,by simpa[hc] using h1⟩
     have hch:∀i,∃q:List Value×List PV,∀hi:i<len,w.cells? 0 (a.add (i*P.cellsOf e)) (P.cellsOf e)=some q.1∧Zip (fun pv u=>RepC w (fun b=>b<w.heap.size) pv u∧u.oneCell'=true) q.2 q.1∧q.1.length=P.cellsOf e∧wd P m e (elems[i]'(by omega)).1 q.2:=by
      intro i
      by_cases hi:i<len
      ·obtain⟨cs',g1,g3⟩:=hel' i hi
       obtain⟨pvs,q1,q2,q3⟩:=vO hT m e cs' (elems[i]'(by omega)).1 (elems[i]'(by omega)).2 heT (by rw[g3])
       exact⟨(cs',pvs),fun _=>⟨g1,q1,q2,q3⟩⟩
      ·exact⟨([],[]),fun h=>absurd h hi⟩
     let q:Nat→List Value×List PV:=fun i=>Classical.choose (hch i)
     have hq:∀i (hi:i<len),w.cells? 0 (a.add (i*P.cellsOf e)) (P.cellsOf e)=some (q i).1∧Zip (fun pv u=>RepC w (fun b=>b<w.heap.size) pv u∧u.oneCell'=true) (q i).2 (q i).1∧(q i).1.length=P.cellsOf e∧wd P m e (elems[i]'(by omega)).1 (q i).2:=fun i=>Classical.choose_spec (hch i)
     have hlen:((List.range len).map fun i=>(q i).2).length=len:=by simp
     have hgi:∀(i:Nat) (c:List PV),((List.range len).map fun i=>(q i).2)[i]?=some c→i<len∧c=(q i).2:=by
      intro i c hi
      have hil:i<len:=by have:=(List.getElem?_eq_some_iff.1 hi).1;simpa using this
      rw[List.getElem?_map,List.getElem?_range hil] at hi
      simp at hi
      exact⟨hil,hi.symm⟩
     have key:RepC w (fun b=>b<w.heap.size) (.sl (P.cellsOf e) ((List.range len).map fun i=>(q i).2)) (.slice (some a) ((List.range len).map fun i=>(q i).2).length cap):=by
      refine .sl (fun i j=>((q i).1[j]?).getD undef) (by simp) (by rw[hlen];exact hlc) hcm (fun c hc=>?_) (fun i j c pv hi hj=>?_) (fun i j c pv hi hj=>?_)
      ·obtain⟨i,hi,rfl⟩:=List.mem_map.1 hc
       have h1:=hq i (List.mem_range.1 hi)
       rw[h1.2.1.1,h1.2.2.1]
      ·obtain⟨hil,rfl⟩:=hgi i c hi
       obtain⟨g1,g2,g3,_⟩:=hq i hil
       have hjl:j<(q i).1.length:=by rw[←g2.1];exact (List.getElem?_eq_some_iff.1 hj).1
       have hju:(q i).1[j]?=some ((q i).1[j]):=List.getElem?_eq_getElem hjl
       obtain⟨_,g5,g6⟩:=World.cells?_some g1
       have hcell:=g6 j (by omega)
       rw[add_add] at hcell
       rw[hju] at hcell
       refine⟨a,rfl,?_,?_,?_⟩
       ·have:=block_lt_of_cell hcell
        rwa [jg] at this
       ·rw[hcell,hju];rfl
       ·rw[hju];exact (g2.2 j pv _ hj hju).2
      ·obtain⟨hil,rfl⟩:=hgi i c hi
       obtain⟨g1,g2,g3,_⟩:=hq i hil
       have hjl:j<(q i).1.length:=by rw[←g2.1];exact (List.getElem?_eq_some_iff.1 hj).1
       have hju:(q i).1[j]?=some ((q i).1[j]):=List.getElem?_eq_getElem hjl
       rw[hju]
       exact (g2.2 j pv _ hj hju).1
     rw[hlen] at key
     refine⟨[.sl (P.cellsOf e) ((List.range len).map fun i=>(q i).2)],one key rfl,by simp[hc1],?_⟩
     unfold wd
     rw[hu]
     refine⟨_,elems.map (·.1),.inr ⟨_,hx.1⟩,rfl,by rw[hlen];omega,by rw[hlen,List.length_map,hel],fun i c y hi hy=>?_⟩
     obtain⟨hil,rfl⟩:=hgi i c hi
     have h1:=hq i hil
     rw[List.getElem?_map,List.getElem?_eq_getElem (by omega)] at hy
     simp only[Option.map_some,Option.some.injEq] at hy
     subst hy
     exact⟨by rw[h1.2.1.1,h1.2.2.1],h1.2.2.2⟩
   ·rename_i fs hu
    simp only[Bool.and_eq_true,beq_iff_eq,List.all_eq_true,List.contains_iff_mem] at hTt
    obtain⟨htile,hfT⟩:=hTt
    obtain⟨xs,m,hm,hx,hcl,hxl,hf⟩:=DataW.trod_struct hu h
    obtain rfl:m=n:=by omega
    simp only[Prod.mk.injEq] at hx
    obtain⟨pvs,g1,g2,g3⟩:=tile_join (P:=P) (R:=fun pv u=>RepC w (fun b=>b<w.heap.size) pv u∧u.oneCell'=true) (Q:=fun f pvs=>∀(i:Nat) y,fs[i]?=some f→(xs.map (·.1))[i]?=some y→wd P m f.type y pvs) fs.toList 0 (P.cellsOf t) cs htile hcl (fun f hfm=>by
     obtain⟨i,hi⟩:=List.getElem?_of_mem hfm
     have hfi:=hf i f (by simpa using hi)
     have hil:i<xs.length:=by rw[hxl];have:=(List.getElem?_eq_some_iff.1 hi).1;simpa using this
     rw[List.getElem?_eq_getElem hil] at hfi
     obtain⟨pvs,q1,_,q3⟩:=vO hT m f.type _ (xs[i]).1 (xs[i]).2 (hfT f hfm) hfi
     refine⟨pvs,q1,fun k y hk hy=>?_⟩
     have hfk:=hf k f hk
     rw[hfi] at hfk
     rw[List.getElem?_map,←hfk] at hy
     simp only[Option.map_some,Option.some.injEq] at hy
     subst hy
     exact q3)
    refine⟨pvs,⟨by omega,fun j pv u hj hu'=>g2 j pv u hj (by simpa using hu')⟩,hcl,?_⟩
    unfold wd
    rw[hu]
    refine⟨xs.map (·.1),hx.1,by omega,by rw[List.length_map,hxl],fun i f y hi hy=>?_⟩
    have hfm:f∈fs.toList:=by
     have:fs.toList[i]?=some f:=by simpa using hi
     exact List.mem_of_getElem? this
    have:=(g3 f hfm).2 i y hi hy
    simpa using this
   ·cases hTt
theorem vP {T:List TypeId} (hT:typesOk P T=true) {t:TypeId} {v:Value} {d:DataW H} {ps:List MemPlace} {r:Reach} {base:Nat} {fs:Array Field} (ht:t∈T) (hu:P.underlying t=some (.struct fs)) (hv:Value.okWide P w r base t v) (h:DataW.Trod enc P w 0 sp held t v d ps) :
  ∃(n:Nat) (pvs:List PV),wd P n t d pvs∧RepC w (fun b=>b<w.heap.size) (.agg pvs) v:=by
 obtain⟨n,hn⟩:=h
 obtain⟨pvs,h1,h2,h3⟩:=vO hT n t v.cells.toList d ps ht hn
 obtain⟨cs,rfl,hsz⟩:=okWide_struct hu hv
 exact⟨n,pvs,h3,.agg (by have:=h1.1;simpa[Value.cells] using this) (fun j pv u hj hu'=>(h1.2 j pv u hj (by simpa[Value.cells] using hu')).1)⟩
theorem vQ {T:List TypeId} (hT:typesOk P T=true) {t:TypeId} {v:Value} {d:DataW H} {ps:List MemPlace} {r:Reach} {base:Nat} (ht:t∈T) (hu:¬∃fs,P.underlying t=some (.struct fs)) (hv:Value.okWide P w r base t v) (h:DataW.Trod enc P w 0 sp held t v d ps) :
  ∃(n:Nat) (p:PV),wd P n t d [p]∧RepC w (fun b=>b<w.heap.size) p v:=by
 obtain⟨n,hn⟩:=h
 obtain⟨pvs,h1,h2,h3⟩:=vO hT n t v.cells.toList d ps ht hn
 have hTt:=List.all_eq_true.1 hT t ht
 have hc1:P.cellsOf t=1:=by
  split at hTt
  ·simpa using hTt
  ·simpa using hTt
  ·simpa using hTt
  ·simp only[Bool.and_eq_true,beq_iff_eq] at hTt;exact hTt.1.1
  ·rename_i fs hun;exact absurd ⟨fs,hun⟩ hu
  ·cases hTt
 rw[hc1] at h2
 match pvs,h1,h3 with
 | [],h1,h3=>have:=h1.1;rw[h2] at this;simp at this
 | p::q::l,h1,h3=>have:=h1.1;rw[h2] at this;simp at this
 | [p],h1,h3 =>
   obtain⟨u,hu',hr,ho⟩:=xk h1
   have hvu:v=u:=by
    cases v with
    | agg cs =>
      exfalso
      split at hTt
      ·rename_i hun;simp[Value.okWide,hun,Cell.okWide,Cell.ok] at hv
      ·rename_i hun;simp[Value.okWide,hun,Cell.okWide,Cell.ok] at hv
      ·rename_i hun;simp[Value.okWide,hun,Cell.okWide,Cell.ok] at hv
      ·rename_i hun;simp[Value.okWide,hun,Cell.okWide,Cell.ok] at hv
      ·rename_i fs hun;exact hu ⟨fs,hun⟩
      ·cases hTt
    | _=>simpa[Value.cells] using hu'
   subst hvu
   exact⟨n,p,h3,hr⟩
end
end Go.AM
namespace Go.AM
open Go.RowKit
def yI (P:Program) (t:TypeId):Option (List (TypeId×Nat×Nat)):=match P.underlying t with
 | some (.struct fs)=>some (fs.toList.map fun f=>(f.type,f.offset,P.cellsOf f.type))
 | _=>none
def FieldsS {H:Type} (P:Program) (n:Nat) (pvs:List PV):List (TypeId×Nat×Nat)→List (DataW H)→Prop
 | [],[]=>True
 | (t,o,c)::l,y::ds=>wd P n t y ((pvs.drop o).take c)∧FieldsS P n pvs l ds
 | _,_=>False
section
variable {H:Type} {P:Program} {n:Nat} {t:TypeId} {d:DataW H} {pvs:List PV}
theorem fieldsS_of (n:Nat) (pvs:List PV):∀(fs:List Field) (ds:List (DataW H)),ds.length=fs.length→(∀(i:Nat) f y,fs[i]?=some f→ds[i]?=some y→wd P n f.type y ((pvs.drop f.offset).take (P.cellsOf f.type)))→FieldsS P n pvs (fs.map fun f=>(f.type,f.offset,P.cellsOf f.type)) ds
 | [],[],_,_=>trivial
 | f::fs,y::ds,hl,h=>⟨h 0 f y rfl rfl,fieldsS_of n pvs fs ds (by simpa using hl) fun i f' y' hf hy=>h (i+1) f' y' (by simpa using hf) (by simpa using hy)⟩
theorem yJ {l:List (TypeId×Nat×Nat)} (hs:yI P t=some l):∃fs,P.underlying t=some (.struct fs)∧l=fs.toList.map fun f=>(f.type,f.offset,P.cellsOf f.type):=by
 unfold yI at hs
 split at hs
 ·rename_i fs hu
  injection hs with hs
  exact⟨fs,hu,hs.symm⟩
 ·cases hs
theorem qo {l:List (TypeId×Nat×Nat)} (hs:yI P t=some l) (h:wd P n t d pvs):∃(m:Nat) (ds:List (DataW H)),n=m+1∧d=.agg ds∧pvs.length=P.cellsOf t∧FieldsS P m pvs l ds:=by
 obtain⟨fs,hu,rfl⟩:=yJ hs
 cases n with
 | zero=>exact h.elim
 | succ m =>
   unfold wd at h
   rw[hu] at h
   obtain⟨ds,h1,h2,h3,h4⟩:=h
   exact⟨m,ds,rfl,h1,h2,fieldsS_of m pvs fs.toList ds (by simpa using h3) fun i f y hf hy=>h4 i f y (by simpa using hf) hy⟩
theorem zo {o c:Nat} {l:List (TypeId×Nat×Nat)} {ds:List (DataW H)} (h:FieldsS P n pvs ((t,o,c)::l) ds):∃y ds',ds=y::ds'∧wd P n t y ((pvs.drop o).take c)∧FieldsS P n pvs l ds':=by
 cases ds with
 | nil=>exact h.elim
 | cons y ds'=>exact⟨y,ds',rfl,h.1,h.2⟩
theorem qE {ds:List (DataW H)} (h:FieldsS P n pvs [] ds):ds=[]:=by
 cases ds with
 | nil=>rfl
 | cons y ds'=>exact h.elim
theorem qK {k:IntKind} (hu:P.underlying t=some (.int k)) (h:wd P n t d pvs):∃i,d=.lit (.int k i)∧pvs=[.v (.int k i)]∧(Lit.int k i).wf=true:=by
 cases n with
 | zero=>exact h.elim
 | succ m=>unfold wd at h;rw[hu] at h;exact h
theorem zW (hu:P.underlying t=some .string) (h:wd P n t d pvs):∃l:List UInt8,d=.lit (.string l)∧pvs=[str l]∧l.length≤maxLen:=by
 cases n with
 | zero=>exact h.elim
 | succ m =>
   unfold wd at h
   rw[hu] at h
   obtain⟨s,h1,h2,h3⟩:=h
   exact⟨s.data.toList,h1,by rw[h2],h3⟩
theorem qi {e:TypeId} (hu:P.underlying t=some (.slice e)) (h:wd P n t d pvs):∃(m:Nat) (es:List (List PV)) (ds:List (DataW H)),n=m+1∧((d=.nil∧ds=[])∨∃sp,d=.slice ds sp)∧pvs=[.sl (P.cellsOf e) es]∧es.length≤maxLen∧Zip (fun c y=>c.length=P.cellsOf e∧wd P m e y c) es ds:=by
 cases n with
 | zero=>exact h.elim
 | succ m =>
   unfold wd at h
   rw[hu] at h
   obtain⟨es,ds,h1,h2,h3,h4⟩:=h
   exact⟨m,es,ds,rfl,h1,h2,h3,h4⟩
theorem qn {α:Type} {enc:α→List PV} {w:α→Nat} {b:DataW H→Nat} {R:List PV→DataW H→Prop} (hR:∀c y,R c y→∃a,c=enc a∧w a≤b y):∀{es:List (List PV)} {ds:List (DataW H)},Zip R es ds→∃l:List α,es=l.map enc∧(l.map w).sum≤(ds.map b).sum
 | [],[],_=>⟨[],rfl,by simp⟩
 | [],_::_,h=>by have:=h.1;simp at this
 | _::_,[],h=>by have:=h.1;simp at this
 | c::es,y::ds,h=>by
   obtain⟨a,rfl,ha⟩:=hR c y (h.2 0 c y rfl rfl)
   obtain⟨l,rfl,hl⟩:=qn hR (es:=es) (ds:=ds) ⟨by have:=h.1;simpa using this,fun i c' y' hc hy=>h.2 (i+1) c' y' (by simpa using hc) (by simpa using hy)⟩
   exact⟨a::l,rfl,by simp;omega⟩
end
end Go.AM
