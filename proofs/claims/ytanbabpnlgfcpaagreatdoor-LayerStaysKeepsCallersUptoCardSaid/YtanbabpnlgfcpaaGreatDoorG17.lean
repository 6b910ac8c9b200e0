/-
The abstract machine, part 20: slices.SortFunc.
Cuts in order.
Plain law: the sweep over cuts in order; a cut that comes twice changes nothing.
Plain law: two ranges put together.
The abstract machine: functions that return a slice of their own, arguments and elements taken for what they stand for.
slices.SortFunc at cuts off the kit's shelf, at this program (turned from the text for spans).
combine.
-/
import Derived.Test.YtanbabpnlgfcpaaGreatDoorG9
import Derived.Shelf.SlSortCmp.InsertionK
import Derived.Sort.AssemblyPlain
import Derived.Test.YtanbabpnlgfcpaaGreatDoorG16
import Derived.Test.YtanbabpnlgfcpaaGreatDoorG10
import Derived.Shelf.SlSortCmp.WholeK
import Derived.Shelf.SlSortCmp.NoneTotal
import Derived.Test.YtanbabpnlgfcpaaGreatDoorProg
set_option maxRecDepth 8000
namespace Go.AM
open Go.RowKit Go.Sort Go.Proofs
variable {dr:Prop}
def elAt (xs:List (List PV)) (i:Nat):List PV:=xs.getD (if i<xs.length then i else 0) []
theorem wl {xs:List (List PV)} (h:xs≠[]) (i:Nat):elAt xs i∈xs:=by
 have h0:0<xs.length:=List.length_pos_iff.2 h
 have hl:(if i<xs.length then i else 0)<xs.length:=by split<;>assumption
 unfold elAt
 rw[List.getD_eq_getElem?_getD,List.getElem?_eq_getElem hl]
 exact List.getElem_mem _
theorem elAt_get {xs:List (List PV)} {i:Nat} (h:i<xs.length):elAt xs i=xs[i]:=by
 unfold elAt
 rw[if_pos h,List.getD_eq_getElem?_getD,List.getElem?_eq_getElem h]
 rfl
def cfAt (cf:List PV→List PV→Int) (xs:List (List PV)) (i j:Nat):Int:=cf (elAt xs i) (elAt xs j)
def yN (cf:List PV→List PV→Int) (xs:List (List PV)):Array Nat:=pdq (ltOf (cfAt cf xs)) (Array.range xs.length) 0 xs.length (Lib.bitLen xs.length) true true
def vd (cf:List PV→List PV→Int) (xs:List (List PV)):List (List PV):=if xs.length=0 then [] else (yN cf xs).toList.map (elAt xs)
structure WeakOn (cf:List PV→List PV→Int) (xs:List (List PV)):Prop where
 irrefl:∀x∈xs,0≤cf x x
 trans:∀x∈xs,∀y∈xs,∀z∈xs,cf x y<0→cf y z<0→cf x z<0
 ntrans:∀x∈xs,∀y∈xs,∀z∈xs,0≤cf x y→0≤cf y z→0≤cf x z
section
variable {cf:List PV→List PV→Int} {xs:List (List PV)}
theorem lt_true {i j:Nat} (h:ltOf (cfAt cf xs) i j=true):cf (elAt xs i) (elAt xs j)<0:=of_decide_eq_true h
theorem lt_false {i j:Nat} (h:ltOf (cfAt cf xs) i j=false):0≤cf (elAt xs i) (elAt xs j):=Int.not_lt.1 (of_decide_eq_false h)
theorem lt_intro {i j:Nat} (h:cf (elAt xs i) (elAt xs j)<0):ltOf (cfAt cf xs) i j=true:=decide_eq_true h
theorem lt_none {i j:Nat} (h:0≤cf (elAt xs i) (elAt xs j)):ltOf (cfAt cf xs) i j=false:=decide_eq_false (Int.not_lt.2 h)
theorem WeakOn.swo (h:WeakOn cf xs) (hx:xs≠[]):SWO (ltOf (cfAt cf xs)) where
 irrefl i:=lt_none (h.irrefl _ (wl hx i))
 trans i j k h1 h2:=lt_intro (h.trans _ (wl hx i) _ (wl hx j) _ (wl hx k) (lt_true h1) (lt_true h2))
 ntrans i j k h1 h2:=lt_none (h.ntrans _ (wl hx i) _ (wl hx j) _ (wl hx k) (lt_false h1) (lt_false h2))
theorem ve (h:WeakOn cf xs) (hx:xs≠[]):PermIn 0 xs.length (Array.range xs.length) (yN cf xs)∧SortedIn (ltOf (cfAt cf xs)) 0 xs.length (yN cf xs) :=
 pdq_sorts (ltOf (cfAt cf xs)) (h.swo hx) (Array.range xs.length) 0 xs.length (Lib.bitLen xs.length) true true (Nat.zero_le _) (by simp) (Or.inl rfl)
theorem vf (h:WeakOn cf xs) (hx:xs≠[]):(yN cf xs).size=xs.length:=by
 have:=(ve h hx).1.1
 simpa using this
theorem sortL_perm (h:WeakOn cf xs):(vd cf xs).Perm xs:=by
 unfold vd
 split
 ·rename_i h0
  have:xs=[]:=List.length_eq_zero_iff.1 h0
  subst this
  exact .refl _
 ·rename_i h0
  have hx:xs≠[]:=by rintro rfl;simp at h0
  obtain⟨h1,_,h3⟩:=(ve h hx).1
  have hs:=vf h hx
  have e1:(yN cf xs).extract 0 xs.length=yN cf xs:=by rw[←hs];simp
  have e2:(Array.range xs.length).extract 0 xs.length=Array.range xs.length:=by
   conv=>lhs;rw[show xs.length=(Array.range xs.length).size by simp]
   simp
  rw[e1,e2] at h3
  have h4:=h3.map (elAt xs)
  have e3:(Array.range xs.length).toList.map (elAt xs)=xs:=by
   apply List.ext_getElem
   ·simp
   ·intro i hi hi'
    simp[elAt_get hi']
  rw[e3] at h4
  exact h4
theorem sortL_sorted (h:WeakOn cf xs):(vd cf xs).Pairwise (fun x y=>0≤cf y x):=by
 unfold vd
 split
 ·exact List.Pairwise.nil
 ·rename_i h0
  have hx:xs≠[]:=by rintro rfl;simp at h0
  have hs:=vf h hx
  have h2:=(ve h hx).2
  rw[List.pairwise_map,List.pairwise_iff_getElem]
  intro i j hi hj hij
  have h3:=h2 i j (Nat.zero_le _) hij (by simp at hj;omega)
  simp at hi hj
  rw[getElem!_pos _ i hi,getElem!_pos _ j hj] at h3
  simpa using lt_false h3
theorem sortL_length (h:WeakOn cf xs):(vd cf xs).length=xs.length:=(sortL_perm h).length_eq
end
def SortOk (P:Program) (f k:Nat):Prop :=
 (∀(α:Type) [Inhabited α] (enc:α→List Value) (_:∀x,(enc x).length=k) (_:∀x,∀v∈enc x,v.oneCell'=true) (cf:α→α→Int) (_:SWO (ltOf cf)) (g:Nat) (blk off cap:Nat) (d:Array α) (w:World)
  (_:∀args w,(callFunc g args).run P w=.ok (.enter g args) w) (_:CmpLays P g #[] enc k cf blk off d.size w) (_:HoldsK enc k w blk off d) (_:blk<w.heap.size) (_:d.size<4611686018427387904),
  Calls P f #[.slice (some ⟨blk,off,none⟩) d.size cap,.func (.func g) #[] #[]] w fun e w' =>
   e=.returned (.tuple #[])∧∃n os,w'=sortWorldK enc k w blk off n (pdq (ltOf cf) d 0 d.size (Lib.bitLen d.size) true true) os) ∧
 ∀(p:Option Addr) (cap:Nat) (fv:Value) (w:World),Calls P f #[.slice p 0 cap,fv] w fun e w'=>e=.returned (.tuple #[])∧w'=w
def CmpOk (P:Program) (g k:Nat) (cf:List PV→List PV→Int) (dom:List PV→Prop):Prop :=
 (∀args w,(callFunc g args).run P w=.ok (.enter g args) w)∧∃spec,za P g spec∧∀x y,x.length=k→y.length=k→dom x→dom y→spec [.agg x,.agg y] (fun _=>none) 0=some (.v (.int .i64 (cf x y)),fun _=>none,0)
open Classical in
noncomputable def hSort (k:Nat) (g:Nat) (cf:List PV→List PV→Int) (dom:List PV→Prop):AM.Spec:=fun args hp nx =>
 match args with
 | [.nil,.fn _ _ _]=>some (.tup [],hp,nx)
 | [.own id off n,.fn (.func g') [] []]=>if n=0 then some (.tup [],hp,nx) else match hp id with
   | some b=>if g'=g∧b.arr=true∧b.s=k∧off+n≤b.es.length∧n<4611686018427387904∧WeakOn cf ((b.es.drop off).take n)∧∀x∈(b.es.drop off).take n,dom x then
     some (.tup [],upd hp id (some ⟨b.e,b.s,b.arr,b.es.take off++vd cf ((b.es.drop off).take n)++b.es.drop (off+n)⟩),nx) else none
   | none=>none
 | _=>none
theorem grow_of_fr {W w':World} (h:Fr True W (fun _=>False) w'):∃q os',w'=grow (W.drewN q) os':=by
 refine⟨w'.drawn - W.drawn,w'.heap.extract W.heap.size w'.heap.size,?_⟩
 obtain⟨heap,tape,drawn,os,output⟩:=w'
 obtain⟨h1,h2,h3,h4,h5,h6⟩:=h
 simp only at h1 h2 h3 h4 h5 h6
 unfold grow World.drewN
 simp only[World.mk.injEq]
 refine⟨?_,h2,by have:=h5 trivial;omega,h1,h3⟩
 apply Array.ext_getElem?
 intro i
 by_cases hi:i<W.heap.size
 ·rw[h6 i hi (fun h=>h),Array.getElem?_append_left hi]
 ·rw[Array.getElem?_append_right (by omega),Array.getElem?_extract]
  by_cases hj:i<heap.size
  ·rw[if_pos (by omega)];congr 1;omega
  ·rw[if_neg (by omega),Array.getElem?_eq_none (by omega)]
theorem Stp.grown {P:Program} {hp:Hp} {nx:Nat} {S:Nat→Prop} {G:Nat→GI} {w w':World} (h:Inv P w S G hp nx) (fr:Fr dr w (fun _=>False) w'):Stp dr P hp nx S G w hp nx S G w':=by
 have hS:∀b,b<w.heap.size→w'.heap[b]?=w.heap[b]?:=fun b hb=>fr.block b hb (fun h=>h)
 refine⟨⟨fun b hb=>Nat.lt_of_lt_of_le (h.st b hb) fr.size,h.top,fun id b hb=>?_,h.apart,h.inj,h.glo.mono fun b hb=>⟨hb,hS b (h.st b hb)⟩⟩,Nat.le_refl _,fun _ _=>rfl,fun _ hb=>hb,fun _ hb=>.inl hb,fun id b hb=>.inl ⟨id,b,hb,rfl⟩,⟨fr.os,fr.tape,fr.output,fr.size,fr.drawn,fun k hk _=>fr.block k hk (fun h=>h)⟩⟩
 have hl:=h.live id b hb
 exact hl.mono (fun b hb=>⟨hb,hS b (h.st b hb)⟩) (Nat.le_refl _) (fun _ _=>rfl) (hS _ hl.lt)
theorem vg {α:Type} [Inhabited α] (enc:α→List Value) (k:Nat) (w:World) (blk off m:Nat) (d:Array α) (os:Array Obj):Fr dr (putRowK enc k w blk off d) (fun _=>False) (sortWorldK enc k w blk off m d os):=by
 refine⟨rfl,rfl,rfl,?_,fun _=>?_,fun b hb _=>?_⟩
 ·show _≤(_++os).size
  rw[Array.size_append]
  exact Nat.le_add_right _ _
 ·exact Nat.le_add_right _ _
 ·exact Array.getElem?_append_left hb
theorem y7 {α:Type} [Inhabited α] (enc:α→List Value) (k:Nat) (w:World) (blk off:Nat) (d:Array α) {cur:Array Value} {e:TypeId} (h:w.heap[blk]?=some (.cells cur e (0,0))) :
  putRowK enc k w blk off d=w.setRow blk (putCells (fun v:Value=>v) off (flatK enc k d) cur):=by
 unfold putRowK putRow mapBlock World.setRow
 congr 1
 apply Array.ext_getElem?
 intro i
 simp only[Array.getElem?_modify]
 by_cases hi:blk=i
 ·subst hi
  simp only[if_true,h,Option.map_some,onCells]
  rfl
 ·simp[hi]
section
variable {P:Program} {f k g:Nat} {cf:List PV→List PV→Int} {dom:List PV→Prop}
theorem hSort_sound (h0:0<k) (hfn:∃fn,P.funcs[f]?=some fn∧(fn.name== "runtime.NumGoroutine")=false∧fn.body.isNone=false) (hso:SortOk P f k) (hco:CmpOk P g k cf dom):jL dr P f (hSort k g cf dom):=by
 refine⟨hfn,?_⟩
 intro args hp nx r hp' nx' h w S G vs hi hz
 unfold hSort at h
 split at h
 ·injection h with h
  injection h with e1 h
  injection h with e2 e3
  subst e1;subst e2;subst e3
  obtain⟨u,us,rfl,hu,hz'⟩:=hz.uncons
  obtain⟨v,us,rfl,hv,hz'⟩:=hz'.uncons
  obtain rfl:=hz'.unnil
  obtain rfl:=hu.nil_inv
  refine (hso.2 none 0 v w).mono fun e w' hh=>?_
  obtain⟨rfl,rfl⟩:=hh
  exact⟨_,_,_,rfl,.refl hi,wB⟩
 ·rename_i id off n g'
  obtain⟨u,us,rfl,hu,hz'⟩:=hz.uncons
  obtain⟨v,us,rfl,hv,hz'⟩:=hz'.uncons
  obtain rfl:=hz'.unnil
  have hop:=hu.own_pos
  obtain⟨cap,g1,g2,g3,g4,rfl⟩:=hu.own_inv
  split at h
  ·rename_i hn0
   subst hn0
   injection h with h
   injection h with e1 h
   injection h with e2 e3
   subst e1;subst e2;subst e3
   refine (hso.2 _ cap v w).mono fun e w' hh=>?_
   obtain⟨rfl,rfl⟩:=hh
   exact⟨_,_,_,rfl,.refl hi,wB⟩
  rename_i hn0
  split at h
  case h_2=>cases h
  rename_i b hb
  split at h
  case isFalse=>cases h
  rename_i hc
  obtain⟨rfl,harr,hbk,hfit,hn,hW,hdom⟩:=hc
  injection h with h
  injection h with e1 h
  injection h with e2 e3
  subst e1;subst e2;subst e3
  have hbr:=hi.live id b hb
  obtain⟨us,ts,rfl,hus,hts,_,_⟩:=hv.fn_inv
  obtain rfl:us=#[]:=Array.eq_empty_of_size_eq_zero (by simpa using hus.symm)
  obtain rfl:ts=#[]:=Array.eq_empty_of_size_eq_zero (by simpa using hts.symm)
  have hgs:(G id).s=k:=by rw[←hbr.bs];exact hbk
  obtain⟨cur,c1,c2,c3⟩:=hbr.row hop
  rw[hgs] at c3 g4
  obtain⟨xs,hxs⟩:∃xs,(b.es.drop off).take n=xs:=⟨_,rfl⟩
  rw[hxs] at hW hdom
  have hxl:xs.length=n:=by rw[←hxs];simp;omega
  have hx:xs≠[]:=by rintro rfl;simp at hxl;omega
  have hxk:∀x∈xs,x.length=k:=fun x hx=>by
   rw[←hgs];rw[←hxs] at hx
   exact hbr.len hop x (List.mem_of_mem_drop (List.mem_of_mem_take hx))
  have hxg:∀i,i<n→xs[i]?=b.es[off+i]?:=fun i hi=>by
   rw[←hxs,List.getElem?_take,if_pos hi,List.getElem?_drop]
  let ix:Nat→Nat:=fun i=>if i<n then i else 0
  have hix:∀i,ix i<n:=fun i=>by show (if i<n then i else 0)<n;split<;>omega
  have hel:∀i,xs[ix i]?=some (elAt xs i):=fun i=>by
   unfold elAt
   rw[List.getD_eq_getElem?_getD]
   show xs[if i<n then i else 0]?=_
   have:(if i<n then i else 0)<xs.length:=by rw[hxl];exact hix i
   rw[hxl,List.getElem?_eq_getElem this]
   rfl
  let enc:Nat→List Value:=fun i=>(List.range k).map fun j=>(cur[(off+ix i)*k+j]?).getD undef
  have hek:∀x,(enc x).length=k:=fun x=>by simp[enc]
  have hcell:∀i j pv,(elAt xs i)[j]?=some pv→∃u,cur[(off+ix i)*k+j]?=some u∧(enc i)[j]?=some u∧RepC w S pv u∧u.oneCell'=true:=fun i j pv hj=>by
   have hlj:j<k:=by
    have:=(List.getElem?_eq_some_iff.1 hj).1
    rw[hxk _ (wl hx i)] at this
    exact this
   obtain⟨u,q1,q2⟩:=c3 (off+ix i) j (elAt xs i) pv (by rw[←hxg _ (hix i)];exact hel i) hj
   rw[harr] at q2
   refine⟨u,q1,?_,q2.1 rfl,q2.2.2⟩
   simp[enc,hlj,q1]
  have hcell':∀i j,j<k→∃pv,(elAt xs i)[j]?=some pv:=fun i j hj=>by
   have:j<(elAt xs i).length:=by rw[hxk _ (wl hx i)];exact hj
   exact⟨_,List.getElem?_eq_getElem this⟩
  have h1c:∀x,∀v∈enc x,v.oneCell'=true:=fun x v hv=>by
   obtain⟨j,hj,rfl⟩:=List.mem_map.1 hv
   obtain⟨pv,hpv⟩:=hcell' x j (List.mem_range.1 hj)
   obtain⟨u,q1,_,_,q4⟩:=hcell x j pv hpv
   rw[q1]
   exact q4
  have hblk:(G id).g<w.heap.size:=hbr.lt
  have hother:∀m os (dk:Array Nat) b',S b'→(sortWorldK enc k w (G id).g (off*k) m dk os).heap[b']?=w.heap[b']?:=fun m os dk b' hb'=>by
   have hlt:b'<(putRowK enc k w (G id).g (off*k) dk).heap.size:=by
    rw[y7 enc k w _ _ dk c1,size_setRow]
    exact hi.st b' hb'
   rw[(vg (dr:=True) enc k w (G id).g (off*k) m dk os).block b' hlt (fun h=>h),y7 enc k w _ _ dk c1]
   exact setRow_other _ _ _ _ fun e=>hi.apart id b hb (e ▸ hb')
  have hsize:∀m os (dk:Array Nat),w.heap.size≤(sortWorldK enc k w (G id).g (off*k) m dk os).heap.size:=fun m os dk=>by
   have:=(vg (dr:=True) enc k w (G id).g (off*k) m dk os).size
   rw[y7 enc k w _ _ dk c1,size_setRow] at this
   exact this
  obtain⟨eg,spec,hsp,hcall⟩:=hco
  have hcmp:CmpLays P g' #[] enc k (cfAt cf xs) (G id).g (off*k) n w:=by
   intro m os dk hdk x y
   have hagg:∀x,RepC (sortWorldK enc k w (G id).g (off*k) m dk os) S (.agg (elAt xs x)) (.agg (enc x).toArray):=fun x=>by
    refine .agg (by simp[hek,hxk _ (wl hx x)]) fun j pv u hj hu=>?_
    obtain⟨u',_,q2,q3,_⟩:=hcell x j pv hj
    have:u=u':=by simpa[q2] using hu.symm
    subst this
    exact q3.mono fun b' hb'=>⟨hb',hother m os dk b' hb'⟩
   have:=hsp.2 _ _ _ _ _ _ (hcall _ _ (hxk _ (wl hx x)) (hxk _ (wl hx y)) (hdom _ (wl hx x)) (hdom _ (wl hx y))) (sortWorldK enc k w (G id).g (off*k) m dk os) S G [.agg (enc x).toArray,.agg (enc y).toArray]
    ⟨fun b' hb'=>Nat.lt_of_lt_of_le (hi.st b' hb') (hsize m os dk),fun _ _ h=>(nomatch h),fun _ _ h=>(nomatch h),fun _ _ h=>(nomatch h),fun _ _ _ _ h=>(nomatch h),hi.glo.mono fun b' hb'=>⟨hb',hother m os dk b' hb'⟩⟩ (.cons (.c (hagg x)) (.cons (.c (hagg y)) .nil))
   refine this.mono fun e w' hh=>?_
   obtain⟨v,S',G',rfl,st,hv⟩:=hh
   obtain⟨rfl,_⟩:=hv.v_inv
   refine⟨rfl,grow_of_fr ⟨st.fr.os,st.fr.tape,st.fr.output,st.fr.size,st.fr.drawn,fun k hk _=>st.fr.block k hk ?_⟩⟩
   rintro⟨_,_,h,_⟩
   cases h
  have hH:HoldsK enc k w (G id).g (off*k) (Array.range n):=by
   intro t ht
   have ht':t<n*k:=by simpa using ht
   have hd:=Nat.div_add_mod t k
   have hm:=Nat.mod_lt t h0
   have hdl:t / k<n:=(Nat.div_lt_iff_lt_mul h0).2 ht'
   rw[get_flatK _ _ _ _ (by simpa using ht')]
   have hr:(Array.range n)[t / k]! = t / k:=by rw[getElem!_pos _ _ (by simpa using hdl)];simp
   obtain⟨pv,hpv⟩:=hcell' (t / k) (t % k) hm
   obtain⟨u,q1,q2,_,_⟩:=hcell (t / k) (t % k) pv hpv
   have hixe:ix (t / k)=t / k:=if_pos hdl
   constructor
   ·rw[cell_of_row w _ _ cur _ _ c1,hr,List.getElem!_eq_getElem?_getD,q2]
    rw[hixe] at q1
    have:off*k+t=(off+t / k)*k+t % k:=by rw[Nat.add_mul,Nat.mul_comm (t / k) k];omega
    rw[this,q1]
    rfl
   ·simp[World.frozen?,c1]
  have hsw:=hW.swo hx
  have key:=hso.1 Nat enc hek h1c (cfAt cf xs) hsw g' (G id).g (off*k) cap (Array.range n) w eg (by simpa using hcmp) hH hblk (by simpa using hn)
  have es1:(Array.range n).size=n:=by simp
  rw[es1] at key
  rw[hgs]
  refine key.mono fun e w' hh=>?_
  obtain⟨rfl,m,os,rfl⟩:=hh
  have hidx:pdq (ltOf (cfAt cf xs)) (Array.range n) 0 n (Lib.bitLen n) true true=yN cf xs:=by unfold yN;rw[hxl]
  rw[hidx]
  have hds:(yN cf xs).size=n:=by rw[vf hW hx,hxl]
  have hsl:(vd cf xs).length=n:=by rw[sortL_length hW,hxl]
  have hpl:off+(vd cf xs).length≤b.es.length:=by rw[hsl];exact hfit
  have hsg:∀i,i<n→(vd cf xs)[i]?=some (elAt xs (yN cf xs)[i]!):=fun i hin=>by
   unfold vd
   rw[if_neg (by omega),List.getElem?_map,Array.getElem?_toList,getElem!_pos _ i (by omega),Array.getElem?_eq_getElem (by omega)]
   rfl
  refine⟨_,S,G,rfl,?_,wB⟩
  rw[hxs]
  have hst:=Stp.set (dr:=dr) hi hb hop (putCells (fun v:Value=>v) (off*k) (flatK enc k (yN cf xs)) cur) (b.es.take off++vd cf xs++b.es.drop (off+n)) (by simp[putCells,c2])
   (fun c hc=>by
    rw[List.append_assoc] at hc
    rcases List.mem_append.1 hc with hc | hc
    ·exact hbr.len hop c (List.mem_of_mem_take hc)
    rcases List.mem_append.1 hc with hc | hc
    ·rw[hgs];exact hxk c ((sortL_perm hW).mem_iff.1 hc)
    ·exact hbr.len hop c (List.mem_of_mem_drop hc))
   (by
    have:=yZ b.es (vd cf xs) off hpl
    rw[hsl] at this
    rw[this]
    exact hbr.fit hop)
   (fun i j c pv hci hcj=>by
    have hspl:=ja b.es (vd cf xs) off i hpl
    rw[hsl] at hspl
    rw[hspl] at hci
    rw[hgs]
    split at hci
    ·rename_i hin
     rw[hsg _ (by omega)] at hci
     injection hci with hci
     subst hci
     have hlj:j<k:=by
      have:=(List.getElem?_eq_some_iff.1 hcj).1
      rw[hxk _ (wl hx _)] at this
      exact this
     obtain⟨u,q1,q2,q3,q4⟩:=hcell _ j pv hcj
     refine⟨u,?_,fun _=>q3,.c q3,q4⟩
     obtain⟨i',rfl⟩:∃i',i=off+i':=⟨i - off,by omega⟩
     have e1:off+i' - off=i':=by omega
     rw[e1] at q2
     have e2:(off+i')*k+j=off*k+(i'*k+j):=by rw[Nat.add_mul];omega
     have hlt:i'*k+j<n*k:=kI (by omega) hlj
     have hcl:off*k+(i'*k+j)<cur.size:=by
      rw[c2]
      have:=hbr.fit hop
      rw[hgs] at this
      have h5:(off+n)*k≤b.es.length*k:=Nat.mul_le_mul_right k hfit
      rw[Nat.add_mul] at h5
      omega
     rw[e2]
     unfold putCells
     rw[Array.getElem?_mapIdx,Array.getElem?_eq_getElem hcl]
     simp only[Option.map_some,size_flatK,hds]
     rw[if_pos ⟨by omega,by omega⟩,show off*k+(i'*k+j) - off*k=i'*k+j by omega,get_flatK _ _ _ _ (by rw[hds];exact hlt)]
     have e3:(i'*k+j) / k=i':=by rw[Nat.mul_comm,Nat.mul_add_div h0,Nat.div_eq_of_lt hlj];rfl
     have e4:(i'*k+j) % k=j:=by rw[Nat.mul_comm,Nat.mul_add_mod,Nat.mod_eq_of_lt hlj]
     rw[e3,e4,List.getElem!_eq_getElem?_getD,q2]
     rfl
    ·rename_i hin
     obtain⟨u,q1,q2⟩:=c3 i j c pv hci hcj
     refine⟨u,?_,q2⟩
     have hlj:j<k:=by
      have:=(List.getElem?_eq_some_iff.1 hcj).1
      rw[hbr.len hop c (List.mem_of_getElem? hci),hgs] at this
      exact this
     unfold putCells
     rw[Array.getElem?_mapIdx,q1]
     simp only[Option.map_some,size_flatK,hds]
     rw[if_neg]
     rintro⟨a1,a2⟩
     apply hin
     constructor
     ·apply Nat.not_lt.1
      intro hlt
      have:(i+1)*k≤off*k:=Nat.mul_le_mul_right k hlt
      rw[Nat.add_mul] at this
      omega
     ·apply Nat.not_le.1
      intro hle
      have:(off+n)*k≤i*k:=Nat.mul_le_mul_right k hle
      rw[Nat.add_mul] at this
      omega)
  rw[←y7 enc k w _ _ _ c1] at hst
  exact hst.trans (Stp.grown hst.inv (vg enc k w (G id).g (off*k) m (yN cf xs) os))
 ·cases h
end
end Go.AM
namespace Go.Proofs.YtanbabpnlgfcpaaGreatDoor
open Go.Proofs.Tryz
open Go.RowKit Go.AM
open Classical in
noncomputable def cfC (x y:List PV):Int:=if h:∃a b:Cut,x=a.enc∧y=b.enc then cmpC (Classical.choose h) (Classical.choose (Classical.choose_spec h)) else 0
theorem ko (a b:Cut):cfC a.enc b.enc=cmpC a b:=by
 have h:∃c d:Cut,a.enc=c.enc∧b.enc=d.enc:=⟨a,b,rfl,rfl⟩
 unfold cfC
 rw[dif_pos h]
 have h2:=Classical.choose_spec (Classical.choose_spec h)
 exact congr (congrArg cmpC (yC h2.1).symm) (yC h2.2).symm
def wt (l:List Cut):List (List PV):=l.map Cut.enc
theorem weakC (l:List Cut):WeakOn cfC (wt l) where
 irrefl x hx:=by
  obtain⟨a,_,rfl⟩:=List.mem_map.1 hx
  rw[ko,cmpC_to.refl]
  exact Int.le_refl _
 trans x hx y hy z hz:=by
  obtain⟨a,_,rfl⟩:=List.mem_map.1 hx
  obtain⟨b,_,rfl⟩:=List.mem_map.1 hy
  obtain⟨c,_,rfl⟩:=List.mem_map.1 hz
  rw[ko,ko,ko]
  exact cmpC_to.trans
 ntrans x hx y hy z hz:=by
  obtain⟨a,_,rfl⟩:=List.mem_map.1 hx
  obtain⟨b,_,rfl⟩:=List.mem_map.1 hy
  obtain⟨c,_,rfl⟩:=List.mem_map.1 hz
  rw[ko,ko,ko]
  exact cmpC_to.ntrans
def domC (x:List PV):Prop:=∃a:Cut,x=a.enc∧a.v.small
theorem cmpOkC:CmpOk prog 186 5 cfC domC:=by
 refine⟨fun args w=>?_,_,wE,fun x y _ _ hx hy=>?_⟩
 ·have h:prog.funcs[186]?=some f186:=func186
  simp[callFunc,h,f186]
 ·obtain⟨a,rfl,ha⟩:=hx
  obtain⟨b,rfl,hb⟩:=hy
  rw[ko]
  exact xW a b _ _ ha hb
open Classical in
noncomputable def decC (x:List PV):Cut:=if h:∃a:Cut,x=a.enc then Classical.choose h else leastC
theorem decC_enc (a:Cut):decC a.enc=a:=by
 have h:∃c:Cut,a.enc=c.enc:=⟨a,rfl⟩
 unfold decC
 rw[dif_pos h]
 exact (yC (Classical.choose_spec h)).symm
theorem decC_map (l:List Cut):(wt l).map decC=l:=by
 induction l with
 | nil=>rfl
 | cons a l ih =>
   show decC a.enc::(wt l).map decC=_
   rw[decC_enc,ih]
theorem sorted_cuts (l:List Cut):∃s:List Cut,vd cfC (wt l)=wt s∧s.Perm l∧s.Pairwise fun a b=>cmpC a b≤0:=by
 have hp:=sortL_perm (weakC l)
 have hs:=sortL_sorted (weakC l)
 have key:∀(r:List (List PV)),(∀x∈r,∃a:Cut,x=a.enc)→∃s:List Cut,r=wt s:=by
  intro r
  induction r with
  | nil=>intro _;exact⟨[],rfl⟩
  | cons x r ih =>
    intro h
    obtain⟨a,rfl⟩:=h x (by simp)
    obtain⟨s,rfl⟩:=ih fun y hy=>h y (by simp[hy])
    exact⟨a::s,rfl⟩
 obtain⟨s,e⟩:=key (vd cfC (wt l)) fun x hx=>by
  have:=hp.mem_iff.1 hx
  obtain⟨a,_,rfl⟩:=List.mem_map.1 this
  exact⟨a,rfl⟩
 rw[e] at hp hs
 refine⟨s,e,?_,?_⟩
 ·have:=hp.map decC
  rwa [decC_map,decC_map] at this
 ·rw[wt,List.pairwise_map] at hs
  refine hs.imp fun {a b} h=>?_
  rw[ko] at h
  exact (cmpC_to.le a b).2 h
def vi (out:List Str) (c:Cut):List Str:=match out.getLast? with
 | some s=>out.dropLast++[⟨s.lo,c,false⟩]
 | none=>out
def swS (is:Cut→Bool) (st:Bool×List Str) (c:Cut):Bool×List Str:=(is c,if (is c&&!st.1)=true then st.2++[yj c] else if (!is c&&st.1)=true then vi st.2 c else st.2)
def swL (is:Cut→Bool) (l:List Cut) (st:Bool×List Str):Bool×List Str:=l.foldl (swS is) st
open Classical in
def qv:List Str→List Cut
 | []=>[]
 | s::l=>(if s.endless=true then [s.lo] else [s.lo,s.hi])++qv l
theorem kp (a b:List Str):qv (a++b)=qv a++qv b:=by
 induction a with
 | nil=>rfl
 | cons s a ih=>simp only[List.cons_append,qv,ih,List.append_assoc]
theorem jV (a:List Str):(qv a).length≤2*a.length:=by
 induction a with
 | nil=>simp[qv]
 | cons s a ih=>simp only[qv,List.length_append,List.length_cons];split<;>simp<;>omega
theorem cutsOf_all {Q:Cut→Prop} {a:List Str} (h:∀s∈a,Q s.lo∧Q s.hi):∀c∈qv a,Q c:=by
 induction a with
 | nil=>intro c hc;cases hc
 | cons s a ih =>
   intro c hc
   obtain⟨h1,h2⟩:=h s (by simp)
   simp only[qv,List.mem_append] at hc
   rcases hc with hc | hc
   ·split at hc
    ·rw[List.mem_singleton] at hc;rw[hc];exact h1
    ·simp only[List.mem_cons,List.not_mem_nil,or_false] at hc
     rcases hc with rfl | rfl
     ·exact h1
     ·exact h2
   ·exact ih (fun x hx=>h x (by simp[hx])) c hc
noncomputable def xd (l:List Cut):List Cut:=(vd cfC (wt l)).map decC
theorem sortCu_enc (l:List Cut):vd cfC (wt l)=wt (xd l):=by
 obtain⟨s,h,_⟩:=sorted_cuts l
 unfold xd
 rw[h,decC_map]
theorem jr (l:List Cut):(xd l).Perm l:=by
 obtain⟨s,h,h1,_⟩:=sorted_cuts l
 unfold xd
 rw[h,decC_map]
 exact h1
noncomputable def combL (f:Bool→Bool→Bool) (a b:List Str):List Str:=(swL (fun c=>f (covA a c) (covA b c)) (xd (qv a++qv b)) (false,[])).2
theorem setLast_len (out:List Str) (c:Cut):(vi out c).length=out.length:=by
 unfold vi
 split
 ·rename_i s h
  have:out≠[]:=by rintro rfl;cases h
  have:=List.length_pos_iff.2 this
  simp
  omega
 ·rfl
theorem swL_len (is:Cut→Bool):∀(l:List Cut) (st:Bool×List Str),2*(swL is l st).2.length+(if st.1=true then 1 else 0)≤2*st.2.length+l.length+(if (swL is l st).1=true then 1 else 0)
 | [],st=>by
   show 2*st.2.length+(if st.1=true then 1 else 0)≤2*st.2.length+0+(if st.1=true then 1 else 0)
   omega
 | c::l,st=>by
   have ih:=swL_len is l (swS is st c)
   have e:swL is (c::l) st=swL is l (swS is st c):=rfl
   rw[e]
   have hs:2*(swS is st c).2.length+(if st.1=true then 1 else 0)≤2*st.2.length+1+(if (swS is st c).1=true then 1 else 0):=by
    obtain⟨o,out⟩:=st
    unfold swS
    cases is c<;>cases o<;>simp[setLast_len]<;>omega
   simp only[List.length_cons]
   omega
theorem combL_len (f:Bool→Bool→Bool) (a b:List Str):(combL f a b).length≤a.length+b.length:=by
 have h:=swL_len (fun c=>f (covA a c) (covA b c)) (xd (qv a++qv b)) (false,[])
 have h1:=(jr (qv a++qv b)).length_eq
 have h2:=jV a
 have h3:=jV b
 rw[List.length_append] at h1
 unfold combL
 simp only[Bool.false_eq_true,if_false,List.length_nil] at h
 split at h<;>omega
theorem setLast_all {Q:Cut→Prop} {out:List Str} {c:Cut} (h:∀s∈out,Q s.lo∧Q s.hi) (hc:Q c):∀s∈vi out c,Q s.lo∧Q s.hi:=by
 unfold vi
 split
 ·rename_i s hs
  intro x hx
  rcases List.mem_append.1 hx with hx | hx
  ·exact h x (List.dropLast_subset _ hx)
  ·rw[List.mem_singleton] at hx
   rw[hx]
   exact⟨(h s (List.mem_of_getLast? hs)).1,hc⟩
 ·exact h
theorem swL_all {Q:Cut→Prop} (h0:Q cut0) (is:Cut→Bool):∀(l:List Cut) (st:Bool×List Str),(∀c∈l,Q c)→(∀s∈st.2,Q s.lo∧Q s.hi)→∀s∈(swL is l st).2,Q s.lo∧Q s.hi
 | [],st,_,h=>h
 | c::l,st,hl,h=>by
   refine swL_all h0 is l (swS is st c) (fun x hx=>hl x (by simp[hx])) ?_
   have hc:=hl c (by simp)
   unfold swS
   dsimp only
   split
   ·intro s hs
    rcases List.mem_append.1 hs with hs | hs
    ·exact h s hs
    ·rw[List.mem_singleton] at hs
     rw[hs]
     exact⟨hc,h0⟩
   ·split
    ·exact setLast_all h hc
    ·exact h
theorem combL_all {Q:Cut→Prop} (h0:Q cut0) (f:Bool→Bool→Bool) {a b:List Str} (ha:∀s∈a,Q s.lo∧Q s.hi) (hb:∀s∈b,Q s.lo∧Q s.hi):∀s∈combL f a b,Q s.lo∧Q s.hi :=
 swL_all h0 _ _ _ (fun c hc=>by
  have:=(jr _).mem_iff.1 hc
  rcases List.mem_append.1 this with h | h
  ·exact cutsOf_all ha c h
  ·exact cutsOf_all hb c h) (fun s hs=>by cases hs)
end Go.Proofs.YtanbabpnlgfcpaaGreatDoor
namespace Go.AM
open Go.RowKit
variable {dr:Prop}
def fixB (p:List (Option Nat)) (b:Blk):Blk:=⟨b.e,b.s,b.arr,b.es.map (fixC p)⟩
theorem BlkRep.fixed {P:Program} {w:World} {S:Nat→Prop} {G:Nat→GI} {nx:Nat} {gi:GI} {b:Blk} (h:BlkRep P w S G nx gi b) (h0:0<gi.s) (ha:b.arr=true) (p:List (Option Nat)):BlkRep P w S G nx gi (fixB p b):=by
 refine BlkRep.ofCells h0 h.bs ⟨h.size h0,fun c hc=>?_,by simpa[fixB] using h.fit h0,?_⟩
 ·obtain⟨c',hc',rfl⟩:=List.mem_map.1 hc
  rw[wz]
  exact h.len h0 c' hc'
 ·obtain⟨cur,h1,h2,h3⟩:=h.row h0
  refine⟨cur,h1,h2,fun i j c pv hi hj=>?_⟩
  simp only[fixB,List.getElem?_map] at hi
  obtain⟨c',hc',rfl⟩:∃c',b.es[i]?=some c'∧fixC p c'=c:=by
   cases hh:b.es[i]? with
   | none=>rw[hh] at hi;cases hi
   | some c'=>rw[hh] at hi;injection hi with hi;exact⟨c',rfl,hi⟩
  have hjl:j<c'.length:=by
   have:=(List.getElem?_eq_some_iff.1 hj).1
   rwa [wz] at this
  obtain⟨u,h4,h5,_,h6⟩:=h3 i j c' c'[j] hc' (List.getElem?_eq_getElem hjl)
  have hr:=(wT p c').get (List.getElem?_eq_getElem hjl) hj _ _ _ (h5 ha)
  exact⟨u,h4,fun _=>hr,.c hr,h6⟩
theorem Stp.fixed {P:Program} {hp:Hp} {nx:Nat} {S:Nat→Prop} {G:Nat→GI} {w:World} {hp2:Hp} {nx2:Nat} {S2:Nat→Prop} {G2:Nat→GI} {w2:World} (k:Stp dr P hp nx S G w hp2 nx2 S2 G2 w2)
  {id:Nat} {b:Blk} (hb:hp2 id=some b) (ha:b.arr=true) (h0:0<(G2 id).s) (p:List (Option Nat)):Stp dr P hp nx S G w (upd hp2 id (some (fixB p b))) nx2 S2 G2 w2:=by
 have hex:∀k c,upd hp2 id (some (fixB p b)) k=some c→∃c0,hp2 k=some c0:=fun k c hk=>by
  by_cases e:k=id
  ·subst e;exact⟨b,hb⟩
  ·rw[zN _ _ _ _ e] at hk;exact⟨c,hk⟩
 refine⟨⟨k.inv.st,fun i c hc=>?_,fun i c hc=>?_,fun i c hc=>?_,fun i i' c c' hc hc' he=>?_,k.inv.glo⟩,k.up,k.loc,k.keep,k.from_,fun i c hc=>?_,k.fr⟩
 ·obtain⟨c0,h⟩:=hex i c hc;exact k.inv.top i c0 h
 ·by_cases e:i=id
  ·subst e
   rw[qf] at hc
   injection hc with hc
   subst hc
   exact (k.inv.live i b hb).fixed h0 ha p
  ·rw[zN _ _ _ _ e] at hc
   exact k.inv.live i c hc
 ·obtain⟨c0,h⟩:=hex i c hc;exact k.inv.apart i c0 h
 ·obtain⟨c0,h⟩:=hex i c hc
  obtain⟨c1,h'⟩:=hex i' c' hc'
  exact k.inv.inj i i' c0 c1 h h' he
 ·obtain⟨c0,h⟩:=hex i c hc;exact k.own i c0 h
def hFreshN (shs:List Sh) (F:List PV→Option (Option Blk)):AM.Spec:=wR [] fun args=>F (fixL shs args)
def OwnRN (p:List (Option Nat)) (r:Option Blk) (x:PV) (hp:Hp) (_:Nat):Prop:=match r with
 | none=>x=.nil
 | some b=>∃id b0,x=.own id 0 b0.es.length∧hp id=some b0∧b0.arr=true∧b=fixB p b0
section
variable {C:Ctx} {pf:FuncId→Bool} {f:FuncId} {fn:Func} {code:Code}
theorem hFreshN_sound (hg:GoodD dr C pf) (hk:kz C pf f fn) (shs:List Sh) (p:List (Option Nat)) (F:List PV→Option (Option Blk)) (hF:∀args r,F args=some r→args.length≤fn.ntmps∧∃x hp nx,wu C fn args (fun _=>none) 0=some (x,hp,nx)∧OwnRN p r x hp nx) :
  jL dr C.P f (hFreshN shs F):=by
 obtain⟨_,hk⟩:=hk
 refine⟨⟨fn,hk.func,hk.name,by rw[hk.body];rfl⟩,?_⟩
 intro args hp nx r hp' nx' h w S G vs hi hz
 unfold hFreshN wR at h
 split at h
 ·rename_i aZ hp1 hfr
  obtain⟨S1,k1,hz1,_⟩:=qQ (dr:=dr) hi hfr hz
  have hsub:∀id b,hp1 id=some b→hp1 id=some b∧¬False:=fun id b h=>⟨h,fun h=>h⟩
  split at h
  ·rename_i hF0
   obtain⟨hn,x,hpe,nxe,hef,hx0⟩:=hF _ none hF0
   injection h with h
   injection h with e1 h
   injection h with e2 e3
   subst e1;subst e2;subst e3
   simp only[OwnRN] at hx0
   subst hx0
   refine (ym hg hk hef hn k1.inv.st k1.inv.glo (vC (ki hz1))).mono fun e w' hh=>?_
   obtain⟨v,S',G',he,fr,inv',hx,hs0,hs1,_⟩:=hh
   have k2:=back_drop (dr:=dr) (D:=fun _=>False) (hp2:=hp1) k1.inv hsub (fun _ h=>h.elim) fr inv' hs0 (fun b hb=>(hs1 b hb).imp (fun h=>h) .inr)
   have:=hx.nil_inv
   subst this
   exact⟨_,_,_,he,k1.trans k2,.c .nil⟩
  ·rename_i b hF0
   obtain⟨hn,x,hpe,nxe,hef,hx0⟩:=hF _ (some b) hF0
   injection h with h
   injection h with e1 h
   injection h with e2 e3
   subst e1;subst e2;subst e3
   obtain⟨id,b0,rfl,hid,harr,rfl⟩:=hx0
   refine (ym hg hk hef hn k1.inv.st k1.inv.glo (vC (ki hz1))).mono fun e w' hh=>?_
   obtain⟨v,S',G',he,fr,inv',hx,hs0,hs1,hown⟩:=hh
   have k2:=back_own (dr:=dr) (D:=fun _=>False) (hp2:=hp1) k1.inv hsub (fun _ h=>h.elim) fr inv' hs0 (fun b hb=>(hs1 b hb).imp (fun h=>h) .inr) hid harr (.inr (hown id b0 hid))
   have hx':=own_back (nx:=nx) (G:=G) hx
   have k3:=k2.fixed (id:=nx) (by simp) harr hx'.own_pos p
   rw[show upd (upd hp1 nx (some b0)) nx (some (fixB p b0))=upd hp1 nx (some (fixB p b0)) by funext i;unfold upd;split<;>rfl] at k3
   refine⟨_,_,_,he,k1.trans k3,?_⟩
   rw[show (fixB p b0).es.length=b0.es.length by simp[fixB]]
   exact hx'
  ·cases h
 ·cases h
end
end Go.AM
namespace Go.Proofs
open Go.Shelf
def Tryz.sortC_ren:Go.Shelf.Ren:=⟨fun | 6=>185 | 15=>208 | 14=>207 | 28=>234 | 29=>235 | 20=>226 | 21=>227 | 22=>228 | 23=>229 | 24=>230 | 25=>231 | 26=>232 | 27=>233 | 46=>243 | 47=>244 | 48=>245 | 49=>246 | 50=>247 | 57=>251 | n=>n,fun | 22=>246 | 24=>214 | 25=>249 | 3=>3 | 39=>154 | 0=>0 | 53=>268 | 55=>123 | 4=>4 | 46=>282 | 45=>281 | 50=>100 | 5=>5 | 9=>9 | 66=>300 | 70=>304 | 76=>311 | 77=>118 | n=>n,fun | n=>n⟩
theorem Tryz.sortC:Go.Proofs.SlLaysF0.n6 prog Tryz.sortC_ren:={
 mixed:=by kernel_rfl
 f6:=⟨f185.name,by decide,func185.trans (congrArg some (by kernel_rfl))⟩
 f14:=⟨f207.name,by decide,func207.trans (congrArg some (by kernel_rfl))⟩
 f15:=func208.trans (congrArg some (by kernel_rfl))
 f20:=⟨f226.name,by decide,func226.trans (congrArg some (by kernel_rfl))⟩
 f21:=⟨f227.name,by decide,func227.trans (congrArg some (by kernel_rfl))⟩
 f22:=⟨f228.name,by decide,func228.trans (congrArg some (by kernel_rfl))⟩
 f23:=⟨f229.name,by decide,func229.trans (congrArg some (by kernel_rfl))⟩
 f24:=⟨f230.name,by decide,func230.trans (congrArg some (by kernel_rfl))⟩
 f25:=⟨f231.name,by decide,func231.trans (congrArg some (by kernel_rfl))⟩
 f26:=⟨f232.name,by decide,func232.trans (congrArg some (by kernel_rfl))⟩
 f27:=⟨f233.name,by decide,func233.trans (congrArg some (by kernel_rfl))⟩
 f28:=func234.trans (congrArg some (by kernel_rfl))
 f29:=func235.trans (congrArg some (by kernel_rfl))
 f46:=⟨f243.name,by decide,func243.trans (congrArg some (by kernel_rfl))⟩
 f47:=func244.trans (congrArg some (by kernel_rfl))
 f48:=func245.trans (congrArg some (by kernel_rfl))
 f49:=⟨f246.name,by decide,func246.trans (congrArg some (by kernel_rfl))⟩
 f50:=⟨f247.name,by decide,func247.trans (congrArg some (by kernel_rfl))⟩
 f57:=⟨f251.name,by decide,func251.trans (congrArg some (by kernel_rfl))⟩
 t0:=underlying0
 a0:=isAgg0
 z0:=sizeOf0
 v0:=zeroValue0
 t3:=underlying3
 a3:=isAgg3
 z3:=sizeOf3
 v3:=zeroValue3
 t4:=underlying4
 a4:=isAgg4
 z4:=sizeOf4
 v4:=zeroValue4
 t5:=underlying5
 a5:=isAgg5
 z5:=sizeOf5
 v5:=zeroValue5
 t9:=underlying9
 a9:=isAgg9
 z9:=sizeOf9
 v9:=zeroValue9
 t22:=underlying246
 a22:=isAgg246
 z22:=sizeOf246
 v22:=zeroValue246
 t25:=underlying249
 a25:=isAgg249
 z25:=sizeOf249
 v25:=zeroValue249
 t39:=underlying154
 a39:=isAgg154
 z39:=sizeOf154
 v39:=zeroValue154
 t45:=underlying281
 a45:=isAgg281
 z45:=sizeOf281
 v45:=zeroValue281
 t46:=underlying282
 a46:=isAgg282
 z46:=sizeOf282
 v46:=zeroValue282
 t50:=underlying100
 a50:=isAgg100
 z50:=sizeOf100
 v50:=zeroValue100
 t53:=underlying268
 a53:=isAgg268
 z53:=sizeOf268
 v53:=zeroValue268
 t55:=underlying123
 a55:=isAgg123
 z55:=sizeOf123
 v55:=zeroValue123
 t66:=underlying300
 a66:=isAgg300
 z66:=sizeOf300
 v66:=zeroValue300
 t70:=underlying304
 a70:=isAgg304
 z70:=sizeOf304
 v70:=zeroValue304
 t76:=underlying311
 a76:=isAgg311
 z76:=sizeOf311
 v76:=zeroValue311
 t77:=underlying118
 a77:=isAgg118
 z77:=sizeOf118
 v77:=zeroValue118 }
open Go.AM
theorem Tryz.sortC_ok:SortOk prog 185 5:=⟨fun _ _ enc hk h1 cf hO g blk off cap d w eg hcmp hH hblk hsz=>AnyQ.slices_SortFunc_eq Tryz.sortC 5 isAgg214 sizeOf214 enc hk h1 cf hO g #[] blk off cap d w eg hcmp hH hblk hsz,
 fun p cap fv w=>AnyF.slices_SortFunc_none Tryz.sortC p cap fv w⟩
end Go.Proofs
namespace Go.Proofs.YtanbabpnlgfcpaaGreatDoor
open Go.Proofs.Tryz
open Go.RowKit Go.AM
theorem sortCuts_sound:za prog 185 (hSort 5 186 cfC domC) :=
 hSort_sound (by decide) ⟨_,func185,by kernel_rfl,by kernel_rfl⟩ Tryz.sortC_ok cmpOkC
noncomputable def FBB (f:Bool→Bool→Bool):List PV→Option PV:=zG (α:=Bool×Bool) (fun a=>[boo a.1,boo a.2]) (fun _=>True) (fun a=>boo (f a.1 a.2))
theorem FBB_call (f:Bool→Bool→Bool) (a b:Bool) (hp:Hp) (nx:Nat):zc false [] (FBB f) [boo a,boo b] hp nx=some (boo (f a b),hp,nx) :=
 zt rfl (zn (enc:=fun a:Bool×Bool=>[boo a.1,boo a.2]) (a:=(a,b)) (fun x y e=>by
  obtain⟨x1,x2⟩:=x
  obtain⟨y1,y2⟩:=y
  simp only[List.cons.injEq,and_true] at e
  rw[jP e.1,jP e.2]) trivial) (.inl rfl)
theorem rrAnd_sound:za prog 148 (zc false [] (FBB and)) :=
 zJ (fn:=f148) wA ⟨_,func148,by kernel_rfl,rfl,by kernel_rfl⟩ false [] _ fun args r h=>by
  obtain⟨⟨a,b⟩,rfl,_,rfl⟩:=zf h
  exact⟨by simp[f148],_,zb rfl (by cases a<;>simp[zU,f148]),zI _⟩
theorem rrOr_sound:za prog 149 (zc false [] (FBB or)) :=
 zJ (fn:=f149) wA ⟨_,func149,by kernel_rfl,rfl,by kernel_rfl⟩ false [] _ fun args r h=>by
  obtain⟨⟨a,b⟩,rfl,_,rfl⟩:=zf h
  exact⟨by simp[f149],_,zb rfl (by cases a<;>simp[zU,f149]),zI _⟩
theorem sortCuts_call {hp:Hp} {nx:Nat} {v:PV} {l:List Cut} (h:OwnS hp nx 214 5 v (wt l)) (hs:∀c∈l,c.v.small) (hl:l.length<4611686018427387904) :
  ∃hp',hSort 5 186 cfC domC [v,.fn (.func 186) [] []] hp nx=some (.tup [],hp',nx)∧OwnS hp' nx 214 5 v (wt (xd l))∧∀j,(∀n,v≠.own j 0 n)→hp' j=hp j:=by
 have hlen:(wt (xd l)).length=(wt l).length:=by
  have:=(jr l).length_eq
  simpa[wt] using this
 rcases h with⟨rfl,he⟩ | ⟨id,h1,rfl,h2⟩
 ·refine⟨hp,rfl,.inl ⟨rfl,?_⟩,fun _ _=>rfl⟩
  rw[he] at hlen
  exact List.length_eq_zero_iff.1 hlen
 ·by_cases h0:(wt l).length=0
  ·refine⟨hp,by simp only[hSort,if_pos h0],?_,fun _ _=>rfl⟩
   have e1:wt l=[]:=List.length_eq_zero_iff.1 h0
   rw[e1] at hlen h2
   have e2:=List.length_eq_zero_iff.1 hlen
   rw[e1,e2]
   exact .inr ⟨id,h1,rfl,h2⟩
  ·refine⟨upd hp id (some ⟨214,5,true,wt (xd l)⟩),?_,.inr ⟨id,h1,by rw[hlen],by simp⟩,fun j hj=>ze _ _ _ _ fun e=>hj (wt l).length (by subst e;rfl)⟩
   unfold hSort
   simp only[if_neg h0,h2]
   rw[if_pos ⟨rfl,rfl,rfl,by simp,by simpa[wt] using hl,by simpa using weakC l,fun x hx=>by
    simp only[List.drop_zero,List.take_length] at hx
    obtain⟨c,hc,rfl⟩:=List.mem_map.1 hx
    exact⟨c,rfl,hs c hc⟩⟩]
   simp[sortCu_enc]
theorem row_cells {c:List PV} {s:Str} (h:fixC spat c=s.enc):∃x3 x5 x6 x7 x8 x9 x10,c=[int s.lo.v.a,int s.lo.v.b,int s.lo.v.c,x3,boo s.lo.after,x5,x6,x7,x8,x9,x10]∧n1 1 x3=.sl 1 (encT s.lo.v.pre)∧x3.isCell=true:=by
 have hl:=wz spat c
 rw[h] at hl
 simp[Str.enc,Cut.enc] at hl
 match c,hl with
 | [c0,c1,c2,c3,c4,c5,c6,c7,c8,c9,c10],_ =>
   simp[Str.enc,Cut.enc] at h
   obtain⟨h0,h1,h2,h3,h4,h5,h6,h7,h8,h9,h10⟩:=h
   subst h0;subst h1;subst h2;subst h4
   refine⟨c3,c5,c6,c7,c8,c9,c10,rfl,h3,?_⟩
   cases c3<;>first | rfl | (simp[n1] at h3)
theorem setLast_set {out:List Str} {m:Nat} (hm:m<out.length) (he:out.length=m+1) (c:Cut):vi out c=out.set m ⟨out[m].lo,c,false⟩:=by
 unfold vi
 have h0:out≠[]:=by rintro rfl;simp at hm
 rw[List.getLast?_eq_some_getLast h0]
 have h1:out.getLast h0=out[m]:=by
  rw[List.getLast_eq_getElem]
  congr 1
  omega
 simp only[h1]
 apply List.ext_getElem
 ·simp;omega
 ·intro i hi hi'
  rw[List.getElem_set]
  split
  ·rename_i e
   subst e
   rw[List.getElem_append_right (by simp;omega)]
   simp
  ·rw[List.getElem_append_left (by simp at hi ⊢;omega)]
   simp
theorem swS_open (is:Cut→Bool) (st:Bool×List Str) (c:Cut) (h:st.1=true→st.2≠[]):(swS is st c).1=true→(swS is st c).2≠[]:=by
 obtain⟨o,out⟩:=st
 unfold swS
 cases is c<;>cases o<;>simp at h ⊢<;>assumption
theorem cov_call (l:List Str) (c:Cut) (hp:Hp) (nx:Nat) (hl:qW l) (hc:c.v.small):zR [.s 11 spat,.g cpat] (FRC fun l c=>boo (covA l c)) [.sl 11 (encR l),.agg c.enc] hp nx=some (boo (covA l c),hp,nx) :=
 w9 (show zh hp [.sl 11 (encR l),.agg c.enc]=some ([.sl 11 (encR l),.agg c.enc],hp) by simp[Cut.enc]) (by
  have e1:(Sh.s 11 spat).fix (.sl 11 (encR l))=.sl 11 (encR l):=by
   simp only[Sh.fix_s,encR,List.map_map]
   congr 1
  have e2:(Sh.g cpat).fix (.agg c.enc)=.agg c.enc:=by simp[Cut.enc]
  show FRC _ [(Sh.s 11 spat).fix (.sl 11 (encR l)),(Sh.g cpat).fix (.agg c.enc)]=_
  rw[e1,e2]
  exact zn (enc:=fun a:List Str×Cut=>[PV.sl 11 (encR a.1),.agg a.2.enc]) (a:=(l,c)) rc_inj ⟨hl,hc⟩) (.inl rfl)
noncomputable abbrev Ccmb:Ctx:=zA prog [(185,hSort 5 186 cfC domC),(187,zR [.s 11 spat,.g cpat] (FRC fun l c=>boo (covA l c))),
 (148,zc false [] (FBB and)),(149,zc false [] (FBB or))]
theorem goodcmb:AM.Good Ccmb (fun g=>[187].contains g):=zk mixed ⟨sortCuts_sound,by simp,covers_sound,fun _=>wU _ _,rrAnd_sound,by simp,rrOr_sound,by simp,trivial⟩
theorem cuts_take {l:List Str} {k:Nat} (h:k<l.length):qv (l.take (k+1))=qv (l.take k)++(if l[k].endless=true then [l[k].lo] else [l[k].lo,l[k].hi]):=by
 rw[List.take_succ_eq_append_getElem h,kp]
 simp[qv]
theorem swL_take (is:Cut→Bool) {l:List Cut} {k:Nat} (h:k<l.length) (st:Bool×List Str):swL is (l.take (k+1)) st=swS is (swL is (l.take k) st) l[k]:=by
 unfold swL
 rw[List.take_succ_eq_append_getElem h,List.foldl_append]
 rfl
theorem encCs_app (a b:List Cut):wt (a++b)=wt a++wt b:=by simp[wt]
noncomputable def combR (f:Bool→Bool→Bool) (a b:List Str):Option Blk:=if combL f a b=[] then none else some ⟨216,11,true,encR (combL f a b)⟩
theorem killV_own (i o n:Nat) (hp:Hp):killV (.own i o n) hp=upd hp i none:=rfl
theorem ownS_far {hp:Hp} {nx e s:Nat} {v:PV} {xs:List (List PV)} (h:OwnS hp nx e s v xs) {j:Nat} (hj:nx≤j):∀n,v≠.own j 0 n:=by
 rcases h with⟨rfl,_⟩ | ⟨id,h1,rfl,_⟩
 ·intro n e;cases e
 ·intro n e;injection e with e;omega
set_option maxHeartbeats 4000000 in
theorem combine_eval (f:Bool→Bool→Bool) (hv:PV) (hcall:∀x y hp nx,qN Ccmb hp nx (some hv) [boo x,boo y]=some (boo (f x y),hp,nx)) (a b:List Str) (ha:qW a) (hb:qW b) :
  ∃x hp nx,wu Ccmb f147 [.sl 11 (encR a),.sl 11 (encR b),hv] (fun _=>none) 0=some (x,hp,nx)∧OwnRN spat (combR f a b) x hp nx:=by
 refine zu rfl ?_
 have hsa:=ha
 have hsb:=hb
 obtain⟨ha1,ha2⟩:=ha
 obtain⟨hb1,hb2⟩:=hb
 unfold lim at ha1 hb1
 obtain⟨ls,hls⟩:∃ls:List (List Str),[a,b]=ls:=⟨_,rfl⟩
 obtain⟨rows,hrows⟩:∃rows:List (List PV),[[PV.sl 11 (encR a)],[.sl 11 (encR b)]]=rows:=⟨_,rfl⟩
 have hrow:∀i,i<2→∃l:List Str,(qv (ls.take (i+1)).flatten=qv (ls.take i).flatten++qv l)∧rows[i]?=some [PV.sl 11 (encR l)]∧l.length≤2097152∧(∀s∈l,s.small)∧(qv (ls.take i).flatten).length≤4194304:=by
  intro i hi
  rw[←hls,←hrows]
  rcases (by omega:i=0∨i=1) with rfl | rfl
  ·exact⟨a,by simp[qv],rfl,ha1,ha2,by simp[qv]⟩
  ·exact⟨b,by simp[kp],rfl,hb1,hb2,by have:=jV a;simp;omega⟩
 simp[zl,zx,zm,hrows]
 refine zC (fun i σ hp nx=>σ 0=.sl 11 (encR a)∧σ 1=.sl 11 (encR b)∧σ 2=hv∧σ 19=.own 0 0 2∧σ 20=int 2∧σ 21=int i∧1≤nx∧hp 0=some ⟨180,1,true,rows⟩∧(∀n,σ 7≠.own 0 0 n)∧OwnS hp nx 214 5 (σ 7) (wt (qv (ls.take i).flatten))) 2
  ⟨by simp,by simp,by simp,by simp,by simp,by simp,by simp,by simp,by simp,.inl ⟨by simp,by simp[qv,wt]⟩⟩ ?_
 rintro i σ hp nx hi ⟨h0,h1,h2,h19,h20,h21,hnx,b0,hn7,hO⟩
 by_cases hlt:i<2
 ·obtain⟨l,hl,hr,hll,hls2,hcl⟩:=hrow i hlt
  obtain⟨hr1,hr2⟩:=List.getElem?_eq_some_iff.1 hr
  have hw:IntKind.i64.wrap ((i:Int)+1)=(i:Int)+1:=zd (by omega) (by omega)
  have hel:(encR l).length=l.length:=by simp[encR]
  have hltI:(i:Int)<2:=by omega
  simp[h0,h1,h2,h19,h20,h21,hltI,hlt,b0,hr1,hr2,hel]
  refine zC (fun k σ hp nx=>σ 0=.sl 11 (encR a)∧σ 1=.sl 11 (encR b)∧σ 2=hv∧σ 19=.own 0 0 2∧σ 20=int 2∧σ 21=int i∧1≤nx∧hp 0=some ⟨180,1,true,rows⟩∧(∀n,σ 7≠.own 0 0 n)∧OwnS hp nx 214 5 (σ 7) (wt (qv (ls.take i).flatten++qv (l.take k))) ∧
   σ 25=.sl 11 (encR l)∧σ 26=int l.length∧σ 27=int k) l.length
   ⟨by simp[h0],by simp[h1],by simp[h2],by simp[h19],by simp[h20],by simp[h21],hnx,b0,by simpa using hn7,by simpa[qv] using hO,by simp,by simp,by simp⟩ ?_
  clear h0 h1 h2 h19 h20 h21 hnx b0 hn7 hO hi σ hp nx
  rintro k σ hp nx hk ⟨h0,h1,h2,h19,h20,h21,hnx,b0,hn7,hO,h25,h26,h27⟩
  by_cases hltk:k<l.length
  ·have hwk:IntKind.i64.wrap ((k:Int)+1)=(k:Int)+1:=zd (by omega) (by omega)
   have hke:∀h:k<(encR l).length,(encR l)[k]=l[k].enc:=fun h=>by simp[encR]
   have hcn:=jV (l.take k)
   rw[List.length_take] at hcn
   have hct:=cuts_take hltk
   obtain⟨xs,hxs⟩:∃xs,wt (qv (ls.take i).flatten++qv (l.take k))=xs:=⟨_,rfl⟩
   have hxl:xs.length≤8388608+2:=by rw[←hxs];simp[wt];omega
   rw[hxs] at hO
   have hE:wt (qv (ls.take i).flatten++qv (l.take (k+1)))=xs++(if l[k].endless=true then [l[k].lo] else [l[k].lo,l[k].hi]).map Cut.enc:=by
    rw[hct,←List.append_assoc,encCs_app,hxs];rfl
   have hkn:=fun hp'=>qq hO hp' nx (ownS_far hO (Nat.le_refl _))
   have hk0:=fun hp'=>qq hO hp' 0 hn7
   obtain⟨s,hs⟩:∃s,l[k]=s:=⟨_,rfl⟩
   rw[hs] at hct hke hE
   have hap1:=OwnS.append1 (P:=prog) (t:=246) (c:=s.lo.enc) (hO.more (some ⟨216,11,false,[s.enc]⟩)) el246 sz214 by214 ze214 rfl (by omega) (by unfold maxLen;omega) (by omega)
   have hO1:=OwnS.after (hp:=upd hp nx (some ⟨216,11,false,[s.enc]⟩)) (nx:=nx+1) (e:=214) (s:=5) (v:=σ 7) (xs:=xs) (c:=s.lo.enc) (tmp:=some ⟨214,5,true,[s.lo.enc]⟩)
   have hap2:=OwnS.append1 (P:=prog) (t:=246) (c:=s.hi.enc) hO1 el246 sz214 by214 ze214 rfl (by omega) (by simp;unfold maxLen;omega) (by simp;omega)
   rw[show (xs++[s.lo.enc]).length=xs.length+1 by simp,List.append_assoc,show[s.lo.enc]++[s.hi.enc]=[s.lo.enc,s.hi.enc] from rfl] at hap2
   have hO2:=OwnS.after (hp:=upd (killV (σ 7) (upd (upd hp nx (some ⟨216,11,false,[s.enc]⟩)) (nx+1) (some ⟨214,5,true,[s.lo.enc]⟩))) (nx+1+1) (some ⟨214,5,true,xs++[s.lo.enc]⟩)) (nx:=nx+1+2) (e:=214) (s:=5) (v:=.own (nx+1+1) 0 (xs.length+1)) (xs:=xs++[s.lo.enc]) (c:=s.hi.enc) (tmp:=some ⟨214,5,true,[s.hi.enc]⟩)
   rw[show (xs++[s.lo.enc]).length=xs.length+1 by simp,List.append_assoc,show[s.lo.enc]++[s.hi.enc]=[s.lo.enc,s.hi.enc] from rfl] at hO2
   simp only[Str.enc,Cut.enc,List.cons_append,List.nil_append] at hap1 hap2 hO1 hO2 hke
   have m1:¬nx=nx+1+1:=by omega
   have m2:¬nx=nx+1+2:=by omega
   have m3:¬nx=nx+1+2+1:=by omega
   have n1:¬0=nx:=by omega
   have n2:¬0=nx+1:=by omega
   have n3:¬0=nx+2:=by omega
   have n4:¬0=nx+3:=by omega
   have n5:¬0=nx+4:=by omega
   cases hen:s.endless
   ·rw[hen] at hct
    rw[hen] at hap1 hap2 hO1 hO2 hke
    simp[h0,h1,h2,h19,h20,h21,h25,h26,h27,hltk,hel,hke,hap1,hap2,hkn,hwk,m1,m2,m3,zl,zx,zm]
    refine⟨by omega,?_,?_⟩
    ·simp[killV_own,hk0,b0,n1]
    ·rw[hE,hen]
     simp only[Bool.false_eq_true,if_false,List.map_cons,List.map_nil,Cut.enc]
     exact hO2
   ·rw[hen] at hct
    rw[hen] at hap1 hap2 hO1 hO2 hke
    simp[h0,h1,h2,h19,h20,h21,h25,h26,h27,hltk,hel,hke,hap1,hkn,hwk,m1,m2,m3,zl,zx,zm]
    refine⟨by omega,?_,?_⟩
    ·simp[hk0,b0,n1]
    ·rw[hE,hen]
     simp only[if_true,List.map_cons,List.map_nil,Cut.enc]
     exact hO1
  ·obtain rfl:k=l.length:=by omega
   rw[List.take_length,←hl] at hO
   simp[h0,h1,h2,h19,h20,h21,h25,h26,h27,hw]
   exact⟨by omega,hnx,b0,hn7,hO⟩
 ·obtain rfl:i=2:=by omega
  have hls3:(ls.take 2).flatten=a++b:=by rw[←hls];simp
  rw[hls3] at hO
  have hsm:∀c∈qv (a++b),c.v.small:=cutsOf_all (Q:=fun c=>c.v.small) fun s hs=>by
   rcases List.mem_append.1 hs with h | h
   ·exact ha2 s h
   ·exact hb2 s h
  have hcl:=jV (a++b)
  rw[List.length_append] at hcl
  obtain⟨hp',hsort,hO',hfr'⟩:=sortCuts_call hO hsm (by omega)
  obtain⟨v,hv7⟩:∃v,σ 7=v:=⟨_,rfl⟩
  obtain⟨cs,hcs⟩:∃cs,xd (qv (a++b))=cs:=⟨_,rfl⟩
  have hcsl:cs.length≤8388608:=by rw[←hcs,(jr _).length_eq];omega
  have hcsm:∀c∈cs,c.v.small:=fun c hc=>hsm c ((jr _).mem_iff.1 (by rw[hcs];exact hc))
  have hfin:combL f a b=(swL (fun c=>f (covA a c) (covA b c)) cs (false,[])).2:=by rw[←hcs,kp];rfl
  obtain⟨is,his⟩:∃is:Cut→Bool,(fun c=>f (covA a c) (covA b c))=is:=⟨_,rfl⟩
  have hisc:∀c,f (covA a c) (covA b c)=is c:=fun c=>by rw[←his]
  rw[his] at hfin
  rw[hv7] at hsort hO'
  rw[hcs] at hO'
  clear hO hcs hsm hrow hls3
  have hlen:=hO'.len el246
  have hel:(wt cs).length=cs.length:=by simp[wt]
  rw[hel] at hlen
  simp[h0,h1,h2,h19,h20,h21,hv7,hsort,hlen]
  refine zC (fun k σ hp nx=>σ 0=.sl 11 (encR a)∧σ 1=.sl 11 (encR b)∧σ 2=hv∧σ 48=v∧σ 49=int cs.length∧σ 50=int k∧OwnS hp nx 214 5 v (wt cs)∧∃xs,OwnS hp nx 216 11 (σ 12) xs∧xs.map (fixC spat)=encR (swL is (cs.take k) (false,[])).2 ∧
    σ 13=boo (swL is (cs.take k) (false,[])).1∧(∀id n m,v=.own id 0 n→σ 12≠.own id 0 m)∧((swL is (cs.take k) (false,[])).1=true→(swL is (cs.take k) (false,[])).2≠[])∧xs.length≤k∧(xs=[]→σ 12=.nil)) cs.length
   ⟨by simp[h0],by simp[h1],by simp[h2],by simp,by simp,by simp,hO',[],.inl ⟨by simp,rfl⟩,by simp[swL,encR],by simp[swL],by simp,by simp[swL],by simp,by simp⟩ ?_
  clear h0 h1 h2 h19 h20 h21 hnx b0 hn7 hO' hi σ hp nx hlt hsort hlen hfr' hv7 hp'
  rintro k σ hp nx hk ⟨h0,h1,h2,h48,h49,h50,hO,xs,hX,hxs,h13,hap,hop,hxk,hxn⟩
  by_cases hltk:k<cs.length
  ·have hwk:IntKind.i64.wrap ((k:Int)+1)=(k:Int)+1:=zd (by omega) (by omega)
   obtain⟨id,hid,rfl,hh⟩:=hO.at_ (by rw[hel];omega)
   have hst:=swL_take is hltk (false,[])
   obtain⟨st,hst0⟩:∃st,swL is (cs.take k) (false,[])=st:=⟨_,rfl⟩
   obtain⟨c,hc⟩:∃c,cs[k]=c:=⟨_,rfl⟩
   rw[hc,hst0] at hst
   rw[hst0] at hxs h13 hop
   have hopn:=swS_open is st c hop
   have hcsmall:c.v.small:=hcsm c (by rw[←hc];exact List.getElem_mem hltk)
   have hke:∀h:k<(wt cs).length,(wt cs)[k]=c.enc:=fun h=>by simp[wt,hc]
   have hca:=fun hp nx=>cov_call a c hp nx hsa hcsmall
   have hcb:=fun hp nx=>cov_call b c hp nx hsb hcsmall
   have hcall':=fun hp nx=>hcall (covA a c) (covA b c) hp nx
   rw[hisc c] at hcall'
   simp only[Cut.enc] at hca hcb hke
   have m0:¬id=nx:=by omega
   have m1:¬id=nx+1:=by omega
   have m2:¬id=nx+1+1:=by omega
   rw[hel] at hO
   have hki:=fun hp'=>qq hX hp' id (fun n=>hap id _ n rfl)
   have hswS:swS is st c=(is c,if (is c&&!st.1)=true then st.2++[yj c] else if (!is c&&st.1)=true then vi st.2 c else st.2):=rfl
   rw[hswS] at hst
   rw[hswS] at hopn
   simp only at hopn
   obtain⟨op,out⟩:=st
   simp only at hxs h13 hop hopn
   cases hb:is c<;>cases op
   ·rw[hb] at hcall' hst
    simp at hst
    simp[h0,h1,h2,h48,h49,h50,hel,hltk,hh,hke,hca,hcb,hcall',h13,hwk,m0,hst]
    exact⟨by omega,hO.more _,xs,hX.more _,hxs,fun i n m e _=>hap i _ m (by rw[e]),by omega,hxn⟩
   ·rw[hb] at hcall' hst
    simp at hst
    have hne:=hop rfl
    obtain⟨m,hm⟩:∃m,out.length=m+1:=⟨out.length - 1,by have:=List.length_pos_iff.2 hne;omega⟩
    have hxl:xs.length=m+1:=by have:=congrArg List.length hxs;simp[encR] at this;omega
    obtain⟨id2,hid2,h12,hh2⟩:=hX.at_ (by omega)
    have hid12:¬id2=id:=fun e=>hap id _ _ rfl (by rw[h12,e])
    have hid21:¬id=id2:=fun e=>hid12 e.symm
    have p0:¬id2=nx:=by omega
    rw[hxl] at h12
    have hlm:m<xs.length:=by omega
    have hlo:m<out.length:=by omega
    have hrm:fixC spat xs[m]=out[m].enc:=by
     have e1:(xs.map (fixC spat))[m]?=(encR out)[m]?:=by rw[hxs]
     simp only[List.getElem?_map,List.getElem?_eq_getElem hlm,encR,List.getElem?_eq_getElem hlo,Option.map_some,Option.some.injEq] at e1
     exact e1
    obtain⟨x3,x5,x6,x7,x8,x9,x10,hrow,hn3,hcell⟩:=row_cells hrm
    have wm:IntKind.i64.wrap (m:Int)=(m:Int):=zd (by omega) (by omega)
    have wm1:IntKind.i64.wrap ((m:Int)+1 - 1)=(m:Int):=by rw[zd (by omega) (by omega)];omega
    simp[h0,h1,h2,h48,h49,h50,hel,hltk,hh,hke,hca,hcb,hcall',h13,hwk,m0,hst,h12,hh2,p0,wm,wm1,hlm,hrow,hcell,qz]
    refine⟨by omega,.inr ⟨id,by omega,by rw[hel],by simp[hid21,m0,hh]⟩,xs.set m [int out[m].lo.v.a,int out[m].lo.v.b,int out[m].lo.v.c,x3,boo out[m].lo.after,int c.v.a,int c.v.b,int c.v.c,.sl 1 (encT c.v.pre),boo c.after,boo false],.inr ⟨id2,by omega,by simp[hxl],by simp⟩,?_,fun i n k' e _ e2=>absurd (e2.trans e.symm) hid12,by simp;omega,fun e=>by have:=congrArg List.length e;rw[List.length_set,hxl] at this;cases this⟩
    rw[List.map_set,hxs,setLast_set hlo hm c,encR,encR,List.map_set]
    simp[hn3,Str.enc,Cut.enc]
   ·rw[hb] at hcall' hst
    simp at hst
    have hap1:=OwnS.append1 (P:=prog) (t:=180) (c:=[int c.v.a,int c.v.b,int c.v.c,.sl 1 (encT c.v.pre),boo c.after,int 0,int 0,int 0,.nil,boo false,boo true]) (hX.more (some ⟨214,5,false,[c.enc]⟩)) el180 sz216 by216 ze216 rfl (by omega) (by unfold maxLen;omega) (by omega)
    simp only[Cut.enc] at hap1
    simp[h0,h1,h2,h48,h49,h50,hel,hltk,hh,hke,hca,hcb,hcall',h13,hwk,m0,hst,hap1,zK,z8,zl,zx,zm]
    refine⟨by omega,.inr ⟨id,by omega,by rw[hel],by simp[hki,hh,m0,m1,m2]⟩,xs++[[int c.v.a,int c.v.b,int c.v.c,.sl 1 (encT c.v.pre),boo c.after,int 0,int 0,int 0,.nil,boo false,boo true]],by simpa using OwnS.after,?_,fun i n m e _ e2=>by omega,by simp;omega⟩
    rw[List.map_append,hxs]
    simp[encR,yj,Str.enc,Cut.enc,cut0,encT]
   ·rw[hb] at hcall' hst
    simp at hst
    simp[h0,h1,h2,h48,h49,h50,hel,hltk,hh,hke,hca,hcb,hcall',h13,hwk,m0,hst]
    exact⟨by omega,hO.more _,xs,hX.more _,hxs,fun i n m e _=>hap i _ m (by rw[e]),hop rfl,by omega,hxn⟩
  ·obtain rfl:k=cs.length:=by omega
   rw[List.take_length] at hxs
   rw[←hfin] at hxs
   have hxl:xs.length=(combL f a b).length:=by have:=congrArg List.length hxs;simpa[encR] using this
   simp[h0,h1,h2,h48,h49,h50,f147]
   unfold combR
   rcases hX with⟨h12,rfl⟩ | ⟨id2,hid2,h12,hh2⟩
   ·rw[if_pos (List.length_eq_zero_iff.1 hxl.symm)]
    exact h12
   ·by_cases hz:combL f a b=[]
    ·rw[if_pos hz]
     rw[hz] at hxl
     exact hxn (List.length_eq_zero_iff.1 hxl)
    ·rw[if_neg hz]
     refine⟨id2,_,h12,hh2,rfl,?_⟩
     simp only[fixB,hxs]
theorem spat_fix (l:List Str):(Sh.s 11 spat).fix (.sl 11 (encR l))=.sl 11 (encR l):=by
 simp only[Sh.fix_s,encR,List.map_map]
 congr 1
noncomputable def FCmb:List PV→Option (Option Blk):=fun args =>
 match zG (α:=List Str×List Str) (fun a=>[.sl 11 (encR a.1),.sl 11 (encR a.2),.fn (.func 148) [] []]) (fun a=>qW a.1∧qW a.2) (fun a=>combR and a.1 a.2) args with
 | some r=>some r
 | none=>zG (α:=List Str×List Str) (fun a=>[.sl 11 (encR a.1),.sl 11 (encR a.2),.fn (.func 149) [] []]) (fun a=>qW a.1∧qW a.2) (fun a=>combR or a.1 a.2) args
theorem cmb_inj (g:PV):∀a b:List Str×List Str,[PV.sl 11 (encR a.1),.sl 11 (encR a.2),g]=[.sl 11 (encR b.1),.sl 11 (encR b.2),g]→a=b:=by
 rintro⟨a1,a2⟩ ⟨b1,b2⟩ e
 simp only[List.cons.injEq,and_true] at e
 obtain⟨e1,e2⟩:=e
 injection e1 with _ e1
 injection e2 with _ e2
 rw[jU e1,jU e2]
set_option maxRecDepth 100000 in
theorem combine_sound:za prog 147 (hFreshN [.s 11 spat,.s 11 spat] FCmb) :=
 hFreshN_sound (fn:=f147) goodcmb ⟨_,func147,by kernel_rfl,rfl,by kernel_rfl⟩ _ spat _ fun args r h=>by
  unfold FCmb at h
  split at h
  ·rename_i r0 h0
   injection h with h;subst h
   obtain⟨⟨a,b⟩,rfl,⟨h1,h2⟩,rfl⟩:=zf h0
   exact⟨by simp[f147],combine_eval and _ (fun x y hp nx=>by simp[FBB_call]) a b h1 h2⟩
  ·obtain⟨⟨a,b⟩,rfl,⟨h1,h2⟩,rfl⟩:=zf h
   exact⟨by simp[f147],combine_eval or _ (fun x y hp nx=>by simp[FBB_call]) a b h1 h2⟩
end Go.Proofs.YtanbabpnlgfcpaaGreatDoor
