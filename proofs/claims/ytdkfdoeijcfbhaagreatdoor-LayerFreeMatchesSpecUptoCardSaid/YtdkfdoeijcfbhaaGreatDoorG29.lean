/-
The abstract machine, part 32: slices.Insert of one element into a slice of one's own.
What slices.Insert asks of the model at elements of several cells: copying, laying zero elements behind.
slices.Insert of one cut ahead of the end.
Plain law: cuts laid in one by one, each once, are the cuts in order.
The reference's ranges: cuts laid into a row in order, each once.
-/
import Derived.Test.YtdkfdoeijcfbhaaGreatDoorG20
import Derived.Test.YtdkfdoeijcfbhaaGreatDoorG9
import Derived.Laws.CopyRow
import Derived.Lib.Overlaps
import Derived.Lib.AppendZerosOnto
import Derived.Laws.NewBlocks
import Derived.Test.YtdkfdoeijcfbhaaGreatDoorG11
import Derived.Shelf.Spec.SlicesInsert
import Derived.Test.YtdkfdoeijcfbhaaGreatDoorG28
import Derived.Test.YtdkfdoeijcfbhaaGreatDoorG19
set_option maxRecDepth 8000
namespace Go.AM
open Go.RowKit Go.Proofs
section
variable {P:Program} {hp:Hp} {nx:Nat}
def zep (P:Program) (f e s by_:Nat):Prop :=
 ∀(w:World) (g vb n i cap vc:Nat) (cur vcur:Array Value) (tv:TypeId),i<n→n≤cap→cap≤maxLen→n+1≤maxLen→(n+1)*by_≤140737488355328→g≠vb→1≤vc→vc≤maxLen →
  w.heap[g]?=some (.cells cur e (0,0))→cur.size=cap*s→w.heap[vb]?=some (.cells vcur tv (0,0))→vcur.size=vc*s→(∀j v,j<n*s→cur[j]?=some v→v.oneCell'=true)→(∀j v,j<s→vcur[j]?=some v→v.oneCell'=true) →
  Calls P f #[.slice (some ⟨g,0,none⟩) n cap,.int .i64 i,.slice (some ⟨vb,0,none⟩) 1 vc] w fun r w'=>∃(g' cap':Nat) (cur':Array Value),n+1≤cap'∧cap'≤maxLen∧r=.returned (.slice (some ⟨g',0,none⟩) ((n+1:Nat)) cap') ∧
   (g'=g∨w.heap.size≤g')∧w'.heap[g']?=some (.cells cur' e (0,0))∧cur'.size=cap'*s∧Fr w (fun b=>b=g') w' ∧
   ∀j,j<(n+1)*s→cur'[j]?=(cur.toList.take (i*s)++vcur.toList.take s++(cur.toList.take (n*s)).drop (i*s))[j]?
def zai (e s by_:Nat):AM.Spec:=fun args hp nx=>match args with
 | [.own id 0 n,.v (.int .i64 i),.own id2 0 1]=>match hp id,hp id2 with
   | some b,some b2=>match b2.es with
     | [c]=>if id≠id2∧b.arr=true∧b2.arr=true∧b.e=e∧b.s=s∧b2.s=s∧b.es.length=n∧0≤i∧i<n∧(n+1)*by_≤140737488355328∧n+1≤maxLen then
       some (.own nx 0 (n+1),upd (upd hp id none) nx (some ⟨e,s,true,b.es.take i.toNat++c::b.es.drop i.toNat⟩),nx+1) else none
     | _=>none
   | _,_=>none
 | _=>none
theorem row_at {es:List (List PV)} {s i j:Nat} (hl:∀c∈es,c.length=s) {c:List PV} {pv:PV} (hi:es[i]?=some c) (hj:c[j]?=some pv):j<s∧i<es.length∧i*s+j<es.length*s:=by
 have h1:j<s:=by rw[←hl c (List.mem_of_getElem? hi)];exact (List.getElem?_eq_some_iff.1 hj).1
 have h2:i<es.length:=(List.getElem?_eq_some_iff.1 hi).1
 exact⟨h1,h2,j8 h2 h1⟩
theorem JT {f e s by_:Nat} (hfn:∃fn,P.funcs[f]?=some fn∧(fn.name== "runtime.NumGoroutine")=false∧fn.body.isNone=false) (hsz:zR P e=some s) (hs0:0<s) (h:zep P f e s by_):za P f (zai e s by_):=by
 refine⟨hfn,?_⟩
 intro args hp nx r hp' nx' hh w S G vs hi hz
 unfold zai at hh
 split at hh
 case h_2=>cases hh
 rename_i id n i id2
 split at hh
 case h_2=>cases hh
 rename_i b b2 hb hb2
 split at hh
 case h_2=>cases hh
 rename_i c hc
 split at hh
 case isFalse=>cases hh
 rename_i hk
 obtain⟨k1,k2,k3,k4,k5,k6,k7,k8,k9,k10,k11⟩:=hk
 injection hh with hh
 injection hh with e1 hh
 injection hh with e2 e3
 subst e1;subst e2;subst e3
 obtain⟨u0,us,rfl,hu0,hz'⟩:=hz.uncons
 obtain⟨u1,us,rfl,hu1,hz'⟩:=hz'.uncons
 obtain⟨u2,us,rfl,hu2,hz'⟩:=hz'.uncons
 obtain rfl:=hz'.unnil
 obtain⟨rfl,_⟩:=hu1.v_inv
 have hop:=hu0.own_pos
 have hop2:=hu2.own_pos
 obtain⟨cap,g1,g2,g3,g4,rfl⟩:=hu0.own_inv
 obtain⟨vc,v1,v2,v3,v4,rfl⟩:=hu2.own_inv
 have hbr:=hi.live id b hb
 have hbr2:=hi.live id2 b2 hb2
 have hgs:(G id).s=s:=by rw[←hbr.bs];exact k5
 have hgs2:(G id2).s=s:=by rw[←hbr2.bs];exact k6
 obtain⟨cur,q1,q2,q3⟩:=hbr.row hop
 obtain⟨vcur,r1,r2,r3⟩:=hbr2.row hop2
 rw[hgs] at q3 g4
 rw[hgs2] at r3 v4
 rw[k4] at q1
 have z0:0*(G id).s=0:=Nat.zero_mul _
 have z1:0*(G id2).s=0:=Nat.zero_mul _
 rw[z0,z1]
 have hne:(G id).g≠(G id2).g:=fun e=>k1 (hi.inj id id2 b b2 hb hb2 e)
 have hlen:∀c∈b.es,c.length=s:=fun c hc=>by rw[←hgs];exact hbr.len hop c hc
 have hlc:c.length=s:=by rw[←hgs2];exact hbr2.len hop2 c (by rw[hc];simp)
 obtain⟨m,rfl⟩:∃m:Nat,i=m:=⟨i.toNat,by omega⟩
 have hmn:m<n:=by omega
 have key:=h w (G id).g (G id2).g n m cap vc cur vcur b2.e hmn g2 g3 k11 k10 hne v2 v3 q1 (by rw[q2,←g4,Nat.zero_add]) r1 (by rw[r2,←v4,Nat.zero_add])
  (fun j v hj hv=>by
   have hd:=Nat.div_add_mod j s
   have hm:=Nat.mod_lt j hs0
   have hdl:j / s<b.es.length:=by rw[k7];exact (Nat.div_lt_iff_lt_mul hs0).2 hj
   obtain⟨row,hrow⟩:∃row,b.es[j / s]?=some row:=⟨_,List.getElem?_eq_getElem hdl⟩
   have hrl:=hlen row (List.mem_of_getElem? hrow)
   obtain⟨pv,hpv⟩:∃pv,row[j % s]?=some pv:=⟨_,List.getElem?_eq_getElem (by omega)⟩
   obtain⟨u,a1,a2⟩:=q3 (j / s) (j % s) row pv hrow hpv
   rw[Nat.mul_comm,hd,hv] at a1
   injection a1 with a1
   rw[a1]
   exact a2.2.2)
  (fun j v hj hv=>by
   obtain⟨pv,hpv⟩:∃pv,c[j]?=some pv:=⟨_,List.getElem?_eq_getElem (by omega)⟩
   obtain⟨u,a1,a2⟩:=r3 0 j c pv (by rw[hc];rfl) hpv
   rw[Nat.zero_mul,Nat.zero_add,hv] at a1
   injection a1 with a1
   rw[a1]
   exact a2.2.2)
 refine key.mono fun e w' hr=>?_
 obtain⟨g',cap',cur',p1,p2,rfl,p4,p5,p6,p7,p8⟩:=hr
 have hsub:∀id' b',upd hp id none id'=some b'→hp id'=some b':=fun id' b' h=>vI h
 have hlive:∀id' b',upd hp id none id'=some b'→(G id').g≠g':=fun id' b' hb' e=>by
  have hb0:=hsub id' b' hb'
  rcases p4 with rfl | p4
  ·have:=hi.inj id' id b' b hb0 hb e
   subst this
   rw[qb] at hb'
   cases hb'
  ·have:=(hi.live id' b' hb0).lt
   omega
 have hnS:¬S g':=fun hS=>by
  rcases p4 with rfl | p4
  ·exact hi.apart id b hb hS
  ·have:=hi.st _ hS;omega
 have htl:(b.es.take m++c::b.es.drop m).length=n+1:=by simp;omega
 have hrl:∀c'∈b.es.take m++c::b.es.drop m,c'.length=s:=fun c' hc'=>by
  rcases List.mem_append.1 hc' with h | h
  ·exact hlen c' (List.mem_of_mem_take h)
  ·rcases List.mem_cons.1 h with rfl | h
   ·exact hlc
   ·exact hlen c' (List.mem_of_mem_drop h)
 have hcl:(cur.toList.take (n*s)).length=n*s:=by
  have:n*s≤cap*s:=Nat.mul_le_mul_right _ g2
  simp only[List.length_take,Array.length_toList]
  rw[q2,←g4,Nat.zero_add]
  exact Nat.min_eq_left this
 have hms:m*s≤n*s:=Nat.mul_le_mul_right _ (by omega)
 have hcl1:(cur.toList.take (m*s)).length=m*s:=by
  have:cur.toList.length=cap*s:=by rw[Array.length_toList,q2,←g4,Nat.zero_add]
  have h2:n*s≤cap*s:=Nat.mul_le_mul_right _ g2
  simp only[List.length_take,this]
  omega
 have hvl:(vcur.toList.take s).length=s:=by
  have:vcur.toList.length=vc*s:=by rw[Array.length_toList,r2,←v4,Nat.zero_add]
  have h2:1*s≤vc*s:=Nat.mul_le_mul_right _ v2
  simp only[List.length_take,this]
  omega
 have k:=Stp.adopt (hp1:=upd hp id none) hi hsub ⟨g',cur'.size,s⟩ e true (b.es.take m++c::b.es.drop m) cur' p7.os p7.tape p7.output p7.size p7.drawn (fun _=>False) (fun _ h=>h.elim)
  (fun b' hb' hne' _=>p7.block b' hb' hne') hlive hnS (by
   rcases p4 with rfl | p4
   ·exact .inl ⟨id,b,hb,rfl⟩
   ·exact .inr p4) hs0 (by simpa[zR] using hsz) hrl (by rw[htl,p6];exact Nat.mul_le_mul_right _ p1) p5 rfl
  (fun i' j c' pv hi' hj=>by
   obtain⟨b1,b2',b3⟩:=row_at hrl hi' hj
   rw[htl] at b2' b3
   have hcell:=p8 (i'*s+j) b3
   show ∃u,cur'[i'*s+j]?=some u∧_
   rw[hcell]
   have hrep:∀u,CellRep w S G nx b.arr pv u→CellRep w S G nx true pv u:=fun u hu=>by rw[k2] at hu;exact hu
   have hrep2:∀u,CellRep w S G nx b2.arr pv u→CellRep w S G nx true pv u:=fun u hu=>by rw[k3] at hu;exact hu
   rcases Nat.lt_trichotomy i' m with hlt | heq | hgt
   ·rw[List.getElem?_append_left (by rw[List.length_take,k7];omega),List.getElem?_take,if_pos hlt] at hi'
    obtain⟨u,a1,a2⟩:=q3 i' j c' pv hi' hj
    have hlt2:i'*s+j<m*s:=j8 hlt b1
    refine⟨u,?_,hrep u a2⟩
    rw[List.append_assoc,List.getElem?_append_left (by rw[hcl1];exact hlt2),List.getElem?_take,if_pos hlt2]
    simpa using a1
   ·subst heq
    rw[List.getElem?_append_right (by rw[List.length_take,k7];omega)] at hi'
    rw[List.length_take,k7,Nat.min_eq_left (by omega),Nat.sub_self] at hi'
    simp only[List.getElem?_cons_zero,Option.some.injEq] at hi'
    subst hi'
    obtain⟨u,a1,a2⟩:=r3 0 j c pv (by rw[hc];rfl) hj
    rw[Nat.zero_mul,Nat.zero_add] at a1
    refine⟨u,?_,hrep2 u a2⟩
    rw[List.append_assoc,List.getElem?_append_right (by rw[hcl1];omega),hcl1,Nat.add_sub_cancel_left,List.getElem?_append_left (by rw[hvl];exact b1),List.getElem?_take,if_pos b1]
    simpa using a1
   ·obtain⟨d,rfl⟩:∃d,i'=d+1:=⟨i' - 1,by omega⟩
    rw[List.getElem?_append_right (by rw[List.length_take,k7];omega)] at hi'
    rw[List.length_take,k7,Nat.min_eq_left (by omega),show d+1 - m=(d - m)+1 by omega,List.getElem?_cons_succ,List.getElem?_drop,show m+(d - m)=d by omega] at hi'
    obtain⟨u,a1,a2⟩:=q3 d j c' pv hi' hj
    have hdn:d<n:=by omega
    have hdl:=j8 (s:=s) hdn b1
    have hmd:m*s≤d*s:=Nat.mul_le_mul_right _ (by omega)
    refine⟨u,?_,hrep u a2⟩
    rw[List.getElem?_append_right (by rw[List.length_append,hcl1,hvl,Nat.add_mul,Nat.one_mul];omega),List.length_append,hcl1,hvl,List.getElem?_drop,
     show m*s+((d+1)*s+j - (m*s+s))=d*s+j by rw[Nat.add_mul,Nat.one_mul];omega,List.getElem?_take,if_pos hdl]
    simpa using a1)
 refine⟨_,_,_,rfl,k,?_⟩
 have:=RepO.own (w:=w') (S:=S) (G:=upd G nx ⟨g',cur'.size,s⟩) (nx:=nx+1) (id:=nx) (off:=0) (n:=n+1) (cap:=cap') (by omega) p1 p2 (by rw[qb];show (0+cap')*s=cur'.size;rw[p6,Nat.zero_add]) (by rw[qb];exact hs0)
 rw[qb] at this
 simpa using this
noncomputable def hIns (C:Ctx) (fn:Func) (e s by_:Nat):AM.Spec:=fun args hp nx=>match zai e s by_ args hp nx with
 | some r=>some r
 | none=>hRun C fn args hp nx
theorem KW {C:Ctx} {fn:Func} {f e s by_:Nat} (h1:za P f (zai e s by_)) (h2:za P f (hRun C fn)):za P f (hIns C fn e s by_):=by
 refine⟨h1.1,fun args hp nx r hp' nx' h=>?_⟩
 unfold hIns at h
 split at h
 ·rename_i q hq
  injection h with h
  subst h
  exact h1.2 args hp nx r hp' nx' hq
 ·exact h2.2 args hp nx r hp' nx' h
end
end Go.AM
namespace Go.AM
open Go.RowKit Go.Proofs Go.Lib
variable {P:Program}
theorem wt (w:World) (dT sT ty elem:TypeId) (k m g o dLen dCap:Nat) (a:Addr) (sLen sCap:Nat) (cur:Array Value) (t:TypeId) (cs:List Value)
  (hu:P.underlying dT=some (.slice elem)) (hs:zR P elem=some k)
  (hg:w.heap[g]?=some (.cells cur t (0,0))) (hm:Nat.min sLen dLen=m) (hn:cs.length=m*k)
  (hsrc:∀j v,cs[j]?=some v→w.cell? (a.add j)=some v) (hfit:o+cs.length≤cur.size) (h1:∀v∈cs,v.oneCell'=true) :
  (Builtin.copy_ #[dT,sT] ty #[.slice (some ⟨g,o,none⟩) dLen dCap,.slice (some a) sLen sCap]).run P w =
   .ok (goInt m) (w.setRow g (cur.toList.take o++cs++cur.toList.drop (o+cs.length)).toArray):=by
 have hl:=run_loadCells_list (P:=P) w a cs hsrc
 have hst:=run_storeCells_at P g o t cs 0 cur w hg (by simpa using hfit) h1
 unfold zR at hs
 cases hq:P.info? elem with
 | none=>simp[hq] at hs
 | some i =>
   have hi:i.size=k:=by simpa[hq] using hs
   simp[Builtin.copy_,run_underlying hu,Builtin.lenOf,Builtin.firstCells,sizeOf,typeInfo,hq,hi,hm,←hn,hl,hst]
theorem jn {w:World} {g e:Nat} {cur:Array Value} (h:w.heap[g]?=some (.cells cur e (0,0))) (j:Nat):w.cell? ⟨g,j,none⟩=cur[j]?:=by simp[World.cell?,h]
theorem YA {w:World} {g e:Nat} {cur:Array Value} (h:w.heap[g]?=some (.cells cur e (0,0))) (j:Nat):w.frozen? ⟨g,j,none⟩=false:=by simp[World.frozen?,h]
theorem Q8 {w:World} {g e:Nat} {cur:Array Value} (h:w.heap[g]?=some (.cells cur e (0,0))):w.shape? g=some (e,cur.size):=by simp[World.shape?,h]
theorem yn {w:World} {g k:Nat} (cs:Array Value) (h:k≠g):(w.setRow g cs).heap[k]?=w.heap[k]?:=by
 have:¬g=k:=fun e=>h e.symm
 simp[World.setRow,Array.getElem?_modify,this]
theorem Q9 (w:World) (g:Nat) (cs:Array Value):Fr w (fun b=>b=g) (w.setRow g cs) :=
 ⟨rfl,rfl,rfl,by simp[World.setRow],Nat.le_refl _,fun k _ hk=>yn cs hk⟩
def qx (l:List Value) (o:Nat) (cs:List Value):List Value:=l.take o++cs++l.drop (o+cs.length)
theorem qu {l cs:List Value} {o:Nat} (h:o+cs.length≤l.length):(qx l o cs).length=l.length:=by
 unfold qx
 simp
 omega
theorem zaj {l vs:List Value} {n i s:Nat} (hi:i≤n) (hl:(n+1)*s≤l.length) (hv:vs.length=s) (j:Nat) (hj:j<(n+1)*s) :
  (qx (qx l ((i+1)*s) ((l.take (n*s)).drop (i*s))) (i*s) vs)[j]?=(l.take (i*s)++vs++(l.take (n*s)).drop (i*s))[j]?:=by
 have e1:(i+1)*s=i*s+s:=by rw[Nat.add_mul,Nat.one_mul]
 have e2:(n+1)*s=n*s+s:=by rw[Nat.add_mul,Nat.one_mul]
 have h1:i*s≤n*s:=Nat.mul_le_mul_right _ hi
 rw[e2] at hl hj
 rw[e1]
 generalize n*s=N at *
 generalize i*s=I at *
 subst hv
 have hc:((l.take N).drop I).length=N - I:=by simp;omega
 have hb:I+vs.length+((l.take N).drop I).length≤l.length:=by rw[hc];omega
 have hs1:(qx l (I+vs.length) ((l.take N).drop I)).length=l.length:=qu hb
 have g1:=wS (qx l (I+vs.length) ((l.take N).drop I)) vs I j (by rw[hs1];omega)
 have g2:=wS l ((l.take N).drop I) (I+vs.length) j hb
 have k1:(qx (qx l (I+vs.length) ((l.take N).drop I)) I vs)[j]?=if I≤j∧j<I+vs.length then vs[j - I]? else (qx l (I+vs.length) ((l.take N).drop I))[j]?:=g1
 have k2:(qx l (I+vs.length) ((l.take N).drop I))[j]?=if I+vs.length≤j∧j<I+vs.length+((l.take N).drop I).length then ((l.take N).drop I)[j - (I+vs.length)]? else l[j]?:=g2
 have ht:(l.take I).length=I:=by simp;omega
 rw[k1,k2,List.append_assoc]
 by_cases h2:j<I
 ·rw[if_neg (by omega),if_neg (by omega),List.getElem?_append_left (by omega),List.getElem?_take,if_pos h2]
 ·rw[List.getElem?_append_right (by omega),ht]
  by_cases h3:j<I+vs.length
  ·rw[if_pos (by omega),List.getElem?_append_left (by omega)]
  ·rw[if_neg (by omega),if_pos (by omega),List.getElem?_append_right (by omega)]
   congr 1
   omega
theorem zcb {R olds vs cs:List Value} {I:Nat} (hR:olds.length=I) (ho:∀j,j<I→R[j]?=olds[j]?) (hl:I+vs.length+cs.length≤R.length) (j:Nat) (hj:j<I+vs.length+cs.length) :
  (qx (qx R I vs) (I+vs.length) cs)[j]?=(olds++vs++cs)[j]?:=by
 have hs1:(qx R I vs).length=R.length:=qu (by omega)
 have g1:=wS (qx R I vs) cs (I+vs.length) j (by rw[hs1];omega)
 have g2:=wS R vs I j (by omega)
 have k1:(qx (qx R I vs) (I+vs.length) cs)[j]?=if I+vs.length≤j∧j<I+vs.length+cs.length then cs[j - (I+vs.length)]? else (qx R I vs)[j]?:=g1
 have k2:(qx R I vs)[j]?=if I≤j∧j<I+vs.length then vs[j - I]? else R[j]?:=g2
 rw[k1,k2,List.append_assoc]
 by_cases h2:j<I
 ·rw[if_neg (by omega),if_neg (by omega),List.getElem?_append_left (by omega),ho j h2]
 ·rw[List.getElem?_append_right (by omega),hR]
  by_cases h3:j<I+vs.length
  ·rw[if_neg (by omega),if_pos (by omega),List.getElem?_append_left (by omega)]
  ·rw[if_pos (by omega),List.getElem?_append_right (by omega)]
   congr 1
   omega
theorem zcc {e s by_:Nat} {z:List PV} (hs:zR P e=some s) (hb:yD P e=some by_) (hz:wF P e=some z) (hl:z.length=s):∃i v,P.info? e=some i∧i.zero=some v∧i.size=s∧i.bytes=by_∧v.cells.size=s:=by
 obtain⟨i,v,hi,hv,hc⟩:=vH hz
 obtain⟨i',hi',his⟩:=kC hs
 rw[hi] at hi'
 injection hi' with hi'
 subst hi'
 refine⟨i,v,hi,hv,his,?_,?_⟩
 ·unfold yD at hb
  rw[hi] at hb
  simpa using hb
 ·have:=(qV (w:=default) (S:=fun _=>False) hc).1
  rw[hl] at this
  simpa using this.symm
theorem zak {w:World} (o:Obj):(w.alloc o).heap[w.heap.size]?=some o:=by
 show (w.heap.push o)[w.heap.size]?=some o
 simp
theorem vE {w:World} (o:Obj) {k:Nat} (h:k<w.heap.size):(w.alloc o).heap[k]?=w.heap[k]?:=by
 have:¬k=w.heap.size:=by omega
 show (w.heap.push o)[k]?=_
 simp[Array.getElem?_push,this]
theorem setRow_size {w:World} {g:Nat} (cs:Array Value):(w.setRow g cs).heap.size=w.heap.size:=by simp[World.setRow]
theorem KX {w:World} (o:Obj):(w.alloc o).heap.size=w.heap.size+1:=by
 show (w.heap.push o).size=_
 simp
end Go.AM
namespace Go.Proofs.YtdkfdoeijcfbhaaGreatDoor
open Go.Proofs.Tryz
open Go.RowKit Go.Lib Go.AM
attribute [local go_sem] Oper.semAt_some
set_option maxHeartbeats 4000000 in
set_option maxRecDepth 100000 in
theorem insC_shift (w:World) (g vb n i cap vc:Nat) (cur vcur:Array Value) (tv:TypeId) (hi:i<n) (hroom:n+1≤cap) (hc63:cap≤9223372036854775807) (hne:g≠vb) (hv1:1≤vc)
  (hg:w.heap[g]?=some (.cells cur 189 (0,0))) (hcs:cur.size=cap*5) (hv:w.heap[vb]?=some (.cells vcur tv (0,0))) (hvs:vcur.size=vc*5)
  (h1c:∀j v,j<n*5→cur[j]?=some v→v.oneCell'=true) (h1v:∀j v,j<5→vcur[j]?=some v→v.oneCell'=true) :
  Calls prog 276 #[.slice (some ⟨g,0,none⟩) n cap,.int .i64 i,.slice (some ⟨vb,0,none⟩) 1 vc] w fun e w' =>
   e=.returned (.slice (some ⟨g,0,none⟩) (n+1) cap)∧w'.heap[g]?=some (.cells (qx (qx cur.toList ((i+1)*5) ((cur.toList.take (n*5)).drop (i*5))) (i*5) (vcur.toList.take 5)).toArray 189 (0,0))∧Fr w (fun b=>b=g) w':=by
 have t3:=underlying3;have a3:=isAgg3;have z3:=sizeOf3;have v3:=zeroValue3
 have t4:=underlying4;have a4:=isAgg4;have z4:=sizeOf4;have v4:=zeroValue4
 have t24:=underlying238;have a24:=isAgg238;have z24:=sizeOf238;have v24:=zeroValue238
 have t9:=underlying189;have a9:=isAgg189;have z9:=sizeOf189
 have u3:=run_underlying t3;have u4:=run_underlying t4;have u24:=run_underlying t24
 have hz2:¬((i:Int)=(n:Int)):=by omega
 have hov:∀o lb cb,(callFunc 320 #[.slice (some ⟨vb,0,none⟩) 1 vc,.slice (some ⟨g,o,none⟩) lb cb]).run prog w=.ok (.value (.bool false)) w:=fun o lb cb=>by
  rw[run_callFunc_extern func320 (by kernel_rfl) (by kernel_rfl) (by kernel_rfl) (e:=Extern.SlicesOverlaps.overlaps #[238,238] #[4]) (by kernel_rfl),
   Lib.run_overlaps_apart w 238 4 189 t24 5 z9 ⟨vb,0,none⟩ ⟨g,o,none⟩ 1 vc lb cb (fun e=>hne e.symm) _ _ _ _ (Q8 hv) (Q8 hg) (by rw[hcs];omega) (YA hv 0) (YA hv _)]
  rfl
 have mixed:prog.follows .mixedOrders=true:=by kernel_rfl
 have hw1:IntKind.i64.wrap ((i:Int)+1)=(i:Int)+1:=by rw[IntKind.wrap_i64];omega
 have hw2:IntKind.i64.wrap ((n:Int)+1)=(n:Int)+1:=by rw[IntKind.wrap_i64];omega
 have hb1:(0:Int)≤(i:Int)+1:=by omega
 have hb5:(0:Int)≤(n:Int)+1:=by omega
 have hin:i≤n:=by omega
 have htn:((i:Int)+1).toNat=i+1:=by omega
 have htn2:((n:Int)+1).toNat=n+1:=by omega
 have hb2:¬(cap=i+1):=by omega
 have hb3:(i:Int)≤(n:Int)+1:=by omega
 have hb4:¬(cap=i):=by omega
 have hb6:¬((cap:Int)<(n:Int)+1):=by omega
 have hs5:zR prog 189=some 5:=Vd
 obtain⟨cs,hcsd⟩:∃cs,(cur.toList.take (n*5)).drop (i*5)=cs:=⟨_,rfl⟩
 obtain⟨vs,hvsd⟩:∃vs,vcur.toList.take 5=vs:=⟨_,rfl⟩
 have hcl:cs.length=(n - i)*5:=by rw[←hcsd];simp;omega
 have hvl:vs.length=1*5:=by rw[←hvsd];simp;omega
 have hcget:∀j v,cs[j]?=some v→cur[i*5+j]?=some v∧i*5+j<n*5:=fun j v hj=>by
  rw[←hcsd,List.getElem?_drop,List.getElem?_take] at hj
  split at hj
  ·exact⟨by simpa using hj,by assumption⟩
  ·cases hj
 have hvget:∀j v,vs[j]?=some v→vcur[j]?=some v∧j<5:=fun j v hj=>by
  rw[←hvsd,List.getElem?_take] at hj
  split at hj
  ·exact⟨by simpa using hj,by assumption⟩
  ·cases hj
 have hc1:∀v∈cs,v.oneCell'=true:=fun v hv=>by
  obtain⟨j,hj⟩:=List.mem_iff_getElem?.1 hv
  obtain⟨a,b⟩:=hcget j v hj
  exact h1c _ v b a
 have hv1':∀v∈vs,v.oneCell'=true:=fun v hv=>by
  obtain⟨j,hj⟩:=List.mem_iff_getElem?.1 hv
  obtain⟨a,b⟩:=hvget j v hj
  exact h1v _ v b a
 obtain⟨row1,hrow1⟩:∃row1,qx cur.toList ((i+1)*5) cs=row1:=⟨_,rfl⟩
 have hr1l:row1.length=cap*5:=by rw[←hrow1,qu (by rw[hcl,Array.length_toList,hcs];omega),Array.length_toList,hcs]
 have hcp1:∀ty dc sc,(Builtin.copy_ #[238,238] ty #[.slice (some ⟨g,(i+1)*5,none⟩) (n - i) dc,.slice (some ⟨g,i*5,none⟩) (n+1 - i) sc]).run prog w.drew=.ok (goInt ((n - i:Nat):Int)) (w.drew.setRow g row1.toArray):=fun ty dc sc=>by
  rw[←hrow1]
  exact wt w.drew _ _ ty 189 5 (n - i) g ((i+1)*5) (n - i) dc ⟨g,i*5,none⟩ (n+1 - i) sc cur 189 cs t24 hs5 hg (by simp only[Nat.min_def];split<;>omega) hcl
   (fun j v hj=>by rw[Addr.add_lit];exact (jn hg _).trans (hcget j v hj).1) (by rw[hcl,hcs];omega) hc1
 have hcp2:∀(W:World),W.heap[g]?=some (.cells row1.toArray 189 (0,0))→W.heap[vb]?=some (.cells vcur tv (0,0))→∀ty dc,(Builtin.copy_ #[238,238] ty #[.slice (some ⟨g,i*5,none⟩) (n+1 - i) dc,.slice (some ⟨vb,0,none⟩) 1 vc]).run prog W=.ok (goInt ((1:Nat):Int)) (W.setRow g (qx row1 (i*5) vs).toArray):=fun W hWg hWv ty dc=>by
  have:=wt W 238 238 ty 189 5 1 g (i*5) (n+1 - i) dc ⟨vb,0,none⟩ 1 vc row1.toArray 189 vs t24 hs5 hWg (by simp only[Nat.min_def];split<;>omega) hvl
   (fun j v hj=>by rw[Addr.add_lit,Nat.zero_add];exact (jn hWv _).trans (hvget j v hj).1) (by rw[hvl,List.size_toArray,hr1l];omega) hv1'
  exact this
 have hWg:(w.drew.setRow g row1.toArray).heap[g]?=some (.cells row1.toArray 189 (0,0)):=setRow_heap _ _ _ _ _ _ hg
 have hWv:(w.drew.setRow g row1.toArray).heap[vb]?=some (.cells vcur tv (0,0)):=(yn _ (fun e=>hne e.symm)).trans hv
 have hfin:∀W,W=(w.drew.setRow g row1.toArray).setRow g (qx row1 (i*5) vs).toArray→W.heap[g]?=some (.cells (qx row1 (i*5) vs).toArray 189 (0,0))∧Fr w (fun b=>b=g) W:=fun W e=>by
  subst e
  refine⟨setRow_heap _ _ _ _ _ _ hWg,?_⟩
  exact ((Fr.drew w (fun b=>b=g)).trans (Q9 w.drew g _) fun _ _ h=>h).trans (Q9 _ g _) fun _ _ h=>h
 rw[hcsd,hvsd,hrow1]
 clear hcsd hvsd hcl hvl hcget hvget hc1 hv1' hrow1 hr1l
 go_enter func276,Tryz.ntmps276
 go_wp2_with (simp only[hov])
 go_region_law_o (refine step_copy_runI rfl _ _ 238 238 rfl _ _ (by simp[Act.eval,Act.put]) (by simp[Act.eval,Act.put]) (hcp1 _ _ _) ?_)
 go_wp2_with (at_builtin;refine wpList_copy_runI _ rfl _ _ 238 238 rfl _ _ rfl rfl (hcp2 _ hWg hWv _ _) ?_)
 go_ret
 exact⟨rfl,hfin _ rfl⟩
set_option maxHeartbeats 4000000 in
set_option maxRecDepth 100000 in
theorem insC_grow (w:World) (g vb n i cap vc:Nat) (cur vcur:Array Value) (tv:TypeId) (hi:i<n) (hnc:n≤cap) (hroom:cap<n+1) (hbig:(n+1)*56≤140737488355328) (hv1:1≤vc)
  (hg:w.heap[g]?=some (.cells cur 189 (0,0))) (hcs:cur.size=cap*5) (hv:w.heap[vb]?=some (.cells vcur tv (0,0))) (hvs:vcur.size=vc*5)
  (h1c:∀j v,j<n*5→cur[j]?=some v→v.oneCell'=true) (h1v:∀j v,j<5→vcur[j]?=some v→v.oneCell'=true) :
  Calls prog 276 #[.slice (some ⟨g,0,none⟩) n cap,.int .i64 i,.slice (some ⟨vb,0,none⟩) 1 vc] w fun e w' =>
   ∃(G:Nat) (R:List Value),n+1≤G∧G≤maxLen∧R.length=G*5∧(∀j,j<i*5→R[j]?=(cur.toList.take (i*5))[j]?)∧e=.returned (.slice (some ⟨w.heap.size,0,none⟩) (n+1) G) ∧
    w'.heap[w.heap.size]?=some (.cells (qx (qx R (i*5) (vcur.toList.take 5)) ((i+1)*5) ((cur.toList.take (n*5)).drop (i*5))).toArray 189 (0,0))∧Fr w (fun b=>b=w.heap.size) w':=by
 have t3:=underlying3;have a3:=isAgg3;have z3:=sizeOf3;have v3:=zeroValue3
 have t4:=underlying4;have a4:=isAgg4;have z4:=sizeOf4;have v4:=zeroValue4
 have t24:=underlying238;have a24:=isAgg238;have z24:=sizeOf238;have v24:=zeroValue238
 have t9:=underlying189;have a9:=isAgg189;have z9:=sizeOf189
 have u3:=run_underlying t3;have u4:=run_underlying t4;have u24:=run_underlying t24
 obtain⟨i0,z0,hi0,hz0,his,hib,hzc⟩:=zcc (P:=prog) Vd zcp zcq rfl
 have hz2:¬((i:Int)=(n:Int)):=by omega
 have hz3:(cap:Int)<(n:Int)+1:=by omega
 have mixed:prog.follows .mixedOrders=true:=by kernel_rfl
 have hw1:IntKind.i64.wrap ((i:Int)+1)=(i:Int)+1:=by rw[IntKind.wrap_i64];omega
 have hw2:IntKind.i64.wrap ((n:Int)+1)=(n:Int)+1:=by rw[IntKind.wrap_i64];omega
 have hw3:IntKind.i64.wrap ((n:Int)+1 - i)=(n:Int)+1 - i:=by rw[IntKind.wrap_i64];omega
 have hb1:(0:Int)≤(i:Int)+1:=by omega
 have hin:i≤n:=by omega
 have htn:((i:Int)+1).toNat=i+1:=by omega
 have hkk:(n:Int)+1 - (i:Int)=((n+1 - i:Nat):Int):=by omega
 have hik:i+(n+1 - i)=n+1:=by omega
 have hb3:(i:Int)≤(n:Int):=by omega
 have hbw:g<w.heap.size:=(Array.getElem?_eq_some_iff.1 hg).1
 have hvw:vb<w.heap.size:=(Array.getElem?_eq_some_iff.1 hv).1
 have hs5:zR prog 189=some 5:=Vd
 obtain⟨olds,hod⟩:∃olds,cur.toList.take (i*5)=olds:=⟨_,rfl⟩
 obtain⟨cs,hcsd⟩:∃cs,(cur.toList.take (n*5)).drop (i*5)=cs:=⟨_,rfl⟩
 obtain⟨vs,hvsd⟩:∃vs,vcur.toList.take 5=vs:=⟨_,rfl⟩
 have hol:olds.length=i*5:=by rw[←hod];simp;omega
 have hcl:cs.length=(n - i)*5:=by rw[←hcsd];simp;omega
 have hvl:vs.length=1*5:=by rw[←hvsd];simp;omega
 have hoget:∀j v,olds[j]?=some v→cur[j]?=some v:=fun j v hj=>by
  rw[←hod,List.getElem?_take] at hj
  split at hj
  ·simpa using hj
  ·cases hj
 have hcget:∀j v,cs[j]?=some v→cur[i*5+j]?=some v∧i*5+j<n*5:=fun j v hj=>by
  rw[←hcsd,List.getElem?_drop,List.getElem?_take] at hj
  split at hj
  ·exact⟨by simpa using hj,by assumption⟩
  ·cases hj
 have hvget:∀j v,vs[j]?=some v→vcur[j]?=some v∧j<5:=fun j v hj=>by
  rw[←hvsd,List.getElem?_take] at hj
  split at hj
  ·exact⟨by simpa using hj,by assumption⟩
  ·cases hj
 have hc1:∀v∈cs,v.oneCell'=true:=fun v hv=>by
  obtain⟨j,hj⟩:=List.mem_iff_getElem?.1 hv
  obtain⟨a,b⟩:=hcget j v hj
  exact h1c _ v b a
 have hv1':∀v∈vs,v.oneCell'=true:=fun v hv=>by
  obtain⟨j,hj⟩:=List.mem_iff_getElem?.1 hv
  obtain⟨a,b⟩:=hvget j v hj
  exact h1v _ v b a
 have hold:(Builtin.firstCells i0.size i (.slice (some ⟨g,0,none⟩) i cap)).run prog w.drew=.ok olds.toArray w.drew:=by
  rw[his]
  exact run_firstCells_some w.drew 5 i ⟨g,0,none⟩ i cap olds hol (fun j v hj=>by
   rw[Addr.add_lit,Nat.zero_add]
   exact (jn hg j).trans (hoget j v hj))
 obtain⟨G,hG⟩:∃G,grownCap w (n+1) cap 189=G:=⟨_,rfl⟩
 obtain⟨ROW,hROW⟩:∃ROW,olds.toArray++Builtin.zeroCells z0.cells (n+1 - i)++Builtin.zeroCells z0.cells (G - (n+1))=ROW:=⟨_,rfl⟩
 have hGn:n+1≤G:=by rw[←hG];exact grownCap_ge w _ _ _
 have hGm:G≤maxLen:=by rw[←hG];exact grownCap_le_maxLen w (n+1) cap 189 (by unfold maxLen;omega)
 have hrz:∀ty,(Builtin.append_ #[238,3] ty #[.slice (some ⟨g,0,none⟩) i cap,.int .i64 ((n:Int)+1 - (i:Int))]).run prog w =
   .ok (.slice (some ⟨w.heap.size,0,none⟩) (n+1) G) (w.drew.alloc (.cells ROW 189)):=fun ty=>by
  have h:=Lib.run_append_grow_zeros w 238 3 ty 189 i0 z0 .i64 .i64 t24 t3 hi0 hz0 (some ⟨g,0,none⟩) i cap olds hold (n+1 - i) (by omega) (by omega) (by omega) (by omega) (by rw[hib];omega) (by rw[hib,hik];exact growslice_fits hroom hbig)
  rw[hik,hG,hROW] at h
  rw[hkk]
  exact h
 have hRl:ROW.size=G*5:=by
  rw[←hROW,Array.size_append,Array.size_append,size_zeroCells,size_zeroCells,hzc,List.size_toArray,hol]
  omega
 have hRo:∀j,j<i*5→ROW.toList[j]?=olds[j]?:=fun j hj=>by
  rw[←hROW]
  rw[Array.toList_append,Array.toList_append,List.append_assoc]
  exact List.getElem?_append_left (show j<olds.length by omega)
 obtain⟨N,hN⟩:∃N,w.heap.size=N:=⟨_,rfl⟩
 obtain⟨W1,hW1⟩:∃W1,w.drew.alloc (.cells ROW 189)=W1:=⟨_,rfl⟩
 have hW1N:W1.heap[N]?=some (.cells ROW 189 (0,0)):=by rw[←hW1,←hN];exact zak (w:=w.drew) _
 have hW1g:W1.heap[g]?=some (.cells cur 189 (0,0)):=by rw[←hW1];exact (vE (w:=w.drew) _ hbw).trans hg
 have hW1v:W1.heap[vb]?=some (.cells vcur tv (0,0)):=by rw[←hW1];exact (vE (w:=w.drew) _ hvw).trans hv
 obtain⟨row1,hrow1⟩:∃row1,qx ROW.toList (i*5) vs=row1:=⟨_,rfl⟩
 have hr1l:row1.length=G*5:=by rw[←hrow1,qu (by rw[hvl,Array.length_toList,hRl];omega),Array.length_toList,hRl]
 have hcpA:∀(W:World),W.heap[N]?=some (.cells ROW 189 (0,0))→W.heap[vb]?=some (.cells vcur tv (0,0))→∀ty dc,(Builtin.copy_ #[238,238] ty #[.slice (some ⟨N,i*5,none⟩) (n+1 - i) dc,.slice (some ⟨vb,0,none⟩) 1 vc]).run prog W=.ok (goInt ((1:Nat):Int)) (W.setRow N row1.toArray):=fun W hWg hWv ty dc=>by
  rw[←hrow1]
  have:=wt W 238 238 ty 189 5 1 N (i*5) (n+1 - i) dc ⟨vb,0,none⟩ 1 vc ROW 189 vs t24 hs5 hWg (by simp only[Nat.min_def];split<;>omega) hvl
   (fun j v hj=>by rw[Addr.add_lit,Nat.zero_add];exact (jn hWv _).trans (hvget j v hj).1) (by rw[hvl,hRl];omega) hv1'
  exact this
 have hcpB:∀(W:World),W.heap[N]?=some (.cells row1.toArray 189 (0,0))→W.heap[g]?=some (.cells cur 189 (0,0))→∀ty dc sc,(Builtin.copy_ #[238,238] ty #[.slice (some ⟨N,(i+1)*5,none⟩) (n - i) dc,.slice (some ⟨g,i*5,none⟩) (n - i) sc]).run prog W=.ok (goInt ((n - i:Nat):Int)) (W.setRow N (qx row1 ((i+1)*5) cs).toArray):=fun W hWg hWv ty dc sc=>by
  have:=wt W 238 238 ty 189 5 (n - i) N ((i+1)*5) (n - i) dc ⟨g,i*5,none⟩ (n - i) sc row1.toArray 189 cs t24 hs5 hWg (by simp only[Nat.min_def];split<;>omega) hcl
   (fun j v hj=>by rw[Addr.add_lit];exact (jn hWv _).trans (hcget j v hj).1) (by rw[hcl,List.size_toArray,hr1l];omega) hc1
  exact this
 have hgN:g≠N:=by omega
 have hvN:vb≠N:=by omega
 have hW2N:(W1.setRow N row1.toArray).heap[N]?=some (.cells row1.toArray 189 (0,0)):=setRow_heap _ _ _ _ _ _ hW1N
 have hW2g:(W1.setRow N row1.toArray).heap[g]?=some (.cells cur 189 (0,0)):=(yn _ hgN).trans hW1g
 have hfin:∀W:World,W.heap=((W1.setRow N row1.toArray).setRow N (qx row1 ((i+1)*5) cs).toArray).heap→W.os=w.os→W.tape=w.tape→W.output=w.output→w.drawn≤W.drawn→W.heap[N]?=some (.cells (qx row1 ((i+1)*5) cs).toArray 189 (0,0))∧Fr w (fun b=>b=N) W:=fun W e1 e2 e3 e4 e5=>by
  refine⟨by rw[e1];exact setRow_heap _ _ _ _ _ _ hW2N,e2,e3,e4,?_,e5,fun k hk hn=>?_⟩
  ·rw[e1,←hW1]
   rw[setRow_size,setRow_size,KX]
   exact Nat.le_succ _
  ·rw[e1,yn _ hn,yn _ hn,←hW1]
   exact vE (w:=w.drew) _ hk
 have hm1:G≤9223372036854775807:=by unfold maxLen at hGm;omega
 have hGi:¬(G=i):=by omega
 have hGim:¬(G=i+1):=by omega
 have hci:¬(cap=i):=by omega
 rw[hN,hcsd,hvsd,hod]
 rw[hN,hW1] at hrz
 clear hcsd hvsd hod hcl hvl hol hcget hvget hoget hc1 hv1' hold hG hROW hkk hik hi0 hz0 his hib hzc hr1l
 go_enter func276,Tryz.ntmps276
 go_wp2_with (first
  | (at_builtin;refine Lib.wpList_append_run _ rfl _ _ _ _ rfl _ _ rfl rfl _ _ (hrz _) ?_)
  | (at_builtin;refine wpList_copy_runI _ rfl _ _ 238 238 rfl _ _ rfl rfl (hcpA _ hW1N hW1v _ _) ?_)
  | (at_builtin;refine wpList_copy_runI _ rfl _ _ 238 238 rfl _ _ rfl rfl (hcpB _ hW2N hW2g _ _ _) ?_))
 go_region_law_o (refine step_copy_runI rfl _ _ 238 238 rfl (.slice (some ⟨N,(i+1)*5,none⟩) (n - i) (G - (i+1))) (.slice (some ⟨g,i*5,none⟩) (n - i) (cap - i)) (by simp[Act.eval,Act.put]) (by simp[Act.eval,Act.put]) (hcpB (W1.setRow N row1.toArray).drew hW2N hW2g 3 (G - (i+1)) (cap - i)) ?_)
 go_wp2
 go_ret
 subst hW1
 subst hrow1
 refine⟨G,ROW.toList,hGn,hGm,by simpa using hRl,hRo,rfl,?_⟩
 refine hfin _ ?_ ?_ ?_ ?_ ?_
 ·rfl
 ·rfl
 ·rfl
 ·rfl
 ·first | exact Nat.le_succ _ | exact Nat.le_trans (Nat.le_succ _) (Nat.le_succ _)
theorem insC_ok:zep prog 276 189 5 56:=by
 intro w g vb n i cap vc cur vcur tv hi hnc hcm hnm hbig hne hv1 hvm hg hcs hv hvs h1c h1v
 have hvl:(vcur.toList.take 5).length=5:=by simp;omega
 have hcl:((cur.toList.take (n*5)).drop (i*5)).length=(n - i)*5:=by simp;omega
 unfold maxLen at hcm
 by_cases hroom:n+1≤cap
 ·refine (insC_shift w g vb n i cap vc cur vcur tv hi hroom hcm hne hv1 hg hcs hv hvs h1c h1v).mono fun e w' hh=>?_
  obtain⟨rfl,h1,h2⟩:=hh
  refine⟨g,cap,_,hroom,by unfold maxLen;exact hcm,rfl,.inl rfl,h1,?_,h2,fun j hj=>?_⟩
  ·rw[List.size_toArray,qu (by rw[qu (by rw[hcl,Array.length_toList,hcs];omega),hvl,Array.length_toList,hcs];omega),qu (by rw[hcl,Array.length_toList,hcs];omega),Array.length_toList,hcs]
  ·have:=zaj (l:=cur.toList) (vs:=vcur.toList.take 5) (n:=n) (i:=i) (s:=5) (by omega) (by rw[Array.length_toList,hcs];omega) hvl j hj
   simpa using this
 ·refine (insC_grow w g vb n i cap vc cur vcur tv hi hnc (by omega) hbig hv1 hg hcs hv hvs h1c h1v).mono fun e w' hh=>?_
  obtain⟨G,R,g1,g2,g3,g4,rfl,h1,h2⟩:=hh
  have hol:(cur.toList.take (i*5)).length=i*5:=by simp;omega
  have e1:(i+1)*5=i*5+(vcur.toList.take 5).length:=by rw[hvl];omega
  rw[e1] at h1
  refine⟨w.heap.size,G,_,g1,g2,rfl,.inr (Nat.le_refl _),h1,?_,h2,fun j hj=>?_⟩
  ·rw[List.size_toArray,qu (by rw[qu (by rw[hvl];omega),hcl,hvl];omega),qu (by rw[hvl];omega),g3]
  ·have:=zcb (R:=R) (olds:=cur.toList.take (i*5)) (vs:=vcur.toList.take 5) (cs:=(cur.toList.take (n*5)).drop (i*5)) (I:=i*5) hol g4 (by rw[hvl,hcl,g3];omega) j (by rw[hvl,hcl];omega)
   simpa using this
end Go.Proofs.YtdkfdoeijcfbhaaGreatDoor
namespace Go.Proofs.YtdkfdoeijcfbhaaGreatDoor
open Go.Proofs.Tryz
open Go.RowKit Go.AM
noncomputable def insC (c:Cut):List Cut→List Cut
 | []=>[c]
 | a::l=>if cmpC a c<0 then a::insC c l else if cmpC a c=0 then a::l else c::a::l
theorem zaN (c:Cut):∀(l:List Cut) (i:Nat),i≤l.length→(∀j (h:j<l.length),j<i→cmpC l[j] c<0)→(∀h:i<l.length,¬cmpC l[i] c<0)→((∃h:i<l.length,cmpC l[i] c=0)→insC c l=l)∧((∀h:i<l.length,cmpC l[i] c≠0)→insC c l=l.take i++c::l.drop i)
 | [],i,hi,_,_=>by
   obtain rfl:i=0:=by simpa using hi
   exact⟨fun⟨h,_⟩=>absurd h (by simp),fun _=>rfl⟩
 | a::l,0,_,_,h2=>by
   have h:=h2 (by simp)
   simp only[List.getElem_cons_zero] at h
   refine⟨fun⟨_,e⟩=>?_,fun hn=>?_⟩
   ·simp only[List.getElem_cons_zero] at e
    simp only[insC]
    rw[if_neg h,if_pos e]
   ·have:=hn (by simp)
    simp only[List.getElem_cons_zero] at this
    simp only[insC]
    rw[if_neg h,if_neg this]
    rfl
 | a::l,i+1,hi,h1,h2=>by
   have ha:=h1 0 (by simp) (by omega)
   simp only[List.getElem_cons_zero] at ha
   obtain⟨k1,k2⟩:=zaN c l i (by simpa using hi) (fun j hj hji=>h1 (j+1) (by simpa using hj) (by omega)) (fun h=>h2 (by simpa using h))
   simp only[insC]
   rw[if_pos ha]
   refine⟨fun⟨h,e⟩=>?_,fun hn=>?_⟩
   ·rw[k1 ⟨by simpa using h,e⟩]
   ·rw[k2 fun h=>hn (by simpa using h)]
    rfl
theorem VU {c:Cut}:∀{l:List Cut},(∀a∈l,cmpC a c=0→a=c)→∀x,x∈insC c l↔x=c∨x∈l
 | [],_,x=>by simp[insC]
 | a::l,h,x=>by
   simp only[insC]
   split
   ·rw[List.mem_cons,VU (fun b hb=>h b (by simp[hb])) x,List.mem_cons]
    constructor
    ·rintro (h | h | h)
     ·exact .inr (.inl h)
     ·exact .inl h
     ·exact .inr (.inr h)
    ·rintro (h | h | h)
     ·exact .inr (.inl h)
     ·exact .inl h
     ·exact .inr (.inr h)
   ·split
    ·rename_i e
     have:=h a (by simp) e
     subst this
     simp
    ·simp
theorem JU {c:Cut}:∀{l:List Cut},(l.Pairwise fun a b=>cmpC a b<0)→(∀a∈l,cmpC a c=0→a=c)→(insC c l).Pairwise fun a b=>cmpC a b<0
 | [],_,_=>by simp[insC]
 | a::l,h,he=>by
   obtain⟨h1,h2⟩:=List.pairwise_cons.1 h
   simp only[insC]
   split
   ·rename_i hac
    refine List.pairwise_cons.2 ⟨fun x hx=>?_,JU h2 fun b hb=>he b (by simp[hb])⟩
    rcases (VU (fun b hb=>he b (by simp[hb])) x).1 hx with rfl | hx
    ·exact hac
    ·exact h1 x hx
   ·rename_i hac
    split
    ·exact h
    ·rename_i hne
     have hca:cmpC c a<0:=by
      have:=cmpC_to.notlt hac
      rcases Int.lt_or_eq_of_le this with h | h
      ·exact h
      ·exact absurd ((cmpC_to.eq a c).2 h) hne
     refine List.pairwise_cons.2 ⟨fun x hx=>?_,h⟩
     rcases List.mem_cons.1 hx with rfl | hx
     ·exact hca
     ·exact cmpC_to.trans hca (h1 x hx)
noncomputable def yp (l:List Cut):List Cut:=l.foldl (fun o c=>insC c o) []
theorem JV:∀(l o:List Cut),(∀a∈l,a.good)→(∀a∈o,a.good)→(o.Pairwise fun a b=>cmpC a b<0)→((l.foldl (fun o c=>insC c o) o).Pairwise fun a b=>cmpC a b<0)∧∀x,x∈l.foldl (fun o c=>insC c o) o↔x∈l∨x∈o
 | [],o,_,_,ho=>⟨ho,fun x=>by simp⟩
 | c::l,o,hl,hg,ho=>by
   have hc:=hl c (by simp)
   have he:∀a∈o,cmpC a c=0→a=c:=fun a ha h=>VL (hg a ha) hc h
   have hm:=VU (l:=o) he
   obtain⟨h1,h2⟩:=JV l (insC c o) (fun a ha=>hl a (by simp[ha])) (fun a ha=>by
    rcases (hm a).1 ha with rfl | h
    ·exact hc
    ·exact hg a h) (JU ho he)
   simp only[List.foldl_cons]
   refine⟨h1,fun x=>?_⟩
   rw[h2 x,hm x,List.mem_cons]
   constructor
   ·rintro (h | h | h)
    ·exact .inl (.inr h)
    ·exact .inl (.inl h)
    ·exact .inr h
   ·rintro ((h | h) | h)
    ·exact .inr (.inl h)
    ·exact .inl h
    ·exact .inr (.inr h)
theorem WJ:∀(l o:List Cut),(l.foldl (fun o c=>insC c o) o).length≤o.length+l.length
 | [],o=>by simp
 | c::l,o=>by
   have key:∀o:List Cut,(insC c o).length≤o.length+1:=by
    intro o
    induction o with
    | nil=>simp[insC]
    | cons a o ih =>
      simp only[insC]
      split
      ·simp only[List.length_cons];omega
      ·split<;>simp
   have:=WJ l (insC c o)
   have:=key o
   simp only[List.foldl_cons,List.length_cons]
   omega
theorem insAll_eq {a b:List Str} (ha:goodR a) (hb:goodR b):yp (zT (a++b))=zaJ a b:=by
 rw[jQ]
 have hg:∀c∈zT a++zT b,c.good:=fun c hc=>by
  rcases List.mem_append.1 hc with h | h
  ·exact Q3 ha c h
  ·exact Q3 hb c h
 obtain⟨h1,h2⟩:=JV (zT a++zT b) [] hg (fun a ha=>by cases ha) .nil
 refine Xz _ _ h1 (xU ha hb) fun c=>?_
 unfold yp
 rw[h2 c,xT,List.mem_append]
 simp
theorem comb_ins (f:Bool→Bool→Bool) {a b:List Str} (ha:goodR a) (hb:goodR b):yC f a b=(swL (fun c=>f (covA a c) (covA b c)) (yp (zT (a++b))) (false,[])).2:=by
 rw[insAll_eq ha hb]
 unfold yC zaJ
 rw[Vv]
theorem zal {hp:Hp} {nx e s by_ i:Nat} {v:PV} {xs:List (List PV)} {c:List PV} (h:OwnS hp nx e s v xs) (hi:i<xs.length) (hb:(xs.length+1)*by_≤140737488355328) (hm:xs.length+1≤maxLen) :
  zai e s by_ [v,int i,.own nx 0 1] (upd hp nx (some ⟨e,s,true,[c]⟩)) (nx+1)=some (.own (nx+1) 0 (xs.length+1),upd (vn v (upd hp nx (some ⟨e,s,true,[c]⟩))) (nx+1) (some ⟨e,s,true,xs.take i++c::xs.drop i⟩),nx+2):=by
 obtain⟨id,hid,rfl,hh⟩:=h.at_ (by omega)
 have n1:id≠nx:=by omega
 have hh':upd hp nx (some ⟨e,s,true,[c]⟩) id=some ⟨e,s,true,xs⟩:=by rw[zl _ _ _ _ n1];exact hh
 have hi':(i:Int)<xs.length:=by omega
 unfold zai
 simp only[hh',qb]
 rw[if_pos (by refine⟨n1,?_,?_,?_,?_,?_,?_,?_,hi',hb,hm⟩<;>first | trivial | rfl | omega)]
 simp[vn]
theorem zcd {hp:Hp} {nx e s by_:Nat} {v:PV} {xs:List (List PV)} {b:Option Blk} (h:OwnS hp nx e s v xs):zai e s by_ [v,int (xs.length:Nat),.own nx 0 1] (upd hp nx b) (nx+1)=none:=by
 rcases h with⟨rfl,rfl⟩ | ⟨id,hid,rfl,hh⟩
 ·rfl
 ·unfold zai
  simp only
  split
  ·split
   ·rw[if_neg (fun hk=>by have:=hk.2.2.2.2.2.2.2.2.1;omega)]
   ·rfl
  ·rfl
theorem insC_end {hp:Hp} {nx:Nat} {v:PV} {xs:List (List PV)} {c:List PV} (h:OwnS hp nx 189 5 v xs) (hm:xs.length≤4194304) :
  hRun C0 f276 [v,int (xs.length:Nat),.own nx 0 1] (upd hp nx (some ⟨189,5,true,[c]⟩)) (nx+1)=some (.own (nx+1) 0 (xs.length+1),upd (vn v (upd hp nx (some ⟨189,5,true,[c]⟩))) (nx+1) (some ⟨189,5,true,xs++[c]⟩),nx+2):=by
 unfold hRun
 rw[if_pos (by simp[f276])]
 refine wK rfl ?_
 have hap:=OwnS.append1 (P:=prog) (t:=238) (c:=c) h Xi Vd zcp zcq rfl (by omega) (by unfold maxLen;omega) (by omega)
 rcases h with⟨rfl,rfl⟩ | ⟨id,hid,rfl,hh⟩
 ·simp at hap
  simp[qS,hap,f276]
 ·have n1:¬id=nx:=by omega
  simp[qS,hap,hh,n1,f276]
noncomputable abbrev zdF:AM.Spec:=hIns C0 f276 189 5 56
set_option maxRecDepth 100000 in
theorem insCS_sound:za prog 276 zdF :=
 KW (JT ⟨_,func276,by decide,by kernel_rfl⟩ Vd (by decide) insC_ok) (ql (code:=_) qA ⟨func276,by kernel_rfl,rfl,by kernel_rfl⟩)
theorem insCS_call {hp:Hp} {nx i:Nat} {v:PV} {xs:List (List PV)} {c:List PV} (h:OwnS hp nx 189 5 v xs) (hi:i≤xs.length) (hm:xs.length≤4194304) :
  zdF [v,int i,.own nx 0 1] (upd hp nx (some ⟨189,5,true,[c]⟩)) (nx+1)=some (.own (nx+1) 0 (xs.length+1),upd (vn v (upd hp nx (some ⟨189,5,true,[c]⟩))) (nx+1) (some ⟨189,5,true,xs.take i++c::xs.drop i⟩),nx+2):=by
 unfold zdF hIns
 by_cases hlt:i<xs.length
 ·rw[zal h hlt (by omega) (by unfold maxLen;omega)]
 ·obtain rfl:i=xs.length:=by omega
  rw[zcd h]
  simp only
  rw[insC_end h hm,List.take_length,List.drop_length]
noncomputable def insR (l:List Cut):Option Blk:=if yp l=[] then none else some ⟨189,5,true,z8 (yp l)⟩
noncomputable abbrev Crsc:Ctx:=zF prog [(275,zJ [.g cpat,.g cpat] (FCC fun v w=>int (cmpC v w))),(276,zdF)]
theorem goodrsc:AM.Good Crsc (fun g=>[275].contains g):=zk mixed ⟨yW,fun _=>qF _ _,insCS_sound,by simp,trivial⟩
theorem JW {l:List Cut} {k:Nat} (h:k<l.length):yp (l.take (k+1))=insC l[k] (yp (l.take k)):=by
 unfold yp
 rw[List.take_succ_eq_append_getElem h,List.foldl_append]
 rfl
theorem zce {c:Cut}:∀{l:List Cut} {x:Cut},x∈insC c l→x=c∨x∈l
 | [],x,h=>by simp only[insC,List.mem_singleton] at h;exact .inl h
 | a::l,x,h=>by
   simp only[insC] at h
   split at h
   ·rcases List.mem_cons.1 h with rfl | h
    ·exact .inr (by simp)
    ·exact (zce h).imp id fun h=>by simp[h]
   ·split at h
    ·exact .inr h
    ·rcases List.mem_cons.1 h with rfl | h
     ·exact .inl rfl
     ·exact .inr h
theorem WK:∀{l o:List Cut} {x:Cut},x∈l.foldl (fun o c=>insC c o) o→x∈l∨x∈o
 | [],o,x,h=>.inr h
 | c::l,o,x,h=>by
   rw[List.foldl_cons] at h
   rcases WK h with h | h
   ·exact .inl (by simp[h])
   ·rcases zce h with rfl | h
    ·exact .inl (by simp)
    ·exact .inr h
theorem insC_ne (c:Cut) (l:List Cut):insC c l≠[]:=by
 cases l with
 | nil=>simp[insC]
 | cons a l=>simp only[insC];split<;>(try split)<;>simp
theorem insAll_ne {l:List Cut} (h:yp l=[]):l.length=0:=by
 cases hl:l.length with
 | zero=>rfl
 | succ k =>
   have hk:k<l.length:=by omega
   have:=JW hk
   rw[List.take_of_length_le (by omega),h] at this
   exact absurd this.symm (insC_ne _ _)
theorem Wa (l:List Cut):(z8 l).length=l.length:=by simp[z8]
theorem encCs_ins (o:List Cut) (i:Nat) (c:Cut):(z8 o).take i++c.enc::(z8 o).drop i=z8 (o.take i++c::o.drop i):=by simp[z8]
set_option maxHeartbeats 4000000 in
theorem rsorted_eval (l:List Cut) (hs:∀c∈l,c.v.small) (hl:l.length≤4194304):∃x hp nx,qH Crsc f213 [.sl 5 (z8 l)] (fun _=>none) 0=some (x,hp,nx)∧zc2 cpat (insR l) x hp nx:=by
 refine zD rfl ?_
 have hel:=Wa l
 simp[hel]
 refine zq (fun k σ hp nx=>σ 7=.sl 5 (z8 l)∧σ 8=int l.length∧σ 9=int k∧OwnS hp nx 189 5 (σ 3) (z8 (yp (l.take k)))∧(k=0→σ 3=.nil)) l.length
  ⟨by simp,by simp,by simp,.inl ⟨by simp,by simp[yp,z8]⟩,by simp⟩ ?_
 rintro k σ hp nx hk ⟨h7,h8,h9,hO,h0⟩
 have hol:=WJ (l.take k) []
 have hall:yp (l.take k)=(l.take k).foldl (fun o c=>insC c o) []:=rfl
 rw[←hall,List.length_nil,List.length_take] at hol
 have hosm:∀x∈yp (l.take k),x.v.small:=fun x hx=>by
  rw[hall] at hx
  rcases WK hx with h | h
  ·exact hs x (List.mem_of_mem_take h)
  ·cases h
 by_cases hlt:k<l.length
 ·obtain⟨c,hc⟩:∃c,l[k]=c:=⟨_,rfl⟩
  have hcs:c.v.small:=hs c (by rw[←hc];exact List.getElem_mem hlt)
  have hke:∀h:k<(z8 l).length,(z8 l)[k]=c.enc:=fun h=>by simp[z8,hc]
  have hwk:IntKind.i64.wrap ((k:Int)+1)=(k:Int)+1:=zc (by omega) (by omega)
  have htk:=JW hlt
  rw[hc] at htk
  obtain⟨o,ho⟩:∃o,yp (l.take k)=o:=⟨_,rfl⟩
  rw[ho] at hO hol hosm htk
  have heo:=Wa o
  obtain⟨P,hP⟩:∃P,nx=P:=⟨_,rfl⟩
  obtain⟨v,hv⟩:∃v,σ 3=v:=⟨_,rfl⟩
  rw[hv] at hO
  simp only[Cut.enc] at hke
  simp[h7,h8,h9,hlt,hel,hke]
  rw[hP] at hO ⊢
  refine zq (fun i σ hp nx=>σ 7=.sl 5 (z8 l)∧σ 8=int l.length∧σ 9=int k∧σ 3=v∧σ 5=.ref P 0 0∧σ 6=int i∧P<nx∧hp P=some ⟨189,5,false,[c.enc]⟩∧OwnS hp nx 189 5 v (z8 o)∧∀j (h:j<o.length),j<i→cmpC o[j] c<0) o.length
   ⟨by simp[h7],by simp[h8],by simp[h9],by simp[hv],by simp,by simp,(by show P<P+1;omega),by simp[Cut.enc],hO.more _,fun j _ h=>absurd h (by omega)⟩ ?_
  clear h7 h8 h9 h0 hv hO σ hp hP nx
  rintro i σ hp nx hi ⟨h7,h8,h9,h3,h5,h6,hPn,bP,hO,hbef⟩
  have hwi:IntKind.i64.wrap ((i:Int)+1)=(i:Int)+1:=zc (by omega) (by omega)
  have hlen:=hO.len Xi
  rw[heo] at hlen
  simp only[Cut.enc] at bP
  have nP:¬P=nx:=by omega
  have hins:=fun (hi:i≤o.length)=>insCS_call (i:=i) (c:=[int c.v.a,int c.v.b,int c.v.c,.sl 1 (encT c.v.pre),boo c.after]) hO (by rw[heo];exact hi) (by rw[heo];omega)
  rw[heo] at hins
  have hrow:=encCs_ins o i c
  simp only[Cut.enc] at hrow
  rw[hrow] at hins
  have hfin:∀o',insC c o=o'→yp (l.take (k+1))=o':=fun o' e=>by rw[htk,e]
  by_cases hit:i<o.length
  ·obtain⟨id,hid,hve,hb⟩:=hO.at_ (by rw[heo];omega)
   obtain⟨q,hq⟩:∃q,o[i]=q:=⟨_,rfl⟩
   have hqs:q.v.small:=hosm q (by rw[←hq];exact List.getElem_mem hit)
   have hoe:∀h:i<(z8 o).length,(z8 o)[i]=q.enc:=fun h=>by simp[z8,hq]
   have hcc:=fun hp nx=>Zj q c hp nx hqs hcs
   simp only[Cut.enc] at hoe hcc
   have hat:=zaN c o i (by omega) hbef
   by_cases hlt2:cmpC q c<0
   ·subst hve
    simp[h7,h8,h9,h3,h5,h6,hlen,heo,hit,hb,hoe,bP,hcc,hlt2,hwi]
    have hbef':∀j (h:j<o.length),j<i+1→cmpC o[j] c<0:=fun j h hj=>by
     rcases Nat.lt_or_ge j i with h1 | h1
     ·exact hbef j h h1
     ·obtain rfl:j=i:=by omega
      rw[hq];exact hlt2
    exact⟨by omega,hPn,rfl,(by rw[heo] at hO;exact hO),hbef'⟩
   ·have hat':=hat fun _=>by rw[hq];exact hlt2
    by_cases hz:cmpC q c=0
    ·have h1:=hat'.1 ⟨hit,by rw[hq];exact hz⟩
     have hi1:((i:Int)==o.length)=false:=by rw[beq_eq_false_iff_ne];omega
     subst hve
     simp[h7,h8,h9,h3,h5,h6,hlen,heo,hit,hb,hoe,bP,hcc,hlt2,hz,hi1,hwk]
     exact⟨hlt,by rw[hfin _ h1];rw[heo] at hO;exact hO⟩
    ·have h1:=hat'.2 fun _=>by rw[hq];exact hz
     have hz':(cmpC q c != 0)=true:=by simpa using hz
     have hi1:((i:Int)==o.length)=false:=by rw[beq_eq_false_iff_ne];omega
     have hins':=hins (by omega)
     subst hve
     rw[heo] at hins'
     have hl9:(z8 (o.take i++c::o.drop i)).length=o.length+1:=by rw[Wa];simp;omega
     simp[h7,h8,h9,h3,h5,h6,hlen,heo,hit,hb,hoe,bP,hcc,hlt2,hz,hz',hi1,hins',nP,hwk,zf,zn,zg]
     exact⟨hlt,by rw[hfin _ h1];exact .inr ⟨nx+1,by omega,by rw[hl9],by simp⟩⟩
  ·obtain rfl:i=o.length:=by omega
   have h1:=(zaN c o o.length (Nat.le_refl _) hbef (fun h=>absurd h (by omega))).2 (fun h=>absurd h (by omega))
   have hins':=hins (Nat.le_refl _)
   simp[h7,h8,h9,h3,h5,h6,hlen,heo,bP,hins',nP,hwk,zf,zn,zg]
   rw[List.take_length,List.drop_length] at h1
   have hl9:(z8 (o++[c])).length=o.length+1:=by rw[Wa];simp
   exact⟨hlt,by rw[hfin _ h1];exact .inr ⟨nx+1,by omega,by rw[hl9],by simp⟩⟩
 ·obtain rfl:k=l.length:=by omega
  rw[List.take_length] at hO
  simp[h7,h8,h9,f213]
  unfold insR
  rcases hO with⟨e1,e2⟩ | ⟨id,hid,e1,e2⟩
  ·have:yp l=[]:=by simpa[z8] using e2
   rw[if_pos this]
   exact e1
  ·by_cases hz:yp l=[]
   ·rw[if_pos hz]
    exact h0 (insAll_ne hz)
   ·rw[if_neg hz]
    exact⟨id,_,e1,e2,rfl,by simp[fixB,z8,Cut.enc]⟩
noncomputable def FSc:List PV→Option (Option Blk):=zH (α:=List Cut) (fun l=>[.sl 5 (z8 l)]) (fun l=>(∀c∈l,c.v.small)∧l.length≤4194304) insR
theorem cuenc_row {a b:List Cut} (h:z8 a=z8 b):a=b:=qW (fun _ _ e=>ko e) h
theorem sc_inj:∀a b:List Cut,[PV.sl 5 (z8 a)]=[PV.sl 5 (z8 b)]→a=b:=fun a b e=>by
 simp only[List.cons.injEq,and_true] at e
 injection e with _ e
 exact cuenc_row e
set_option maxRecDepth 100000 in
theorem rsorted_sound:za prog 213 (yr [.s 5 cpat] FSc) :=
 vT (fn:=f213) goodrsc ⟨_,func213,by kernel_rfl,rfl,by kernel_rfl⟩ _ cpat _ fun args r h=>by
  obtain⟨l,rfl,⟨h1,h2⟩,rfl⟩:=ze h
  exact⟨by simp[f213],rsorted_eval l h1 h2⟩
theorem cpat_fix (l:List Cut):(z8 l).map (fixC cpat)=z8 l:=by simp[z8,Cut.enc]
theorem rsorted_call {hp:Hp} {nx:Nat} {v:PV} {l:List Cut} (h:OwnS hp nx 189 5 v (z8 l)) (hs:∀c∈l,c.v.small) (hl:l.length≤4194304) :
  ∃x hp' nx',yr [.s 5 cpat] FSc [v] hp nx=some (x,hp',nx')∧OwnS hp' nx' 189 5 x (z8 (yp l))∧nx≤nx':=by
 have hF:∀y hp1,zK hp v=some (y,hp1)→(Sh.s 5 cpat).fix y=.sl 5 (z8 l)→∃x hp' nx',yr [.s 5 cpat] FSc [v] hp nx=some (x,hp',nx')∧OwnS hp' nx' 189 5 x (z8 (yp l))∧nx≤nx':=by
  intro y hp1 e1 e2
  have hfr:zj hp [v]=some ([y],hp1):=by simp only[zj,e1]
  have hf:FSc (fixL [.s 5 cpat] (qc [] [y]))=some (insR l):=by
   show FSc [(Sh.s 5 cpat).fix y]=_
   rw[e2]
   exact zm (enc:=fun l:List Cut=>[PV.sl 5 (z8 l)]) (a:=l) sc_inj ⟨hs,hl⟩
  unfold yr wg
  simp only[hfr,hf]
  unfold insR
  by_cases hz:yp l=[]
  ·rw[if_pos hz]
   exact⟨.nil,hp1,nx,rfl,.inl ⟨rfl,by rw[hz];rfl⟩,Nat.le_refl _⟩
  ·rw[if_neg hz]
   exact⟨_,_,_,rfl,.inr ⟨nx,by omega,rfl,by simp⟩,by omega⟩
 rcases h with⟨rfl,h0⟩ | ⟨id,h1,rfl,h2⟩
 ·exact hF .nil hp rfl (by rw[h0];rfl)
 ·exact hF (.sl 5 (z8 l)) (upd hp id none) (by simp[h2]) (by rw[Sh.fix_s,cpat_fix])
end Go.Proofs.YtdkfdoeijcfbhaaGreatDoor
