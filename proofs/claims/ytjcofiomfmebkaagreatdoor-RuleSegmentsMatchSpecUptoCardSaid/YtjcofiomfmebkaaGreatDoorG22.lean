/-
The abstract machine, part 32: slices.Insert of one element into a slice of one's own.
-/
import Derived.Test.YtjcofiomfmebkaaGreatDoorG21
import Derived.Test.YtjcofiomfmebkaaGreatDoorG9
import Derived.Laws.CopyRow
import Derived.Lib.Overlaps
import Derived.Lib.AppendZerosOnto
import Derived.Laws.NewBlocks
import Derived.Test.YtjcofiomfmebkaaGreatDoorG11
import Derived.Shelf.Spec.SlicesInsert
import Derived.Test.YtjcofiomfmebkaaGreatDoorG12
import Derived.RangeFuncBox
import Derived.RangeFuncLeaves
import Derived.Shelf.Abstract
import Derived.WalkKit
import Derived.OwnWalkIn
import Derived.TacticsInMore
import Derived.LoopNIn
import Derived.LoopIn
set_option maxRecDepth 8000
namespace Go.AM
open Go.RowKit Go.Proofs
variable {dr:Prop}
section
variable {P:Program} {hp:Hp} {nx:Nat}
def ztD (P:Program) (f e s by_:Nat):Prop :=
 ∀(w:World) (g vb n i cap vc:Nat) (cur vcur:Array Value) (tv:TypeId),i<n→n≤cap→cap≤maxLen→n+1≤maxLen→(n+1)*by_≤140737488355328→g≠vb→1≤vc→vc≤maxLen →
  w.heap[g]?=some (.cells cur e (0,0))→cur.size=cap*s→w.heap[vb]?=some (.cells vcur tv (0,0))→vcur.size=vc*s→(∀j v,j<n*s→cur[j]?=some v→v.oneCell'=true)→(∀j v,j<s→vcur[j]?=some v→v.oneCell'=true) →
  Calls P f #[.slice (some ⟨g,0,none⟩) n cap,.int .i64 i,.slice (some ⟨vb,0,none⟩) 1 vc] w fun r w'=>∃(g' cap':Nat) (cur':Array Value),n+1≤cap'∧cap'≤maxLen∧r=.returned (.slice (some ⟨g',0,none⟩) ((n+1:Nat)) cap') ∧
   (g'=g∨w.heap.size≤g')∧w'.heap[g']?=some (.cells cur' e (0,0))∧cur'.size=cap'*s∧Fr True w (fun b=>b=g') w' ∧
   ∀j,j<(n+1)*s→cur'[j]?=(cur.toList.take (i*s)++vcur.toList.take s++(cur.toList.take (n*s)).drop (i*s))[j]?
def zdV (e s by_:Nat):AM.Spec:=fun args hp nx=>match args with
 | [.own id 0 n,.v (.int .i64 i),.own id2 0 1]=>match hp id,hp id2 with
   | some b,some b2=>match b2.es with
     | [c]=>if id≠id2∧b.arr=true∧b2.arr=true∧b.e=e∧b.s=s∧b2.s=s∧b.es.length=n∧0≤i∧i<n∧(n+1)*by_≤140737488355328∧n+1≤maxLen then
       some (.own nx 0 (n+1),upd (upd hp id none) nx (some ⟨e,s,true,b.es.take i.toNat++c::b.es.drop i.toNat⟩),nx+1) else none
     | _=>none
   | _,_=>none
 | _=>none
theorem ztE {es:List (List PV)} {s i j:Nat} (hl:∀c∈es,c.length=s) {c:List PV} {pv:PV} (hi:es[i]?=some c) (hj:c[j]?=some pv):j<s∧i<es.length∧i*s+j<es.length*s:=by
 have h1:j<s:=by rw[←hl c (List.mem_of_getElem? hi)];exact (List.getElem?_eq_some_iff.1 hj).1
 have h2:i<es.length:=(List.getElem?_eq_some_iff.1 hi).1
 exact⟨h1,h2,yh h2 h1⟩
theorem zf2 {f e s by_:Nat} (hfn:∃fn,P.funcs[f]?=some fn∧(fn.name== "runtime.NumGoroutine")=false∧fn.body.isNone=false) (hsz:zS P e=some s) (hs0:0<s) (h:ztD P f e s by_):jt dr P f (zdV e s by_):=by
 refine⟨hfn,?_⟩
 intro args hp nx r hp' nx' hh w S G vs hi hz
 unfold zdV at hh
 split at hh
 case h_2=>cases hh
 rename_i id n i id2
 split at hh
 case h_2=>cases hh
 rename_i b b2 hb hb2
 split at hh
 case h_2=>cases hh
 rename_i c hc
 split at hh
 case isFalse=>cases hh
 rename_i hk
 obtain⟨k1,k2,k3,k4,k5,k6,k7,k8,k9,k10,k11⟩:=hk
 injection hh with hh
 injection hh with e1 hh
 injection hh with e2 e3
 subst e1;subst e2;subst e3
 obtain⟨u0,us,rfl,hu0,hz'⟩:=hz.uncons
 obtain⟨u1,us,rfl,hu1,hz'⟩:=hz'.uncons
 obtain⟨u2,us,rfl,hu2,hz'⟩:=hz'.uncons
 obtain rfl:=hz'.unnil
 obtain⟨rfl,_⟩:=hu1.v_inv
 have hop:=hu0.own_pos
 have hop2:=hu2.own_pos
 obtain⟨cap,g1,g2,g3,g4,rfl⟩:=hu0.own_inv
 obtain⟨vc,v1,v2,v3,v4,rfl⟩:=hu2.own_inv
 have hbr:=hi.live id b hb
 have hbr2:=hi.live id2 b2 hb2
 have hgs:(G id).s=s:=by rw[←hbr.bs];exact k5
 have hgs2:(G id2).s=s:=by rw[←hbr2.bs];exact k6
 obtain⟨cur,q1,q2,q3⟩:=hbr.row hop
 obtain⟨vcur,r1,r2,r3⟩:=hbr2.row hop2
 rw[hgs] at q3 g4
 rw[hgs2] at r3 v4
 rw[k4] at q1
 have z0:0*(G id).s=0:=Nat.zero_mul _
 have z1:0*(G id2).s=0:=Nat.zero_mul _
 rw[z0,z1]
 have hne:(G id).g≠(G id2).g:=fun e=>k1 (hi.inj id id2 b b2 hb hb2 e)
 have hlen:∀c∈b.es,c.length=s:=fun c hc=>by rw[←hgs];exact hbr.len hop c hc
 have hlc:c.length=s:=by rw[←hgs2];exact hbr2.len hop2 c (by rw[hc];simp)
 obtain⟨m,rfl⟩:∃m:Nat,i=m:=⟨i.toNat,by omega⟩
 have hmn:m<n:=by omega
 have key:=h w (G id).g (G id2).g n m cap vc cur vcur b2.e hmn g2 g3 k11 k10 hne v2 v3 q1 (by rw[q2,←g4,Nat.zero_add]) r1 (by rw[r2,←v4,Nat.zero_add])
  (fun j v hj hv=>by
   have hd:=Nat.div_add_mod j s
   have hm:=Nat.mod_lt j hs0
   have hdl:j / s<b.es.length:=by rw[k7];exact (Nat.div_lt_iff_lt_mul hs0).2 hj
   obtain⟨row,hrow⟩:∃row,b.es[j / s]?=some row:=⟨_,List.getElem?_eq_getElem hdl⟩
   have hrl:=hlen row (List.mem_of_getElem? hrow)
   obtain⟨pv,hpv⟩:∃pv,row[j % s]?=some pv:=⟨_,List.getElem?_eq_getElem (by omega)⟩
   obtain⟨u,a1,a2⟩:=q3 (j / s) (j % s) row pv hrow hpv
   rw[Nat.mul_comm,hd,hv] at a1
   injection a1 with a1
   rw[a1]
   exact a2.2.2)
  (fun j v hj hv=>by
   obtain⟨pv,hpv⟩:∃pv,c[j]?=some pv:=⟨_,List.getElem?_eq_getElem (by omega)⟩
   obtain⟨u,a1,a2⟩:=r3 0 j c pv (by rw[hc];rfl) hpv
   rw[Nat.zero_mul,Nat.zero_add,hv] at a1
   injection a1 with a1
   rw[a1]
   exact a2.2.2)
 refine key.mono fun e w' hr=>?_
 obtain⟨g',cap',cur',p1,p2,rfl,p4,p5,p6,p7,p8⟩:=hr
 have hsub:∀id' b',upd hp id none id'=some b'→hp id'=some b':=fun id' b' h=>kU h
 have hlive:∀id' b',upd hp id none id'=some b'→(G id').g≠g':=fun id' b' hb' e=>by
  have hb0:=hsub id' b' hb'
  rcases p4 with rfl | p4
  ·have:=hi.inj id' id b' b hb0 hb e
   subst this
   rw[qd] at hb'
   cases hb'
  ·have:=(hi.live id' b' hb0).lt
   omega
 have hnS:¬S g':=fun hS=>by
  rcases p4 with rfl | p4
  ·exact hi.apart id b hb hS
  ·have:=hi.st _ hS;omega
 have htl:(b.es.take m++c::b.es.drop m).length=n+1:=by simp;omega
 have hrl:∀c'∈b.es.take m++c::b.es.drop m,c'.length=s:=fun c' hc'=>by
  rcases List.mem_append.1 hc' with h | h
  ·exact hlen c' (List.mem_of_mem_take h)
  ·rcases List.mem_cons.1 h with rfl | h
   ·exact hlc
   ·exact hlen c' (List.mem_of_mem_drop h)
 have hcl:(cur.toList.take (n*s)).length=n*s:=by
  have:n*s≤cap*s:=Nat.mul_le_mul_right _ g2
  simp only[List.length_take,Array.length_toList]
  rw[q2,←g4,Nat.zero_add]
  exact Nat.min_eq_left this
 have hms:m*s≤n*s:=Nat.mul_le_mul_right _ (by omega)
 have hcl1:(cur.toList.take (m*s)).length=m*s:=by
  have:cur.toList.length=cap*s:=by rw[Array.length_toList,q2,←g4,Nat.zero_add]
  have h2:n*s≤cap*s:=Nat.mul_le_mul_right _ g2
  simp only[List.length_take,this]
  omega
 have hvl:(vcur.toList.take s).length=s:=by
  have:vcur.toList.length=vc*s:=by rw[Array.length_toList,r2,←v4,Nat.zero_add]
  have h2:1*s≤vc*s:=Nat.mul_le_mul_right _ v2
  simp only[List.length_take,this]
  omega
 have k:=Stp.adopt (dr:=dr) (hp1:=upd hp id none) hi hsub ⟨g',cur'.size,s⟩ e true (b.es.take m++c::b.es.drop m) cur' p7.os p7.tape p7.output p7.size (p7.drawn trivial) (fun _=>False) (fun _ h=>h.elim)
  (fun b' hb' hne' _=>p7.block b' hb' hne') hlive hnS (by
   rcases p4 with rfl | p4
   ·exact .inl ⟨id,b,hb,rfl⟩
   ·exact .inr p4) hs0 (by simpa[zS] using hsz) hrl (by rw[htl,p6];exact Nat.mul_le_mul_right _ p1) p5 rfl
  (fun i' j c' pv hi' hj=>by
   obtain⟨b1,b2',b3⟩:=ztE hrl hi' hj
   rw[htl] at b2' b3
   have hcell:=p8 (i'*s+j) b3
   show ∃u,cur'[i'*s+j]?=some u∧_
   rw[hcell]
   have hrep:∀u,CellRep w S G nx b.arr pv u→CellRep w S G nx true pv u:=fun u hu=>by rw[k2] at hu;exact hu
   have hrep2:∀u,CellRep w S G nx b2.arr pv u→CellRep w S G nx true pv u:=fun u hu=>by rw[k3] at hu;exact hu
   rcases Nat.lt_trichotomy i' m with hlt | heq | hgt
   ·rw[List.getElem?_append_left (by rw[List.length_take,k7];omega),List.getElem?_take,if_pos hlt] at hi'
    obtain⟨u,a1,a2⟩:=q3 i' j c' pv hi' hj
    have hlt2:i'*s+j<m*s:=yh hlt b1
    refine⟨u,?_,hrep u a2⟩
    rw[List.append_assoc,List.getElem?_append_left (by rw[hcl1];exact hlt2),List.getElem?_take,if_pos hlt2]
    simpa using a1
   ·subst heq
    rw[List.getElem?_append_right (by rw[List.length_take,k7];omega)] at hi'
    rw[List.length_take,k7,Nat.min_eq_left (by omega),Nat.sub_self] at hi'
    simp only[List.getElem?_cons_zero,Option.some.injEq] at hi'
    subst hi'
    obtain⟨u,a1,a2⟩:=r3 0 j c pv (by rw[hc];rfl) hj
    rw[Nat.zero_mul,Nat.zero_add] at a1
    refine⟨u,?_,hrep2 u a2⟩
    rw[List.append_assoc,List.getElem?_append_right (by rw[hcl1];omega),hcl1,Nat.add_sub_cancel_left,List.getElem?_append_left (by rw[hvl];exact b1),List.getElem?_take,if_pos b1]
    simpa using a1
   ·obtain⟨d,rfl⟩:∃d,i'=d+1:=⟨i' - 1,by omega⟩
    rw[List.getElem?_append_right (by rw[List.length_take,k7];omega)] at hi'
    rw[List.length_take,k7,Nat.min_eq_left (by omega),show d+1 - m=(d - m)+1 by omega,List.getElem?_cons_succ,List.getElem?_drop,show m+(d - m)=d by omega] at hi'
    obtain⟨u,a1,a2⟩:=q3 d j c' pv hi' hj
    have hdn:d<n:=by omega
    have hdl:=yh (s:=s) hdn b1
    have hmd:m*s≤d*s:=Nat.mul_le_mul_right _ (by omega)
    refine⟨u,?_,hrep u a2⟩
    rw[List.getElem?_append_right (by rw[List.length_append,hcl1,hvl,Nat.add_mul,Nat.one_mul];omega),List.length_append,hcl1,hvl,List.getElem?_drop,
     show m*s+((d+1)*s+j - (m*s+s))=d*s+j by rw[Nat.add_mul,Nat.one_mul];omega,List.getElem?_take,if_pos hdl]
    simpa using a1)
 refine⟨_,_,_,rfl,k,?_⟩
 have:=RepO.own (w:=w') (S:=S) (G:=upd G nx ⟨g',cur'.size,s⟩) (nx:=nx+1) (id:=nx) (off:=0) (n:=n+1) (cap:=cap') (by omega) p1 p2 (by rw[qd];show (0+cap')*s=cur'.size;rw[p6,Nat.zero_add]) (by rw[qd];exact hs0)
 rw[qd] at this
 simpa using this
noncomputable def zuL (C:Ctx) (fn:Func) (e s by_:Nat):AM.Spec:=fun args hp nx=>match zdV e s by_ args hp nx with
 | some r=>some r
 | none=>yf C fn args hp nx
theorem zjj {C:Ctx} {fn:Func} {f e s by_:Nat} (h1:jt dr P f (zdV e s by_)) (h2:jt dr P f (yf C fn)):jt dr P f (zuL C fn e s by_):=by
 refine⟨h1.1,fun args hp nx r hp' nx' h=>?_⟩
 unfold zuL at h
 split at h
 ·rename_i q hq
  injection h with h
  subst h
  exact h1.2 args hp nx r hp' nx' hq
 ·exact h2.2 args hp nx r hp' nx' h
end
end Go.AM
namespace Go.AM
open Go.RowKit Go.Proofs Go.Lib
variable {dr:Prop}
variable {P:Program}
theorem km (w:World) (dT sT ty elem:TypeId) (k m g o dLen dCap:Nat) (a:Addr) (sLen sCap:Nat) (cur:Array Value) (t:TypeId) (cs:List Value)
  (hu:P.underlying dT=some (.slice elem)) (hs:zS P elem=some k)
  (hg:w.heap[g]?=some (.cells cur t (0,0))) (hm:Nat.min sLen dLen=m) (hn:cs.length=m*k)
  (hsrc:∀j v,cs[j]?=some v→w.cell? (a.add j)=some v) (hfit:o+cs.length≤cur.size) (h1:∀v∈cs,v.oneCell'=true) :
  (Builtin.copy_ #[dT,sT] ty #[.slice (some ⟨g,o,none⟩) dLen dCap,.slice (some a) sLen sCap]).run P w =
   .ok (goInt m) (w.setRow g (cur.toList.take o++cs++cur.toList.drop (o+cs.length)).toArray):=by
 have hl:=run_loadCells_list (P:=P) w a cs hsrc
 have hst:=run_storeCells_at P g o t cs 0 cur w hg (by simpa using hfit) h1
 unfold zS at hs
 cases hq:P.info? elem with
 | none=>simp[hq] at hs
 | some i =>
   have hi:i.size=k:=by simpa[hq] using hs
   simp[Builtin.copy_,run_underlying hu,Builtin.lenOf,Builtin.firstCells,sizeOf,typeInfo,hq,hi,hm,←hn,hl,hst]
theorem WK {w:World} {g e:Nat} {cur:Array Value} (h:w.heap[g]?=some (.cells cur e (0,0))) (j:Nat):w.cell? ⟨g,j,none⟩=cur[j]?:=by simp[World.cell?,h]
theorem zhF {w:World} {g e:Nat} {cur:Array Value} (h:w.heap[g]?=some (.cells cur e (0,0))) (j:Nat):w.frozen? ⟨g,j,none⟩=false:=by simp[World.frozen?,h]
theorem zdW {w:World} {g e:Nat} {cur:Array Value} (h:w.heap[g]?=some (.cells cur e (0,0))):w.shape? g=some (e,cur.size):=by simp[World.shape?,h]
theorem v8 {w:World} {g k:Nat} (cs:Array Value) (h:k≠g):(w.setRow g cs).heap[k]?=w.heap[k]?:=by
 have:¬g=k:=fun e=>h e.symm
 simp[World.setRow,Array.getElem?_modify,this]
theorem zdX (w:World) (g:Nat) (cs:Array Value):Fr dr w (fun b=>b=g) (w.setRow g cs) :=
 ⟨rfl,rfl,rfl,by simp[World.setRow],fun _=>Nat.le_refl _,fun k _ hk=>v8 cs hk⟩
def we (l:List Value) (o:Nat) (cs:List Value):List Value:=l.take o++cs++l.drop (o+cs.length)
theorem w9 {l cs:List Value} {o:Nat} (h:o+cs.length≤l.length):(we l o cs).length=l.length:=by
 unfold we
 simp
 omega
theorem zl5 {l vs:List Value} {n i s:Nat} (hi:i≤n) (hl:(n+1)*s≤l.length) (hv:vs.length=s) (j:Nat) (hj:j<(n+1)*s) :
  (we (we l ((i+1)*s) ((l.take (n*s)).drop (i*s))) (i*s) vs)[j]?=(l.take (i*s)++vs++(l.take (n*s)).drop (i*s))[j]?:=by
 have e1:(i+1)*s=i*s+s:=by rw[Nat.add_mul,Nat.one_mul]
 have e2:(n+1)*s=n*s+s:=by rw[Nat.add_mul,Nat.one_mul]
 have h1:i*s≤n*s:=Nat.mul_le_mul_right _ hi
 rw[e2] at hl hj
 rw[e1]
 generalize n*s=N at *
 generalize i*s=I at *
 subst hv
 have hc:((l.take N).drop I).length=N - I:=by simp;omega
 have hb:I+vs.length+((l.take N).drop I).length≤l.length:=by rw[hc];omega
 have hs1:(we l (I+vs.length) ((l.take N).drop I)).length=l.length:=w9 hb
 have g1:=wZ (we l (I+vs.length) ((l.take N).drop I)) vs I j (by rw[hs1];omega)
 have g2:=wZ l ((l.take N).drop I) (I+vs.length) j hb
 have k1:(we (we l (I+vs.length) ((l.take N).drop I)) I vs)[j]?=if I≤j∧j<I+vs.length then vs[j - I]? else (we l (I+vs.length) ((l.take N).drop I))[j]?:=g1
 have k2:(we l (I+vs.length) ((l.take N).drop I))[j]?=if I+vs.length≤j∧j<I+vs.length+((l.take N).drop I).length then ((l.take N).drop I)[j - (I+vs.length)]? else l[j]?:=g2
 have ht:(l.take I).length=I:=by simp;omega
 rw[k1,k2,List.append_assoc]
 by_cases h2:j<I
 ·rw[if_neg (by omega),if_neg (by omega),List.getElem?_append_left (by omega),List.getElem?_take,if_pos h2]
 ·rw[List.getElem?_append_right (by omega),ht]
  by_cases h3:j<I+vs.length
  ·rw[if_pos (by omega),List.getElem?_append_left (by omega)]
  ·rw[if_neg (by omega),if_pos (by omega),List.getElem?_append_right (by omega)]
   congr 1
   omega
theorem zo0 {R olds vs cs:List Value} {I:Nat} (hR:olds.length=I) (ho:∀j,j<I→R[j]?=olds[j]?) (hl:I+vs.length+cs.length≤R.length) (j:Nat) (hj:j<I+vs.length+cs.length) :
  (we (we R I vs) (I+vs.length) cs)[j]?=(olds++vs++cs)[j]?:=by
 have hs1:(we R I vs).length=R.length:=w9 (by omega)
 have g1:=wZ (we R I vs) cs (I+vs.length) j (by rw[hs1];omega)
 have g2:=wZ R vs I j (by omega)
 have k1:(we (we R I vs) (I+vs.length) cs)[j]?=if I+vs.length≤j∧j<I+vs.length+cs.length then cs[j - (I+vs.length)]? else (we R I vs)[j]?:=g1
 have k2:(we R I vs)[j]?=if I≤j∧j<I+vs.length then vs[j - I]? else R[j]?:=g2
 rw[k1,k2,List.append_assoc]
 by_cases h2:j<I
 ·rw[if_neg (by omega),if_neg (by omega),List.getElem?_append_left (by omega),ho j h2]
 ·rw[List.getElem?_append_right (by omega),hR]
  by_cases h3:j<I+vs.length
  ·rw[if_neg (by omega),if_pos (by omega),List.getElem?_append_left (by omega)]
  ·rw[if_pos (by omega),List.getElem?_append_right (by omega)]
   congr 1
   omega
theorem zo1 {e s by_:Nat} {z:List PV} (hs:zS P e=some s) (hb:wL P e=some by_) (hz:wy P e=some z) (hl:z.length=s):∃i v,P.info? e=some i∧i.zero=some v∧i.size=s∧i.bytes=by_∧v.cells.size=s:=by
 obtain⟨i,v,hi,hv,hc⟩:=ky hz
 obtain⟨i',hi',his⟩:=kT hs
 rw[hi] at hi'
 injection hi' with hi'
 subst hi'
 refine⟨i,v,hi,hv,his,?_,?_⟩
 ·unfold wL at hb
  rw[hi] at hb
  simpa using hb
 ·have:=(qL (w:=default) (S:=fun _=>False) hc).1
  rw[hl] at this
  simpa using this.symm
theorem zdY {w:World} (o:Obj):(w.alloc o).heap[w.heap.size]?=some o:=by
 show (w.heap.push o)[w.heap.size]?=some o
 simp
theorem K9 {w:World} (o:Obj) {k:Nat} (h:k<w.heap.size):(w.alloc o).heap[k]?=w.heap[k]?:=by
 have:¬k=w.heap.size:=by omega
 show (w.heap.push o)[k]?=_
 simp[Array.getElem?_push,this]
theorem setRow_size {w:World} {g:Nat} (cs:Array Value):(w.setRow g cs).heap.size=w.heap.size:=by simp[World.setRow]
theorem zjk {w:World} (o:Obj):(w.alloc o).heap.size=w.heap.size+1:=by
 show (w.heap.push o).size=_
 simp
end Go.AM
namespace Go.Proofs.YtjcofiomfmebkaaGreatDoor
open Go.Proofs.Tryz
open Go.RowKit Go.Lib Go.AM
attribute [local go_sem] Oper.semAt_some
set_option maxHeartbeats 4000000 in
set_option maxRecDepth 100000 in
theorem zjl (w:World) (g vb n i cap vc:Nat) (cur vcur:Array Value) (tv:TypeId) (hi:i<n) (hroom:n+1≤cap) (hc63:cap≤9223372036854775807) (hne:g≠vb) (hv1:1≤vc)
  (hg:w.heap[g]?=some (.cells cur 162 (0,0))) (hcs:cur.size=cap*5) (hv:w.heap[vb]?=some (.cells vcur tv (0,0))) (hvs:vcur.size=vc*5)
  (h1c:∀j v,j<n*5→cur[j]?=some v→v.oneCell'=true) (h1v:∀j v,j<5→vcur[j]?=some v→v.oneCell'=true) :
  Calls prog 247 #[.slice (some ⟨g,0,none⟩) n cap,.int .i64 i,.slice (some ⟨vb,0,none⟩) 1 vc] w fun e w' =>
   e=.returned (.slice (some ⟨g,0,none⟩) (n+1) cap)∧w'.heap[g]?=some (.cells (we (we cur.toList ((i+1)*5) ((cur.toList.take (n*5)).drop (i*5))) (i*5) (vcur.toList.take 5)).toArray 162 (0,0))∧Fr True w (fun b=>b=g) w':=by
 have t3:=underlying3;have a3:=isAgg3;have z3:=sizeOf3;have v3:=zeroValue3
 have t4:=underlying4;have a4:=isAgg4;have z4:=sizeOf4;have v4:=zeroValue4
 have t24:=underlying205;have a24:=isAgg205;have z24:=sizeOf205;have v24:=zeroValue205
 have t9:=underlying162;have a9:=isAgg162;have z9:=sizeOf162
 have u3:=run_underlying t3;have u4:=run_underlying t4;have u24:=run_underlying t24
 have hz2:¬((i:Int)=(n:Int)):=by omega
 have hov:∀o lb cb,(callFunc 270 #[.slice (some ⟨vb,0,none⟩) 1 vc,.slice (some ⟨g,o,none⟩) lb cb]).run prog w=.ok (.value (.bool false)) w:=fun o lb cb=>by
  rw[run_callFunc_extern func270 (by kernel_rfl) (by kernel_rfl) (by kernel_rfl) (e:=Extern.SlicesOverlaps.overlaps #[205,205] #[4]) (by kernel_rfl),
   Lib.run_overlaps_apart w 205 4 162 t24 5 z9 ⟨vb,0,none⟩ ⟨g,o,none⟩ 1 vc lb cb (fun e=>hne e.symm) _ _ _ _ (zdW hv) (zdW hg) (by rw[hcs];omega) (zhF hv 0) (zhF hv _)]
  rfl
 have mixed:prog.follows .mixedOrders=true:=by kernel_rfl
 have hw1:IntKind.i64.wrap ((i:Int)+1)=(i:Int)+1:=by rw[IntKind.wrap_i64];omega
 have hw2:IntKind.i64.wrap ((n:Int)+1)=(n:Int)+1:=by rw[IntKind.wrap_i64];omega
 have hb1:(0:Int)≤(i:Int)+1:=by omega
 have hb5:(0:Int)≤(n:Int)+1:=by omega
 have hin:i≤n:=by omega
 have htn:((i:Int)+1).toNat=i+1:=by omega
 have htn2:((n:Int)+1).toNat=n+1:=by omega
 have hb2:¬(cap=i+1):=by omega
 have hb3:(i:Int)≤(n:Int)+1:=by omega
 have hb4:¬(cap=i):=by omega
 have hb6:¬((cap:Int)<(n:Int)+1):=by omega
 have hs5:zS prog 162=some 5:=zaT
 obtain⟨cs,hcsd⟩:∃cs,(cur.toList.take (n*5)).drop (i*5)=cs:=⟨_,rfl⟩
 obtain⟨vs,hvsd⟩:∃vs,vcur.toList.take 5=vs:=⟨_,rfl⟩
 have hcl:cs.length=(n - i)*5:=by rw[←hcsd];simp;omega
 have hvl:vs.length=1*5:=by rw[←hvsd];simp;omega
 have hcget:∀j v,cs[j]?=some v→cur[i*5+j]?=some v∧i*5+j<n*5:=fun j v hj=>by
  rw[←hcsd,List.getElem?_drop,List.getElem?_take] at hj
  split at hj
  ·exact⟨by simpa using hj,by assumption⟩
  ·cases hj
 have hvget:∀j v,vs[j]?=some v→vcur[j]?=some v∧j<5:=fun j v hj=>by
  rw[←hvsd,List.getElem?_take] at hj
  split at hj
  ·exact⟨by simpa using hj,by assumption⟩
  ·cases hj
 have hc1:∀v∈cs,v.oneCell'=true:=fun v hv=>by
  obtain⟨j,hj⟩:=List.mem_iff_getElem?.1 hv
  obtain⟨a,b⟩:=hcget j v hj
  exact h1c _ v b a
 have hv1':∀v∈vs,v.oneCell'=true:=fun v hv=>by
  obtain⟨j,hj⟩:=List.mem_iff_getElem?.1 hv
  obtain⟨a,b⟩:=hvget j v hj
  exact h1v _ v b a
 obtain⟨row1,hrow1⟩:∃row1,we cur.toList ((i+1)*5) cs=row1:=⟨_,rfl⟩
 have hr1l:row1.length=cap*5:=by rw[←hrow1,w9 (by rw[hcl,Array.length_toList,hcs];omega),Array.length_toList,hcs]
 have hcp1:∀ty dc sc,(Builtin.copy_ #[205,205] ty #[.slice (some ⟨g,(i+1)*5,none⟩) (n - i) dc,.slice (some ⟨g,i*5,none⟩) (n+1 - i) sc]).run prog w.drew=.ok (goInt ((n - i:Nat):Int)) (w.drew.setRow g row1.toArray):=fun ty dc sc=>by
  rw[←hrow1]
  exact km w.drew _ _ ty 162 5 (n - i) g ((i+1)*5) (n - i) dc ⟨g,i*5,none⟩ (n+1 - i) sc cur 162 cs t24 hs5 hg (by simp only[Nat.min_def];split<;>omega) hcl
   (fun j v hj=>by rw[Addr.add_lit];exact (WK hg _).trans (hcget j v hj).1) (by rw[hcl,hcs];omega) hc1
 have hcp2:∀(W:World),W.heap[g]?=some (.cells row1.toArray 162 (0,0))→W.heap[vb]?=some (.cells vcur tv (0,0))→∀ty dc,(Builtin.copy_ #[205,205] ty #[.slice (some ⟨g,i*5,none⟩) (n+1 - i) dc,.slice (some ⟨vb,0,none⟩) 1 vc]).run prog W=.ok (goInt ((1:Nat):Int)) (W.setRow g (we row1 (i*5) vs).toArray):=fun W hWg hWv ty dc=>by
  have:=km W 205 205 ty 162 5 1 g (i*5) (n+1 - i) dc ⟨vb,0,none⟩ 1 vc row1.toArray 162 vs t24 hs5 hWg (by simp only[Nat.min_def];split<;>omega) hvl
   (fun j v hj=>by rw[Addr.add_lit,Nat.zero_add];exact (WK hWv _).trans (hvget j v hj).1) (by rw[hvl,List.size_toArray,hr1l];omega) hv1'
  exact this
 have hWg:(w.drew.setRow g row1.toArray).heap[g]?=some (.cells row1.toArray 162 (0,0)):=setRow_heap _ _ _ _ _ _ hg
 have hWv:(w.drew.setRow g row1.toArray).heap[vb]?=some (.cells vcur tv (0,0)):=(v8 _ (fun e=>hne e.symm)).trans hv
 have hfin:∀W,W=(w.drew.setRow g row1.toArray).setRow g (we row1 (i*5) vs).toArray→W.heap[g]?=some (.cells (we row1 (i*5) vs).toArray 162 (0,0))∧Fr True w (fun b=>b=g) W:=fun W e=>by
  subst e
  refine⟨setRow_heap _ _ _ _ _ _ hWg,?_⟩
  exact ((Fr.drew w (fun b=>b=g)).trans (zdX w.drew g _) fun _ _ h=>h).trans (zdX _ g _) fun _ _ h=>h
 rw[hcsd,hvsd,hrow1]
 clear hcsd hvsd hcl hvl hcget hvget hc1 hv1' hrow1 hr1l
 go_enter func247,Tryz.ntmps247
 go_wp2_with (simp only[hov])
 go_region_law_o (refine step_copy_runI rfl _ _ 205 205 rfl _ _ (by simp[Act.eval,Act.put]) (by simp[Act.eval,Act.put]) (hcp1 _ _ _) ?_)
 go_wp2_with (at_builtin;refine wpList_copy_runI _ rfl _ _ 205 205 rfl _ _ rfl rfl (hcp2 _ hWg hWv _ _) ?_)
 go_ret
 exact⟨rfl,hfin _ rfl⟩
set_option maxHeartbeats 4000000 in
set_option maxRecDepth 100000 in
theorem zl6 (w:World) (g vb n i cap vc:Nat) (cur vcur:Array Value) (tv:TypeId) (hi:i<n) (hnc:n≤cap) (hroom:cap<n+1) (hbig:(n+1)*56≤140737488355328) (hv1:1≤vc)
  (hg:w.heap[g]?=some (.cells cur 162 (0,0))) (hcs:cur.size=cap*5) (hv:w.heap[vb]?=some (.cells vcur tv (0,0))) (hvs:vcur.size=vc*5)
  (h1c:∀j v,j<n*5→cur[j]?=some v→v.oneCell'=true) (h1v:∀j v,j<5→vcur[j]?=some v→v.oneCell'=true) :
  Calls prog 247 #[.slice (some ⟨g,0,none⟩) n cap,.int .i64 i,.slice (some ⟨vb,0,none⟩) 1 vc] w fun e w' =>
   ∃(G:Nat) (R:List Value),n+1≤G∧G≤maxLen∧R.length=G*5∧(∀j,j<i*5→R[j]?=(cur.toList.take (i*5))[j]?)∧e=.returned (.slice (some ⟨w.heap.size,0,none⟩) (n+1) G) ∧
    w'.heap[w.heap.size]?=some (.cells (we (we R (i*5) (vcur.toList.take 5)) ((i+1)*5) ((cur.toList.take (n*5)).drop (i*5))).toArray 162 (0,0))∧Fr True w (fun b=>b=w.heap.size) w':=by
 have t3:=underlying3;have a3:=isAgg3;have z3:=sizeOf3;have v3:=zeroValue3
 have t4:=underlying4;have a4:=isAgg4;have z4:=sizeOf4;have v4:=zeroValue4
 have t24:=underlying205;have a24:=isAgg205;have z24:=sizeOf205;have v24:=zeroValue205
 have t9:=underlying162;have a9:=isAgg162;have z9:=sizeOf162
 have u3:=run_underlying t3;have u4:=run_underlying t4;have u24:=run_underlying t24
 obtain⟨i0,z0,hi0,hz0,his,hib,hzc⟩:=zo1 (P:=prog) zaT ziJ ziK rfl
 have hz2:¬((i:Int)=(n:Int)):=by omega
 have hz3:(cap:Int)<(n:Int)+1:=by omega
 have mixed:prog.follows .mixedOrders=true:=by kernel_rfl
 have hw1:IntKind.i64.wrap ((i:Int)+1)=(i:Int)+1:=by rw[IntKind.wrap_i64];omega
 have hw2:IntKind.i64.wrap ((n:Int)+1)=(n:Int)+1:=by rw[IntKind.wrap_i64];omega
 have hw3:IntKind.i64.wrap ((n:Int)+1 - i)=(n:Int)+1 - i:=by rw[IntKind.wrap_i64];omega
 have hb1:(0:Int)≤(i:Int)+1:=by omega
 have hin:i≤n:=by omega
 have htn:((i:Int)+1).toNat=i+1:=by omega
 have hkk:(n:Int)+1 - (i:Int)=((n+1 - i:Nat):Int):=by omega
 have hik:i+(n+1 - i)=n+1:=by omega
 have hb3:(i:Int)≤(n:Int):=by omega
 have hbw:g<w.heap.size:=(Array.getElem?_eq_some_iff.1 hg).1
 have hvw:vb<w.heap.size:=(Array.getElem?_eq_some_iff.1 hv).1
 have hs5:zS prog 162=some 5:=zaT
 obtain⟨olds,hod⟩:∃olds,cur.toList.take (i*5)=olds:=⟨_,rfl⟩
 obtain⟨cs,hcsd⟩:∃cs,(cur.toList.take (n*5)).drop (i*5)=cs:=⟨_,rfl⟩
 obtain⟨vs,hvsd⟩:∃vs,vcur.toList.take 5=vs:=⟨_,rfl⟩
 have hol:olds.length=i*5:=by rw[←hod];simp;omega
 have hcl:cs.length=(n - i)*5:=by rw[←hcsd];simp;omega
 have hvl:vs.length=1*5:=by rw[←hvsd];simp;omega
 have hoget:∀j v,olds[j]?=some v→cur[j]?=some v:=fun j v hj=>by
  rw[←hod,List.getElem?_take] at hj
  split at hj
  ·simpa using hj
  ·cases hj
 have hcget:∀j v,cs[j]?=some v→cur[i*5+j]?=some v∧i*5+j<n*5:=fun j v hj=>by
  rw[←hcsd,List.getElem?_drop,List.getElem?_take] at hj
  split at hj
  ·exact⟨by simpa using hj,by assumption⟩
  ·cases hj
 have hvget:∀j v,vs[j]?=some v→vcur[j]?=some v∧j<5:=fun j v hj=>by
  rw[←hvsd,List.getElem?_take] at hj
  split at hj
  ·exact⟨by simpa using hj,by assumption⟩
  ·cases hj
 have hc1:∀v∈cs,v.oneCell'=true:=fun v hv=>by
  obtain⟨j,hj⟩:=List.mem_iff_getElem?.1 hv
  obtain⟨a,b⟩:=hcget j v hj
  exact h1c _ v b a
 have hv1':∀v∈vs,v.oneCell'=true:=fun v hv=>by
  obtain⟨j,hj⟩:=List.mem_iff_getElem?.1 hv
  obtain⟨a,b⟩:=hvget j v hj
  exact h1v _ v b a
 have hold:(Builtin.firstCells i0.size i (.slice (some ⟨g,0,none⟩) i cap)).run prog w.drew=.ok olds.toArray w.drew:=by
  rw[his]
  exact run_firstCells_some w.drew 5 i ⟨g,0,none⟩ i cap olds hol (fun j v hj=>by
   rw[Addr.add_lit,Nat.zero_add]
   exact (WK hg j).trans (hoget j v hj))
 obtain⟨G,hG⟩:∃G,grownCap w (n+1) cap 162=G:=⟨_,rfl⟩
 obtain⟨ROW,hROW⟩:∃ROW,olds.toArray++Builtin.zeroCells z0.cells (n+1 - i)++Builtin.zeroCells z0.cells (G - (n+1))=ROW:=⟨_,rfl⟩
 have hGn:n+1≤G:=by rw[←hG];exact grownCap_ge w _ _ _
 have hGm:G≤maxLen:=by rw[←hG];exact grownCap_le_maxLen w (n+1) cap 162 (by unfold maxLen;omega)
 have hrz:∀ty,(Builtin.append_ #[205,3] ty #[.slice (some ⟨g,0,none⟩) i cap,.int .i64 ((n:Int)+1 - (i:Int))]).run prog w =
   .ok (.slice (some ⟨w.heap.size,0,none⟩) (n+1) G) (w.drew.alloc (.cells ROW 162)):=fun ty=>by
  have h:=Lib.run_append_grow_zeros w 205 3 ty 162 i0 z0 .i64 .i64 t24 t3 hi0 hz0 (some ⟨g,0,none⟩) i cap olds hold (n+1 - i) (by omega) (by omega) (by omega) (by omega) (by rw[hib];omega) (by rw[hib,hik];exact growslice_fits hroom hbig)
  rw[hik,hG,hROW] at h
  rw[hkk]
  exact h
 have hRl:ROW.size=G*5:=by
  rw[←hROW,Array.size_append,Array.size_append,size_zeroCells,size_zeroCells,hzc,List.size_toArray,hol]
  omega
 have hRo:∀j,j<i*5→ROW.toList[j]?=olds[j]?:=fun j hj=>by
  rw[←hROW]
  rw[Array.toList_append,Array.toList_append,List.append_assoc]
  exact List.getElem?_append_left (show j<olds.length by omega)
 obtain⟨N,hN⟩:∃N,w.heap.size=N:=⟨_,rfl⟩
 obtain⟨W1,hW1⟩:∃W1,w.drew.alloc (.cells ROW 162)=W1:=⟨_,rfl⟩
 have hW1N:W1.heap[N]?=some (.cells ROW 162 (0,0)):=by rw[←hW1,←hN];exact zdY (w:=w.drew) _
 have hW1g:W1.heap[g]?=some (.cells cur 162 (0,0)):=by rw[←hW1];exact (K9 (w:=w.drew) _ hbw).trans hg
 have hW1v:W1.heap[vb]?=some (.cells vcur tv (0,0)):=by rw[←hW1];exact (K9 (w:=w.drew) _ hvw).trans hv
 obtain⟨row1,hrow1⟩:∃row1,we ROW.toList (i*5) vs=row1:=⟨_,rfl⟩
 have hr1l:row1.length=G*5:=by rw[←hrow1,w9 (by rw[hvl,Array.length_toList,hRl];omega),Array.length_toList,hRl]
 have hcpA:∀(W:World),W.heap[N]?=some (.cells ROW 162 (0,0))→W.heap[vb]?=some (.cells vcur tv (0,0))→∀ty dc,(Builtin.copy_ #[205,205] ty #[.slice (some ⟨N,i*5,none⟩) (n+1 - i) dc,.slice (some ⟨vb,0,none⟩) 1 vc]).run prog W=.ok (goInt ((1:Nat):Int)) (W.setRow N row1.toArray):=fun W hWg hWv ty dc=>by
  rw[←hrow1]
  have:=km W 205 205 ty 162 5 1 N (i*5) (n+1 - i) dc ⟨vb,0,none⟩ 1 vc ROW 162 vs t24 hs5 hWg (by simp only[Nat.min_def];split<;>omega) hvl
   (fun j v hj=>by rw[Addr.add_lit,Nat.zero_add];exact (WK hWv _).trans (hvget j v hj).1) (by rw[hvl,hRl];omega) hv1'
  exact this
 have hcpB:∀(W:World),W.heap[N]?=some (.cells row1.toArray 162 (0,0))→W.heap[g]?=some (.cells cur 162 (0,0))→∀ty dc sc,(Builtin.copy_ #[205,205] ty #[.slice (some ⟨N,(i+1)*5,none⟩) (n - i) dc,.slice (some ⟨g,i*5,none⟩) (n - i) sc]).run prog W=.ok (goInt ((n - i:Nat):Int)) (W.setRow N (we row1 ((i+1)*5) cs).toArray):=fun W hWg hWv ty dc sc=>by
  have:=km W 205 205 ty 162 5 (n - i) N ((i+1)*5) (n - i) dc ⟨g,i*5,none⟩ (n - i) sc row1.toArray 162 cs t24 hs5 hWg (by simp only[Nat.min_def];split<;>omega) hcl
   (fun j v hj=>by rw[Addr.add_lit];exact (WK hWv _).trans (hcget j v hj).1) (by rw[hcl,List.size_toArray,hr1l];omega) hc1
  exact this
 have hgN:g≠N:=by omega
 have hvN:vb≠N:=by omega
 have hW2N:(W1.setRow N row1.toArray).heap[N]?=some (.cells row1.toArray 162 (0,0)):=setRow_heap _ _ _ _ _ _ hW1N
 have hW2g:(W1.setRow N row1.toArray).heap[g]?=some (.cells cur 162 (0,0)):=(v8 _ hgN).trans hW1g
 have hfin:∀W:World,W.heap=((W1.setRow N row1.toArray).setRow N (we row1 ((i+1)*5) cs).toArray).heap→W.os=w.os→W.tape=w.tape→W.output=w.output→w.drawn≤W.drawn→W.heap[N]?=some (.cells (we row1 ((i+1)*5) cs).toArray 162 (0,0))∧Fr True w (fun b=>b=N) W:=fun W e1 e2 e3 e4 e5=>by
  refine⟨by rw[e1];exact setRow_heap _ _ _ _ _ _ hW2N,e2,e3,e4,?_,fun _=>e5,fun k hk hn=>?_⟩
  ·rw[e1,←hW1]
   rw[setRow_size,setRow_size,zjk]
   exact Nat.le_succ _
  ·rw[e1,v8 _ hn,v8 _ hn,←hW1]
   exact K9 (w:=w.drew) _ hk
 have hm1:G≤9223372036854775807:=by unfold maxLen at hGm;omega
 have hGi:¬(G=i):=by omega
 have hGim:¬(G=i+1):=by omega
 have hci:¬(cap=i):=by omega
 rw[hN,hcsd,hvsd,hod]
 rw[hN,hW1] at hrz
 clear hcsd hvsd hod hcl hvl hol hcget hvget hoget hc1 hv1' hold hG hROW hkk hik hi0 hz0 his hib hzc hr1l
 go_enter func247,Tryz.ntmps247
 go_wp2_with (first
  | (at_builtin;refine Lib.wpList_append_run _ rfl _ _ _ _ rfl _ _ rfl rfl _ _ (hrz _) ?_)
  | (at_builtin;refine wpList_copy_runI _ rfl _ _ 205 205 rfl _ _ rfl rfl (hcpA _ hW1N hW1v _ _) ?_)
  | (at_builtin;refine wpList_copy_runI _ rfl _ _ 205 205 rfl _ _ rfl rfl (hcpB _ hW2N hW2g _ _ _) ?_))
 go_region_law_o (refine step_copy_runI rfl _ _ 205 205 rfl (.slice (some ⟨N,(i+1)*5,none⟩) (n - i) (G - (i+1))) (.slice (some ⟨g,i*5,none⟩) (n - i) (cap - i)) (by simp[Act.eval,Act.put]) (by simp[Act.eval,Act.put]) (hcpB (W1.setRow N row1.toArray).drew hW2N hW2g 3 (G - (i+1)) (cap - i)) ?_)
 go_wp2
 go_ret
 subst hW1
 subst hrow1
 refine⟨G,ROW.toList,hGn,hGm,by simpa using hRl,hRo,rfl,?_⟩
 refine hfin _ ?_ ?_ ?_ ?_ ?_
 ·rfl
 ·rfl
 ·rfl
 ·rfl
 ·first | exact Nat.le_succ _ | exact Nat.le_trans (Nat.le_succ _) (Nat.le_succ _)
theorem zrF:ztD prog 247 162 5 56:=by
 intro w g vb n i cap vc cur vcur tv hi hnc hcm hnm hbig hne hv1 hvm hg hcs hv hvs h1c h1v
 have hvl:(vcur.toList.take 5).length=5:=by simp;omega
 have hcl:((cur.toList.take (n*5)).drop (i*5)).length=(n - i)*5:=by simp;omega
 unfold maxLen at hcm
 by_cases hroom:n+1≤cap
 ·refine (zjl w g vb n i cap vc cur vcur tv hi hroom hcm hne hv1 hg hcs hv hvs h1c h1v).mono fun e w' hh=>?_
  obtain⟨rfl,h1,h2⟩:=hh
  refine⟨g,cap,_,hroom,by unfold maxLen;exact hcm,rfl,.inl rfl,h1,?_,h2,fun j hj=>?_⟩
  ·rw[List.size_toArray,w9 (by rw[w9 (by rw[hcl,Array.length_toList,hcs];omega),hvl,Array.length_toList,hcs];omega),w9 (by rw[hcl,Array.length_toList,hcs];omega),Array.length_toList,hcs]
  ·have:=zl5 (l:=cur.toList) (vs:=vcur.toList.take 5) (n:=n) (i:=i) (s:=5) (by omega) (by rw[Array.length_toList,hcs];omega) hvl j hj
   simpa using this
 ·refine (zl6 w g vb n i cap vc cur vcur tv hi hnc (by omega) hbig hv1 hg hcs hv hvs h1c h1v).mono fun e w' hh=>?_
  obtain⟨G,R,g1,g2,g3,g4,rfl,h1,h2⟩:=hh
  have hol:(cur.toList.take (i*5)).length=i*5:=by simp;omega
  have e1:(i+1)*5=i*5+(vcur.toList.take 5).length:=by rw[hvl];omega
  rw[e1] at h1
  refine⟨w.heap.size,G,_,g1,g2,rfl,.inr (Nat.le_refl _),h1,?_,h2,fun j hj=>?_⟩
  ·rw[List.size_toArray,w9 (by rw[w9 (by rw[hvl];omega),hcl,hvl];omega),w9 (by rw[hvl];omega),g3]
  ·have:=zo0 (R:=R) (olds:=cur.toList.take (i*5)) (vs:=vcur.toList.take 5) (cs:=(cur.toList.take (n*5)).drop (i*5)) (I:=i*5) hol g4 (by rw[hvl,hcl,g3];omega) j (by rw[hvl,hcl];omega)
   simpa using this
end Go.Proofs.YtjcofiomfmebkaaGreatDoor
namespace Go.Proofs.YtjcofiomfmebkaaGreatDoor
open Go.Proofs.Tryz
open Go.RowKit Go.AM
noncomputable def QN (c:Cut):List Cut→List Cut
 | []=>[c]
 | a::l=>if qx a c<0 then a::QN c l else if qx a c=0 then a::l else c::a::l
theorem zf3 (c:Cut):∀(l:List Cut) (i:Nat),i≤l.length→(∀j (h:j<l.length),j<i→qx l[j] c<0)→(∀h:i<l.length,¬qx l[i] c<0)→((∃h:i<l.length,qx l[i] c=0)→QN c l=l)∧((∀h:i<l.length,qx l[i] c≠0)→QN c l=l.take i++c::l.drop i)
 | [],i,hi,_,_=>by
   obtain rfl:i=0:=by simpa using hi
   exact⟨fun⟨h,_⟩=>absurd h (by simp),fun _=>rfl⟩
 | a::l,0,_,_,h2=>by
   have h:=h2 (by simp)
   simp only[List.getElem_cons_zero] at h
   refine⟨fun⟨_,e⟩=>?_,fun hn=>?_⟩
   ·simp only[List.getElem_cons_zero] at e
    simp only[QN]
    rw[if_neg h,if_pos e]
   ·have:=hn (by simp)
    simp only[List.getElem_cons_zero] at this
    simp only[QN]
    rw[if_neg h,if_neg this]
    rfl
 | a::l,i+1,hi,h1,h2=>by
   have ha:=h1 0 (by simp) (by omega)
   simp only[List.getElem_cons_zero] at ha
   obtain⟨k1,k2⟩:=zf3 c l i (by simpa using hi) (fun j hj hji=>h1 (j+1) (by simpa using hj) (by omega)) (fun h=>h2 (by simpa using h))
   simp only[QN]
   rw[if_pos ha]
   refine⟨fun⟨h,e⟩=>?_,fun hn=>?_⟩
   ·rw[k1 ⟨by simpa using h,e⟩]
   ·rw[k2 fun h=>hn (by simpa using h)]
    rfl
theorem zbL {c:Cut}:∀{l:List Cut},(∀a∈l,qx a c=0→a=c)→∀x,x∈QN c l↔x=c∨x∈l
 | [],_,x=>by simp[QN]
 | a::l,h,x=>by
   simp only[QN]
   split
   ·rw[List.mem_cons,zbL (fun b hb=>h b (by simp[hb])) x,List.mem_cons]
    constructor
    ·rintro (h | h | h)
     ·exact .inr (.inl h)
     ·exact .inl h
     ·exact .inr (.inr h)
    ·rintro (h | h | h)
     ·exact .inr (.inl h)
     ·exact .inl h
     ·exact .inr (.inr h)
   ·split
    ·rename_i e
     have:=h a (by simp) e
     subst this
     simp
    ·simp
theorem Va {c:Cut}:∀{l:List Cut},(l.Pairwise fun a b=>qx a b<0)→(∀a∈l,qx a c=0→a=c)→(QN c l).Pairwise fun a b=>qx a b<0
 | [],_,_=>by simp[QN]
 | a::l,h,he=>by
   obtain⟨h1,h2⟩:=List.pairwise_cons.1 h
   simp only[QN]
   split
   ·rename_i hac
    refine List.pairwise_cons.2 ⟨fun x hx=>?_,Va h2 fun b hb=>he b (by simp[hb])⟩
    rcases (zbL (fun b hb=>he b (by simp[hb])) x).1 hx with rfl | hx
    ·exact hac
    ·exact h1 x hx
   ·rename_i hac
    split
    ·exact h
    ·rename_i hne
     have hca:qx c a<0:=by
      have:=cmpC_to.notlt hac
      rcases Int.lt_or_eq_of_le this with h | h
      ·exact h
      ·exact absurd ((cmpC_to.eq a c).2 h) hne
     refine List.pairwise_cons.2 ⟨fun x hx=>?_,h⟩
     rcases List.mem_cons.1 hx with rfl | hx
     ·exact hca
     ·exact cmpC_to.trans hca (h1 x hx)
noncomputable def yy (l:List Cut):List Cut:=l.foldl (fun o c=>QN c o) []
theorem Vb:∀(l o:List Cut),(∀a∈l,a.good)→(∀a∈o,a.good)→(o.Pairwise fun a b=>qx a b<0)→((l.foldl (fun o c=>QN c o) o).Pairwise fun a b=>qx a b<0)∧∀x,x∈l.foldl (fun o c=>QN c o) o↔x∈l∨x∈o
 | [],o,_,_,ho=>⟨ho,fun x=>by simp⟩
 | c::l,o,hl,hg,ho=>by
   have hc:=hl c (by simp)
   have he:∀a∈o,qx a c=0→a=c:=fun a ha h=>zby (hg a ha) hc h
   have hm:=zbL (l:=o) he
   obtain⟨h1,h2⟩:=Vb l (QN c o) (fun a ha=>hl a (by simp[ha])) (fun a ha=>by
    rcases (hm a).1 ha with rfl | h
    ·exact hc
    ·exact hg a h) (Va ho he)
   simp only[List.foldl_cons]
   refine⟨h1,fun x=>?_⟩
   rw[h2 x,hm x,List.mem_cons]
   constructor
   ·rintro (h | h | h)
    ·exact .inl (.inr h)
    ·exact .inl (.inl h)
    ·exact .inr h
   ·rintro ((h | h) | h)
    ·exact .inr (.inl h)
    ·exact .inl h
    ·exact .inr (.inr h)
theorem YF:∀(l o:List Cut),(l.foldl (fun o c=>QN c o) o).length≤o.length+l.length
 | [],o=>by simp
 | c::l,o=>by
   have key:∀o:List Cut,(QN c o).length≤o.length+1:=by
    intro o
    induction o with
    | nil=>simp[QN]
    | cons a o ih =>
      simp only[QN]
      split
      ·simp only[List.length_cons];omega
      ·split<;>simp
   have:=YF l (QN c o)
   have:=key o
   simp only[List.foldl_cons,List.length_cons]
   omega
theorem zl7 {a b:List Str} (ha:goodR a) (hb:goodR b):yy (zV (a++b))=zfT a b:=by
 rw[kg]
 have hg:∀c∈zV a++zV b,c.good:=fun c hc=>by
  rcases List.mem_append.1 hc with h | h
  ·exact WF ha c h
  ·exact WF hb c h
 obtain⟨h1,h2⟩:=Vb (zV a++zV b) [] hg (fun a ha=>by cases ha) .nil
 refine zdx _ _ h1 (ZJ ha hb) fun c=>?_
 unfold yy
 rw[h2 c,ZI,List.mem_append]
 simp
theorem zo2 (f:Bool→Bool→Bool) {a b:List Str} (ha:goodR a) (hb:goodR b):yS f a b=(swL (fun c=>f (wG a c) (wG b c)) (yy (zV (a++b))) (false,[])).2:=by
 rw[zl7 ha hb]
 unfold yS zfT
 rw[zbp]
attribute [local go_sem] Oper.semAt_some
theorem zjm {P:Program} {g:FuncId} {F:List PV→Option PV} {us:List Value} {v:Value} (h:jt True P g (zd false [] F)) (hF:zd false [] F (us.map PV.v) (fun _=>none) 0=some (.v v,fun _=>none,0)) (hl:∀u∈us,lit u=true) {W:World} (hG:Glo P W fun b=>b<W.heap.size) :
  Calls P g us.toArray W fun e w'=>e=.returned v∧Fr True W (fun _=>False) w':=by
 have hz:Zip (RepO W (fun b=>b<W.heap.size) (fun _=>⟨0,0,0⟩) 0) (us.map PV.v) us:=by
  induction us with
  | nil=>exact .nil
  | cons u us ih=>exact .cons (.c (.v (hl u (by simp)))) (by
    clear hF
    have:∀us:List Value,(∀u∈us,lit u=true)→Zip (RepO W (fun b=>b<W.heap.size) (fun _=>⟨0,0,0⟩) 0) (us.map PV.v) us:=by
     intro us
     induction us with
     | nil=>intro _;exact .nil
     | cons u us ih=>intro h;exact .cons (.c (.v (h u (by simp)))) (ih fun x hx=>h x (by simp[hx]))
    exact this us fun x hx=>hl x (by simp[hx]))
 refine (h.2 _ _ _ _ _ _ hF W (fun b=>b<W.heap.size) (fun _=>⟨0,0,0⟩) us (Km _ (fun b hb=>hb) hG) hz).mono fun e w' hh=>?_
 obtain⟨x,S',G',rfl,st,hx⟩:=hh
 obtain⟨rfl,_⟩:=hx.v_inv
 exact⟨rfl,⟨st.fr.os,st.fr.tape,st.fr.output,st.fr.size,st.fr.drawn,fun k hk _=>st.fr.block k hk fun⟨_,_,h,_⟩=>by cases h⟩⟩
theorem zbM {W W':World} {L:Nat→Prop} (h:Fr True W L W') {a:Addr} {v:Value} (hc:W.cell? a=some v) (hn:¬L a.block):W'.cell? a=some v:=by
 rw[←hc]
 exact World.cell?_of_block (h.block _ (zki hc) hn)
def zeP (l:List (List UInt8)):List Value:=l.map fun p=>.string ⟨p.toArray⟩
def zrG (w:World) (b:Nat):Nat:=match w.cell? ⟨b,0,none⟩ with
 | some (.string s)=>s.size
 | _=>0
def CellAt (w:World) (b:Nat) (v:Value):Prop:=∃cs ty,w.heap[b]?=some (.cells cs ty (0,0))∧cs[0]?=some v
theorem CellAt.cell {w:World} {b:Nat} {v:Value} (h:CellAt w b v):w.cell? ⟨b,0,none⟩=some v:=by
 obtain⟨cs,ty,h1,h2⟩:=h
 simp[World.cell?,h1,h2]
theorem CellAt.free {w:World} {b:Nat} {v:Value} (h:CellAt w b v):w.frozen? ⟨b,0,none⟩=false:=by
 obtain⟨cs,ty,h1,h2⟩:=h
 simp[World.frozen?,h1]
theorem CellAt.same {w w':World} {b:Nat} {v:Value} (h:CellAt w b v) (e:w'.heap[b]?=w.heap[b]?):CellAt w' b v:=by
 obtain⟨cs,ty,h1,h2⟩:=h
 exact⟨cs,ty,e.trans h1,h2⟩
theorem CellAt.lt {w:World} {b:Nat} {v:Value} (h:CellAt w b v):b<w.heap.size:=by
 obtain⟨cs,ty,h1,h2⟩:=h
 exact (Array.getElem?_eq_some_iff.1 h1).1
theorem CellAt.set {w:World} {b:Nat} {v:Value} (u:Value) (h:CellAt w b v):CellAt (w.setCell ⟨b,0,none⟩ u) b u:=by
 obtain⟨cs,ty,h1,h2⟩:=h
 have hl:=(Array.getElem?_eq_some_iff.1 h2).1
 refine⟨cs.setIfInBounds 0 u,ty,?_,by simp[hl]⟩
 simp[World.setCell,Array.getElem?_modify,h1]
theorem CellAt.setFr {w:World} {b:Nat} (u:Value) (B:Nat→Prop) (hB:B b):Fr True w B (w.setCell ⟨b,0,none⟩ u) :=
 ⟨rfl,rfl,rfl,by simp[World.setCell],fun _=>Nat.le_refl _,fun k _ hn=>by
  have:¬b=k:=fun e=>hn (e ▸ hB)
  simp[World.setCell,Array.getElem?_modify,this]⟩
theorem CellAt.str {w:World} {b:Nat} {s:ByteArray} (h:CellAt w b (.string s)):zrG w b=s.size:=by
 unfold zrG
 rw[h.cell]
set_option maxRecDepth 100000 in
set_option maxHeartbeats 2000000 in
theorem zdZ (n l B1 B2 B3:Nat) (sep t:List UInt8) (hs1:1≤sep.length) (hs2:sep.length≤lim) (ht:t.length≤lim) (h12:B1≠B2) (h23:B3≠B2) (J Jx:List Value→World→Prop)
  (hJ:∀pre W W',J pre W→Fr True W (fun b=>b=B1∨b=B2∨b=B3) W'→J pre W') (hGl:∀pre W,J pre W→Glo prog W fun b=>b<W.heap.size)
  (hY:∀pre x W,J pre W→(zeP (zy t sep))[pre.length]?=some x→YieldAt Fence.wide n prog l #[x] W fun e W'=>(e=.returned (.bool true)∧J (pre++[x]) W'∧(∀b,(b=B1∨b=B2∨b=B3)→W'.heap[b]?=W.heap[b]?)∧W.heap.size≤W'.heap.size)∨(e=.returned (.bool false)∧Jx (pre++[x]) W'))
  (W:World) (h0:J [] W) (h1:W.cell? ⟨B1,0,none⟩=some (.string ⟨sep.toArray⟩)) (h2:CellAt W B2 (.string ⟨t.toArray⟩)) (h3:W.cell? ⟨B3,0,none⟩=some (.int .i64 0)) :
  CallsIn Fence.wide (n+1) prog 230 #[.func (.yield l) #[] #[],.pointer (some ⟨B1,0,none⟩),.pointer (some ⟨B2,0,none⟩),.pointer (some ⟨B3,0,none⟩)] W fun e W'=>(∃v,e=.returned v)∧(J (zeP (zy t sep)) W'∨∃pre,Jx pre W'):=by
 refine callsIn_of_wp func230 rfl trivial ?_ rfl
 simp only[Tryz.ntmps230,List.size_toArray,List.length_cons,List.length_nil,Nat.reduceAdd,Nat.reduceSub,Array.replicate_succ,Array.replicate_zero,List.push_toArray,List.append_toArray,List.nil_append,List.cons_append]
 have h2c:=h2.cell
 have hse:((sep.length:Int)==0)=false:=beq_eq_false_iff_ne.2 (by omega)
 gi_wp2
 try simp only[hse]
 have hx:∀cur:List UInt8,cur.length≤lim→∀wr:World,Glo prog wr (fun b=>b<wr.heap.size)→Calls prog 140 #[.string ⟨cur.toArray⟩,.string ⟨sep.toArray⟩] wr fun e w'=>e=.returned (.int .i64 (Lib.index cur sep))∧Fr True wr (fun _=>False) w':=fun cur hc wr hg=>by
  exact zjm (us:=[.string ⟨cur.toArray⟩,.string ⟨sep.toArray⟩]) Y7 (ZV cur sep _ _ hc hs2) (by simp[lit]) hg
 gi_loopw [] (fun wr=>∃(done:List (List UInt8)) (cur:List UInt8),zy t sep=done++zy cur sep∧cur.length≤t.length∧J (zeP done) wr∧wr.cell? ⟨B1,0,none⟩=some (.string ⟨sep.toArray⟩)∧CellAt wr B2 (.string ⟨cur.toArray⟩)∧wr.cell? ⟨B3,0,none⟩=some (.int .i64 0))
  (fun wr=>zrG wr B2)
 case atStart=>exact⟨[],t,rfl,Nat.le_refl _,h0,h1,h2,h3⟩
 case round =>
  obtain⟨done,cur,hsp,hcl,hJs,c1,k2,c3⟩:=hrel
  have c2:=k2.cell
  have hg:=hGl _ _ hJs
  gi_wp2
  refine⟨trivial,callsIn_wide.2 ((hx cur (Nat.le_trans hcl ht) wr hg).mono ?_)⟩
  rintro e w1 ⟨rfl,fr⟩
  dsimp only
  have d1:=zbM fr c1 (fun h=>h)
  have m2:=k2.same (fr.block _ k2.lt fun h=>h)
  have d2:=m2.cell
  have d3:=zbM fr c3 (fun h=>h)
  have hJ1:=hJ _ _ _ hJs ⟨fr.os,fr.tape,fr.output,fr.size,fr.drawn,fun k hk _=>fr.block k hk fun h=>h⟩
  have hel:(zeP done).length=done.length:=by simp[zeP]
  by_cases hneg:Lib.index cur sep<0
  ·have hsk:zy cur sep=[cur]:=by
    have hm:Lib.index cur sep=-1:=by
     rcases Lib.index_spec cur sep with⟨h,_⟩ | ⟨i,h,_⟩
     ·exact h
     ·omega
    unfold zy Lib.split
    rw[Lib.count_miss hm]
    rfl
   have hu:(zeP (zy t sep))[(zeP done).length]?=some (.string ⟨cur.toArray⟩):=by
    rw[hsp,hsk,hel]
    simp[zeP]
   obtain⟨fn,tmps,assign,body,hy,hR⟩:=hY _ _ w1 hJ1 hu
   gi_wp2
   refine hR.mono ?_
   rintro e W3 (⟨rfl,hJ3,hk3,hz3⟩ | ⟨rfl,hJx3⟩)
   ·gi_wp2
    go_end0
    refine⟨⟨_,rfl⟩,.inl ?_⟩
    rw[hsp,hsk]
    simpa[zeP] using hJ3
   ·gi_wp2
    go_end0
    exact⟨⟨_,rfl⟩,.inr ⟨_,hJx3⟩⟩
  ·obtain⟨i,hi⟩:∃i:Nat,Lib.index cur sep=i:=⟨(Lib.index cur sep).toNat,by omega⟩
   have hne:sep≠[]:=by rintro rfl;simp at hs1
   have hsk:zy cur sep=cur.take i::zy (cur.drop (i+sep.length)) sep:=by
    unfold zy Lib.split
    rw[Lib.count_hit hne hi,Nat.add_comm 1,Ym hi]
   have htk:(cur.drop (i+sep.length)).take (cur.length - (i+sep.length))=cur.drop (i+sep.length):=List.take_of_length_le (by simp)
   have hroom:=Lib.index_room cur sep (by omega)
   rw[hi] at hroom
   unfold lim at ht hs2
   have hwi:wrap64 (i:Int)=(i:Int):=by unfold wrap64;omega
   have hu:(zeP (zy t sep))[(zeP done).length]?=some (.string ⟨(cur.take i).toArray⟩):=by
    rw[hsp,hsk,hel]
    simp[zeP]
   obtain⟨fn,tmps,assign,body,hy,hR⟩:=hY _ _ w1 hJ1 hu
   rw[hi]
   gi_wp2
   refine hR.mono ?_
   rintro e W3 (⟨rfl,hJ3,hk3,hz3⟩ | ⟨rfl,hJx3⟩)
   ·have e1:W3.cell? ⟨B1,0,none⟩=some (.string ⟨sep.toArray⟩):=by rw[←d1];exact World.cell?_of_block (hk3 B1 (.inl rfl))
    have o2:=m2.same (hk3 B2 (.inr (.inl rfl)))
    have e2:=o2.cell
    have e4:=o2.free
    have e3:W3.cell? ⟨B3,0,none⟩=some (.int .i64 0):=by rw[←d3];exact World.cell?_of_block (hk3 B3 (.inr (.inr rfl)))
    gi_wp2
    go_roundw
    case rel =>
     refine⟨done++[cur.take i],cur.drop (i+sep.length),by rw[hsp,hsk];simp,by simp;omega,?_,?_,?_,?_⟩
     ·have:=hJ _ _ _ hJ3 (CellAt.setFr (w:=W3) (b:=B2) (.string ⟨(cur.drop (i+sep.length)).toArray⟩) (fun b=>b=B1∨b=B2∨b=B3) (.inr (.inl rfl)))
      simpa[zeP] using this
     ·exact zbM (CellAt.setFr (w:=W3) (b:=B2) _ (fun b=>b=B2) rfl) e1 h12
     ·exact o2.set (.string ⟨(cur.drop (i+sep.length)).toArray⟩)
     ·exact zbM (CellAt.setFr (w:=W3) (b:=B2) _ (fun b=>b=B2) rfl) e3 h23
    case measure =>
     have:=o2.set (.string ⟨(cur.drop (i+sep.length)).toArray⟩)
     rw[this.str,k2.str]
     simp
     omega
   ·gi_wp2
    refine bodyPost_ret (results_none rfl _ _ _) rfl ?_
    exact⟨⟨_,rfl⟩,.inr ⟨_,hJx3⟩⟩
def Vc:jY:=fun cap hp=>match cap with
 | [.ref i1 0 0,.ref i2 0 0,.ref i3 0 0]=>match hp i1,hp i2,hp i3 with
   | some ⟨_,1,false,[[.v (.string sep)]]⟩,some ⟨_,1,false,[[.v (.string t)]]⟩,some ⟨_,1,false,[[.v (.int .i64 0)]]⟩ =>
     if i1≠i2∧i3≠i2∧1≤sep.data.toList.length∧sep.data.toList.length≤lim∧t.data.toList.length≤lim then some ((zy t.data.toList sep.data.toList).map str,upd (upd (upd hp i1 none) i2 none) i3 none) else none
   | _,_,_=>none
 | _=>none
theorem Vd {P:Program} {w:World} {S:Nat→Prop} {G:Nat→GI} {hp:Hp} {nx id e:Nat} {u:Value} (hi:Inv P w S G hp nx) (hb:hp id=some ⟨e,1,false,[[.v u]]⟩):CellAt w (G id).g u:=by
 have hl:=hi.live id _ hb
 have hs:(G id).s=1:=hl.bs.symm
 obtain⟨cur,h1,h2,h3⟩:=hl.row (by omega)
 obtain⟨x,h4,h5⟩:=h3 0 0 [.v u] (.v u) rfl rfl
 obtain⟨rfl,_⟩:=h5.2.1.v_inv
 exact⟨cur,e,h1,by simpa[hs] using h4⟩
set_option maxRecDepth 100000 in
theorem zjn:zkP True prog 230 Vc:=by
 refine⟨⟨_,func230,by kernel_rfl,by kernel_rfl⟩,fun cap hp nx xs hp1 h=>?_⟩
 unfold Vc at h
 split at h
 case h_2=>cases h
 rename_i i1 i2 i3
 split at h
 case h_2=>cases h
 rename_i e1 sep e2 t e3 b1 b2 b3
 split at h
 case isFalse=>cases h
 rename_i hc
 obtain⟨n12,n32,hs1,hs2,ht⟩:=hc
 injection h with h
 injection h with ha hb
 subst ha;subst hb
 have hsub:∀id b,upd (upd (upd hp i1 none) i2 none) i3 none id=some b→hp id=some b∧id≠i1∧id≠i2∧id≠i3:=fun id b hb=>by
  by_cases q3:id=i3
  ·subst q3;rw[qd] at hb;cases hb
  rw[zT _ _ _ _ q3] at hb
  by_cases q2:id=i2
  ·subst q2;rw[qd] at hb;cases hb
  rw[zT _ _ _ _ q2] at hb
  by_cases q1:id=i1
  ·subst q1;rw[qd] at hb;cases hb
  rw[zT _ _ _ _ q1] at hb
  exact⟨hb,q1,q2,q3⟩
 refine⟨zeP (zy t.data.toList sep.data.toList),by simp[zeP],by simp[zeP,lit],fun id b hb=>(hsub id b hb).1,fun w S G vs hi hz=>?_⟩
 obtain⟨v1,r1,rfl,z1,hz⟩:=hz.uncons
 obtain⟨v2,r2,rfl,z2,hz⟩:=hz.uncons
 obtain⟨v3,r3,rfl,z3,hz⟩:=hz.uncons
 obtain rfl:=hz.unnil
 have c1:=Vd hi b1
 have c2:=Vd hi b2
 have c3:=Vd hi b3
 obtain⟨_,rfl⟩:=z1.ref_inv
 obtain⟨_,rfl⟩:=z2.ref_inv
 obtain⟨_,rfl⟩:=z3.ref_inv
 have g12:(G i1).g≠(G i2).g:=fun e=>n12 (hi.inj _ _ _ _ b1 b2 e)
 have g32:(G i3).g≠(G i2).g:=fun e=>n32 (hi.inj _ _ _ _ b3 b2 e)
 refine⟨fun b=>b=(G i1).g∨b=(G i2).g∨b=(G i3).g,?_,?_⟩
 ·have key:∀i blk,hp i=some blk→(i=i1∨i=i2∨i=i3)→yg hp G (G i).g∧Away S G (upd (upd (upd hp i1 none) i2 none) i3 none) (G i).g:=fun i blk hb hi' =>
   ⟨⟨i,blk,hb,rfl⟩,hi.apart i blk hb,fun id b' hid e=>by
     obtain⟨q0,q1,q2,q3⟩:=hsub id b' hid
     have:=hi.inj _ _ _ _ q0 hb e
     subst this
     rcases hi' with h | h | h
     ·exact q1 h
     ·exact q2 h
     ·exact q3 h⟩
  rintro b (rfl | rfl | rfl)
  ·exact key i1 _ b1 (.inl rfl)
  ·exact key i2 _ b2 (.inr (.inl rfl))
  ·exact key i3 _ b3 (.inr (.inr rfl))
 ·intro n l J Jx hJ hJx hGl hY W h0 hW _
  have:=zdZ n l (G i1).g (G i2).g (G i3).g sep.data.toList t.data.toList hs1 hs2 ht g12 g32 J Jx hJ hGl hY W h0 (c1.same (hW _ (.inl rfl))).cell (c2.same (hW _ (.inr (.inl rfl)))) (c3.same (hW _ (.inr (.inr rfl)))).cell
  simpa using this
end Go.Proofs.YtjcofiomfmebkaaGreatDoor
