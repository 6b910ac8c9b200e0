/-
The abstract machine, part 10: copy, the literals, len, min, max.
-/
import Derived.Test.YtjcofiomfmebkaaGreatDoorG4
set_option maxRecDepth 8000
namespace Go.AM
open Go.RowKit
variable {dr:Prop}
section
variable {P:Program} {w:World} {S:Nat→Prop} {G:Nat→GI} {hp:Hp} {nx:Nat}
theorem znH (hi:Inv P w S G hp nx) {t ty:TypeId} {p x:PV} {u:Value} (h:VW P t p=some x) (hu:RepO w S G nx p u):Done dr P w hp nx S G x hp nx ((Builtin.len_ #[t] ty #[u]).run P w):=by
 have sl:∀{A:Option Addr} {n c:Nat} {e:TypeId},qG P t=some e→(Builtin.len_ #[t] ty #[.slice A n c]).run P w=.ok (.int .i64 n) w:=fun he=>by
  simp[Builtin.len_,run_underlying (wU he),goInt]
 unfold VW at h
 split at h
 ·obtain⟨rfl,_⟩:=hu.v_inv
  split at h
  ·rename_i hun
   injection h with h
   subst h
   exact zA (v:=_) hi (by simp[Builtin.len_,run_underlying hun,goInt]) (j8 _ rfl)
  ·cases h
 ·cases he:qG P t with
  | none=>simp[he] at h
  | some e =>
    simp[he] at h
    subst h
    obtain⟨rfl,_⟩:=hu.v_inv
    exact zA (v:=_) hi (sl he) (j8 _ rfl)
 ·cases he:qG P t with
  | none=>simp[he] at h
  | some e =>
    simp[he] at h
    subst h
    cases hu.sl_inv with
    | sl us h0 h1 h2 h3 h4 h5=>exact zA (v:=_) hi (sl he) (j8 _ rfl)
 ·cases he:qG P t with
  | none=>simp[he] at h
  | some e =>
    simp[he] at h
    subst h
    have:=hu.nil_inv
    subst this
    exact zA (v:=_) hi (sl he) (j8 _ rfl)
 ·cases he:qG P t with
  | none=>simp[he] at h
  | some e =>
    simp[he] at h
    subst h
    obtain⟨ad,cap,rfl,_⟩:=hu.em_inv
    exact zA (v:=_) hi (sl he) (j8 _ rfl)
 ·cases he:qG P t with
  | none=>simp[he] at h
  | some e =>
    simp[he] at h
    subst h
    obtain⟨cap,_,_,_,_,rfl⟩:=hu.own_inv
    exact zA (v:=_) hi (sl he) (j8 _ rfl)
 ·cases h
theorem J9 {k:IntKind}:∀{l:List PV} {x:Int} {r:PV} {us:List Value},Ye k x l=some r→Zip (RepO w S G nx) l us→∃n,r=.v (.int k n)∧(us.foldlM Builtin.min2 (.int k x)).run P w=.ok (.int k n) w
 | [],x,r,us,h,hz=>by
   simp only[Ye] at h
   injection h with h
   subst h
   rw[hz.unnil]
   exact⟨x,rfl,by simp⟩
 | p::l,x,r,us,h,hz=>by
   obtain⟨u,us',rfl,hu,hz'⟩:=hz.uncons
   unfold Ye at h
   split at h
   ·cases ‹p::l=[]›
   ·rename_i k' y l' e
    injection e with e1 e2
    subst e1;subst e2
    split at h
    ·rename_i hk
     subst hk
     obtain⟨rfl,_⟩:=hu.v_inv
     obtain⟨n,rfl,hr⟩:=J9 h hz'
     exact⟨n,rfl,by simp only[List.foldlM_cons,Sem.run_bind,Builtin.min2,Sem.run_pure,Result.andThen_ok];exact hr⟩
    ·cases h
   ·cases h
theorem Ka {k:IntKind}:∀{l:List PV} {x:Int} {r:PV} {us:List Value},Yf k x l=some r→Zip (RepO w S G nx) l us→∃n,r=.v (.int k n)∧(us.foldlM Builtin.max2 (.int k x)).run P w=.ok (.int k n) w
 | [],x,r,us,h,hz=>by
   simp only[Yf] at h
   injection h with h
   subst h
   rw[hz.unnil]
   exact⟨x,rfl,by simp⟩
 | p::l,x,r,us,h,hz=>by
   obtain⟨u,us',rfl,hu,hz'⟩:=hz.uncons
   unfold Yf at h
   split at h
   ·cases ‹p::l=[]›
   ·rename_i k' y l' e
    injection e with e1 e2
    subst e1;subst e2
    split at h
    ·rename_i hk
     subst hk
     obtain⟨rfl,_⟩:=hu.v_inv
     obtain⟨n,rfl,hr⟩:=Ka h hz'
     exact⟨n,rfl,by simp only[List.foldlM_cons,Sem.run_bind,Builtin.max2,Sem.run_pure,Result.andThen_ok];exact hr⟩
    ·cases h
   ·cases h
theorem znI (hi:Inv P w S G hp nx) {ts:Array TypeId} {ty:TypeId} {xs:List PV} {x:PV} {us:Array Value} (h:zsT xs=some x) (hz:Zip (RepO w S G nx) xs us.toList):Done dr P w hp nx S G x hp nx ((Builtin.min_ ts ty us).run P w):=by
 unfold zsT at h
 split at h
 ·rename_i k y l
  obtain⟨u,us',hus,hu,hz'⟩:=hz.uncons
  obtain⟨rfl,_⟩:=hu.v_inv
  obtain⟨n,rfl,hr⟩:=J9 (P:=P) h hz'
  exact zA (v:=_) hi (by simp only[Builtin.min_,hus];exact hr) (j8 _ rfl)
 ·cases h
theorem znJ (hi:Inv P w S G hp nx) {ts:Array TypeId} {ty:TypeId} {xs:List PV} {x:PV} {us:Array Value} (h:zsU xs=some x) (hz:Zip (RepO w S G nx) xs us.toList):Done dr P w hp nx S G x hp nx ((Builtin.max_ ts ty us).run P w):=by
 unfold zsU at h
 split at h
 ·rename_i k y l
  obtain⟨u,us',hus,hu,hz'⟩:=hz.uncons
  obtain⟨rfl,_⟩:=hu.v_inv
  obtain⟨n,rfl,hr⟩:=Ka (P:=P) h hz'
  exact zA (v:=_) hi (by simp only[Builtin.max_,hus];exact hr) (j8 _ rfl)
 ·cases h
theorem zcB:∀(l:List Value) (k off:Nat) (arr:Array Value),off+k+l.length≤arr.size →
  ((l.zipIdx k).foldl (fun (cs:Array Value) (p:Value×Nat)=>cs.setIfInBounds (off+p.2) p.1) arr).size=arr.size ∧
  ∀i:Nat,((l.zipIdx k).foldl (fun (cs:Array Value) (p:Value×Nat)=>cs.setIfInBounds (off+p.2) p.1) arr)[i]?=if off+k≤i∧i<off+k+l.length then l[i - (off+k)]? else arr[i]?
 | [],k,off,arr,h=>by simp;omega
 | x::l,k,off,arr,h=>by
   simp only[List.length_cons] at h
   obtain⟨h1,h2⟩:=zcB l (k+1) off (arr.setIfInBounds (off+k) x) (by simp;omega)
   simp only[List.zipIdx_cons,List.foldl_cons]
   refine⟨by rw[h1];simp,fun i=>?_⟩
   rw[h2]
   by_cases c1:off+(k+1)≤i∧i<off+(k+1)+l.length
   ·rw[if_pos c1,if_pos ⟨by omega,by simp;omega⟩]
    obtain⟨d,rfl⟩:∃d,i=off+(k+1)+d:=⟨i - (off+(k+1)),by omega⟩
    rw[show off+(k+1)+d - (off+(k+1))=d from by omega,show off+(k+1)+d - (off+k)=d+1 from by omega]
    simp
   ·rw[if_neg c1]
    by_cases c2:i=off+k
    ·subst c2
     have hs:(arr.setIfInBounds (off+k) x)[off+k]?=some x:=by
      rw[Array.getElem?_setIfInBounds_self_of_lt (by omega)]
     rw[if_pos ⟨by omega,by simp⟩,hs]
     simp
    ·rw[if_neg (by simp;omega),Array.getElem?_setIfInBounds_ne (by omega)]
theorem zks {u:Value} {off:Nat} {cells:Array Value} (h:off+u.cells.size≤cells.size) :
  (u.cells.zipIdx.foldl (fun cs (c,j)=>cs.setIfInBounds (off+j) c) cells).size=cells.size ∧
  ∀i:Nat,(u.cells.zipIdx.foldl (fun cs (c,j)=>cs.setIfInBounds (off+j) c) cells)[i]?=if off≤i∧i<off+u.cells.size then u.cells[i - off]? else cells[i]?:=by
 have:=zcB u.cells.toList 0 off cells (by simpa using h)
 simp only[Nat.add_zero,Array.length_toList,Array.getElem?_toList] at this
 rw[←Array.foldl_toList,Array.toList_zipIdx]
 exact this
theorem zaH {place:Nat→Option (Nat×Nat)}:∀{ps:List (Nat×PV)} {vs:List (Nat×Value)} {cs cs':List PV} {cells:Array Value},zR place cs ps=some cs' →
  Zip (fun p v=>p.1=v.1∧RepO w S G nx p.2 v.2) ps vs→cs.length=cells.size→(∀(j:Nat) (pv:PV) (u:Value),cs[j]?=some pv→cells[j]?=some u→RepO w S G nx pv u) →
  ∃cells',Instr.fill place cells vs=some cells'∧cs'.length=cells'.size∧∀(j:Nat) (pv:PV) (u:Value),cs'[j]?=some pv→cells'[j]?=some u→RepO w S G nx pv u
 | [],vs,cs,cs',cells,h,hz,hl,hr=>by
   simp only[zR] at h
   injection h with h
   subst h
   rw[hz.unnil]
   exact⟨cells,rfl,hl,hr⟩
 | (i,x)::ps,vs,cs,cs',cells,h,hz,hl,hr=>by
   obtain⟨⟨i',u⟩,vs',rfl,⟨e,hu⟩,hz'⟩:=hz.uncons
   simp only at e hu
   subst e
   simp only[zR] at h
   split at h
   ·rename_i off n hp
    split at h
    ·rename_i hc
     obtain⟨c1,c2,c3⟩:=hc
     obtain⟨d1,d2⟩:=J5 hu c3
     have hsz:u.cells.size=n:=by rw[←d1,c1]
     obtain⟨f1,f2⟩:=zks (u:=u) (off:=off) (cells:=cells) (by omega)
     have hstep:Instr.fill place cells ((i,u)::vs')=Instr.fill place (u.cells.zipIdx.foldl (fun cs (c,j)=>cs.setIfInBounds (off+j) c) cells) vs':=by
      have g2:¬(off+n > cells.size):=by omega
      simp[Instr.fill,hp,hsz]
      omega
     rw[hstep]
     refine zaH h hz' (by rw[kz,f1,hl]) (fun j pv v hj hv=>?_)
     rw[Zc _ _ _ _ (by rw[c1];exact c2)] at hj
     rw[f2] at hv
     by_cases hin:off≤j∧j<off+u.cells.size
     ·rw[if_pos hin] at hv
      rw[if_pos (by omega)] at hj
      exact (d2 (j - off) pv v hj hv).1
     ·rw[if_neg hin] at hv
      rw[if_neg (by omega)] at hj
      exact hr j pv v hj hv
    ·cases h
   ·cases h
theorem Kb {ρ:Operand→Option PV} {a:Operand→Value} (hρ:∀y pv,ρ y=some pv→RepO w S G nx pv (a y)):∀{l:List (Nat×Operand)} {ps:List (Nat×PV)},yE ρ l=some ps →
  Zip (fun (p:Nat×PV) (v:Nat×Value)=>p.1=v.1∧RepO w S G nx p.2 v.2) ps (l.map fun (i,x)=>(i,a x))
 | [],ps,h=>by
   simp only[yE] at h
   injection h with h
   subst h
   exact .nil
 | (i,x)::l,ps,h=>by
   simp only[yE] at h
   split at h
   ·rename_i p r hp hr
    injection h with h
    subst h
    exact .cons ⟨rfl,hρ _ _ hp⟩ (Kb hρ hr)
   ·cases h
theorem zis (hi:Inv P w S G hp nx) {t:TypeId} {ps:List (Nat×PV)} {vs:Array (Nat×Value)} {x:PV} (h:zx P t ps=some x) (hz:Zip (fun p v=>p.1=v.1∧RepO w S G nx p.2 v.2) ps vs.toList) :
  Done dr P w hp nx S G x hp nx ((Instr.build t vs).run P w):=by
 unfold zx at h
 split at h
 ·rename_i pl z h1 h2
  obtain⟨i,vz,i1,i2,i3⟩:=ky h2
  obtain⟨z1,z2⟩:=qL (w:=w) (S:=S) i3
  cases hf:zR (fun i=>pl[i]?) z ps with
  | none=>simp[hf] at h
  | some cs' =>
    simp[hf] at h
    subst h
    obtain⟨cells',f1,f2,f3⟩:=zaH hf hz (cells:=vz.cells) (by rw[z1];simp) (fun j pv u hj hu=>.c (z2 j pv u hj (by simpa using hu)).1)
    have hb:P.built t vs.toList=some cells':=by
     unfold jQ at h1
     split at h1
     ·rename_i fs hu
      unfold Program.built
      simp only[i1,hu,i2,h1]
      simpa using f1
     ·cases h1
    exact zA (v:=_) hi (run_build w t vs cells' hb) (.agg f2 f3)
 ·rename_i z h1 h2
  split at h
  ·rename_i m e hu
   split at h
   ·rename_i n hn
    obtain⟨i,vz,i1,i2,i3⟩:=ky h2
    obtain⟨z1,z2⟩:=qL (w:=w) (S:=S) i3
    cases hf:zR (fun i=>some (i*n,n)) z ps with
    | none=>simp[hf] at h
    | some cs' =>
      simp[hf] at h
      subst h
      obtain⟨cells',f1,f2,f3⟩:=zaH hf hz (cells:=vz.cells) (by rw[z1];simp) (fun j pv u hj hu=>.c (z2 j pv u hj (by simpa using hu)).1)
      have hb:P.built t vs.toList=some cells':=by
       unfold Program.built
       unfold zS at hn
       cases hie:P.info? e with
       | none=>simp[hie] at hn
       | some ie =>
         simp only[hie,Option.map_some,Option.some.injEq] at hn
         simp only[i1,hu,i2,hie,hn]
         exact f1
      exact zA (v:=_) hi (run_build w t vs cells' hb) (.agg f2 f3)
   ·cases h
  ·cases h
 ·cases h
theorem vN:∀{ps qs:List (Nat×PV)} {hp hp1:Hp} {S:Nat→Prop} {vs:List (Nat×Value)} (_:Inv P w S G hp nx),zf hp ps=some (qs,hp1) →
  Zip (fun p v=>p.1=v.1∧RepO w S G nx p.2 v.2) ps vs→∃S',Stp dr P hp nx S G w hp1 nx S' G w∧Zip (fun p v=>p.1=v.1∧RepC w S' p.2 v.2) qs vs
 | [],qs,hp,hp1,S,vs,hi,h,hz=>by
   simp only[zf] at h
   injection h with h
   injection h with h1 h2
   subst h1;subst h2
   rw[hz.unnil]
   exact⟨S,.refl hi,.nil⟩
 | (i,x)::ps,qs,hp,hp1,S,vs,hi,h,hz=>by
   obtain⟨⟨i',u⟩,vs',rfl,⟨e,hu⟩,hz'⟩:=hz.uncons
   simp only at e hu
   simp only[zf] at h
   split at h
   ·rename_i y h1 hf
    split at h
    ·rename_i r h2 hr
     injection h with h
     injection h with e1 e2
     subst e1;subst e2
     obtain⟨S1,k1,c1,_⟩:=wH (dr:=dr) hi hf hu
     have hS:=k1.same hi
     obtain⟨S2,k2,c2⟩:=vN (S:=S1) k1.inv hr (hz'.imp fun x u hx=>⟨hx.1,hx.2.mono hS (Nat.le_refl _) (fun _ _=>rfl)⟩)
     exact⟨S2,k1.trans k2,.cons ⟨e,c1.mono (k2.same k1.inv)⟩ c2⟩
    ·cases h
   ·cases h
theorem zit {y:PV} {u:Value} (h:RepC w S y u) (hc:y.cells.all PV.isCell=true):y.cells.length=u.cells.size∧∀(j:Nat) (pv:PV) (c:Value),y.cells[j]?=some pv→u.cells[j]?=some c→RepC w S pv c∧c.oneCell'=true:=by
 by_cases hag:∃cs,y=.agg cs
 ·obtain⟨cs,rfl⟩:=hag
  cases h with
  | agg hl hr =>
    refine⟨hl,fun j pv c hj hu=>?_⟩
    have h1:=hr j pv c hj hu
    refine⟨h1,h1.oneCell ?_⟩
    simp only[PV.cells] at hc hj
    exact List.all_eq_true.1 hc pv (List.mem_of_getElem? hj)
 ·have hy:y.cells=[y]:=by cases y<;>first | rfl | exact (hag ⟨_,rfl⟩).elim
  rw[hy] at hc ⊢
  have hi:y.isCell=true:=by simpa using hc
  have ho:=h.oneCell hi
  have hu:u.cells=#[u]:=by cases u<;>first | rfl | simp[Value.oneCell'] at ho
  rw[hu]
  refine⟨rfl,fun j pv c hj hc=>?_⟩
  cases j with
  | zero=>simp at hj hc;subst hj;subst hc;exact⟨h,ho⟩
  | succ j=>simp at hj
theorem Y1 {n:Nat}:∀{qs:List (Nat×PV)} {vs:List (Nat×Value)} {es es':List (List PV)} {cells:Array Value},zo n es qs=some es'→Zip (fun p v=>p.1=v.1∧RepC w S p.2 v.2) qs vs →
  es.length*n=cells.size→(∀c∈es,c.length=n)→(∀(i j:Nat) (c:List PV) (pv:PV),es[i]?=some c→c[j]?=some pv→∃u,cells[i*n+j]?=some u∧RepC w S pv u∧u.oneCell'=true) →
  ∃cells',Instr.fill (fun i=>some (i*n,n)) cells vs=some cells'∧es'.length=es.length∧cells'.size=cells.size∧(∀c∈es',c.length=n) ∧
   ∀(i j:Nat) (c:List PV) (pv:PV),es'[i]?=some c→c[j]?=some pv→∃u,cells'[i*n+j]?=some u∧RepC w S pv u∧u.oneCell'=true
 | [],vs,es,es',cells,h,hz,hl,hn,hr=>by
   simp only[zo] at h
   injection h with h
   subst h
   rw[hz.unnil]
   exact⟨cells,rfl,rfl,rfl,hn,hr⟩
 | (i,x)::qs,vs,es,es',cells,h,hz,hl,hn,hr=>by
   obtain⟨⟨i',u⟩,vs',rfl,⟨e,hu⟩,hz'⟩:=hz.uncons
   simp only at e hu
   subst e
   simp only[zo] at h
   split at h
   ·rename_i hc
    obtain⟨c1,c2,c3⟩:=hc
    obtain⟨d1,d2⟩:=zit hu c3
    have hsz:u.cells.size=n:=by rw[←d1,c1]
    have hfit:i*n+n≤cells.size:=by
     have:(i+1)*n≤es.length*n:=Nat.mul_le_mul_right _ c2
     rw[Nat.add_mul] at this
     omega
    obtain⟨f1,f2⟩:=zks (u:=u) (off:=i*n) (cells:=cells) (by omega)
    have hstep:Instr.fill (fun i=>some (i*n,n)) cells ((i,u)::vs')=Instr.fill (fun i=>some (i*n,n)) (u.cells.zipIdx.foldl (fun cs (c,j)=>cs.setIfInBounds (i*n+j) c) cells) vs':=by
     simp[Instr.fill,hsz]
     omega
    rw[hstep]
    obtain⟨cells',g1,g2,g3,g4,g5⟩:=Y1 h hz' (cells:=u.cells.zipIdx.foldl (fun cs (c,j)=>cs.setIfInBounds (i*n+j) c) cells) (by rw[f1];simpa using hl) (fun c hc=>by
      rcases List.mem_or_eq_of_mem_set hc with h | h
      ·exact hn c h
      ·subst h;exact c1) (fun i' j c pv hi' hj=>by
      rw[f2]
      by_cases hii:i'=i
      ·subst hii
       rw[List.getElem?_set_self c2] at hi'
       injection hi' with hi'
       subst hi'
       have hjn:j<n:=by rw[←c1];exact (List.getElem?_eq_some_iff.1 hj).1
       rw[if_pos ⟨by omega,by omega⟩,show i'*n+j - i'*n=j from by omega]
       have hju:j<u.cells.size:=by omega
       have h6:=d2 j pv u.cells[j] hj (by simp[hju])
       exact⟨u.cells[j],by simp[hju],h6⟩
      ·rw[List.getElem?_set_ne (fun e=>hii e.symm)] at hi'
       have hjn:j<n:=by rw[←hn c (List.mem_of_getElem? hi')];exact (List.getElem?_eq_some_iff.1 hj).1
       have:=XJ hjn hii 0 n (by omega)
       rw[if_neg (by rw[hsz];simpa using this)]
       exact hr i' j c pv hi' hj)
    exact⟨cells',g1,by rw[g2];simp,by rw[g3,f1],g4,g5⟩
   ·cases h
theorem Kc (hi:Inv P w S G hp nx) {t:TypeId} {len:Nat} {ps:List (Nat×PV)} {vs:Array (Nat×Value)} {x:PV} {hp':Hp} {nx':Nat} (h:zh P hp nx t len ps=some (x,hp',nx')) (hz:Zip (fun p v=>p.1=v.1∧RepO w S G nx p.2 v.2) ps vs.toList) :
  Done dr P w hp nx S G x hp' nx' ((Instr.buildSlice t len vs).run P w):=by
 unfold zh at h
 split at h
 ·rename_i e he
  split at h
  ·rename_i n z qs hp1 h1 h2 h3
   split at h
   ·rename_i hc
    obtain⟨c1,c2,c3⟩:=hc
    split at h
    ·rename_i es hes
     injection h with h
     injection h with ex h
     injection h with eh en
     subst ex;subst eh;subst en
     obtain⟨i,vz,i1,i2,i3⟩:=ky h2
     obtain⟨z1,z2⟩:=qL (w:=w) (S:=S) i3
     have hzc:vz.cells.size=n:=by rw[←c2,z1];simp
     obtain⟨S1,k1,q1⟩:=vN (dr:=dr) hi h3 hz
     obtain⟨cells',g1,g2,g3,g4,g5⟩:=Y1 (w:=w) hes q1 (cells:=madeCells vz.cells (len*n)) (by simp[size_madeCells]) (fun c hc=>by rw[(List.mem_replicate.1 hc).2];exact c2) (fun i' j c pv hi' hj=>by
      have hil:i'<len:=by have:=(List.getElem?_eq_some_iff.1 hi').1;simpa using this
      rw[List.getElem?_replicate,if_pos hil] at hi'
      injection hi' with hi'
      subst hi'
      have hjn:j<n:=by rw[←c2];exact (List.getElem?_eq_some_iff.1 hj).1
      have hjz:j<vz.cells.size:=by omega
      rw[zgZ hzc hil hjn]
      have h6:=z2 j pv vz.cells[j] hj (by simp[hjz])
      exact⟨vz.cells[j],by simp[hjz],h6.1.mono (k1.same (dr:=dr) hi),h6.2.1⟩)
     have hel:es.length=len:=by rw[g2];simp
     have k2:=Stp.alloc (dr:=dr) k1.inv cells' e true es n c1 (by simpa[zS] using h1) g4 (by rw[g3,size_madeCells,hel];exact Nat.le_refl _) (fun i' j c pv hi' hj=>by
      obtain⟨u,u1,u2,u3⟩:=g5 i' j c pv hi' hj
      exact⟨u,u1,fun _=>u2,.c u2,u3⟩)
     have hlim:¬(len*n > 2 ^ 24):=by simp;omega
     refine⟨.slice (some ⟨w.heap.size,0,none⟩) len len,_,_,_,?_,k1.trans k2,?_⟩
     ·by_cases h0:len*n=0
      ·have hl0:len=0:=by
        rcases Nat.mul_eq_zero.1 h0 with h | h
        ·exact h
        ·omega
       have hfill:Instr.fill (fun i=>some (i*n,n)) ((Array.range (len*n)).map ((#[]:Array Value)[· % (#[]:Array Value).size]!)) vs.toList=some cells':=by
        rw[←g1]
        congr 1
        rw[h0]
        simp[madeCells]
       simp[Instr.buildSlice,run_underlying (wU he),ql h1,h0,newRow]
       simp[h0] at hfill
       simp[hfill]
      ·have hfill:Instr.fill (fun i=>some (i*n,n)) ((Array.range (len*n)).map (vz.cells[· % vz.cells.size]!)) vs.toList=some cells':=g1
       simp[Instr.buildSlice,run_underlying (wU he),ql h1,h0,newRow,j6 i1 i2,hfill]
       omega
     ·have hmax:len≤maxLen:=by
       have:len*1≤len*n:=Nat.mul_le_mul_left _ c1
       simp only[maxLen]
       omega
      have:=RepO.own (w:=w.alloc (.cells cells' e)) (S:=S1) (G:=upd G nx ⟨w.heap.size,cells'.size,n⟩) (nx:=nx+1) (id:=nx) (off:=0) (n:=len) (cap:=len) (by omega) (Nat.le_refl _) hmax (by simp[g3,size_madeCells]) (by simpa using c1)
      simpa using this
    ·cases h
   ·cases h
  ·cases h
 ·cases h
end
variable {dr:Prop}
section
variable {P:Program} {w:World} {S:Nat→Prop} {G:Nat→GI} {hp:Hp} {nx:Nat}
theorem zkt (hi:Inv P w S G hp nx) {t t' ty:TypeId} {d x y:PV} {hp':Hp} {nx':Nat} {u v:Value} (h:zny P hp nx t d x=some (y,hp',nx')) (hd:RepO w S G nx d u) (hx:RepO w S G nx x v) :
  Done dr P w hp nx S G y hp' nx' ((Builtin.copy_ #[t,t'] ty #[u,v]).run P w):=by
 unfold zny at h
 split at h
 ·rename_i e id off k he
  split at h
  ·rename_i b n hb hn
   split at h
   ·rename_i xs hv
    split at h
    ·rename_i hc
     obtain⟨c1,c2,c3,c4⟩:=hc
     injection h with h
     injection h with ey h
     injection h with eh en
     subst ey;subst eh;subst en
     have hop:=hd.own_pos
     obtain⟨cap,g1,g2,g3,g4,rfl⟩:=hd.own_inv
     obtain⟨A,c,f,rfl,f1,f2⟩:=ZQ hi hv hx
     have hbr:=hi.live id b hb
     obtain⟨cur,q1,q2,q3⟩:=hbr.row hop
     have hu:=wU he
     have hsb:(G id).s=n:=by
      have h5:=hbr.size hop
      rw[c2] at h5
      have h6:(P.info? e).map (·.size)=some n:=by simpa[zS] using hn
      rw[h6] at h5
      injection h5 with h5
      exact h5.symm
     have hmin:Nat.min xs.length k=min xs.length k:=rfl
     have hmx:min xs.length k≤xs.length:=Nat.min_le_left _ _
     have hmk:min xs.length k≤k:=Nat.min_le_right _ _
     generalize hm:min xs.length k=m at *
     have hfl:=Q1 c4 f1 f2
     have hmn:m*n≤xs.length*n:=Nat.mul_le_mul_right _ hmx
     have hcells:(Builtin.firstCells n m (.slice A xs.length c)).run P w=.ok ((List.range (m*n)).map f).toArray w:=by
      by_cases h0:m=0
      ·subst h0
       cases A<;>simp[Builtin.firstCells,loadCells,loadCellsFrom]
      ·obtain⟨ad,rfl,_,_⟩:=hfl 0 (Nat.mul_pos (by omega) c4)
       have:=run_loadCells_list (P:=P) w ad ((List.range (m*n)).map f) (fun j u hj=>by
        have hjl:j<m*n:=by have:=(List.getElem?_eq_some_iff.1 hj).1;simpa using this
        obtain⟨ad',e1,e2,_⟩:=hfl j (by omega)
        injection e1 with e1
        subst e1
        rw[List.getElem?_map,List.getElem?_range hjl] at hj
        simp at hj
        rw[e2,hj])
       simpa[Builtin.firstCells] using this
     have hfit:off*n+m*n≤cur.size:=by
      rw[q2]
      have h5:(off+m)*n≤b.es.length*n:=Nat.mul_le_mul_right _ (by omega)
      have h6:=hbr.fit hop
      rw[hsb] at h6
      rw[Nat.add_mul] at h5
      omega
     have hst:=run_storeCells_at P (G id).g (off*n) b.e ((List.range (m*n)).map f) 0 cur w q1 (by simpa using hfit) (fun u hu=>by
      obtain⟨k,hk,rfl⟩:=List.mem_map.1 hu
      exact (hfl k (by have:=List.mem_range.1 hk;omega)).choose_spec.2.2)
     simp only[Nat.add_zero] at hst
     have hlen:((List.range (m*n)).map f).length=m*n:=by simp
     have hsl:off*n+((List.range (m*n)).map f).length≤cur.toList.length:=by simpa using hfit
     have k2:=Stp.set (dr:=dr) hi hb hop (cur.toList.take (off*n)++(List.range (m*n)).map f++cur.toList.drop (off*n+((List.range (m*n)).map f).length)).toArray (b.es.take off++xs.take m++b.es.drop (off+m))
      (by rw[List.size_toArray,j7 _ _ _ hsl];simpa using q2)
      (fun c' hc'=>by
       rw[List.append_assoc] at hc'
       rcases List.mem_append.1 hc' with h | h
       ·exact hbr.len hop c' (List.take_subset _ _ h)
       ·rcases List.mem_append.1 h with h | h
        ·rw[hsb];exact f1 c' (List.take_subset _ _ h)
        ·exact hbr.len hop c' (List.drop_subset _ _ h))
      (by
       have h5:=hbr.fit hop
       have:(b.es.take off++xs.take m++b.es.drop (off+m)).length=b.es.length:=by simp;omega
       rw[this];exact h5)
      (fun i' j c' pv hi' hj=>by
       have hxm:(xs.take m).length=m:=by simp;omega
       rw[show off+m=off+(xs.take m).length from by rw[hxm],wZ _ _ _ _ (by rw[hxm];omega),hxm] at hi'
       rw[List.getElem?_toArray,wZ _ _ _ _ hsl,hlen,hsb]
       by_cases hin:off≤i'∧i'<off+m
       ·rw[if_pos hin,List.getElem?_take,if_pos (by omega)] at hi'
        have hjn:j<n:=by rw[←f1 c' (List.mem_of_getElem? hi')];exact (List.getElem?_eq_some_iff.1 hj).1
        have h5:off*n≤i'*n:=Nat.mul_le_mul_right _ hin.1
        have h6:=yh (i:=i' - off) (n:=m) (by omega) hjn
        have h7:i'*n+j - off*n=(i' - off)*n+j:=by rw[Nat.sub_mul];omega
        rw[if_pos ⟨by omega,by rw[Nat.sub_mul] at h6;omega⟩,h7,List.getElem?_map,List.getElem?_range h6]
        obtain⟨ad',a1,a2,a3⟩:=f2 (i' - off) j c' pv hi' hj
        refine⟨f ((i' - off)*n+j),rfl,?_⟩
        rw[c1];exact a3
       ·rw[if_neg hin] at hi'
        have hjn:j<n:=by rw[←hsb,←hbr.len hop c' (List.mem_of_getElem? hi')];exact (List.getElem?_eq_some_iff.1 hj).1
        have:¬(off*n≤i'*n+j∧i'*n+j<off*n+m*n):=by
         by_cases h5:i'<off
         ·have h6:=yh (n:=off) h5 hjn;omega
         ·have h6:off+m≤i':=by omega
          have h7:(off+m)*n≤i'*n:=Nat.mul_le_mul_right _ h6
          rw[Nat.add_mul] at h7
          omega
        rw[if_neg this]
        obtain⟨u',u1,u2⟩:=q3 i' j c' pv hi' hj
        rw[hsb] at u1
        exact⟨u',by simpa using u1,u2⟩)
     rw[c1] at k2
     refine⟨.int .i64 m,_,_,_,?_,k2,j8 _ rfl⟩
     simp[Builtin.copy_,run_underlying hu,Builtin.lenOf,ql hn,hmin,hcells,hsb,hst,goInt]
    ·cases h
   ·cases h
  ·cases h
 ·cases h
theorem znK {ts:Array TypeId} {us:Array Value} {t:TypeId} {u:Value} (ty:TypeId) (h1:ts[0]?=some t) (h3:us[0]?=some u):Builtin.clear_ ts ty us=Builtin.clear_ #[t] ty #[u]:=by
 simp[Builtin.clear_,h1,h3]
theorem ziu (hi:Inv P w S G hp nx) {t ty:TypeId} {x y:PV} {hp':Hp} {nx':Nat} {v:Value} (h:XH P hp nx t x=some (y,hp',nx')) (hd:RepO w S G nx x v) :
  Done dr P w hp nx S G y hp' nx' ((Builtin.clear_ #[t] ty #[v]).run P w):=by
 unfold XH at h
 split at h
 ·rename_i e id off k he
  split at h
  ·rename_i b n z hb hn hz
   split at h
   ·rename_i hc
    obtain⟨c0,c1,c2,c3,c4⟩:=hc
    subst c0
    injection h with h
    injection h with ey h
    injection h with eh en
    subst ey;subst eh;subst en
    have hop:=hd.own_pos
    obtain⟨cap,g1,g2,g3,g4,rfl⟩:=hd.own_inv
    have hbr:=hi.live id b hb
    obtain⟨cur,q1,q2,q3⟩:=hbr.row hop
    have hu:=wU he
    have hsb:(G id).s=1:=by
     have h5:=hbr.size hop
     rw[c2] at h5
     have h6:(P.info? e).map (·.size)=some 1:=by simpa[zS] using hn
     rw[h6] at h5
     injection h5 with h5
     exact h5.symm
    obtain⟨i,vz,i1,i2,i3⟩:=ky hz
    obtain⟨z1,z2⟩:=qL (w:=w) (S:=S) i3
    have hzc:vz.cells.size=1:=by have:=z1;simp at this;omega
    obtain⟨cz,hcz⟩:∃cz,vz.cells=#[cz]:=⟨vz.cells[0],by
     apply Array.ext'
     apply List.ext_getElem
     ·simp[hzc]
     ·intro j h1 h2
      have:j=0:=by simp at h2;exact h2
      subst this
      simp⟩
    obtain⟨r1,r2,_⟩:=z2 0 z cz rfl (by simp[hcz])
    have hcells:(Builtin.zeroCells vz.cells k).toList=List.replicate k cz:=by
     rw[hcz]
     apply List.ext_getElem
     ·simp[Builtin.zeroCells]
     ·intro j h1 h2
      simp[Builtin.zeroCells,Nat.mod_one]
    have hfit:off+k≤cur.size:=by
     rw[q2]
     have h6:=hbr.fit hop
     rw[hsb] at h6
     omega
    have hst:=run_storeCells_at P (G id).g off b.e (List.replicate k cz) 0 cur w q1 (by simpa using hfit) (fun u hu=>by rw[List.eq_of_mem_replicate hu];exact r2)
    simp only[Nat.add_zero] at hst
    have hsl:off+(List.replicate k cz).length≤cur.toList.length:=by simpa using hfit
    have k2:=Stp.set (dr:=dr) hi hb hop (cur.toList.take off++List.replicate k cz++cur.toList.drop (off+(List.replicate k cz).length)).toArray (b.es.take off++List.replicate k [z]++b.es.drop (off+k))
     (by rw[List.size_toArray,j7 _ _ _ hsl];simpa using q2)
     (fun c' hc'=>by
      rw[List.append_assoc] at hc'
      rcases List.mem_append.1 hc' with h | h
      ·exact hbr.len hop c' (List.take_subset _ _ h)
      ·rcases List.mem_append.1 h with h | h
       ·rw[hsb,List.eq_of_mem_replicate h];rfl
       ·exact hbr.len hop c' (List.drop_subset _ _ h))
     (by
      have h5:=hbr.fit hop
      have:(b.es.take off++List.replicate k [z]++b.es.drop (off+k)).length=b.es.length:=by simp;omega
      rw[this];exact h5)
     (fun i' j c' pv hi' hj=>by
      have hxm:(List.replicate k [z]).length=k:=by simp
      rw[show off+k=off+(List.replicate k [z]).length from by rw[hxm],wZ _ _ _ _ (by rw[hxm];omega),hxm] at hi'
      rw[List.getElem?_toArray,wZ _ _ _ _ hsl,hsb,List.length_replicate]
      by_cases hin:off≤i'∧i'<off+k
      ·rw[if_pos hin,List.getElem?_replicate,if_pos (by omega)] at hi'
       injection hi' with hi'
       subst hi'
       have hj0:j=0:=by have:=(List.getElem?_eq_some_iff.1 hj).1;simp at this;omega
       subst hj0
       simp at hj
       subst hj
       rw[if_pos (by omega),List.getElem?_replicate,if_pos (by omega)]
       exact⟨cz,rfl,fun _=>r1,.c r1,r2⟩
      ·rw[if_neg hin] at hi'
       have hjn:j<1:=by rw[←hsb,←hbr.len hop c' (List.mem_of_getElem? hi')];exact (List.getElem?_eq_some_iff.1 hj).1
       rw[if_neg (by omega)]
       obtain⟨u',u1,u2⟩:=q3 i' j c' pv hi' hj
       rw[hsb] at u1
       exact⟨u',by simpa using u1,u2⟩)
    rw[c1] at k2
    refine⟨.tuple #[],_,_,_,?_,k2,.c (.tup rfl (by simp))⟩
    obtain⟨k',rfl⟩:∃k',k=k'+1:=⟨k - 1,by omega⟩
    simp[Builtin.clear_,run_underlying hu,j6 i1 i2,hcells,hsb,hst]
   ·cases h
  ·cases h
 ·cases h
theorem kA {ρ:Operand→Option PV} {a:Operand→Value} (hρ:∀y pv,ρ y=some pv→RepO w S G nx pv (a y)):∀{l:List Operand} {xs:List PV},qu (l.map ρ)=some xs→Zip (RepO w S G nx) xs (l.map a)
 | [],xs,h=>by
   simp only[List.map_nil,qu] at h
   injection h with h
   subst h
   exact .nil
 | x::l,xs,h=>by
   simp only[List.map_cons] at h
   cases hx:ρ x with
   | none=>rw[hx] at h;simp[qu] at h
   | some p =>
     rw[hx] at h
     simp only[qu] at h
     cases hl:qu (l.map ρ) with
     | none=>rw[hl] at h;simp at h
     | some r =>
       rw[hl] at h
       simp at h
       subst h
       exact .cons (hρ _ _ hx) (kA hρ hl)
def jt (dr:Prop) (P:Program) (g:FuncId) (spec:AM.Spec):Prop :=
 (∃fn,P.funcs[g]?=some fn∧(fn.name== "runtime.NumGoroutine")=false∧fn.body.isNone=false) ∧
 ∀(args:List PV) (hp:Hp) (nx:Nat) (r:PV) (hp':Hp) (nx':Nat),spec args hp nx=some (r,hp',nx')→∀(w:World) (S:Nat→Prop) (G:Nat→GI) (vs:List Value),Inv P w S G hp nx→Zip (RepO w S G nx) args vs →
  Calls P g vs.toArray w fun e w'=>∃v S' G',e=.returned v∧Stp dr P hp nx S G w hp' nx' S' G' w'∧RepO w' S' G' nx' r v
abbrev za:=jt True
def zsV (dr:Prop) (P:Program) (w:World) (hp:Hp) (nx:Nat) (S:Nat→Prop) (G:Nat→GI) (x:PV) (hp':Hp) (nx':Nat) (r:Result Next):Prop :=
 (∃v w' S' G',(r=.ok (.value v) w'∨(r=.ok .skip w'∧v=undef))∧Stp dr P hp nx S G w hp' nx' S' G' w'∧RepO w' S' G' nx' x v) ∨
 ∃g vs,r=.ok (.enter g vs) w∧Calls P g vs w fun e w'=>∃v S' G',e=.returned v∧Stp dr P hp nx S G w hp' nx' S' G' w'∧RepO w' S' G' nx' x v
theorem Done.op {x:PV} {hp':Hp} {nx':Nat} {s:Sem Value} (h:Done dr P w hp nx S G x hp' nx' (s.run P w)):zsV dr P w hp nx S G x hp' nx' ((do pure (.value (←s)):Sem Next).run P w):=by
 obtain⟨v,w',S',G',h1,h2,h3⟩:=h
 exact .inl ⟨v,w',S',G',.inl (by simp[h1]),h2,h3⟩
theorem zsW {ts:Array TypeId} {us:Array Value} {t:TypeId} {u:Value} (ty:TypeId) (h1:ts[0]?=some t) (h2:us[0]?=some u):Builtin.len_ ts ty us=Builtin.len_ #[t] ty #[u]:=by
 simp[Builtin.len_,h1,h2]
theorem zku {ts:Array TypeId} {us:Array Value} {t t':TypeId} {u v:Value} (ty:TypeId) (h1:ts[0]?=some t) (h2:ts[1]?=some t') (h3:us[0]?=some u) (h4:us[1]?=some v):Builtin.append_ ts ty us=Builtin.append_ #[t,t'] ty #[u,v]:=by
 simp[Builtin.append_,h1,h2,h3,h4]
theorem zqy {ts:Array TypeId} {us:Array Value} {t:TypeId} {u v:Value} (ty:TypeId) (h1:ts[0]?=some t) (h3:us[0]?=some u) (h4:us[1]?=some v):Builtin.copy_ ts ty us=Builtin.copy_ #[t,t] ty #[u,v]:=by
 simp[Builtin.copy_,h1,h3,h4]
theorem xq {α β:Type} {R:α→β→Prop} {x:α} {us:List β} (h:Zip R [x] us):∃u,us=[u]∧R x u:=by
 obtain⟨u,us',rfl,hu,hz⟩:=h.uncons
 rw[hz.unnil]
 exact⟨u,rfl,hu⟩
theorem zkv {α β:Type} {R:α→β→Prop} {x y:α} {us:List β} (h:Zip R [x,y] us):∃u v,us=[u,v]∧R x u∧R y v:=by
 obtain⟨u,us',rfl,hu,hz⟩:=h.uncons
 obtain⟨v,rfl,hv⟩:=xq hz
 exact⟨u,v,rfl,hu,hv⟩
theorem Zip.append {α β:Type} {R:α→β→Prop} {xs ys:List α} {us vs:List β} (h:Zip R xs us) (k:Zip R ys vs):Zip R (xs++ys) (us++vs):=by
 refine⟨by simp[h.1,k.1],fun j x u hx hu=>?_⟩
 by_cases hj:j<xs.length
 ·rw[List.getElem?_append_left hj] at hx
  rw[List.getElem?_append_left (by rw[←h.1];exact hj)] at hu
  exact h.2 j x u hx hu
 ·rw[List.getElem?_append_right (by omega)] at hx
  rw[List.getElem?_append_right (by rw[←h.1];omega),←h.1] at hu
  exact k.2 _ x u hx hu
theorem zp {α β:Type} {o:Option α} {f:α→β} {y:β} (h:o.map f=some y):∃x,o=some x∧f x=y:=by
 cases o with
 | none=>simp at h
 | some x=>exact⟨x,rfl,by simpa using h⟩
end
theorem Y2 {C:Ctx} {w:World} {S:Nat→Prop} {G:Nat→GI} {hp:Hp} {nx:Nat} (hΓ:∀g spec,C.Γ g=some spec→jt dr C.P g spec) (hi:Inv C.P w S G hp nx)
  {ρ:Operand→Option PV} {a:Operand→Value} (hρ:∀y pv,ρ y=some pv→RepO w S G nx pv (a y)) {o:Oper} {x:PV} {hp':Hp} {nx':Nat} (h:zw C ρ hp nx o.op=some (x,hp',nx')) :
  zsV dr C.P w hp nx S G x hp' nx' ((execOp a o).run C.P w):=by
 have same:∀{f:PV} {y:PV},(f,hp,nx)=(y,hp',nx')→f=y∧hp=hp'∧nx=nx':=by
  intro f y h
  injection h with e1 h
  injection h with e2 e3
  exact⟨e1,e2,e3⟩
 unfold zw at h
 unfold execOp
 split at h
 ·rename_i y ho
  obtain⟨p,h1,h2⟩:=zp h
  obtain⟨rfl,rfl,rfl⟩:=same h2
  simp only[ho]
  exact .inl ⟨a y,w,S,G,.inl rfl,.refl hi,hρ _ _ h1⟩
 ·rename_i y ho
  obtain⟨p,h1,h2⟩:=zp h
  obtain⟨rfl,rfl,rfl⟩:=same h2
  simp only[ho]
  exact .inl ⟨a y,w,S,G,.inl rfl,.refl hi,hρ _ _ h1⟩
 ·rename_i c y z ho
  simp only[ho]
  split at h
  ·rename_i hc
   obtain⟨p,h1,h2⟩:=zp h
   obtain⟨rfl,rfl,rfl⟩:=same h2
   obtain⟨e,_⟩:=(hρ _ _ hc).v_inv
   exact .inl ⟨a y,w,S,G,.inl (by simp[e,asBool]),.refl hi,hρ _ _ h1⟩
  ·rename_i hc
   obtain⟨p,h1,h2⟩:=zp h
   obtain⟨rfl,rfl,rfl⟩:=same h2
   obtain⟨e,_⟩:=(hρ _ _ hc).v_inv
   exact .inl ⟨a z,w,S,G,.inl (by simp[e,asBool]),.refl hi,hρ _ _ h1⟩
  ·cases h
 ·rename_i t ho
  simp only[ho]
  split at h
  ·rename_i n z h1 h2
   split at h
   ·rename_i hl
    injection h with h
    injection h with e1 h
    injection h with e2 e3
    subst e1;subst e2;subst e3
    exact (zik hi h1 h2 hl.1 hl.2).op
   ·cases h
  ·cases h
 ·rename_i t y ho
  simp only[ho]
  split at h
  ·rename_i n p h1 h2
   split at h
   ·rename_i hc
    injection h with h
    injection h with e1 h
    injection h with e2 e3
    subst e1;subst e2;subst e3
    exact (znz hi h1 (hρ _ _ h2) hc.1 hc.2.1 hc.2.2).op
   ·cases h
  ·cases h
 ·rename_i t parts ho
  simp only[ho]
  split at h
  ·rename_i ps hps
   obtain⟨p,h1,h2⟩:=zp h
   obtain⟨rfl,rfl,rfl⟩:=same h2
   exact (zis hi h1 (by simpa using Kb hρ hps)).op
  ·cases h
 ·rename_i t len parts ho
  simp only[ho]
  split at h
  ·rename_i ps hps
   exact (Kc hi h (by simpa using Kb hρ hps)).op
  ·cases h
 ·rename_i t y ho
  simp only[ho]
  split at h
  ·rename_i p hp1
   obtain⟨q,h1,h2⟩:=zp h
   obtain⟨rfl,rfl,rfl⟩:=same h2
   exact (zcr hi h1 (hρ _ _ hp1)).op
  ·cases h
 ·rename_i t y z ho
  simp only[ho]
  split at h
  ·rename_i p q h1 h2
   obtain⟨hp1,h3,h4⟩:=zp h
   injection h4 with e1 h4
   injection h4 with e2 e3
   subst e1;subst e2;subst e3
   obtain⟨w',S',G',r1,r2⟩:=zil hi h3 (hρ _ _ h1) (hρ _ _ h2)
   exact .inl ⟨undef,w',S',G',.inr ⟨by simp[r1],rfl⟩,r2,qW⟩
  ·cases h
 ·rename_i y ho
  simp only[ho]
  split at h
  ·rename_i id i j hy
   injection h with h
   obtain⟨rfl,rfl,rfl⟩:=same h
   have hr:=hρ _ _ hy
   obtain⟨h1,h2⟩:=hr.ref_inv
   exact .inl ⟨a y,w,S,G,.inl (by rw[h2];rfl),.refl hi,hr⟩
  ·rename_i cs hy
   injection h with h
   obtain⟨rfl,rfl,rfl⟩:=same h
   have hr:=hρ _ _ hy
   have hr2:=hr
   have hc:=hr.ptr_inv
   generalize hay:a y=u at *
   cases hc with
   | ptr us h1 h2=>exact .inl ⟨_,w,S,G,.inl rfl,.refl hi,hr2⟩
  ·cases h
 ·rename_i op t y z t2 ho
  simp only[ho]
  split at h
  ·rename_i p q h1 h2
   obtain⟨r,h3,h4⟩:=zp h
   obtain⟨rfl,rfl,rfl⟩:=same h4
   exact (zkm hi y z h3 (hρ _ _ h1) (hρ _ _ h2)).op
  ·cases h
 ·rename_i op t y ho
  simp only[ho]
  split at h
  ·rename_i p h1
   obtain⟨r,h3,h4⟩:=zp h
   obtain⟨rfl,rfl,rfl⟩:=same h4
   exact (zkn hi h3 (hρ _ _ h1)).op
  ·cases h
 ·rename_i src dst y ho
  simp only[ho]
  split at h
  ·rename_i p h1
   obtain⟨r,h3,h4⟩:=zp h
   obtain⟨rfl,rfl,rfl⟩:=same h4
   exact (zko hi h3 (hρ _ _ h1)).op
  ·cases h
 ·rename_i f first captured ho
  simp only[ho]
  split at h
  ·rename_i xs ys h1 h2
   injection h with h
   obtain⟨rfl,rfl,rfl⟩:=same h
   exact (zaG hi (by simpa using kA hρ h1) (by simpa using kA hρ h2)).op
  ·cases h
 ·rename_i t l c ho
  simp only[ho]
  split at h
  ·rename_i p q h1 h2
   exact (V0 hi h (hρ _ _ h1) (hρ _ _ h2)).op
  ·cases h
 ·rename_i t y lo hh ho
  simp only[ho]
  split at h
  ·rename_i p h1
   obtain⟨r,h3,h4⟩:=zp h
   obtain⟨rfl,rfl,rfl⟩:=same h4
   have hd:∀o:Option Operand,o.map ρ=none→o.map a=none:=fun o h=>by cases o<;>simp_all
   have hs:∀(o:Option Operand) (p:PV),o.map ρ=some (some p)→∃u,o.map a=some u∧RepO w S G nx p u:=fun o p h=>by
    cases o with
    | none=>simp at h
    | some y=>exact⟨a y,rfl,hρ _ _ (by simpa using h)⟩
   exact (ziq hi h3 (hρ _ _ h1) (hd lo) (hs lo) (hd hh) (hs hh)).op
  ·cases h
 ·rename_i t y f ho
  simp only[ho]
  split at h
  ·rename_i p h1
   obtain⟨r,h3,h4⟩:=zp h
   obtain⟨rfl,rfl,rfl⟩:=same h4
   exact (VY hi h3 (hρ _ _ h1)).op
  ·cases h
 ·rename_i t y f ho
  simp only[ho]
  split at h
  ·rename_i p h1
   obtain⟨r,h3,h4⟩:=zp h
   obtain⟨rfl,rfl,rfl⟩:=same h4
   exact (zim hi h3 (hρ _ _ h1)).op
  ·cases h
 ·rename_i t y z ho
  simp only[ho]
  split at h
  ·rename_i p q h1 h2
   obtain⟨r,h3,h4⟩:=zp h
   obtain⟨rfl,rfl,rfl⟩:=same h4
   exact (VZ hi h3 (hρ _ _ h1) (hρ _ _ h2)).op
  ·cases h
 ·rename_i t y z ho
  simp only[ho]
  split at h
  ·rename_i p q h1 h2
   obtain⟨r,h3,h4⟩:=zp h
   obtain⟨rfl,rfl,rfl⟩:=same h4
   exact (zin hi h3 (hρ _ _ h1) (hρ _ _ h2)).op
  ·cases h
 ·rename_i y i ho
  simp only[ho]
  split at h
  ·rename_i vs h1
   obtain⟨r,h3,h4⟩:=zp h
   obtain⟨rfl,rfl,rfl⟩:=same h4
   exact (zcu hi h3 (hρ _ _ h1)).op
  ·cases h
 ·rename_i c ho
  simp only[ho]
  obtain⟨callee,⟨cargs⟩,ctypes⟩:=c
  unfold jc at h
  simp only at h
  split at h
  ·rename_i xs hargs
   have hz:=kA hρ hargs
   split at h
   ·rename_i b
    unfold qr at h
    split at h
    ·split at h
     ·rename_i y t ht
      obtain⟨u,hu1,hu2⟩:=xq hz
      obtain⟨r,h3,h4⟩:=zp h
      obtain⟨rfl,rfl,rfl⟩:=same h4
      have hd:=(znH (dr:=dr) (ty:=o.type) hi h3 hu2).op
      rw[←zsW (us:=(cargs.map a).toArray) o.type ht (by simp[hu1])] at hd
      simpa[resolve,invoke,builtin,-bind_pure_comp] using hd
     ·cases h
    ·obtain⟨r,h3,h4⟩:=zp h
     obtain⟨rfl,rfl,rfl⟩:=same h4
     have hd:=(znI (dr:=dr) (us:=(cargs.map a).toArray) (ts:=ctypes) (ty:=o.type) hi h3 (by simpa using hz)).op
     simpa[resolve,invoke,builtin,-bind_pure_comp] using hd
    ·obtain⟨r,h3,h4⟩:=zp h
     obtain⟨rfl,rfl,rfl⟩:=same h4
     have hd:=(znJ (dr:=dr) (us:=(cargs.map a).toArray) (ts:=ctypes) (ty:=o.type) hi h3 (by simpa using hz)).op
     simpa[resolve,invoke,builtin,-bind_pure_comp] using hd
    ·split at h
     ·rename_i s y t t' ht ht'
      obtain⟨u,v,huv,hu,hv⟩:=zkv hz
      have hd:=(zeT (dr:=dr) (ty:=o.type) hi h hu hv).op
      rw[←zku (us:=(cargs.map a).toArray) o.type ht ht' (by simp[huv]) (by simp[huv])] at hd
      simpa[resolve,invoke,builtin,-bind_pure_comp] using hd
     ·cases h
    ·split at h
     ·rename_i s y t ht
      obtain⟨u,v,huv,hu,hv⟩:=zkv hz
      have hd:=(zkt (dr:=dr) (t':=t) (ty:=o.type) hi h hu hv).op
      rw[←zqy (us:=(cargs.map a).toArray) o.type ht (by simp[huv]) (by simp[huv])] at hd
      simpa[resolve,invoke,builtin,-bind_pure_comp] using hd
     ·cases h
    ·split at h
     ·rename_i y t ht
      obtain⟨u,hu1,hu2⟩:=xq hz
      have hd:=(ziu (dr:=dr) (ty:=o.type) hi h hu2).op
      rw[←znK (us:=(cargs.map a).toArray) o.type ht (by simp[hu1])] at hd
      simpa[resolve,invoke,builtin,-bind_pure_comp] using hd
     ·cases h
    ·cases h
   ·rename_i f
    unfold wg at h
    split at h
    ·rename_i g first captured hf
     split at h
     ·rename_i spec hg
      obtain⟨⟨fn,f1,f2,f3⟩,hsound⟩:=hΓ g spec hg
      obtain⟨us,ts,e1,l1,l2,r1,r2⟩:=(hρ _ _ hf).fn_inv
      have hz:Zip (RepO w S G nx) (first++xs++captured) (us.toList++cargs.map a++ts.toList) :=
       (Zip.append ⟨by simpa using l1,fun j pv x p q=>r1 j pv x p (by simpa using q)⟩ (kA hρ hargs)).append ⟨by simpa using l2,fun j pv x p q=>r2 j pv x p (by simpa using q)⟩
      refine .inr ⟨g,(us.toList++cargs.map a++ts.toList).toArray,?_,hsound _ _ _ _ _ _ h w S G _ hi hz⟩
      have f2':¬fn.name= "runtime.NumGoroutine":=by simpa using f2
      have f3':¬fn.body=none:=by intro h;simp[h] at f3
      have e5:(us.toList++cargs.map a++ts.toList).toArray=us++(cargs.map a).toArray++ts:=by apply Array.ext';simp
      rw[e5]
      simp[resolve,e1,Deferred.ofValue,invoke,callFunc,f1,f2',f3']
     ·cases h
    ·cases h
   ·cases h
  ·cases h
 ·rename_i t ho
  simp only[ho]
  split at h
  ·rename_i kt hk
   injection h with h
   injection h with e1 h
   injection h with e2 e3
   subst e1;subst e2;subst e3
   exact (zcz hi t).op
  ·cases h
 ·rename_i t y z ok ho
  simp only[ho]
  split at h
  ·rename_i p q h1 h2
   obtain⟨r,h3,h4⟩:=zp h
   obtain⟨rfl,rfl,rfl⟩:=same h4
   exact (zeU hi h3 (hρ _ _ h1) (hρ _ _ h2)).op
  ·cases h
 ·rename_i t m k y ho
  simp only[ho]
  split at h
  ·rename_i p q r h1 h2 h3
   obtain⟨hp1,h4,h5⟩:=zp h
   injection h5 with e1 h5
   injection h5 with e2 e3
   subst e1;subst e2;subst e3
   obtain⟨w',S',G',r1,r2⟩:=J8 hi h4 (hρ _ _ h1) (hρ _ _ h2) (hρ _ _ h3)
   exact .inl ⟨undef,w',S',G',.inr ⟨by simp[r1],rfl⟩,r2,qW⟩
  ·cases h
 ·rename_i t m k y ho
  simp only[ho]
  split at h
  ·rename_i p q r h1 h2 h3
   obtain⟨hp1,h4,h5⟩:=zp h
   injection h5 with e1 h5
   injection h5 with e2 e3
   subst e1;subst e2;subst e3
   obtain⟨w',S',G',r1,r2⟩:=J8 hi h4 (hρ _ _ h1) (hρ _ _ h2) (hρ _ _ h3)
   exact .inl ⟨undef,w',S',G',.inr ⟨by simp[r1],rfl⟩,r2,qW⟩
  ·cases h
 ·cases h
end Go.AM
