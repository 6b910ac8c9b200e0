/-
The abstract machine, part 14: functions, and what may be said of them to their callers.
The abstract machine, part 17: from what the row reads to pure arguments; a law's call.
-/
import Derived.Test.YtglppmnehgjolaaGreatDoorG7
import Derived.ProofKit
set_option maxRecDepth 8000
namespace Go.AM
open Go.RowKit
variable {dr:Prop}
section
variable {C:Ctx} {pf:FuncId→Bool}
theorem xV {w:World} {S:Nat→Prop} {G:Nat→GI} {st:St} {a:Act} (hi:Inv C.P w S G st.hp st.nx) (hs:∀t,RepO w S G st.nx (st.σ t) (a.tmps.getD t undef)) :
  ∀{l:List ResultVar} {xs:List PV},qn (l.map (kN C.P st))=some xs→∃vs,(l.mapM (m:=Sem) fun r=>match r with
   | .tmp t=>pure (a.tmps.getD t undef)
   | .cell p t=>do loadVar t (←asAddr (a.tmps.getD p undef))).run C.P w=.ok vs w∧Zip (RepO w S G st.nx) xs vs
 | [],xs,h=>by
   simp only[List.map_nil,qn] at h
   injection h with h
   subst h
   exact⟨[],by simp,.nil⟩
 | r::l,xs,h=>by
   simp only[List.map_cons] at h
   cases hr:kN C.P st r with
   | none=>rw[hr] at h;simp[qn] at h
   | some p =>
     rw[hr] at h
     simp only[qn] at h
     cases hl:qn (l.map (kN C.P st)) with
     | none=>rw[hl] at h;simp at h
     | some ys =>
       rw[hl] at h
       simp at h
       subst h
       obtain⟨vs,h1,h2⟩:=xV hi hs hl
       cases r with
       | tmp t =>
         simp only[kN] at hr
         injection hr with hr
         subst hr
         refine⟨a.tmps.getD t undef::vs,?_,.cons (hs t) h2⟩
         simp only[List.mapM_cons,Sem.run_bind,Sem.run_pure,Result.andThen_ok,h1]
       | cell q t =>
         simp only[kN] at hr
         obtain⟨v,w',S',G',e1,k,hx⟩:=load_done (dr:=True) hi hr (hs q)
         have hq:=hs q
         have hld:∃v,(do loadVar t (←asAddr (a.tmps.getD q undef)):Sem Value).run C.P w=.ok v w∧RepO w S G st.nx p v:=by
          unfold jQ at hr
          split at hr
          ·rename_i cs hσ
           rw[hσ] at hq
           have hc:=hq.ptr_inv
           generalize a.tmps.getD q undef=u at *
           cases hc with
           | ptr us g1 g2 =>
             obtain⟨v,hv,hr'⟩:=xN (G:=G) (nx:=st.nx) (w:=w) (S:=S) hr _ us (fun j pv hj=>⟨(g1 j pv hj).2,.c (g2 j pv hj)⟩)
             exact⟨v,by simp[asAddr,hv],hr'⟩
          ·rename_i id i j hσ
           rw[hσ] at hq
           have hrp:=hq.ref_pos
           obtain⟨hid,hu⟩:=hq.ref_inv
           rw[hu] at e1 ⊢
           split at hr
           ·rename_i b hb
            split at hr
            ·rename_i c hc
             obtain⟨cur,h3,h4,h5⟩:=(hi.live id b hb).row hrp
             have hcell:∀k:Nat,w.cell? ((⟨(G id).g,i*(G id).s+j,none⟩:Addr).add k)=cur[i*(G id).s+j+k]?:=by
              intro k
              rw[Addr.add_lit,cell_of_row w _ _ cur _ _ h3]
             obtain⟨v,hv,hr'⟩:=xN (G:=G) (nx:=st.nx) (w:=w) (S:=S) hr ⟨(G id).g,i*(G id).s+j,none⟩ (fun k=>(cur[i*(G id).s+j+k]?).getD undef) (fun k pv hk=>by
              rw[List.getElem?_drop] at hk
              obtain⟨u,h6,h7⟩:=h5 i (j+k) c pv hc hk
              rw[hcell]
              have e:i*(G id).s+j+k=i*(G id).s+(j+k):=by omega
              rw[e,h6]
              exact⟨rfl,h7.2.1⟩)
             exact⟨v,by simp[asAddr,hv],hr'⟩
            ·cases hr
           ·cases hr
          ·cases hr
         obtain⟨v,hv,hvr⟩:=hld
         refine⟨v::vs,?_,.cons hvr h2⟩
         simp only[List.mapM_cons,Sem.run_bind,hv,Result.andThen_ok,h1,Sem.run_pure]
theorem leaves_marks {P:Program} {fn:Func} {tmps:Array Value} {R:Ending→World→Prop}:∀(Ds:List Nat) (w:World),Ds.Nodup→(∀D∈Ds,w.heap[D]?=some (.deferred (some [])))→(∀w2,Fr dr w (fun b=>b∈Ds) w2→LeavesIn Fence.wide 0 P fn tmps R [] .returning w2)→LeavesInM Fence.wide 0 P fn tmps R (Ds.map mark) .returning w
 | [],w,_,_,h=>h w (Fr.refl _ _)
 | D::Ds,w,hn,hd,h=>by
   obtain⟨h1,h2⟩:=List.nodup_cons.1 hn
   refine⟨by simp,.inl ⟨D,_,rfl,run_takeDeferred (hd D (by simp)),leaves_marks Ds _ h2 (fun D' hD'=>?_) fun w2 fr=>h w2 ?_⟩⟩
   ·exact (World.putObj_heap_other (k:=D') (r:=D) fun e=>h1 (by rw[←e];exact hD')).trans (hd D' (by simp[hD']))
   ·exact (fr_put (.deferred none) (fun b=>b∈D::Ds) (by simp)).trans fr (fun b _ hb=>by simp[hb])
theorem func_calls (hΓ:∀g spec,C.Γ g=some spec→ya dr C.P g spec) (hpf:∀g spec,pf g=true→C.Γ g=some spec→Quiet spec) (hbk:∀g spec,C.bk g=true→C.Γ g=some spec→yb spec) (hit:∀g it,C.it g=some it→IterD dr C.P g it) (hm:C.P.follows .mixedOrders=true)
  {f:FuncId} {fn:Func} {code:Code} (hf:C.P.funcs[f]?=some fn) (hb:fn.body=some code) (hok:yE pf C.dyn C.lds C.bk fn.ntmps code=true)
  {args:List PV} {hp hp':Hp} {nx nx':Nat} {x:PV} (h:qq C fn args hp nx=some (x,hp',nx')) {w:World} {S:Nat→Prop} {G:Nat→GI} {vs:List Value} (hi:Inv C.P w S G hp nx) (hz:Zip (RepO w S G nx) args vs) (hn:args.length≤fn.ntmps) :
  Calls C.P f vs.toArray w fun e w'=>∃v S' G',e=.returned v∧Stp dr C.P hp nx S G w hp' nx' S' G' w'∧RepO w' S' G' nx' x v:=by
 unfold qq at h
 simp only[hb] at h
 refine callsIn_wide.1 (callsIn_of_wp_marks (n:=0) hf hb trivial ?_)
 have hsim:Sim dr C.P w S (wU hp G) fn.ntmps nx G w.heap.size ⟨yD args,hp,nx⟩ { tmps:=vs.toArray++Array.replicate (fn.ntmps - vs.toArray.size) undef,defers:=[] } w:=by
  refine⟨S,G,hi,fun t=>?_,?_,.nil (Nat.le_refl _),fun _ h=>h,fun _ h=>.inl h,fun id b hb=>.inl ⟨id,b,hb,rfl⟩,Fr.refl _ _,Nat.le_refl _,fun _ _=>rfl⟩
  ·have hvl:vs.length=args.length:=hz.1.symm
   unfold yD
   by_cases ht:t<args.length
   ·have h1:args[t]?=some args[t]:=List.getElem?_eq_getElem ht
    have h2:vs[t]?=some (vs[t]'(by omega)):=List.getElem?_eq_getElem (by omega)
    have h3:=hz.2 t _ _ h1 h2
    have h4:(vs.toArray++Array.replicate (fn.ntmps - vs.toArray.size) undef)[t]?=vs[t]?:=by
     rw[Array.getElem?_append_left (by simpa using (by omega:t<vs.length))]
     simp
    simp only[h1,Option.getD_some]
    rw[Array.getD_eq_getD_getElem?,h4,h2]
    exact h3
   ·have h1:args[t]?=none:=List.getElem?_eq_none (by omega)
    have h4:(vs.toArray++Array.replicate (fn.ntmps - vs.toArray.size) undef).getD t undef=undef:=by
     rw[Array.getD_eq_getD_getElem?,Array.getElem?_append_right (by simpa using (by omega:vs.length≤t)),Array.getElem?_replicate]
     split<;>rfl
    simp only[h1,Option.getD_none]
    rw[h4]
    exact wQ
  ·have hvl:vs.length=args.length:=hz.1.symm
   simp
   omega
 have fin:∀(e:Exit) (st:St),(e=.normal∨e=.ret)→zO C code ⟨yD args,hp,nx⟩=some (e,st)→(jD C.P fn st).map (fun x=>(x,st.hp,st.nx))=some (x,hp',nx') →
   code.wpIn Fence.wide 0 C.P (bodyPostM Fence.wide 0 C.P fn fun e w'=>∃v S' G',e=.returned v∧Stp dr C.P hp nx S G w hp' nx' S' G' w'∧RepO w' S' G' nx' x v) { tmps:=vs.toArray++Array.replicate (fn.ntmps - vs.toArray.size) undef,defers:=[] } w:=by
  intro e st he hev hr
  obtain⟨r,hr1,hr2⟩:=zs hr
  injection hr2 with e1 hr2
  injection hr2 with e2 e3
  subst e1;subst e2;subst e3
  refine code_sound hΓ hpf hbk hit hm code hok Fence.wide 0 (.inl rfl) (.inl rfl) w S (wU hp G) nx G w.heap.size _ st e _ w _ (Nat.le_refl _) hev hsim fun a' w1 hs'=>?_
  obtain⟨S',G',hS1⟩:=hs'
  obtain⟨hd0,Ds,hd1,hd2,hd3⟩:=hS1.defers
  have key:LeavesInM Fence.wide 0 C.P fn a'.tmps (fun e w'=>∃v S' G',e=.returned v∧Stp dr C.P hp nx S G w st.hp st.nx S' G' w'∧RepO w' S' G' st.nx r v) a'.defers .returning w1:=by
   rw[hd1]
   refine leaves_marks (dr:=dr) Ds w1 hd2 (fun D hD=>(hd3 D hD).2.1) fun w' frD=>?_
   have haw:∀b,b∈Ds→Away S' G' st.hp b:=fun b hb=>⟨(hd3 b hb).2.2.1,(hd3 b hb).2.2.2⟩
   have hinv:=hS1.inv.frame frD haw
   have hsl:∀t,RepO w' S' G' st.nx (st.σ t) (a'.tmps.getD t undef):=fun t=>(hS1.slots t).mono (fun b hb=>⟨hb,frD.block b (hS1.inv.st b hb) fun hb'=>(haw b hb').1 hb⟩) (Nat.le_refl _) (fun _ _=>rfl)
   have hk:Stp dr C.P hp nx S G w st.hp st.nx S' G' w':=⟨hinv,hS1.up,hS1.loc,hS1.s0,hS1.s1,hS1.own,hS1.fr.trans frD fun b hb h1=>by have:=(hd3 b h1).1;omega⟩
   have hres:∃v,(results fn a'.tmps).run C.P w'=.ok v w'∧RepO w' S' G' st.nx r v:=by
    unfold jD at hr1
    have go:∀xs,qn (fn.results.toList.map (kN C.P st))=some xs→r=(match xs with | [x]=>x | xs=>.tup xs)→∃v,(results fn a'.tmps).run C.P w'=.ok v w'∧RepO w' S' G' st.nx r v:=by
     intro xs hx hrx
     obtain⟨us,h1,h2⟩:=xV hinv hsl hx
     have hrun:(results fn a'.tmps).run C.P w'=.ok (if h:us.toArray.size=1 then us.toArray[0] else .tuple us.toArray) w':=by
      unfold results
      rw[Array.mapM_eq_mapM_toList]
      simp only[Sem.run_bind,Sem.run_map]
      erw [h1]
      rfl
     refine⟨_,hrun,?_⟩
     match xs,h2,hrx with
     | [],h2,hrx =>
       rw[h2.unnil]
       subst hrx
       exact .tup rfl (by simp)
     | [y],h2,hrx =>
       obtain⟨u,rfl,hu⟩:=jk h2
       subst hrx
       simpa using hu
     | y::z::ys,h2,hrx =>
       have hl:=h2.1
       subst hrx
       rw[dif_neg (by simp at hl ⊢;omega)]
       exact .tup (by simpa using hl) (fun j pv u hj hu=>h2.2 j pv u hj (by simpa using hu))
    split at hr1
    ·rename_i y hy
     injection hr1 with hr1
     exact go [y] hy hr1.symm
    ·rename_i xs hne hx
     injection hr1 with hr1
     refine go xs hx ?_
     rw[←hr1]
     match xs,hne with
     | [],_=>rfl
     | [y],hne=>exact (hne y rfl).elim
     | y::z::ys,_=>rfl
    ·cases hr1
   obtain⟨v,hv1,hv2⟩:=hres
   exact⟨v,hv1,v,S',G',rfl,hk,hv2⟩
  rcases he with rfl | rfl
  ·exact key
  ·exact key
 split at h
 ·rename_i st hev;exact fin _ st (.inl rfl) hev h
 ·rename_i st hev;exact fin _ st (.inr rfl) hev h
 ·cases h
end
variable {dr:Prop}
def PV.isV:PV→Bool
 | .v _=>true
 | _=>false
def PV.flat:PV→Bool
 | .v _=>true
 | .tup cs=>cs.all PV.isV
 | _=>false
def nilTo (s:Nat):PV→PV
 | .nil=>.sl s []
 | x=>x
def qr:List Nat→List PV→List PV
 | s::ns,x::l=>nilTo s x::qr ns l
 | _,l=>l
def NilUp1 (x y:PV):Prop:=x=y∨(x=.nil∧∃s,y=.sl s [])
def NilUp:PV→PV→Prop
 | .tup xs,.tup ys=>xs.length=ys.length∧∀(j:Nat) (x y:PV),xs[j]?=some x→ys[j]?=some y→NilUp1 x y
 | x,y=>NilUp1 x y
def zd (kill:Bool) (ns:List Nat) (F:List PV→Option PV):AM.Spec:=fun args hp nx =>
 match zk hp args with
 | some (aZ,hp1)=>match F (qr ns aZ) with
   | some r=>if r.flat=true∨args.all PV.noOwn=true then some (r,hp,nx) else if kill=true then some (r,hp1,nx) else none
   | none=>none
 | none=>none
def qD (ns:List Nat) (F:List PV→Option (Option Blk)):AM.Spec:=fun args hp nx =>
 match zk hp args with
 | some (aZ,hp1)=>match F (qr ns aZ) with
   | some none=>some (.nil,hp1,nx)
   | some (some b)=>some (.own nx 0 b.es.length,upd hp1 nx (some b),nx+1)
   | none=>none
 | none=>none
theorem zf (ns:List Nat) (F:List PV→Option PV):Quiet (zd false ns F):=by
 intro args hp nx r hp' nx' h
 unfold zd at h
 split at h
 ·split at h
  ·split at h
   ·injection h with h
    injection h with _ h
    injection h with h1 h2
    exact⟨h1.symm,h2.symm⟩
   ·simp at h
  ·cases h
 ·cases h
structure Known (C:Ctx) (pf:FuncId→Bool) (f:FuncId) (fn:Func) (code:Code):Prop where
 func:C.P.funcs[f]?=some fn
 name:(fn.name== "runtime.NumGoroutine")=false
 body:fn.body=some code
 ok:yE pf C.dyn C.lds C.bk fn.ntmps code=true
structure GoodD (dr:Prop) (C:Ctx) (pf:FuncId→Bool):Prop where
 spec:∀g spec,C.Γ g=some spec→ya dr C.P g spec
 quiet:∀g spec,pf g=true→C.Γ g=some spec→Quiet spec
 mixed:C.P.follows .mixedOrders=true
 box:∀g spec,C.bk g=true→C.Γ g=some spec→yb spec:=by intro _ _ h;cases h
 iter:∀g it,C.it g=some it→IterD dr C.P g it:=by intro _ _ h;cases h
abbrev Good:=GoodD True
section
variable {C:Ctx} {pf:FuncId→Bool} {f:FuncId} {fn:Func} {code:Code}
theorem Stp.outer {P:Program} {hp:Hp} {nx:Nat} {S:Nat→Prop} {G:Nat→GI} {w w':World} (h:Inv P w S G hp nx) (k:Fr dr w (fun _=>False) w') :
  Stp dr P hp nx S G w hp nx (fun b=>S b∨(w.heap.size≤b∧b<w'.heap.size)) G w':=by
 have hold:∀b,b<w.heap.size→w'.heap[b]?=w.heap[b]?:=fun b hb=>k.block b hb fun h=>h
 have hS:∀b,S b→(S b∨(w.heap.size≤b∧b<w'.heap.size))∧w'.heap[b]?=w.heap[b]?:=fun b hb=>⟨.inl hb,hold b (h.st b hb)⟩
 refine⟨⟨fun b hb=>?_,h.top,fun id b hb=>(h.live id b hb).mono hS (Nat.le_refl _) (fun _ _=>rfl) (hold _ (h.live id b hb).lt),fun id b hb hs=>?_,h.inj,h.glo.mono hS⟩,Nat.le_refl _,fun _ _=>rfl,fun _ hb=>.inl hb,fun b hb=>?_,fun id b hb=>.inl ⟨id,b,hb,rfl⟩,⟨k.os,k.tape,k.output,k.size,k.drawn,fun b hb _=>hold b hb⟩⟩
 ·rcases hb with hb | hb
  ·exact Nat.lt_of_lt_of_le (h.st b hb) k.size
  ·exact hb.2
 ·rcases hs with hs | hs
  ·exact h.apart id b hb hs
  ·have:=(h.live id b hb).lt;omega
 ·rcases hb with hb | hb
  ·exact .inl hb
  ·exact .inr (.inr hb.1)
theorem inv_empty {P:Program} {w:World} {S:Nat→Prop} (G:Nat→GI) (hS:∀b,S b→b<w.heap.size) (hg:Glo P w S):Inv P w S G (fun _=>none) 0 :=
 ⟨hS,fun _ _ h=>(by cases h),fun _ _ h=>(by cases h),fun _ _ h=>(by cases h),fun _ _ _ _ h=>(by cases h),hg⟩
theorem live_empty {G:Nat→GI} {b:Nat} (h:wU (fun _=>none) G b):False:=by
 obtain⟨_,_,h,_⟩:=h
 cases h
theorem Zip.closed {w:World} {S:Nat→Prop} {G:Nat→GI} {nx:Nat} {xs:List PV} {us:List Value} (h:Zip (RepC w S) xs us):Zip (RepO w S G nx) xs us:=h.imp fun _ _ h=>.c h
theorem flat_any {w w':World} {S S':Nat→Prop} {r:PV} {v:Value} (h:RepC w S r v) (hf:r.flat=true):RepC w' S' r v:=by
 cases h with
 | v h=>exact .v h
 | tup hl hr =>
   refine .tup hl fun j pv u hj hu=>?_
   simp only[PV.flat,List.all_eq_true] at hf
   have:=hf pv (List.mem_of_getElem? hj)
   have h2:=hr j pv u hj hu
   cases pv<;>simp[PV.isV] at this
   obtain⟨rfl,hl⟩:=h2.v_inv
   exact .v hl
 | _=>simp[PV.flat] at hf
theorem yr (hg:GoodD dr C pf) (hk:Known C pf f fn code) {args:List PV} {x:PV} {hp1:Hp} {nx1:Nat} (h:qq C fn args (fun _=>none) 0=some (x,hp1,nx1)) (hn:args.length≤fn.ntmps)
  {w:World} {S:Nat→Prop} {vs:List Value} (hS:∀b,S b→b<w.heap.size) (hgl:Glo C.P w S) (hz:Zip (RepC w S) args vs) :
  Calls C.P f vs.toArray w fun e w'=>∃v S' G',e=.returned v∧Fr dr w (fun _=>False) w'∧Inv C.P w' S' G' hp1 nx1∧RepO w' S' G' nx1 x v∧(∀b,S b→S' b)∧(∀b,S' b→S b∨w.heap.size≤b)∧(∀id blk,hp1 id=some blk→w.heap.size≤(G' id).g):=by
 refine (func_calls hg.spec hg.quiet hg.box hg.iter hg.mixed hk.func hk.body hk.ok h (inv_empty (fun _=>⟨0,0,0⟩) hS hgl) hz.closed hn).mono fun e w' hh=>?_
 obtain⟨v,S',G',he,k,hx⟩:=hh
 refine⟨v,S',G',he,⟨k.fr.os,k.fr.tape,k.fr.output,k.fr.size,k.fr.drawn,fun b hb _=>k.fr.block b hb live_empty⟩,k.inv,hx,k.keep,fun b hb=>?_,fun id blk hb=>?_⟩
 ·rcases k.from_ b hb with h | h | h
  ·exact .inl h
  ·exact (live_empty h).elim
  ·exact .inr h
 ·rcases k.own id blk hb with h | h
  ·exact (live_empty h).elim
  ·exact h
theorem nilTo_rep {w:World} {S:Nat→Prop} {x:PV} {u:Value} (h:RepC w S x u) (s:Nat):RepC w S (nilTo s x) u:=by
 unfold nilTo
 split
 ·cases h
  exact .sl (es:=[]) (fun _ _=>undef) (by simp) (by simp) (by simp[maxLen]) (by simp) (by simp) (by simp)
 ·exact h
theorem kv {w:World} {S:Nat→Prop}:∀{ns:List Nat} {xs:List PV} {us:List Value},Zip (RepC w S) xs us→Zip (RepC w S) (qr ns xs) us
 | [],xs,us,h=>by unfold qr;exact h
 | s::ns,[],us,h=>by unfold qr;exact h
 | s::ns,x::xs,us,h=>by
   obtain⟨u,us',rfl,hu,hz⟩:=h.uncons
   simp only[qr]
   exact .cons (nilTo_rep hu s) (kv hz)
theorem up_rep1 {w:World} {S:Nat→Prop} {x y:PV} {u:Value} (h:RepC w S x u) (hu:NilUp1 x y):RepC w S y u:=by
 rcases hu with rfl | ⟨rfl,s,rfl⟩
 ·exact h
 ·exact nilTo_rep h s
theorem up_rep {w:World} {S:Nat→Prop} {x y:PV} {u:Value} (h:RepC w S x u) (hu:NilUp x y):RepC w S y u:=by
 unfold NilUp at hu
 split at hu
 ·cases h with
  | tup hl hr =>
    rename_i xs ys us
    refine .tup (by omega) fun j pv v hj hv=>?_
    have hjl:j<xs.length:=by rw[hu.1];exact (List.getElem?_eq_some_iff.1 hj).1
    exact up_rep1 (hr j xs[j] v (List.getElem?_eq_getElem hjl) hv) (hu.2 j xs[j] pv (List.getElem?_eq_getElem hjl) hj)
 ·exact up_rep1 h hu
theorem hPure_sound (hg:GoodD dr C pf) (hk:Known C pf f fn code) (kill:Bool) (ns:List Nat) (F:List PV→Option PV) (hF:∀args r,F args=some r→args.length≤fn.ntmps∧∃r0,zl C fn args=some r0∧NilUp r0 r):ya dr C.P f (zd kill ns F):=by
 refine⟨⟨fn,hk.func,hk.name,by rw[hk.body];rfl⟩,?_⟩
 intro args hp nx r hp' nx' h w S G vs hi hz
 unfold zd at h
 split at h
 ·rename_i aZ hp1 hfr
  split at h
  ·rename_i r0 hF0
   obtain⟨hn,rr,hev,hup⟩:=hF _ r0 hF0
   unfold zl at hev
   split at hev
   ·rename_i x hpe nxe hef
    obtain⟨⟨r1,hpf1⟩,hfz,hr1⟩:=zs hev
    simp only at hr1
    subst hr1
    obtain⟨S1,k1,hz1,hsn⟩:=qR (dr:=dr) hi hfr hz
    refine (yr hg hk hef hn k1.inv.st k1.inv.glo (kv hz1)).mono fun e w' hh=>?_
    obtain⟨v,S',G',he,fr,inv',hx,hs0,hs1,_⟩:=hh
    obtain⟨S2,k2,hc0⟩:=kQ (dr:=dr) inv' hfz hx
    have hc:=up_rep hc0 hup
    have hS2:∀b,S2 b→S1 b∨(w.heap.size≤b∧b<w'.heap.size):=by
     intro b hb
     have hlt:=k2.inv.st b hb
     rcases k2.from_ b hb with h1 | ⟨id,blk,h1,rfl⟩ | h1
     ·rcases hs1 b h1 with h2 | h2
      ·exact .inl h2
      ·exact .inr ⟨h2,hlt⟩
     ·rcases Nat.lt_or_ge (G' id).g w.heap.size with h3 | h3
      ·rename_i hown
       have:=hown id blk h1
       omega
      ·exact .inr ⟨h3,hlt⟩
     ·exact absurd h1 (by omega)
    split at h
    ·rename_i hflat
     injection h with h
     injection h with e1 h
     injection h with e2 e3
     subst e1;subst e2;subst e3
     refine⟨v,_,G,he,Stp.outer hi fr,.c ?_⟩
     rcases hflat with hfl | hno
     ·exact flat_any hc hfl
     ·have hno':=hsn hno
      exact hc.mono fun b hb=>⟨by rw[←hno'];exact hS2 b hb,rfl⟩
    ·split at h
     ·injection h with h
      injection h with e1 h
      injection h with e2 e3
      subst e1;subst e2;subst e3
      exact⟨v,_,G,he,k1.trans (Stp.outer k1.inv fr),.c (hc.mono fun b hb=>⟨hS2 b hb,rfl⟩)⟩
     ·cases h
   ·cases hev
  ·cases h
 ·cases h
end
variable {dr:Prop}
section
variable {P:Program} {hp1 hp2 hpe:Hp} {nx nxe:Nat} {S1 S':Nat→Prop} {G G':Nat→GI} {w w':World} {D:Nat→Prop}
theorem back_drop (hi:Inv P w S1 G hp1 nx) (hsub:∀id b,hp2 id=some b→hp1 id=some b∧¬D (G id).g) (hD:∀b,D b→wU hp1 G b) (fr:Fr dr w D w') (inv':Inv P w' S' G' hpe nxe) (hs0:∀b,S1 b→S' b) (hs1:∀b,S' b→S1 b∨D b∨w.heap.size≤b) :
  Stp dr P hp1 nx S1 G w hp2 nx S' G w':=by
 have hnD:∀b,S1 b→¬D b:=fun b hb hd=>by
  obtain⟨id,blk,h1,rfl⟩:=hD b hd
  exact hi.apart id blk h1 hb
 have hS:∀b,S1 b→S' b∧w'.heap[b]?=w.heap[b]?:=fun b hb=>⟨hs0 b hb,fr.block b (hi.st b hb) (hnD b hb)⟩
 refine⟨⟨inv'.st,fun id b hb=>hi.top id b (hsub id b hb).1,fun id b hb=>?_,fun id b hb hs=>?_,fun id id' b b' hb hb' he=>hi.inj id id' b b' (hsub id b hb).1 (hsub id' b' hb').1 he,inv'.glo⟩,Nat.le_refl _,fun _ _=>rfl,hs0,fun b hb=>?_,fun id b hb=>.inl ⟨id,b,(hsub id b hb).1,rfl⟩,⟨fr.os,fr.tape,fr.output,fr.size,fr.drawn,fun k hk hn=>fr.block k hk fun hd=>hn (hD k hd)⟩⟩
 ·have hl:=hi.live id b (hsub id b hb).1
  exact hl.mono hS (Nat.le_refl _) (fun _ _=>rfl) (fr.block _ hl.lt (hsub id b hb).2)
 ·have hl:=hi.live id b (hsub id b hb).1
  rcases hs1 _ hs with h | h | h
  ·exact hi.apart id b (hsub id b hb).1 h
  ·exact (hsub id b hb).2 h
  ·have:=hl.lt;omega
 ·rcases hs1 b hb with h | h | h
  ·exact .inl h
  ·exact .inr (.inl (hD b h))
  ·exact .inr (.inr h)
theorem back_own (hi:Inv P w S1 G hp1 nx) (hsub:∀id b,hp2 id=some b→hp1 id=some b∧¬D (G id).g) (hD:∀b,D b→wU hp1 G b) (fr:Fr dr w D w') (inv':Inv P w' S' G' hpe nxe) (hs0:∀b,S1 b→S' b) (hs1:∀b,S' b→S1 b∨D b∨w.heap.size≤b)
  {id:Nat} {b:Blk} (hb:hpe id=some b) (harr:b.arr=true) (hown:D (G' id).g∨w.heap.size≤(G' id).g) :
  Stp dr P hp1 nx S1 G w (upd hp2 nx (some b)) (nx+1) S' (upd G nx (G' id)) w':=by
 have kk:=back_drop hi hsub hD fr inv' hs0 hs1
 have hne:∀id' b',hp2 id'=some b'→(G id').g≠(G' id).g:=fun id' b' h' he=>by
  rcases hown with h | h
  ·exact (hsub id' b' h').2 (he ▸ h)
  ·have:=(hi.live id' b' (hsub id' b' h').1).lt;omega
 have hG:∀k,k<nx→upd G nx (G' id) k=G k:=fun k hk=>zH _ _ _ _ (by omega)
 have hpo:∀k,k≠nx→upd hp2 nx (some b) k=hp2 k:=fun k hk=>zH _ _ _ _ hk
 have hSS:∀b,S' b→S' b∧w'.heap[b]?=w'.heap[b]?:=fun b hb=>⟨hb,rfl⟩
 have htop:∀k c,hp2 k=some c→k<nx:=fun k c hk=>hi.top k c (hsub k c hk).1
 refine⟨⟨inv'.st,fun k c hk=>?_,fun k c hk=>?_,fun k c hk=>?_,fun k k' c c' hk hk' he=>?_,inv'.glo⟩,by omega,hG,kk.keep,kk.from_,fun k' c hk=>?_,kk.fr⟩
 ·by_cases hkn:k=nx
  ·omega
  ·rw[hpo k hkn] at hk;have:=htop k c hk;omega
 ·by_cases hkn:k=nx
  ·subst hkn
   simp only[qg] at hk ⊢
   injection hk with hk
   subst hk
   have hl:=inv'.live id _ hb
   refine⟨hl.bs,fun h0=>⟨hl.size h0,hl.len h0,hl.fit h0,?_⟩,hl.ent⟩
   obtain⟨cur,h1,h2,h3⟩:=hl.row h0
   refine⟨cur,h1,h2,fun i j c pv hi' hj=>?_⟩
   obtain⟨u,h4,h5⟩:=h3 i j c pv hi' hj
   exact⟨u,h4,h5.1,.c (h5.1 harr),h5.2.2⟩
  ·rw[hpo k hkn] at hk
   rw[hG k (htop k c hk)]
   exact (kk.inv.live k c hk).mono hSS (by omega) hG rfl
 ·by_cases hkn:k=nx
  ·subst hkn
   simp only[qg]
   exact inv'.apart id b hb
  ·rw[hpo k hkn] at hk
   rw[hG k (htop k c hk)]
   exact kk.inv.apart k c hk
 ·by_cases hkn:k=nx<;>by_cases hkn':k'=nx
  ·omega
  ·subst hkn
   rw[hpo k' hkn'] at hk'
   rw[hG k' (htop k' c' hk')] at he
   simp only[qg] at he
   exact (hne k' c' hk' he.symm).elim
  ·subst hkn'
   rw[hpo k hkn] at hk
   rw[hG k (htop k c hk)] at he
   simp only[qg] at he
   exact (hne k c hk he).elim
  ·rw[hpo k hkn] at hk
   rw[hpo k' hkn'] at hk'
   rw[hG k (htop k c hk),hG k' (htop k' c' hk')] at he
   exact hi.inj k k' c c' (hsub k c hk).1 (hsub k' c' hk').1 he
 ·by_cases hkn:k'=nx
  ·subst hkn
   simp only[qg]
   rcases hown with h | h
   ·exact .inl (hD _ h)
   ·exact .inr h
  ·rw[hpo k' hkn] at hk
   rw[hG k' (htop k' c hk)]
   exact .inl ⟨k',c,(hsub k' c hk).1,rfl⟩
theorem own_back {id n:Nat} {v:Value} (h:RepO w' S' G' nxe (.own id 0 n) v):RepO w' S' (upd G nx (G' id)) (nx+1) (.own nx 0 n) v:=by
 have hop:=h.own_pos
 obtain⟨cap,h1,h2,h3,h4,rfl⟩:=h.own_inv
 have:=RepO.own (w:=w') (S:=S') (G:=upd G nx (G' id)) (nx:=nx+1) (id:=nx) (off:=0) (n:=n) (cap:=cap) (by omega) h2 h3 (by simpa using h4) (by simpa using hop)
 simpa using this
end
section
variable {C:Ctx} {pf:FuncId→Bool} {f:FuncId} {fn:Func} {code:Code}
def OwnR (r:Option Blk) (x:PV) (hp:Hp) (_:Nat):Prop:=match r with
 | none=>x=.nil
 | some b=>∃id,x=.own id 0 b.es.length∧hp id=some b∧b.arr=true
theorem qw (hg:GoodD dr C pf) (hk:Known C pf f fn code) (ns:List Nat) (F:List PV→Option (Option Blk)) (hF:∀args r,F args=some r→args.length≤fn.ntmps∧∃x hp nx,qq C fn args (fun _=>none) 0=some (x,hp,nx)∧OwnR r x hp nx) :
  ya dr C.P f (qD ns F):=by
 refine⟨⟨fn,hk.func,hk.name,by rw[hk.body];rfl⟩,?_⟩
 intro args hp nx r hp' nx' h w S G vs hi hz
 unfold qD at h
 split at h
 ·rename_i aZ hp1 hfr
  obtain⟨S1,k1,hz1,_⟩:=qR (dr:=dr) hi hfr hz
  have hsub:∀id b,hp1 id=some b→hp1 id=some b∧¬False:=fun id b h=>⟨h,fun h=>h⟩
  split at h
  ·rename_i hF0
   obtain⟨hn,x,hpe,nxe,hef,hx0⟩:=hF _ none hF0
   injection h with h
   injection h with e1 h
   injection h with e2 e3
   subst e1;subst e2;subst e3
   simp only[OwnR] at hx0
   subst hx0
   refine (yr hg hk hef hn k1.inv.st k1.inv.glo (kv hz1)).mono fun e w' hh=>?_
   obtain⟨v,S',G',he,fr,inv',hx,hs0,hs1,_⟩:=hh
   have k2:=back_drop (dr:=dr) (D:=fun _=>False) (hp2:=hp1) k1.inv hsub (fun _ h=>h.elim) fr inv' hs0 (fun b hb=>(hs1 b hb).imp (fun h=>h) .inr)
   have:=hx.nil_inv
   subst this
   exact⟨_,_,_,he,k1.trans k2,.c .nil⟩
  ·rename_i b hF0
   obtain⟨hn,x,hpe,nxe,hef,hx0⟩:=hF _ (some b) hF0
   injection h with h
   injection h with e1 h
   injection h with e2 e3
   subst e1;subst e2;subst e3
   obtain⟨id,rfl,hid,harr⟩:=hx0
   refine (yr hg hk hef hn k1.inv.st k1.inv.glo (kv hz1)).mono fun e w' hh=>?_
   obtain⟨v,S',G',he,fr,inv',hx,hs0,hs1,hown⟩:=hh
   have k2:=back_own (dr:=dr) (D:=fun _=>False) (hp2:=hp1) k1.inv hsub (fun _ h=>h.elim) fr inv' hs0 (fun b hb=>(hs1 b hb).imp (fun h=>h) .inr) hid harr (.inr (hown id b hid))
   exact⟨_,_,_,he,k1.trans k2,own_back hx⟩
  ·cases h
 ·cases h
end
end Go.AM
namespace Go.AM
open Go.RowKit Go.WideShapes Go.ChangeShapes
variable {dr:Prop}
def tiled (P:Program):Nat→List Field→Option Nat
 | o,[]=>some o
 | o,f::fs=>if f.offset=o then tiled P (o+P.cellsOf f.type) fs else none
def typesOk (P:Program) (T:List TypeId):Bool:=T.all fun t=>match P.underlying t with
 | some .bool | some (.int _) | some .string=>P.cellsOf t==1
 | some (.slice e)=>P.cellsOf t==1&&T.contains e&&decide (0<P.cellsOf e)
 | some (.struct fs)=>tiled P 0 fs.toList==some (P.cellsOf t)&&fs.toList.all fun f=>T.contains f.type
 | _=>false
structure Bounds (H:Type) (Bl:Nat→Prop) (Bd:DataW H→Prop):Prop where
 slice:∀es sp,Bd (.slice es sp)→Bl es.length∧∀d∈es,Bd d
 nil:Bl 0
 agg:∀l,Bd (.agg l)→∀d∈l,Bd d
 str:∀b,Bd (.lit (.string b))→Bl b.length
section
variable {H:Type} {enc:TypeId×Value→H} {P:Program} {w:World} {sp:Nat→Bool} {held:Bool} {Bl:Nat→Prop} {Bd:DataW H→Prop}
theorem drop_take_get {α:Type} {l:List α} {o n j:Nat} (hj:j<n):((l.drop o).take n)[j]?=l[o+j]?:=by
 rw[List.getElem?_take,if_pos hj,List.getElem?_drop]
theorem tile_join {R:PV→Value→Prop} {Q:Field→List PV→Prop}:∀(fs:List Field) (o n:Nat) (cs:List Value),tiled P o fs=some n→cs.length=n →
  (∀f∈fs,∃pvs,Zip R pvs ((cs.drop f.offset).take (P.cellsOf f.type))∧Q f pvs) →
  ∃pvs:List PV,pvs.length+o=n∧(∀(j:Nat) (pv:PV) (u:Value),pvs[j]?=some pv→cs[o+j]?=some u→R pv u)∧∀f∈fs,o≤f.offset∧Q f ((pvs.drop (f.offset - o)).take (P.cellsOf f.type))
 | [],o,n,cs,ht,hl,_=>by
   simp only[tiled] at ht
   injection ht with ht
   subst ht
   exact⟨[],by simp,by simp,by simp⟩
 | f::fs,o,n,cs,ht,hl,h=>by
   simp only[tiled] at ht
   split at ht
   ·rename_i ho
    obtain⟨p1,hz,hq⟩:=h f (by simp)
    obtain⟨p2,h1,h2,h3⟩:=tile_join fs (o+P.cellsOf f.type) n cs ht hl (fun f' hf'=>h f' (by simp[hf']))
    have hl1:p1.length=P.cellsOf f.type:=by
     have:=hz.1
     simp only[List.length_take,List.length_drop] at this
     omega
    refine⟨p1++p2,by simp;omega,fun j pv u hj hu=>?_,fun f' hf'=>?_⟩
    ·by_cases hjl:j<p1.length
     ·rw[List.getElem?_append_left hjl] at hj
      refine hz.2 j pv u hj ?_
      rw[drop_take_get (by omega),ho]
      exact hu
     ·rw[List.getElem?_append_right (by omega)] at hj
      refine h2 (j - p1.length) pv u hj ?_
      rw[show o+P.cellsOf f.type+(j - p1.length)=o+j from by omega]
      exact hu
    ·rcases List.mem_cons.1 hf' with rfl | hf'
     ·refine⟨by omega,?_⟩
      have:((p1++p2).drop (f'.offset - o)).take (P.cellsOf f'.type)=p1:=by
       rw[show f'.offset - o=0 from by omega,List.drop_zero,←hl1,List.take_left]
      rw[this]
      exact hq
     ·obtain⟨a1,a2⟩:=h3 f' hf'
      refine⟨by omega,?_⟩
      have:(p1++p2).drop (f'.offset - o)=p2.drop (f'.offset - (o+P.cellsOf f.type)):=by
       rw[List.drop_append,List.drop_eq_nil_of_le (by omega),List.nil_append]
       congr 1
       omega
      rw[this]
      exact a2
   ·cases ht
end
section
variable {C:Ctx} {pf:FuncId→Bool} {f:FuncId} {fn:Func} {code:Code}
theorem law_calls (hg:GoodD dr C pf) (hk:Known C pf f fn code) {args:List PV} (h:zl C fn args=some (.v (.bool true))) (hn:args.length≤fn.ntmps) {w:World} {vs:List Value} (hsh:w.ShapedOpen C.P) (htab:∀t∈vN,TabOk w (fun b=>b<w.heap.size) t) (hz:Zip (RepC w (fun b=>b<w.heap.size)) args vs) :
  Calls C.P f vs.toArray w fun e w'=>e=.returned (.bool true)∧Below w.heap.size w w':=by
 unfold zl at h
 split at h
 ·rename_i x hpe nxe hef
  obtain⟨⟨r,hp2⟩,hfz,hr⟩:=zs h
  simp only at hr
  subst hr
  refine (yr hg hk hef hn (fun _ hb=>hb) (Glo.of_shape hsh htab) hz).mono fun e w' hh=>?_
  obtain⟨v,S',G',he,fr,inv',hx,_⟩:=hh
  obtain⟨S2,_,hc⟩:=kQ (dr:=dr) inv' hfz hx
  obtain⟨rfl,_⟩:=hc.v_inv
  exact⟨he,fr.os,fr.tape,fr.output,fr.size,fun k hk=>fr.block k hk fun h=>h⟩
 ·cases h
end
end Go.AM
namespace Go.AM
open Go.RowKit
variable {dr:Prop}
attribute [congr] bindK_congr condK_congr
attribute [simp] EvC_skip EvC_exit EvC_ret EvC_label EvC_seq EvC_cond EvC_block EvL_nil EvL_cons restK_eq bindK_some condK_true condK_false thenK_normal thenK_ret thenK_exit blockK_normal blockK_ret blockK_exit_same
 roundK_normal roundK_ret roundK_exit retK_normal retK_ret
@[simp] theorem normK_eq (K:Exit→St→Prop) (st:St):xS K st=K .normal st:=rfl
@[simp] theorem blockK_other (id i:Nat) (K:Exit→St→Prop) (st:St) (h:¬i=id):xn id K (.exit i) st=K (.exit i) st:=by simp[xn,h]
@[simp] theorem wI {α:Type} (f:Nat→α) (k:Nat) (x:α):upd f k x k=x:=by simp[upd]
@[simp] theorem zc {α:Type} (f:Nat→α) (k i:Nat) (x:α) (h:¬i=k):upd f k x i=f i:=by simp[upd,h]
@[simp] theorem put_some (σ:Nat→PV) (d:Nat) (x:PV):put σ (some d) x=upd σ d x:=rfl
@[simp] theorem put_none (σ:Nat→PV) (x:PV):put σ none x=σ:=rfl
@[simp] theorem start_app (args:List PV) (t:Nat):yD args t=(args[t]?).getD (.tup []):=rfl
@[simp] theorem get_tmp (σ:Nat→PV) (t:Nat):get σ (.tmp t)=some (σ t):=rfl
@[simp] theorem get_func (σ:Nat→PV) (f:Nat):get σ (.func f)=some (.fn (.func f) [] []):=rfl
@[simp] theorem get_int (σ:Nat→PV) (k:IntKind) (n:Int):get σ (.const (.int k n))=some (.v (.int k n)):=rfl
@[simp] theorem get_bool (σ:Nat→PV) (b:Bool):get σ (.const (.bool b))=some (.v (.bool b)):=rfl
@[simp] theorem get_str (σ:Nat→PV) (s:ByteArray):get σ (.const (.string s))=some (.v (.string s)):=rfl
@[simp] theorem get_nil (σ:Nat→PV):get σ (.const (.slice none 0 0))=some .nil:=rfl
@[simp] theorem get_nilFunc (σ:Nat→PV):get σ (.const .nilFunc)=some (.v .nilFunc):=rfl
@[simp] theorem get_agg (σ:Nat→PV) (cs:Array Value):get σ (.const (.agg cs))=(ofCells cs.toList).map .agg:=rfl
@[simp] theorem step_plain (C:Ctx) (ops:Array Oper) (d:Option Tmp) (op:Op) (t:TypeId) (p:String) (af:Array Edge) (st:St):wD C ops ⟨d,op,t,p,af,none⟩ st =
  (zB C (get st.σ) st.hp st.nx op).map fun r=>⟨put st.σ d r.1,r.2.1,r.2.2⟩:=stepA_eq C ops d op t p af st
def yQ (C:Ctx) (d:Option Tmp) (op:Op) (st:St) (y:Option Bool) (b:Bool):Option St :=
 if y=some b then (zB C (get st.σ) st.hp st.nx op).map fun r=>⟨put st.σ d r.1,r.2.1,r.2.2⟩ else some ⟨put st.σ d (.tup []),st.hp,st.nx⟩
theorem guardA_congr {C:Ctx} {d:Option Tmp} {op:Op} {st:St} {y y':Option Bool} {b:Bool} (h:y=y'):yQ C d op st y b=yQ C d op st y' b:=by rw[h]
@[simp] theorem step_guard (C:Ctx) (ops:Array Oper) (d:Option Tmp) (op:Op) (t:TypeId) (p:String) (af:Array Edge) (j:Nat) (b:Bool) (st:St):wD C ops ⟨d,op,t,p,af,some (j,b)⟩ st =
  yQ C d op st (jV ops st.σ j) b:=by
 unfold wD yQ Region.wanted
 simp only[beq_iff_eq]
 split
 ·cases zB C (get st.σ) st.hp st.nx op<;>rfl
 ·rfl
@[simp] theorem guard_hit (C:Ctx) (d:Option Tmp) (op:Op) (st:St) (b:Bool):yQ C d op st (some b) b=(zB C (get st.σ) st.hp st.nx op).map fun r=>⟨put st.σ d r.1,r.2.1,r.2.2⟩:=by simp[yQ]
@[simp] theorem guard_tf (C:Ctx) (d:Option Tmp) (op:Op) (st:St):yQ C d op st (some true) false=some ⟨put st.σ d (.tup []),st.hp,st.nx⟩:=by simp[yQ]
@[simp] theorem guard_ft (C:Ctx) (d:Option Tmp) (op:Op) (st:St):yQ C d op st (some false) true=some ⟨put st.σ d (.tup []),st.hp,st.nx⟩:=by simp[yQ]
@[simp] theorem guard_none (C:Ctx) (d:Option Tmp) (op:Op) (st:St) (b:Bool):yQ C d op st none b=some ⟨put st.σ d (.tup []),st.hp,st.nx⟩:=by simp[yQ]
attribute [congr] guardA_congr
def boolOf:PV→Option Bool
 | .v (.bool b)=>some b
 | _=>none
@[simp] theorem boolOf_bool (b:Bool):boolOf (.v (.bool b))=some b:=rfl
@[simp] theorem boolOf_tup (l:List PV):boolOf (.tup l)=none:=rfl
def slotOf (σ:Nat→PV):Option Nat→Option Bool
 | some d=>boolOf (σ d)
 | none=>none
@[simp] theorem slotOf_some (σ:Nat→PV) (d:Nat):slotOf σ (some d)=boolOf (σ d):=rfl
@[simp] theorem yield_get (ops:Array Oper) (σ:Nat→PV) (j:Nat):jV ops σ j=slotOf σ ((ops[j]?).bind (·.dst)):=by
 unfold jV slotOf boolOf
 cases (ops[j]?).bind (·.dst) with
 | none=>rfl
 | some d=>rfl
section
variable (C:Ctx) (ρ:Operand→Option PV) (hp:Hp) (nx:Nat)
@[simp] theorem op_move (x:Operand):zB C ρ hp nx (.move x)=(ρ x).map fun y=>(y,hp,nx):=rfl
@[simp] theorem op_assign (x:Operand):zB C ρ hp nx (.assign x)=(ρ x).map fun y=>(y,hp,nx):=rfl
def xx (c a b:Option PV):Option PV:=match c with
 | some (.v (.bool true))=>a
 | some (.v (.bool false))=>b
 | _=>none
@[simp] theorem pickA_true (a b:Option PV):xx (some (.v (.bool true))) a b=a:=rfl
@[simp] theorem pickA_false (a b:Option PV):xx (some (.v (.bool false))) a b=b:=rfl
@[simp] theorem op_pick (c a b:Operand):zB C ρ hp nx (.pick c a b)=(xx (ρ c) (ρ a) (ρ b)).map fun y=>(y,hp,nx):=by
 unfold xx
 simp only[zB]
 generalize ρ c=o
 cases o with
 | none=>rfl
 | some p =>
   cases p<;>(try rfl)
   rename_i x
   cases x<;>(try rfl)
   rename_i t
   cases t<;>rfl
@[simp] theorem op_bin (op:BinOp) (t t2:TypeId) (x y:Operand):zB C ρ hp nx (.binOp op t x y t2)=(do let p ←ρ x;let q ←ρ y;let r ←binC (isK y) C.P op t p q;some (r,hp,nx)):=by
 simp only[zB];cases ρ x<;>cases ρ y<;>(try rfl);simp;cases binC (isK y) C.P op t _ _<;>rfl
@[simp] theorem op_un (op:UnOp) (t:TypeId) (x:Operand):zB C ρ hp nx (.unOp op t x)=(do let p ←ρ x;let r ←unA op p;some (r,hp,nx)):=by
 simp only[zB];cases ρ x<;>(try rfl);simp;cases unA op _<;>rfl
@[simp] theorem op_conv (s d:TypeId) (x:Operand):zB C ρ hp nx (.convert s d x)=(do let p ←ρ x;let r ←convA C.P s d p;some (r,hp,nx)):=by
 simp only[zB];cases ρ x<;>(try rfl);simp;cases convA C.P s d _<;>rfl
@[simp] theorem op_load (t:TypeId) (x:Operand):zB C ρ hp nx (.load t x)=(do let p ←ρ x;let r ←jQ C.P hp t p;some (r,hp,nx)):=by
 simp only[zB];cases ρ x<;>(try rfl);simp;cases jQ C.P hp t _<;>rfl
@[simp] theorem op_store (t:TypeId) (a x:Operand):zB C ρ hp nx (.store t a x)=(do let p ←ρ a;let q ←ρ x;let h ←kK C.P hp t p q;some (.tup [],h,nx)):=by
 simp only[zB];cases ρ a<;>cases ρ x<;>(try rfl);simp;cases kK C.P hp t _ _<;>rfl
@[simp] theorem op_fieldAddr (t:TypeId) (x:Operand) (f:Nat):zB C ρ hp nx (.fieldAddr t x f)=(do let p ←ρ x;let r ←qv C.P t f p;some (r,hp,nx)):=by
 simp only[zB];cases ρ x<;>(try rfl);simp;cases qv C.P t f _<;>rfl
@[simp] theorem op_field (t:TypeId) (x:Operand) (f:Nat):zB C ρ hp nx (.field t x f)=(do let p ←ρ x;let r ←yC C.P t f p;some (r,hp,nx)):=by
 simp only[zB];cases ρ x<;>(try rfl);simp;cases yC C.P t f _<;>rfl
@[simp] theorem op_indexAddr (t:TypeId) (x i:Operand):zB C ρ hp nx (.indexAddr t x i)=(do let p ←ρ x;let q ←ρ i;let r ←zK C.P hp t p q;some (r,hp,nx)):=by
 simp only[zB];cases ρ x<;>cases ρ i<;>(try rfl);simp;cases zK C.P hp t _ _<;>rfl
@[simp] theorem op_index (t:TypeId) (x i:Operand):zB C ρ hp nx (.index t x i)=(do let p ←ρ x;let q ←ρ i;let r ←jU C.P t p q;some (r,hp,nx)):=by
 simp only[zB];cases ρ x<;>cases ρ i<;>(try rfl);simp;cases jU C.P t _ _<;>rfl
@[simp] theorem op_slice (t:TypeId) (x:Operand) (lo hi:Option Operand):zB C ρ hp nx (.slice t x lo hi none)=(do let p ←ρ x;let r ←wx C.P hp t p (lo.map ρ) (hi.map ρ);some (r,hp,nx)):=by
 simp only[zB];cases ρ x<;>(try rfl);simp;cases wx C.P hp t _ _ _<;>rfl
@[simp] theorem op_makeSlice (t:TypeId) (l c:Operand):zB C ρ hp nx (.makeSlice t l c)=(do let p ←ρ l;let q ←ρ c;jT C.P hp nx t p q):=by
 simp only[zB];cases ρ l<;>cases ρ c<;>rfl
def vQ (i:Nat):PV→Option PV
 | .tup vs=>vs[i]?
 | _=>none
@[simp] theorem extractA_tup (i:Nat) (vs:List PV):vQ i (.tup vs)=vs[i]?:=rfl
@[simp] theorem op_extract (x:Operand) (i:Nat):zB C ρ hp nx (.extract x i)=(do let p ←ρ x;let r ←vQ i p;some (r,hp,nx)):=by
 simp only[zB]
 cases ρ x with
 | none=>rfl
 | some p=>cases p<;>(try rfl);simp[vQ];rename_i vs;cases vs[i]?<;>rfl
@[simp] theorem op_alloc (t:TypeId):zB C ρ hp nx (.alloc t)=(do let n ←zU C.P t;let z ←wt C.P t;if 0<n∧z.length=n then some (.ref nx 0 0,upd hp nx (some ⟨t,n,false,[z]⟩),nx+1) else none):=by
 simp only[zB];cases zU C.P t<;>cases wt C.P t<;>rfl
@[simp] theorem op_box (t:TypeId) (x:Operand):zB C ρ hp nx (.box t x)=(do let n ←zU C.P t;let y ←ρ x;if 0<n∧y.cells.length=n∧y.cells.all PV.isCell=true then some (.ref nx 0 0,upd hp nx (some ⟨t,n,false,[y.cells]⟩),nx+1) else none):=by
 simp only[zB];cases zU C.P t<;>cases ρ x<;>rfl
@[simp] theorem op_build (t:TypeId) (ps:Array (Nat×Operand)):zB C ρ hp nx (.build t ps)=(do let q ←yn ρ ps.toList;let r ←zI C.P t q;some (r,hp,nx)):=by
 simp only[zB];cases yn ρ ps.toList<;>(try rfl);simp;cases zI C.P t _<;>rfl
@[simp] theorem op_buildSlice (t:TypeId) (n:Nat) (ps:Array (Nat×Operand)):zB C ρ hp nx (.buildSlice t n ps)=(do let q ←yn ρ ps.toList;zh C.P hp nx t n q):=by
 simp only[zB];cases yn ρ ps.toList<;>rfl
@[simp] theorem op_makeFunc (f:Fn) (a b:Array Operand):zB C ρ hp nx (.makeFunc f a b)=(do let p ←qn (a.toList.map ρ);let q ←qn (b.toList.map ρ);some (.fn f p q,hp,nx)):=by
 simp only[zB];cases qn (a.toList.map ρ)<;>cases qn (b.toList.map ρ)<;>rfl
@[simp] theorem op_call (f:Operand) (args:Array Operand) (ts:Array TypeId):zB C ρ hp nx (.call { callee:=.value f,args:=args,argTypes:=ts })=(do let xs ←qn (args.toList.map ρ);qN C hp nx (ρ f) xs):=by
 simp only[zB,yU];cases qn (args.toList.map ρ)<;>rfl
@[simp] theorem op_builtin (b:Builtin) (args:Array Operand) (ts:Array TypeId):zB C ρ hp nx (.call { callee:=.builtin b,args:=args,argTypes:=ts })=(do let xs ←qn (args.toList.map ρ);qj C.P hp nx ts b xs):=by
 simp only[zB,yU];cases qn (args.toList.map ρ)<;>rfl
end
@[simp] theorem allSome_nil {α:Type}:qn ([]:List (Option α))=some []:=rfl
@[simp] theorem allSome_cons {α:Type} (x:α) (l:List (Option α)):qn (some x::l)=(qn l).map (x::·):=rfl
@[simp] theorem parts_nil (ρ:Operand→Option PV):yn ρ []=some []:=rfl
@[simp] theorem parts_cons (ρ:Operand→Option PV) (i:Nat) (x:Operand) (l:List (Nat×Operand)):yn ρ ((i,x)::l)=(do let p ←ρ x;let r ←yn ρ l;some ((i,p)::r)):=by
 simp only[yn];cases ρ x<;>cases yn ρ l<;>rfl
theorem callVal_fn (C:Ctx) (hp:Hp) (nx g:Nat) (first captured xs:List PV) (spec:AM.Spec) (h:C.Γ g=some spec):qN C hp nx (some (.fn (.func g) first captured)) xs=spec (first++xs++captured) hp nx:=by simp[qN,h]
section
variable (P:Program) (hp:Hp) (nx:Nat) (t:TypeId)
@[simp] theorem bin_int (op:BinOp) (k:IntKind) (a b:Int):binA P op t (.v (.int k a)) (.v (.int k b))=intA op k a b:=by simp[binA]
@[simp] theorem bin_str (op:BinOp) (a b:ByteArray):binA P op t (.v (.string a)) (.v (.string b))=strA op a b:=rfl
@[simp] theorem un_not (b:Bool):unA .not (.v (.bool b))=some (.v (.bool !b)):=rfl
@[simp] theorem un_neg (k:IntKind) (n:Int):unA .neg (.v (.int k n))=some (.v (.int k (k.wrap (0 - n)))):=rfl
@[simp] theorem load_ptr (cs:List PV):jQ P hp t (.ptr cs)=zm P t cs:=rfl
@[simp] theorem load_ref (id i j:Nat):jQ P hp t (.ref id i j)=(do let b ←hp id;let c ←b.es[i]?;zm P t (c.drop j)):=by
 simp only[jQ];cases hp id with
 | none=>rfl
 | some b=>simp;cases b.es[i]?<;>rfl
@[simp] theorem fieldAddr_ptr (f:Nat) (cs:List PV):qv P t f (.ptr cs)=(do let q ←zR P t f;if q.2.1=0 then none else some (.ptr (cs.drop q.1))):=by
 simp only[qv];cases zR P t f<;>rfl
@[simp] theorem fieldAddr_ref (f id i j:Nat):qv P t f (.ref id i j)=(do let q ←zR P t f;if q.2.1=0 then none else some (.ref id i (j+q.1))):=by
 simp only[qv];cases zR P t f<;>rfl
@[simp] theorem len_str (s:ByteArray):lenA P t (.v (.string s))=match P.underlying t with | some .string=>some (.v (.int .i64 s.size)) | _=>none:=rfl
@[simp] theorem len_sl (s:Nat) (es:List (List PV)):lenA P t (.sl s es)=(qA P t).map fun _=>.v (.int .i64 es.length):=rfl
@[simp] theorem len_nil:lenA P t .nil=(qA P t).map fun _=>.v (.int .i64 0):=rfl
@[simp] theorem len_own (id off n:Nat):lenA P t (.own id off n)=(qA P t).map fun _=>.v (.int .i64 n):=rfl
theorem arr_other (i:Int) (x:PV) (h1:∀cs,x≠.ptr cs) (h2:∀a b c,x≠.ref a b c):yg P t i x=none:=by
 unfold yg
 split
 ·split
  ·split
   ·split
    ·exact absurd rfl (h1 _)
    ·exact absurd rfl (h2 _ _ _)
    ·rfl
   ·rfl
  ·rfl
 ·rfl
@[simp] theorem index_sl (s:Nat) (es:List (List PV)) (k:IntKind) (i:Int):zK P hp t (.sl s es) (.v (.int k i))=(do let e ←qA P t;let n ←zU P e;if s=n∧0<n∧0≤i then (es[i.toNat]?).map .ptr else none):=by
 simp only[zK];cases qA P t with
 | none=>exact (arr_other P t i _ (fun _=>by simp) (fun _ _ _=>by simp)).trans rfl
 | some e=>simp;cases zU P e<;>rfl
@[simp] theorem index_own (id off n:Nat) (k:IntKind) (i:Int):zK P hp t (.own id off n) (.v (.int k i))=(do let e ←qA P t;let m ←zU P e;let b ←hp id;if b.e=e∧0<m∧0≤i∧i.toNat<n then some (.ref id (off+i.toNat) 0) else none):=by
 simp only[zK];cases qA P t with
 | none=>exact (arr_other P t i _ (fun _=>by simp) (fun _ _ _=>by simp)).trans rfl
 | some e=>simp;cases zU P e<;>(try rfl);simp;cases hp id<;>rfl
end
@[simp] theorem blt_len (P:Program) (hp:Hp) (nx:Nat) (ts:Array TypeId) (x:PV):qj P hp nx ts .len [x]=(do let t ←ts[0]?;let y ←lenA P t x;some (y,hp,nx)):=by
 simp only[qj];cases ts[0]? with
 | none=>rfl
 | some t=>simp;cases lenA P t x<;>rfl
@[simp] theorem blt_min (P:Program) (hp:Hp) (nx:Nat) (ts:Array TypeId) (xs:List PV):qj P hp nx ts .min xs=(minA xs).map fun y=>(y,hp,nx):=rfl
@[simp] theorem blt_max (P:Program) (hp:Hp) (nx:Nat) (ts:Array TypeId) (xs:List PV):qj P hp nx ts .max xs=(maxA xs).map fun y=>(y,hp,nx):=rfl
@[simp] theorem blt_append (P:Program) (hp:Hp) (nx:Nat) (ts:Array TypeId) (s x:PV):qj P hp nx ts .append [s,x]=(do let t ←ts[0]?;let u ←ts[1]?;zV P hp nx t u s x):=by
 simp only[qj];cases ts[0]?<;>cases ts[1]?<;>rfl
@[simp] theorem viewS_own (P:Program) (hp:Hp) (n:Nat) (e t u:TypeId) (i o k:Nat):viewS P hp n e t u (.own i o k)=if u=t then view hp n (.own i o k) else none:=rfl
@[simp] theorem viewS_sl (P:Program) (hp:Hp) (n:Nat) (e t u:TypeId) (k:Nat) (es:List (List PV)):viewS P hp n e t u (.sl k es)=if u=t then view hp n (.sl k es) else none:=rfl
@[simp] theorem viewS_nil (P:Program) (hp:Hp) (n:Nat) (e t u:TypeId):viewS P hp n e t u .nil=if u=t then view hp n .nil else none:=rfl
@[simp] theorem viewS_em (P:Program) (hp:Hp) (n:Nat) (e t u:TypeId):viewS P hp n e t u .em=if u=t then view hp n .em else none:=rfl
@[simp] theorem viewS_str (P:Program) (hp:Hp) (n:Nat) (e t u:TypeId) (b:ByteArray):viewS P hp n e t u (.v (.string b))=if strU P u=true∧byteE P e=true then some (b.data.toList.map fun c=>[.v (.int .u8 c.toNat)]) else none:=rfl
@[simp] theorem blt_clear (P:Program) (hp:Hp) (nx:Nat) (ts:Array TypeId) (x:PV):qj P hp nx ts .clear [x]=(do let t ←ts[0]?;clearA P hp nx t x):=by
 simp only[qj];cases ts[0]?<;>rfl
@[simp] theorem blt_copy (P:Program) (hp:Hp) (nx:Nat) (ts:Array TypeId) (s x:PV):qj P hp nx ts .copy [s,x]=(do let t ←ts[0]?;copyA P hp nx t s x):=by
 simp only[qj];cases ts[0]?<;>rfl
attribute [simp] minA minFrom maxA maxFrom intA strA qP jD kN
@[simp] theorem cells_agg (cs:List PV):PV.cells (.agg cs)=cs:=rfl
@[simp] theorem cells_tup (cs:List PV):PV.cells (.tup cs)=[.tup cs]:=rfl
@[simp] theorem cells_v (x:Value):PV.cells (.v x)=[.v x]:=rfl
@[simp] theorem cells_nil:PV.cells .nil=[.nil]:=rfl
@[simp] theorem cells_em:PV.cells .em=[.em]:=rfl
@[simp] theorem cells_sl (s:Nat) (es:List (List PV)):PV.cells (.sl s es)=[.sl s es]:=rfl
@[simp] theorem cells_ptr (cs:List PV):PV.cells (.ptr cs)=[.ptr cs]:=rfl
@[simp] theorem cells_own (i o n:Nat):PV.cells (.own i o n)=[.own i o n]:=rfl
@[simp] theorem cells_ref (i o n:Nat):PV.cells (.ref i o n)=[.ref i o n]:=rfl
@[simp] theorem cells_fn (f:Fn) (a b:List PV):PV.cells (.fn f a b)=[.fn f a b]:=rfl
@[simp] theorem isCell_v (x:Value):PV.isCell (.v x)=true:=rfl
@[simp] theorem isCell_nil:PV.isCell .nil=true:=rfl
@[simp] theorem isCell_em:PV.isCell .em=true:=rfl
@[simp] theorem isCell_sl (s:Nat) (es:List (List PV)):PV.isCell (.sl s es)=true:=rfl
@[simp] theorem isCell_ptr (cs:List PV):PV.isCell (.ptr cs)=true:=rfl
@[simp] theorem isCell_own (i o n:Nat):PV.isCell (.own i o n)=true:=rfl
@[simp] theorem isCell_ref (i o n:Nat):PV.isCell (.ref i o n)=true:=rfl
@[simp] theorem isCell_fn (f:Fn) (a b:List PV):PV.isCell (.fn f a b)=true:=rfl
@[simp] theorem isCell_agg (cs:List PV):PV.isCell (.agg cs)=false:=rfl
@[simp] theorem isCell_tup (cs:List PV):PV.isCell (.tup cs)=false:=rfl
attribute [simp] zP zC zk zE AM.freeze PV.flat PV.isV PV.noOwn
@[simp] theorem cellOpen_own (i o n:Nat):PV.cellOpen (.own i o n)=true:=rfl
@[simp] theorem cellOpen_v (x:Value):PV.cellOpen (.v x)=false:=rfl
@[simp] theorem cellOpen_nil:PV.cellOpen .nil=false:=rfl
@[simp] theorem cellOpen_em:PV.cellOpen .em=false:=rfl
@[simp] theorem cellOpen_sl (s:Nat) (es:List (List PV)):PV.cellOpen (.sl s es)=false:=rfl
@[simp] theorem cellOpen_ptr (cs:List PV):PV.cellOpen (.ptr cs)=false:=rfl
@[simp] theorem cellOpen_ref (i o n:Nat):PV.cellOpen (.ref i o n)=false:=rfl
@[simp] theorem cellOpen_fn (f:Fn) (a b:List PV):PV.cellOpen (.fn f a b)=false:=rfl
@[simp] theorem upd_upd {α:Type} (f:Nat→α) (k:Nat) (x y:α):upd (upd f k x) k y=upd f k y:=by
 funext i;simp only[upd];split<;>rfl
@[simp] theorem store_ref (P:Program) (hp:Hp) (t:TypeId) (id i j:Nat) (x:PV):kK P hp t (.ref id i j) x=(do
  let b0 ←hp id
  let q ←(if b0.arr=true then zC hp x else some (x,hp))
  let b ←q.2 id
  let n ←zU P t
  let c ←b.es[i]?
  if q.1.cells.length=n∧j+n≤c.length∧q.1.cells.all PV.isCell=true then some (upd q.2 id (some ⟨b.e,b.s,b.arr,b.es.set i (qP c j q.1.cells)⟩)) else none):=by
 simp only[kK]
 cases hp id with
 | none=>rfl
 | some b0 =>
   simp only[Option.bind_eq_bind,Option.bind_some]
   generalize (if b0.arr=true then zC hp x else some (x,hp))=o
   cases o with
   | none=>rfl
   | some q =>
     obtain⟨y,h1⟩:=q
     simp only[Option.bind_some]
     cases h1 id with
     | none=>rfl
     | some b =>
       simp only[Option.bind_some]
       cases zU P t with
       | none=>rfl
       | some n =>
         simp only[Option.bind_some]
         cases b.es[i]?<;>rfl
@[simp] theorem pureR_v (x y:Value) (hp:Hp) (nx:Nat):qC (.v y) (.v x) hp nx=(x=y):=by simp[qC]
def numAt:PV→Int
 | .v (.int _ n)=>n
 | _=>0
@[simp] theorem numAt_int (k:IntKind) (n:Int):numAt (.v (.int k n))=n:=rfl
theorem zi {n:Int} (h1:-9223372036854775808≤n) (h2:n≤9223372036854775807):IntKind.i64.wrap n=n:=by rw[IntKind.wrap_i64];omega
variable {dr:Prop}
open Classical in
noncomputable def zM {α β:Type} (enc:α→List PV) (pre:α→Prop) (out:α→β):List PV→Option β:=fun args =>
 if h:∃a,args=enc a∧pre a then some (out (Classical.choose h)) else none
theorem zq {α β:Type} {enc:α→List PV} {pre:α→Prop} {out:α→β} (inj:∀a b,enc a=enc b→a=b) {a:α} (h:pre a):zM enc pre out (enc a)=some (out a):=by
 have hex:∃b,enc a=enc b∧pre b:=⟨a,rfl,h⟩
 unfold zM
 rw[dif_pos hex]
 have:=Classical.choose_spec hex
 rw[←inj _ _ this.1]
theorem zg {α β:Type} {enc:α→List PV} {pre:α→Prop} {out:α→β} {args:List PV} {r:β} (h:zM enc pre out args=some r):∃a,args=enc a∧pre a∧r=out a:=by
 unfold zM at h
 split at h
 ·rename_i hex
  injection h with h
  have:=Classical.choose_spec hex
  exact⟨_,this.1,this.2,h.symm⟩
 ·cases h
abbrev Tab:=List (Nat×AM.Spec)
def lookup:Tab→Nat→Option AM.Spec
 | [],_=>none
 | (k,s)::l,g=>if g=k then some s else lookup l g
@[simp] theorem lookup_cons (k:Nat) (s:AM.Spec) (l:Tab) (g:Nat):lookup ((k,s)::l) g=if g=k then some s else lookup l g:=rfl
def zN (P:Program) (l:Tab):Ctx:=⟨P,lookup l,fun _=>[],fun _=>[],fun _=>false,fun _=>[],fun _=>none⟩
@[simp] theorem mkCtx_dyn (P:Program) (l:Tab) (i:Nat):(zN P l).dyn i=[]:=rfl
@[simp] theorem EvC_region_mk (P:Program) (l:Tab) (i:Nat) (ops:Array Oper) (d:Bool) (st:St) (K:Exit→St→Prop):EvC (zN P l) (.region i ops d) st K=EvL (zN P l) ops ops.toList st (xS K):=jc _ i ops d st K rfl rfl
def xW (P:Program) (l:Tab) (dyn:Nat→List (Tmp×Tmp)):Ctx:=⟨P,lookup l,dyn,fun _=>[],fun _=>false,fun _=>[],fun _=>none⟩
@[simp] theorem mkCtxD_P (P:Program) (l:Tab) (dyn:Nat→List (Tmp×Tmp)):(xW P l dyn).P=P:=rfl
@[simp] theorem mkCtx_P (P:Program) (l:Tab):(zN P l).P=P:=rfl
@[simp] theorem call_mk (P:Program) (l:Tab) (hp:Hp) (nx g:Nat) (a b xs:List PV):qN (zN P l) hp nx (some (.fn (.func g) a b)) xs=(lookup l g).bind fun s=>s (a++xs++b) hp nx:=by
 unfold qN zN
 simp only
 cases lookup l g<;>rfl
@[simp] theorem call_mkD (P:Program) (l:Tab) (dyn:Nat→List (Tmp×Tmp)) (hp:Hp) (nx g:Nat) (a b xs:List PV):qN (xW P l dyn) hp nx (some (.fn (.func g) a b)) xs=(lookup l g).bind fun s=>s (a++xs++b) hp nx:=by
 unfold qN xW
 simp only
 cases lookup l g<;>rfl
def AllD (dr:Prop) (P:Program) (q:List Nat):Tab→Prop
 | []=>True
 | (g,s)::l=>ya dr P g s∧(q.contains g=true→Quiet s)∧AllD dr P q l
theorem zr {P:Program} {l:Tab} {q:List Nat} (hm:P.follows .mixedOrders=true) (h:AllD dr P q l):GoodD dr (zN P l) (fun g=>q.contains g):=by
 have key:∀(l:Tab),AllD dr P q l→∀g s,lookup l g=some s→ya dr P g s∧(q.contains g=true→Quiet s):=by
  intro l
  induction l with
  | nil=>intro _ g s h;cases h
  | cons x l ih =>
    obtain⟨k,sp⟩:=x
    rintro⟨h1,h2,h3⟩ g s hs
    simp only[lookup_cons] at hs
    split at hs
    ·rename_i hgk
     injection hs with hs
     subst hs
     subst hgk
     exact⟨h1,h2⟩
    ·exact ih h3 g s hs
 exact⟨fun g s hs=>(key l h g s hs).1,fun g s hq hs=>(key l h g s hs).2 hq,hm,(fun _ _ h=>by cases h),(fun _ _ h=>by cases h)⟩
theorem good_ofD {P:Program} {l:Tab} {q:List Nat} (dyn:Nat→List (Tmp×Tmp)) (hm:P.follows .mixedOrders=true) (h:AllD dr P q l):GoodD dr (xW P l dyn) (fun g=>q.contains g) :=
 let g:=zr hm h
 ⟨g.spec,g.quiet,g.mixed,(fun _ _ h=>by cases h),(fun _ _ h=>by cases h)⟩
def pureN (r:PV) (x:PV) (hp:Hp) (_:Nat):Prop:=∃r0,(AM.freeze hp x).map (·.1)=some r0∧NilUp r0 r
theorem jG {C:Ctx} {fn:Func} {code:Code} {args:List PV} {r:PV} (hb:fn.body=some code)
  (h:EvC C code ⟨yD args,fun _=>none,0⟩ (retK C.P fn (pureN r))):∃r0,zl C fn args=some r0∧NilUp r0 r:=by
 obtain⟨x,hp',nx',h1,r0,h2,h3⟩:=zn hb h
 exact⟨r0,by unfold zl;simp only[h1];exact h2,h3⟩
theorem zY (x:PV):NilUp x x:=by
 unfold NilUp
 split
 ·exact⟨rfl,fun j x y hx hy=>by rw[hx] at hy;injection hy with hy;exact .inl hy⟩
 ·exact .inl rfl
theorem evalFuncR_of {C:Ctx} {fn:Func} {code:Code} {args:List PV} {hp:Hp} {nx:Nat} {r:Option Blk} (hb:fn.body=some code)
  (h:EvC C code ⟨yD args,hp,nx⟩ (retK C.P fn (OwnR r))):∃x hp' nx',qq C fn args hp nx=some (x,hp',nx')∧OwnR r x hp' nx':=zn hb h
def OwnS (hp:Hp) (nx:Nat) (e s:Nat) (v:PV) (xs:List (List PV)):Prop:=(v=.nil∧xs=[])∨∃id,id<nx∧v=.own id 0 xs.length∧hp id=some ⟨e,s,true,xs⟩
def killV (v:PV) (hp:Hp):Hp:=match v with
 | .own id _ _=>upd hp id none
 | _=>hp
theorem OwnS.nil (hp:Hp) (nx e s:Nat):OwnS hp nx e s .nil []:=.inl ⟨rfl,rfl⟩
theorem OwnS.own {hp:Hp} {nx e s id:Nat} {xs:List (List PV)} (h1:id<nx) (h2:hp id=some ⟨e,s,true,xs⟩):OwnS hp nx e s (.own id 0 xs.length) xs:=.inr ⟨id,h1,rfl,h2⟩
theorem OwnS.len {P:Program} {hp:Hp} {nx e s:Nat} {v:PV} {xs:List (List PV)} {t:TypeId} (h:OwnS hp nx e s v xs) (ht:qA P t=some e):lenA P t v=some (.v (.int .i64 xs.length)):=by
 rcases h with⟨rfl,rfl⟩ | ⟨id,_,rfl,_⟩<;>simp[ht]
theorem OwnS.view {hp:Hp} {nx e s:Nat} {v:PV} {xs:List (List PV)} (h:OwnS hp nx e s v xs):view hp s v=some xs:=by
 rcases h with⟨rfl,rfl⟩ | ⟨id,_,rfl,h⟩<;>simp[AM.view, *]
theorem OwnS.append1 {P:Program} {hp:Hp} {nx e s by_:Nat} {v:PV} {xs:List (List PV)} {c z:List PV} {t:TypeId} (h:OwnS hp nx e s v xs) (ht:qA P t=some e) (hs:zU P e=some s) (hb:wH P e=some by_) (hz:wt P e=some z)
  (hzl:z.length=s) (h0:0<s) (h1:xs.length+1≤maxLen) (h2:(xs.length+1)*by_≤140737488355328) :
  zV P (upd hp nx (some ⟨e,s,true,[c]⟩)) (nx+1) t t v (.own nx 0 1) =
   some (.own (nx+1) 0 (xs.length+1),upd (killV v (upd hp nx (some ⟨e,s,true,[c]⟩))) (nx+1) (some ⟨e,s,true,xs++[c]⟩),nx+2):=by
 rcases h with⟨rfl,rfl⟩ | ⟨id,hid,rfl,hh⟩
 ·simp at h1 h2
  simp[zV,ht,hs,hb,hz,hzl,h0,h1,h2,AM.view,killV]
 ·have hne:¬id=nx:=by omega
  simp[zV,ht,hs,hb,hz,hzl,h0,h1,h2,AM.view,killV,hne,hh]
theorem OwnS.after {hp:Hp} {nx e s:Nat} {v:PV} {xs:List (List PV)} {c:List PV} {tmp:Option Blk}:OwnS (upd (killV v (upd hp nx tmp)) (nx+1) (some ⟨e,s,true,xs++[c]⟩)) (nx+2) e s (.own (nx+1) 0 (xs.length+1)) (xs++[c]) :=
 .inr ⟨nx+1,by omega,by simp,by simp⟩
theorem qG {hp:Hp} {nx e s:Nat} {v:PV} {xs:List (List PV)} (h:OwnS hp nx e s v xs) (hp':Hp) (id:Nat) (hne:∀n,v≠.own id 0 n):killV v hp' id=hp' id:=by
 rcases h with⟨rfl,rfl⟩ | ⟨k,hk,rfl,hh⟩
 ·rfl
 ·have:¬id=k:=fun e=>hne _ (by rw[e])
  simp[killV,this]
theorem OwnS.ret {hp:Hp} {nx e s:Nat} {v:PV} {xs:List (List PV)} (h:OwnS hp nx e s v xs) (nx':Nat):OwnR (match v with | .nil=>none | _=>some ⟨e,s,true,xs⟩) v hp nx':=by
 rcases h with⟨rfl,rfl⟩ | ⟨id,hid,rfl,hh⟩
 ·rfl
 ·exact⟨id,rfl,hh,rfl⟩
theorem OwnS.freeze {hp:Hp} {nx e s:Nat} {v:PV} {xs:List (List PV)} (h:OwnS hp nx e s v xs) (nx':Nat):pureN (.sl s xs) v hp nx':=by
 rcases h with⟨rfl,rfl⟩ | ⟨id,hid,rfl,hh⟩
 ·exact⟨.nil,by simp,.inr ⟨rfl,s,rfl⟩⟩
 ·exact⟨.sl s xs,by simp[hh],zY _⟩
theorem qZ {α β:Type} {f:α→β} (h:∀a b,f a=f b→a=b):∀{xs ys:List α},xs.map f=ys.map f→xs=ys
 | [],[],_=>rfl
 | [],y::ys,e=>by simp at e
 | x::xs,[],e=>by simp at e
 | x::xs,y::ys,e=>by
   simp at e
   rw[h x y e.1,qZ h e.2]
def forK (I:Nat→(Nat→PV)→Hp→Nat→Prop) (n k:Nat) (K:Exit→St→Prop) (e:Exit) (st:St):Prop:=match e with
 | .normal=>k+1≤n∧I (k+1) st.σ st.hp st.nx
 | e=>K e st
@[simp] theorem forK_normal (I:Nat→(Nat→PV)→Hp→Nat→Prop) (n k:Nat) (K:Exit→St→Prop) (st:St):forK I n k K .normal st=(k+1≤n∧I (k+1) st.σ st.hp st.nx):=rfl
@[simp] theorem forK_ret (I:Nat→(Nat→PV)→Hp→Nat→Prop) (n k:Nat) (K:Exit→St→Prop) (st:St):forK I n k K .ret st=K .ret st:=rfl
@[simp] theorem forK_exit (I:Nat→(Nat→PV)→Hp→Nat→Prop) (n k i:Nat) (K:Exit→St→Prop) (st:St):forK I n k K (.exit i) st=K (.exit i) st:=rfl
theorem zD {C:Ctx} {b:Code} {st:St} {K:Exit→St→Prop} (I:Nat→(Nat→PV)→Hp→Nat→Prop) (n:Nat) (h0:I 0 st.σ st.hp st.nx)
  (round:∀k σ hp nx,k≤n→I k σ hp nx→EvC C b ⟨σ,hp,nx⟩ (forK I n k K)):EvC C (.loop b) st K:=by
 have key:∀d k st,n - k=d→k≤n→I k st.σ st.hp st.nx→EvC C (.loop b) st K:=by
  intro d
  induction d with
  | zero =>
    intro k st hd hk hI
    rw[zw]
    refine (round k st.σ st.hp st.nx hk hI).mono fun e st' h=>?_
    cases e
    case normal=>have:=h.1;omega
    all_goals exact h
  | succ d ih =>
    intro k st hd hk hI
    rw[zw]
    refine (round k st.σ st.hp st.nx hk hI).mono fun e st' h=>?_
    cases e
    case normal=>exact ih (k+1) st' (by omega) h.1 h.2
    all_goals exact h
 exact key _ 0 st rfl (Nat.zero_le _) h0
end Go.AM
