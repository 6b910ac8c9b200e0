/-
The abstract machine, part 14: functions, and what may be said of them to their callers.
-/
import Derived.Test.YtjcofiomfmebkaaGreatDoorG7
set_option maxRecDepth 8000
namespace Go.AM
open Go.RowKit
variable {dr:Prop}
section
variable {C:Ctx} {pf:FuncId→Bool}
theorem xv {w:World} {S:Nat→Prop} {G:Nat→GI} {st:St} {a:Act} (hi:Inv C.P w S G st.hp st.nx) (hs:∀t,RepO w S G st.nx (st.σ t) (a.tmps.getD t undef)) :
  ∀{l:List ResultVar} {xs:List PV},qu (l.map (xm C.P st))=some xs→∃vs,(l.mapM (m:=Sem) fun r=>match r with
   | .tmp t=>pure (a.tmps.getD t undef)
   | .cell p t=>do loadVar t (←asAddr (a.tmps.getD p undef))).run C.P w=.ok vs w∧Zip (RepO w S G st.nx) xs vs
 | [],xs,h=>by
   simp only[List.map_nil,qu] at h
   injection h with h
   subst h
   exact⟨[],by simp,.nil⟩
 | r::l,xs,h=>by
   simp only[List.map_cons] at h
   cases hr:xm C.P st r with
   | none=>rw[hr] at h;simp[qu] at h
   | some p =>
     rw[hr] at h
     simp only[qu] at h
     cases hl:qu (l.map (xm C.P st)) with
     | none=>rw[hl] at h;simp at h
     | some ys =>
       rw[hl] at h
       simp at h
       subst h
       obtain⟨vs,h1,h2⟩:=xv hi hs hl
       cases r with
       | tmp t =>
         simp only[xm] at hr
         injection hr with hr
         subst hr
         refine⟨a.tmps.getD t undef::vs,?_,.cons (hs t) h2⟩
         simp only[List.mapM_cons,Sem.run_bind,Sem.run_pure,Result.andThen_ok,h1]
       | cell q t =>
         simp only[xm] at hr
         obtain⟨v,w',S',G',e1,k,hx⟩:=zcr (dr:=True) hi hr (hs q)
         have hq:=hs q
         have hld:∃v,(do loadVar t (←asAddr (a.tmps.getD q undef)):Sem Value).run C.P w=.ok v w∧RepO w S G st.nx p v:=by
          unfold jZ at hr
          split at hr
          ·rename_i cs hσ
           rw[hσ] at hq
           have hc:=hq.ptr_inv
           generalize a.tmps.getD q undef=u at *
           cases hc with
           | ptr us g1 g2 =>
             obtain⟨v,hv,hr'⟩:=Q0 (G:=G) (nx:=st.nx) (w:=w) (S:=S) hr _ us (fun j pv hj=>⟨(g1 j pv hj).2,.c (g2 j pv hj)⟩)
             exact⟨v,by simp[asAddr,hv],hr'⟩
          ·rename_i id i j hσ
           rw[hσ] at hq
           have hrp:=hq.ref_pos
           obtain⟨hid,hu⟩:=hq.ref_inv
           rw[hu] at e1 ⊢
           split at hr
           ·rename_i b hb
            split at hr
            ·rename_i c hc
             obtain⟨cur,h3,h4,h5⟩:=(hi.live id b hb).row hrp
             have hcell:∀k:Nat,w.cell? ((⟨(G id).g,i*(G id).s+j,none⟩:Addr).add k)=cur[i*(G id).s+j+k]?:=by
              intro k
              rw[Addr.add_lit,cell_of_row w _ _ cur _ _ h3]
             obtain⟨v,hv,hr'⟩:=Q0 (G:=G) (nx:=st.nx) (w:=w) (S:=S) hr ⟨(G id).g,i*(G id).s+j,none⟩ (fun k=>(cur[i*(G id).s+j+k]?).getD undef) (fun k pv hk=>by
              rw[List.getElem?_drop] at hk
              obtain⟨u,h6,h7⟩:=h5 i (j+k) c pv hc hk
              rw[hcell]
              have e:i*(G id).s+j+k=i*(G id).s+(j+k):=by omega
              rw[e,h6]
              exact⟨rfl,h7.2.1⟩)
             exact⟨v,by simp[asAddr,hv],hr'⟩
            ·cases hr
           ·cases hr
          ·cases hr
         obtain⟨v,hv,hvr⟩:=hld
         refine⟨v::vs,?_,.cons hvr h2⟩
         simp only[List.mapM_cons,Sem.run_bind,hv,Result.andThen_ok,h1,Sem.run_pure]
theorem Zm {P:Program} {fn:Func} {tmps:Array Value} {R:Ending→World→Prop}:∀(Ds:List Nat) (w:World),Ds.Nodup→(∀D∈Ds,w.heap[D]?=some (.deferred (some [])))→(∀w2,Fr dr w (fun b=>b∈Ds) w2→LeavesIn Fence.wide 0 P fn tmps R [] .returning w2)→LeavesInM Fence.wide 0 P fn tmps R (Ds.map zkf) .returning w
 | [],w,_,_,h=>h w (Fr.refl _ _)
 | D::Ds,w,hn,hd,h=>by
   obtain⟨h1,h2⟩:=List.nodup_cons.1 hn
   refine⟨by simp,.inl ⟨D,_,rfl,run_takeDeferred (hd D (by simp)),Zm Ds _ h2 (fun D' hD'=>?_) fun w2 fr=>h w2 ?_⟩⟩
   ·exact (World.putObj_heap_other (k:=D') (r:=D) fun e=>h1 (by rw[←e];exact hD')).trans (hd D' (by simp[hD']))
   ·exact (zkR (.deferred none) (fun b=>b∈D::Ds) (by simp)).trans fr (fun b _ hb=>by simp[hb])
theorem XW (hΓ:∀g spec,C.Γ g=some spec→jt dr C.P g spec) (hpf:∀g spec,pf g=true→C.Γ g=some spec→Zg spec) (hbk:∀g spec,C.bk g=true→C.Γ g=some spec→vr spec) (hit:∀g it,C.it g=some it→zkP dr C.P g it) (hm:C.P.follows .mixedOrders=true)
  {f:FuncId} {fn:Func} {code:Code} (hf:C.P.funcs[f]?=some fn) (hb:fn.body=some code) (hok:je pf C.dyn C.lds C.bk fn.ntmps code=true)
  {args:List PV} {hp hp':Hp} {nx nx':Nat} {x:PV} (h:q8 C fn args hp nx=some (x,hp',nx')) {w:World} {S:Nat→Prop} {G:Nat→GI} {vs:List Value} (hi:Inv C.P w S G hp nx) (hz:Zip (RepO w S G nx) args vs) (hn:args.length≤fn.ntmps) :
  Calls C.P f vs.toArray w fun e w'=>∃v S' G',e=.returned v∧Stp dr C.P hp nx S G w hp' nx' S' G' w'∧RepO w' S' G' nx' x v:=by
 unfold q8 at h
 simp only[hb] at h
 refine callsIn_wide.1 (callsIn_of_wp_marks (n:=0) hf hb trivial ?_)
 have hsim:Sim dr C.P w S (yg hp G) fn.ntmps nx G w.heap.size ⟨yF args,hp,nx⟩ { tmps:=vs.toArray++Array.replicate (fn.ntmps - vs.toArray.size) undef,defers:=[] } w:=by
  refine⟨S,G,hi,fun t=>?_,?_,.nil (Nat.le_refl _),fun _ h=>h,fun _ h=>.inl h,fun id b hb=>.inl ⟨id,b,hb,rfl⟩,Fr.refl _ _,Nat.le_refl _,fun _ _=>rfl⟩
  ·have hvl:vs.length=args.length:=hz.1.symm
   unfold yF
   by_cases ht:t<args.length
   ·have h1:args[t]?=some args[t]:=List.getElem?_eq_getElem ht
    have h2:vs[t]?=some (vs[t]'(by omega)):=List.getElem?_eq_getElem (by omega)
    have h3:=hz.2 t _ _ h1 h2
    have h4:(vs.toArray++Array.replicate (fn.ntmps - vs.toArray.size) undef)[t]?=vs[t]?:=by
     rw[Array.getElem?_append_left (by simpa using (by omega:t<vs.length))]
     simp
    simp only[h1,Option.getD_some]
    rw[Array.getD_eq_getD_getElem?,h4,h2]
    exact h3
   ·have h1:args[t]?=none:=List.getElem?_eq_none (by omega)
    have h4:(vs.toArray++Array.replicate (fn.ntmps - vs.toArray.size) undef).getD t undef=undef:=by
     rw[Array.getD_eq_getD_getElem?,Array.getElem?_append_right (by simpa using (by omega:vs.length≤t)),Array.getElem?_replicate]
     split<;>rfl
    simp only[h1,Option.getD_none]
    rw[h4]
    exact qW
  ·have hvl:vs.length=args.length:=hz.1.symm
   simp
   omega
 have fin:∀(e:Exit) (st:St),(e=.normal∨e=.ret)→zQ C code ⟨yF args,hp,nx⟩=some (e,st)→(jd C.P fn st).map (fun x=>(x,st.hp,st.nx))=some (x,hp',nx') →
   code.wpIn Fence.wide 0 C.P (bodyPostM Fence.wide 0 C.P fn fun e w'=>∃v S' G',e=.returned v∧Stp dr C.P hp nx S G w hp' nx' S' G' w'∧RepO w' S' G' nx' x v) { tmps:=vs.toArray++Array.replicate (fn.ntmps - vs.toArray.size) undef,defers:=[] } w:=by
  intro e st he hev hr
  obtain⟨r,hr1,hr2⟩:=zp hr
  injection hr2 with e1 hr2
  injection hr2 with e2 e3
  subst e1;subst e2;subst e3
  refine XV hΓ hpf hbk hit hm code hok Fence.wide 0 (.inl rfl) (.inl rfl) w S (yg hp G) nx G w.heap.size _ st e _ w _ (Nat.le_refl _) hev hsim fun a' w1 hs'=>?_
  obtain⟨S',G',hS1⟩:=hs'
  obtain⟨hd0,Ds,hd1,hd2,hd3⟩:=hS1.defers
  have key:LeavesInM Fence.wide 0 C.P fn a'.tmps (fun e w'=>∃v S' G',e=.returned v∧Stp dr C.P hp nx S G w st.hp st.nx S' G' w'∧RepO w' S' G' st.nx r v) a'.defers .returning w1:=by
   rw[hd1]
   refine Zm (dr:=dr) Ds w1 hd2 (fun D hD=>(hd3 D hD).2.1) fun w' frD=>?_
   have haw:∀b,b∈Ds→Away S' G' st.hp b:=fun b hb=>⟨(hd3 b hb).2.2.1,(hd3 b hb).2.2.2⟩
   have hinv:=hS1.inv.frame frD haw
   have hsl:∀t,RepO w' S' G' st.nx (st.σ t) (a'.tmps.getD t undef):=fun t=>(hS1.slots t).mono (fun b hb=>⟨hb,frD.block b (hS1.inv.st b hb) fun hb'=>(haw b hb').1 hb⟩) (Nat.le_refl _) (fun _ _=>rfl)
   have hk:Stp dr C.P hp nx S G w st.hp st.nx S' G' w':=⟨hinv,hS1.up,hS1.loc,hS1.s0,hS1.s1,hS1.own,hS1.fr.trans frD fun b hb h1=>by have:=(hd3 b h1).1;omega⟩
   have hres:∃v,(results fn a'.tmps).run C.P w'=.ok v w'∧RepO w' S' G' st.nx r v:=by
    unfold jd at hr1
    have go:∀xs,qu (fn.results.toList.map (xm C.P st))=some xs→r=(match xs with | [x]=>x | xs=>.tup xs)→∃v,(results fn a'.tmps).run C.P w'=.ok v w'∧RepO w' S' G' st.nx r v:=by
     intro xs hx hrx
     obtain⟨us,h1,h2⟩:=xv hinv hsl hx
     have hrun:(results fn a'.tmps).run C.P w'=.ok (if h:us.toArray.size=1 then us.toArray[0] else .tuple us.toArray) w':=by
      unfold results
      rw[Array.mapM_eq_mapM_toList]
      simp only[Sem.run_bind,Sem.run_map]
      erw [h1]
      rfl
     refine⟨_,hrun,?_⟩
     match xs,h2,hrx with
     | [],h2,hrx =>
       rw[h2.unnil]
       subst hrx
       exact .tup rfl (by simp)
     | [y],h2,hrx =>
       obtain⟨u,rfl,hu⟩:=xq h2
       subst hrx
       simpa using hu
     | y::z::ys,h2,hrx =>
       have hl:=h2.1
       subst hrx
       rw[dif_neg (by simp at hl ⊢;omega)]
       exact .tup (by simpa using hl) (fun j pv u hj hu=>h2.2 j pv u hj (by simpa using hu))
    split at hr1
    ·rename_i y hy
     injection hr1 with hr1
     exact go [y] hy hr1.symm
    ·rename_i xs hne hx
     injection hr1 with hr1
     refine go xs hx ?_
     rw[←hr1]
     match xs,hne with
     | [],_=>rfl
     | [y],hne=>exact (hne y rfl).elim
     | y::z::ys,_=>rfl
    ·cases hr1
   obtain⟨v,hv1,hv2⟩:=hres
   exact⟨v,hv1,v,S',G',rfl,hk,hv2⟩
  rcases he with rfl | rfl
  ·exact key
  ·exact key
 split at h
 ·rename_i st hev;exact fin _ st (.inl rfl) hev h
 ·rename_i st hev;exact fin _ st (.inr rfl) hev h
 ·cases h
end
variable {dr:Prop}
def PV.isV:PV→Bool
 | .v _=>true
 | _=>false
def PV.flat:PV→Bool
 | .v _=>true
 | .tup cs=>cs.all PV.isV
 | _=>false
def zqF (s:Nat):PV→PV
 | .nil=>.sl s []
 | x=>x
def qw:List Nat→List PV→List PV
 | s::ns,x::l=>zqF s x::qw ns l
 | _,l=>l
def zkS (x y:PV):Prop:=x=y∨(x=.nil∧∃s,y=.sl s [])
def zaM:PV→PV→Prop
 | .tup xs,.tup ys=>xs.length=ys.length∧∀(j:Nat) (x y:PV),xs[j]?=some x→ys[j]?=some y→zkS x y
 | x,y=>zkS x y
def zd (kill:Bool) (ns:List Nat) (F:List PV→Option PV):AM.Spec:=fun args hp nx =>
 match zj hp args with
 | some (aZ,hp1)=>match F (qw ns aZ) with
   | some r=>if r.flat=true∨args.all PV.noOwn=true then some (r,hp,nx) else if kill=true then some (r,hp1,nx) else none
   | none=>none
 | none=>none
def qP (ns:List Nat) (F:List PV→Option (Option Blk)):AM.Spec:=fun args hp nx =>
 match zj hp args with
 | some (aZ,hp1)=>match F (qw ns aZ) with
   | some none=>some (.nil,hp1,nx)
   | some (some b)=>some (.own nx 0 b.es.length,upd hp1 nx (some b),nx+1)
   | none=>none
 | none=>none
theorem znZ {α:Type} (f:Nat→α) {i j:Nat} (h:i≠j) (x y:α):upd (upd f i x) j y=upd (upd f j y) i x:=by
 funext k
 unfold upd
 by_cases hi:k=i
 ·subst hi;simp[h]
 ·simp[hi]
theorem Qn {hp hp1:Hp} {x y:PV} {nx:Nat} (hn:hp nx=none) (b:Option Blk) (h:qh hp x=some (y,hp1)):qh (upd hp nx b) x=some (y,upd hp1 nx b)∧hp1 nx=none:=by
 unfold qh at h
 split at h
 ·rename_i id off n
  split at h
  ·rename_i bb hb
   have hne:id≠nx:=fun e=>by rw[e,hn] at hb;cases hb
   split at h
   ·rename_i hc
    injection h with h
    injection h with e1 e2
    subst e1;subst e2
    refine⟨?_,by rw[zT _ _ _ _ hne.symm];exact hn⟩
    unfold qh
    simp only[zT hp nx id b hne,hb,hc,and_self,if_true]
    rw[znZ hp hne.symm]
   ·cases h
  ·cases h
 all_goals first
  | (injection h with h;injection h with e1 e2;subst e1;subst e2;exact⟨rfl,hn⟩)
  | (split at h
     ·rename_i hc
      injection h with h;injection h with e1 e2;subst e1;subst e2
      exact⟨by unfold qh;simp only[hc,and_self,if_true],hn⟩
     ·cases h)
  | cases h
theorem Zn {nx:Nat} (b:Option Blk):∀{xs ys:List PV} {hp hp1:Hp},hp nx=none→zW hp xs=some (ys,hp1)→zW (upd hp nx b) xs=some (ys,upd hp1 nx b)∧hp1 nx=none
 | [],ys,hp,hp1,hn,h=>by
   simp only[zW] at h
   injection h with h;injection h with e1 e2;subst e1;subst e2
   exact⟨rfl,hn⟩
 | x::l,ys,hp,hp1,hn,h=>by
   simp only[zW] at h
   split at h
   ·rename_i y hp2 h1
    split at h
    ·rename_i r hp3 h2
     injection h with h;injection h with e1 e2;subst e1;subst e2
     obtain⟨g1,g2⟩:=Qn hn b h1
     obtain⟨g3,g4⟩:=Zn b g2 h2
     exact⟨by simp only[zW,g1,g3],g4⟩
    ·cases h
   ·cases h
theorem zaN {hp hp1:Hp} {x y:PV} {nx:Nat} (hn:hp nx=none) (b:Option Blk) (h:zE hp x=some (y,hp1)):zE (upd hp nx b) x=some (y,upd hp1 nx b)∧hp1 nx=none:=by
 cases x with
 | agg cs =>
   simp only[zE] at h ⊢
   split at h
   ·rename_i l h' h1
    injection h with h;injection h with e1 e2;subst e1;subst e2
    obtain⟨g1,g2⟩:=Zn b hn h1
    exact⟨by simp only[g1],g2⟩
   ·cases h
 | _ =>
   simp only[zE] at h ⊢
   exact Qn hn b h
theorem Qo {nx:Nat} (b:Option Blk):∀{xs ys:List PV} {hp hp1:Hp},hp nx=none→zj hp xs=some (ys,hp1)→zj (upd hp nx b) xs=some (ys,upd hp1 nx b)∧hp1 nx=none
 | [],ys,hp,hp1,hn,h=>by
   simp only[zj] at h
   injection h with h;injection h with e1 e2;subst e1;subst e2
   exact⟨rfl,hn⟩
 | x::l,ys,hp,hp1,hn,h=>by
   simp only[zj] at h
   split at h
   ·rename_i y hp2 h1
    split at h
    ·rename_i r hp3 h2
     injection h with h;injection h with e1 e2;subst e1;subst e2
     obtain⟨g1,g2⟩:=zaN hn b h1
     obtain⟨g3,g4⟩:=Qo b g2 h2
     exact⟨by simp only[zj,g1,g3],g4⟩
    ·cases h
   ·cases h
theorem zi (ns:List Nat) (F:List PV→Option PV):Zg (zd false ns F):=by
 intro args hp nx r hp' nx' h
 unfold zd at h
 split at h
 ·rename_i avs hp1 hf
  split at h
  ·rename_i r0 hF
   split at h
   ·rename_i hc
    injection h with h
    injection h with h0 h
    injection h with h1 h2
    subst h0
    refine⟨⟨h1.symm,h2.symm⟩,fun b hn=>?_⟩
    unfold zd
    simp only[(Qo b hn hf).1,hF]
    rw[if_pos hc]
   ·simp at h
  ·cases h
 ·cases h
structure Known (C:Ctx) (pf:FuncId→Bool) (f:FuncId) (fn:Func) (code:Code):Prop where
 func:C.P.funcs[f]?=some fn
 name:(fn.name== "runtime.NumGoroutine")=false
 body:fn.body=some code
 ok:je pf C.dyn C.lds C.bk fn.ntmps code=true
structure GoodD (dr:Prop) (C:Ctx) (pf:FuncId→Bool):Prop where
 spec:∀g spec,C.Γ g=some spec→jt dr C.P g spec
 quiet:∀g spec,pf g=true→C.Γ g=some spec→Zg spec
 mixed:C.P.follows .mixedOrders=true
 box:∀g spec,C.bk g=true→C.Γ g=some spec→vr spec:=by intro _ _ h;cases h
 iter:∀g it,C.it g=some it→zkP dr C.P g it:=by intro _ _ h;cases h
abbrev Good:=GoodD True
section
variable {C:Ctx} {pf:FuncId→Bool} {f:FuncId} {fn:Func} {code:Code}
theorem Stp.outer {P:Program} {hp:Hp} {nx:Nat} {S:Nat→Prop} {G:Nat→GI} {w w':World} (h:Inv P w S G hp nx) (k:Fr dr w (fun _=>False) w') :
  Stp dr P hp nx S G w hp nx (fun b=>S b∨(w.heap.size≤b∧b<w'.heap.size)) G w':=by
 have hold:∀b,b<w.heap.size→w'.heap[b]?=w.heap[b]?:=fun b hb=>k.block b hb fun h=>h
 have hS:∀b,S b→(S b∨(w.heap.size≤b∧b<w'.heap.size))∧w'.heap[b]?=w.heap[b]?:=fun b hb=>⟨.inl hb,hold b (h.st b hb)⟩
 refine⟨⟨fun b hb=>?_,h.top,fun id b hb=>(h.live id b hb).mono hS (Nat.le_refl _) (fun _ _=>rfl) (hold _ (h.live id b hb).lt),fun id b hb hs=>?_,h.inj,h.glo.mono hS⟩,Nat.le_refl _,fun _ _=>rfl,fun _ hb=>.inl hb,fun b hb=>?_,fun id b hb=>.inl ⟨id,b,hb,rfl⟩,⟨k.os,k.tape,k.output,k.size,k.drawn,fun b hb _=>hold b hb⟩⟩
 ·rcases hb with hb | hb
  ·exact Nat.lt_of_lt_of_le (h.st b hb) k.size
  ·exact hb.2
 ·rcases hs with hs | hs
  ·exact h.apart id b hb hs
  ·have:=(h.live id b hb).lt;omega
 ·rcases hb with hb | hb
  ·exact .inl hb
  ·exact .inr (.inr hb.1)
theorem Km {P:Program} {w:World} {S:Nat→Prop} (G:Nat→GI) (hS:∀b,S b→b<w.heap.size) (hg:Glo P w S):Inv P w S G (fun _=>none) 0 :=
 ⟨hS,fun _ _ h=>(by cases h),fun _ _ h=>(by cases h),fun _ _ h=>(by cases h),fun _ _ _ _ h=>(by cases h),hg⟩
theorem kp {G:Nat→GI} {b:Nat} (h:yg (fun _=>none) G b):False:=by
 obtain⟨_,_,h,_⟩:=h
 cases h
theorem Zip.closed {w:World} {S:Nat→Prop} {G:Nat→GI} {nx:Nat} {xs:List PV} {us:List Value} (h:Zip (RepC w S) xs us):Zip (RepO w S G nx) xs us:=h.imp fun _ _ h=>.c h
theorem zaO {w w':World} {S S':Nat→Prop} {r:PV} {v:Value} (h:RepC w S r v) (hf:r.flat=true):RepC w' S' r v:=by
 cases h with
 | v h=>exact .v h
 | tup hl hr =>
   refine .tup hl fun j pv u hj hu=>?_
   simp only[PV.flat,List.all_eq_true] at hf
   have:=hf pv (List.mem_of_getElem? hj)
   have h2:=hr j pv u hj hu
   cases pv<;>simp[PV.isV] at this
   obtain⟨rfl,hl⟩:=h2.v_inv
   exact .v hl
 | _=>simp[PV.flat] at hf
theorem ju (hg:GoodD dr C pf) (hk:Known C pf f fn code) {args:List PV} {x:PV} {hp1:Hp} {nx1:Nat} (h:q8 C fn args (fun _=>none) 0=some (x,hp1,nx1)) (hn:args.length≤fn.ntmps)
  {w:World} {S:Nat→Prop} {vs:List Value} (hS:∀b,S b→b<w.heap.size) (hgl:Glo C.P w S) (hz:Zip (RepC w S) args vs) :
  Calls C.P f vs.toArray w fun e w'=>∃v S' G',e=.returned v∧Fr dr w (fun _=>False) w'∧Inv C.P w' S' G' hp1 nx1∧RepO w' S' G' nx1 x v∧(∀b,S b→S' b)∧(∀b,S' b→S b∨w.heap.size≤b)∧(∀id blk,hp1 id=some blk→w.heap.size≤(G' id).g):=by
 refine (XW hg.spec hg.quiet hg.box hg.iter hg.mixed hk.func hk.body hk.ok h (Km (fun _=>⟨0,0,0⟩) hS hgl) hz.closed hn).mono fun e w' hh=>?_
 obtain⟨v,S',G',he,k,hx⟩:=hh
 refine⟨v,S',G',he,⟨k.fr.os,k.fr.tape,k.fr.output,k.fr.size,k.fr.drawn,fun b hb _=>k.fr.block b hb kp⟩,k.inv,hx,k.keep,fun b hb=>?_,fun id blk hb=>?_⟩
 ·rcases k.from_ b hb with h | h | h
  ·exact .inl h
  ·exact (kp h).elim
  ·exact .inr h
 ·rcases k.own id blk hb with h | h
  ·exact (kp h).elim
  ·exact h
theorem zcN {w:World} {S:Nat→Prop} {x:PV} {u:Value} (h:RepC w S x u) (s:Nat):RepC w S (zqF s x) u:=by
 unfold zqF
 split
 ·cases h
  exact .sl (es:=[]) (fun _ _=>undef) (by simp) (by simp) (by simp[maxLen]) (by simp) (by simp) (by simp)
 ·exact h
theorem kY {w:World} {S:Nat→Prop}:∀{ns:List Nat} {xs:List PV} {us:List Value},Zip (RepC w S) xs us→Zip (RepC w S) (qw ns xs) us
 | [],xs,us,h=>by unfold qw;exact h
 | s::ns,[],us,h=>by unfold qw;exact h
 | s::ns,x::xs,us,h=>by
   obtain⟨u,us',rfl,hu,hz⟩:=h.uncons
   simp only[qw]
   exact .cons (zcN hu s) (kY hz)
theorem zkT {w:World} {S:Nat→Prop} {x y:PV} {u:Value} (h:RepC w S x u) (hu:zkS x y):RepC w S y u:=by
 rcases hu with rfl | ⟨rfl,s,rfl⟩
 ·exact h
 ·exact zcN h s
theorem zg5 {w:World} {S:Nat→Prop} {x y:PV} {u:Value} (h:RepC w S x u) (hu:zaM x y):RepC w S y u:=by
 unfold zaM at hu
 split at hu
 ·cases h with
  | tup hl hr =>
    rename_i xs ys us
    refine .tup (by omega) fun j pv v hj hv=>?_
    have hjl:j<xs.length:=by rw[hu.1];exact (List.getElem?_eq_some_iff.1 hj).1
    exact zkT (hr j xs[j] v (List.getElem?_eq_getElem hjl) hv) (hu.2 j xs[j] pv (List.getElem?_eq_getElem hjl) hj)
 ·exact zkT h hu
theorem zfc (hg:GoodD dr C pf) (hk:Known C pf f fn code) (kill:Bool) (ns:List Nat) (F:List PV→Option PV) (hF:∀args r,F args=some r→args.length≤fn.ntmps∧∃r0,zg C fn args=some r0∧zaM r0 r):jt dr C.P f (zd kill ns F):=by
 refine⟨⟨fn,hk.func,hk.name,by rw[hk.body];rfl⟩,?_⟩
 intro args hp nx r hp' nx' h w S G vs hi hz
 unfold zd at h
 split at h
 ·rename_i aZ hp1 hfr
  split at h
  ·rename_i r0 hF0
   obtain⟨hn,rr,hev,hup⟩:=hF _ r0 hF0
   unfold zg at hev
   split at hev
   ·rename_i x hpe nxe hef
    obtain⟨⟨r1,hpf1⟩,hfz,hr1⟩:=zp hev
    simp only at hr1
    subst hr1
    obtain⟨S1,k1,hz1,hsn⟩:=qR (dr:=dr) hi hfr hz
    refine (ju hg hk hef hn k1.inv.st k1.inv.glo (kY hz1)).mono fun e w' hh=>?_
    obtain⟨v,S',G',he,fr,inv',hx,hs0,hs1,_⟩:=hh
    obtain⟨S2,k2,hc0⟩:=kV (dr:=dr) inv' hfz hx
    have hc:=zg5 hc0 hup
    have hS2:∀b,S2 b→S1 b∨(w.heap.size≤b∧b<w'.heap.size):=by
     intro b hb
     have hlt:=k2.inv.st b hb
     rcases k2.from_ b hb with h1 | ⟨id,blk,h1,rfl⟩ | h1
     ·rcases hs1 b h1 with h2 | h2
      ·exact .inl h2
      ·exact .inr ⟨h2,hlt⟩
     ·rcases Nat.lt_or_ge (G' id).g w.heap.size with h3 | h3
      ·rename_i hown
       have:=hown id blk h1
       omega
      ·exact .inr ⟨h3,hlt⟩
     ·exact absurd h1 (by omega)
    split at h
    ·rename_i hflat
     injection h with h
     injection h with e1 h
     injection h with e2 e3
     subst e1;subst e2;subst e3
     refine⟨v,_,G,he,Stp.outer hi fr,.c ?_⟩
     rcases hflat with hfl | hno
     ·exact zaO hc hfl
     ·have hno':=hsn hno
      exact hc.mono fun b hb=>⟨by rw[←hno'];exact hS2 b hb,rfl⟩
    ·split at h
     ·injection h with h
      injection h with e1 h
      injection h with e2 e3
      subst e1;subst e2;subst e3
      exact⟨v,_,G,he,k1.trans (Stp.outer k1.inv fr),.c (hc.mono fun b hb=>⟨hS2 b hb,rfl⟩)⟩
     ·cases h
   ·cases hev
  ·cases h
 ·cases h
end
variable {dr:Prop}
section
variable {P:Program} {hp1 hp2 hpe:Hp} {nx nxe:Nat} {S1 S':Nat→Prop} {G G':Nat→GI} {w w':World} {D:Nat→Prop}
theorem Kn (hi:Inv P w S1 G hp1 nx) (hsub:∀id b,hp2 id=some b→hp1 id=some b∧¬D (G id).g) (hD:∀b,D b→yg hp1 G b) (fr:Fr dr w D w') (inv':Inv P w' S' G' hpe nxe) (hs0:∀b,S1 b→S' b) (hs1:∀b,S' b→S1 b∨D b∨w.heap.size≤b) :
  Stp dr P hp1 nx S1 G w hp2 nx S' G w':=by
 have hnD:∀b,S1 b→¬D b:=fun b hb hd=>by
  obtain⟨id,blk,h1,rfl⟩:=hD b hd
  exact hi.apart id blk h1 hb
 have hS:∀b,S1 b→S' b∧w'.heap[b]?=w.heap[b]?:=fun b hb=>⟨hs0 b hb,fr.block b (hi.st b hb) (hnD b hb)⟩
 refine⟨⟨inv'.st,fun id b hb=>hi.top id b (hsub id b hb).1,fun id b hb=>?_,fun id b hb hs=>?_,fun id id' b b' hb hb' he=>hi.inj id id' b b' (hsub id b hb).1 (hsub id' b' hb').1 he,inv'.glo⟩,Nat.le_refl _,fun _ _=>rfl,hs0,fun b hb=>?_,fun id b hb=>.inl ⟨id,b,(hsub id b hb).1,rfl⟩,⟨fr.os,fr.tape,fr.output,fr.size,fr.drawn,fun k hk hn=>fr.block k hk fun hd=>hn (hD k hd)⟩⟩
 ·have hl:=hi.live id b (hsub id b hb).1
  exact hl.mono hS (Nat.le_refl _) (fun _ _=>rfl) (fr.block _ hl.lt (hsub id b hb).2)
 ·have hl:=hi.live id b (hsub id b hb).1
  rcases hs1 _ hs with h | h | h
  ·exact hi.apart id b (hsub id b hb).1 h
  ·exact (hsub id b hb).2 h
  ·have:=hl.lt;omega
 ·rcases hs1 b hb with h | h | h
  ·exact .inl h
  ·exact .inr (.inl (hD b h))
  ·exact .inr (.inr h)
theorem zg6 (hi:Inv P w S1 G hp1 nx) (hsub:∀id b,hp2 id=some b→hp1 id=some b∧¬D (G id).g) (hD:∀b,D b→yg hp1 G b) (fr:Fr dr w D w') (inv':Inv P w' S' G' hpe nxe) (hs0:∀b,S1 b→S' b) (hs1:∀b,S' b→S1 b∨D b∨w.heap.size≤b)
  {id:Nat} {b:Blk} (hb:hpe id=some b) (harr:b.arr=true) (hown:D (G' id).g∨w.heap.size≤(G' id).g) :
  Stp dr P hp1 nx S1 G w (upd hp2 nx (some b)) (nx+1) S' (upd G nx (G' id)) w':=by
 have kk:=Kn hi hsub hD fr inv' hs0 hs1
 have hne:∀id' b',hp2 id'=some b'→(G id').g≠(G' id).g:=fun id' b' h' he=>by
  rcases hown with h | h
  ·exact (hsub id' b' h').2 (he ▸ h)
  ·have:=(hi.live id' b' (hsub id' b' h').1).lt;omega
 have hG:∀k,k<nx→upd G nx (G' id) k=G k:=fun k hk=>zT _ _ _ _ (by omega)
 have hpo:∀k,k≠nx→upd hp2 nx (some b) k=hp2 k:=fun k hk=>zT _ _ _ _ hk
 have hSS:∀b,S' b→S' b∧w'.heap[b]?=w'.heap[b]?:=fun b hb=>⟨hb,rfl⟩
 have htop:∀k c,hp2 k=some c→k<nx:=fun k c hk=>hi.top k c (hsub k c hk).1
 refine⟨⟨inv'.st,fun k c hk=>?_,fun k c hk=>?_,fun k c hk=>?_,fun k k' c c' hk hk' he=>?_,inv'.glo⟩,by omega,hG,kk.keep,kk.from_,fun k' c hk=>?_,kk.fr⟩
 ·by_cases hkn:k=nx
  ·omega
  ·rw[hpo k hkn] at hk;have:=htop k c hk;omega
 ·by_cases hkn:k=nx
  ·subst hkn
   simp only[qd] at hk ⊢
   injection hk with hk
   subst hk
   have hl:=inv'.live id _ hb
   refine⟨hl.bs,fun h0=>⟨hl.size h0,hl.len h0,hl.fit h0,?_⟩,hl.ent⟩
   obtain⟨cur,h1,h2,h3⟩:=hl.row h0
   refine⟨cur,h1,h2,fun i j c pv hi' hj=>?_⟩
   obtain⟨u,h4,h5⟩:=h3 i j c pv hi' hj
   exact⟨u,h4,h5.1,.c (h5.1 harr),h5.2.2⟩
  ·rw[hpo k hkn] at hk
   rw[hG k (htop k c hk)]
   exact (kk.inv.live k c hk).mono hSS (by omega) hG rfl
 ·by_cases hkn:k=nx
  ·subst hkn
   simp only[qd]
   exact inv'.apart id b hb
  ·rw[hpo k hkn] at hk
   rw[hG k (htop k c hk)]
   exact kk.inv.apart k c hk
 ·by_cases hkn:k=nx<;>by_cases hkn':k'=nx
  ·omega
  ·subst hkn
   rw[hpo k' hkn'] at hk'
   rw[hG k' (htop k' c' hk')] at he
   simp only[qd] at he
   exact (hne k' c' hk' he.symm).elim
  ·subst hkn'
   rw[hpo k hkn] at hk
   rw[hG k (htop k c hk)] at he
   simp only[qd] at he
   exact (hne k c hk he).elim
  ·rw[hpo k hkn] at hk
   rw[hpo k' hkn'] at hk'
   rw[hG k (htop k c hk),hG k' (htop k' c' hk')] at he
   exact hi.inj k k' c c' (hsub k c hk).1 (hsub k' c' hk').1 he
 ·by_cases hkn:k'=nx
  ·subst hkn
   simp only[qd]
   rcases hown with h | h
   ·exact .inl (hD _ h)
   ·exact .inr h
  ·rw[hpo k' hkn] at hk
   rw[hG k' (htop k' c hk)]
   exact .inl ⟨k',c,(hsub k' c hk).1,rfl⟩
theorem zg7 {id n:Nat} {v:Value} (h:RepO w' S' G' nxe (.own id 0 n) v):RepO w' S' (upd G nx (G' id)) (nx+1) (.own nx 0 n) v:=by
 have hop:=h.own_pos
 obtain⟨cap,h1,h2,h3,h4,rfl⟩:=h.own_inv
 have:=RepO.own (w:=w') (S:=S') (G:=upd G nx (G' id)) (nx:=nx+1) (id:=nx) (off:=0) (n:=n) (cap:=cap) (by omega) h2 h3 (by simpa using h4) (by simpa using hop)
 simpa using this
end
section
variable {C:Ctx} {pf:FuncId→Bool} {f:FuncId} {fn:Func} {code:Code}
def zcl (r:Option Blk) (x:PV) (hp:Hp) (_:Nat):Prop:=match r with
 | none=>x=.nil
 | some b=>∃id,x=.own id 0 b.es.length∧hp id=some b∧b.arr=true
theorem jH (hg:GoodD dr C pf) (hk:Known C pf f fn code) (ns:List Nat) (F:List PV→Option (Option Blk)) (hF:∀args r,F args=some r→args.length≤fn.ntmps∧∃x hp nx,q8 C fn args (fun _=>none) 0=some (x,hp,nx)∧zcl r x hp nx) :
  jt dr C.P f (qP ns F):=by
 refine⟨⟨fn,hk.func,hk.name,by rw[hk.body];rfl⟩,?_⟩
 intro args hp nx r hp' nx' h w S G vs hi hz
 unfold qP at h
 split at h
 ·rename_i aZ hp1 hfr
  obtain⟨S1,k1,hz1,_⟩:=qR (dr:=dr) hi hfr hz
  have hsub:∀id b,hp1 id=some b→hp1 id=some b∧¬False:=fun id b h=>⟨h,fun h=>h⟩
  split at h
  ·rename_i hF0
   obtain⟨hn,x,hpe,nxe,hef,hx0⟩:=hF _ none hF0
   injection h with h
   injection h with e1 h
   injection h with e2 e3
   subst e1;subst e2;subst e3
   simp only[zcl] at hx0
   subst hx0
   refine (ju hg hk hef hn k1.inv.st k1.inv.glo (kY hz1)).mono fun e w' hh=>?_
   obtain⟨v,S',G',he,fr,inv',hx,hs0,hs1,_⟩:=hh
   have k2:=Kn (dr:=dr) (D:=fun _=>False) (hp2:=hp1) k1.inv hsub (fun _ h=>h.elim) fr inv' hs0 (fun b hb=>(hs1 b hb).imp (fun h=>h) .inr)
   have:=hx.nil_inv
   subst this
   exact⟨_,_,_,he,k1.trans k2,.c .nil⟩
  ·rename_i b hF0
   obtain⟨hn,x,hpe,nxe,hef,hx0⟩:=hF _ (some b) hF0
   injection h with h
   injection h with e1 h
   injection h with e2 e3
   subst e1;subst e2;subst e3
   obtain⟨id,rfl,hid,harr⟩:=hx0
   refine (ju hg hk hef hn k1.inv.st k1.inv.glo (kY hz1)).mono fun e w' hh=>?_
   obtain⟨v,S',G',he,fr,inv',hx,hs0,hs1,hown⟩:=hh
   have k2:=zg6 (dr:=dr) (D:=fun _=>False) (hp2:=hp1) k1.inv hsub (fun _ h=>h.elim) fr inv' hs0 (fun b hb=>(hs1 b hb).imp (fun h=>h) .inr) hid harr (.inr (hown id b hid))
   exact⟨_,_,_,he,k1.trans k2,zg7 hx⟩
  ·cases h
 ·cases h
end
end Go.AM
