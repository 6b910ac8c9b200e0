/-
The abstract machine, part 12: a region that draws its order: the evaluator comes to one state in every order that is allowed.
-/
import Derived.Test.YtglppmnehgjolaaGreatDoorG5
import Derived.Orders
set_option maxRecDepth 8000
namespace Go.AM
open Go.RowKit
def jY (pf:FuncId→Bool):Op→Nat
 | .move _ | .assign _ | .pick .. | .build .. | .binOp .. | .unOp .. | .convert .. | .makeFunc .. | .fieldAddr .. | .field .. | .index .. | .extract .. | .nilCheck _=>0
 | .load .. | .indexAddr .. | .slice ..=>1
 | .call c=>match c.callee with
   | .builtin .len | .builtin .min | .builtin .max=>0
   | .value (.func g)=>if pf g then 1 else 2
   | _=>2
 | _=>2
def Quiet (spec:AM.Spec):Prop:=∀args hp nx r hp' nx',spec args hp nx=some (r,hp',nx')→hp'=hp∧nx'=nx
section
variable {C:Ctx} {pf:FuncId→Bool}
theorem mapQ {α:Type} {o:Option PV} {hp hp':α} {nx nx':Nat} {x:PV} (h:(o.map fun y=>(y,hp,nx))=some (x,hp',nx')):o=some x∧hp'=hp∧nx'=nx:=by
 obtain⟨y,h1,h2⟩:=zs h
 injection h2 with e1 h2
 injection h2 with e2 e3
 subst e1;subst e2;subst e3
 exact⟨h1,rfl,rfl⟩
theorem quiet1 (hpf:∀g spec,pf g=true→C.Γ g=some spec→Quiet spec) {op:Op} (hk:jY pf op≤1) {σ:Nat→PV} {hp hp':Hp} {nx nx':Nat} {x:PV} (h:zB C (get σ) hp nx op=some (x,hp',nx')):hp'=hp∧nx'=nx:=by
 have triv:∀{y:PV},some (y,hp,nx)=some (x,hp',nx')→hp'=hp∧nx'=nx:=by
  intro y h
  injection h with h
  injection h with _ h
  injection h with h1 h2
  exact⟨h1.symm,h2.symm⟩
 cases op<;>simp only[jY] at hk<;>(try omega)<;>simp only[zB] at h
 case move=>exact (mapQ h).2
 case assign=>exact (mapQ h).2
 case pick=>split at h<;>first | exact (mapQ h).2 | cases h
 case build=>split at h<;>first | exact (mapQ h).2 | cases h
 case load=>split at h<;>first | exact (mapQ h).2 | cases h
 case nilCheck=>split at h<;>first | exact triv h | cases h
 case binOp=>split at h<;>first | exact (mapQ h).2 | cases h
 case unOp=>split at h<;>first | exact (mapQ h).2 | cases h
 case convert=>split at h<;>first | exact (mapQ h).2 | cases h
 case makeFunc=>split at h<;>first | exact triv h | cases h
 case slice t x lo hi mx=>cases mx<;>simp only at h<;>first | (split at h<;>first | exact (mapQ h).2 | cases h) | cases h
 case fieldAddr=>split at h<;>first | exact (mapQ h).2 | cases h
 case field=>split at h<;>first | exact (mapQ h).2 | cases h
 case indexAddr=>split at h<;>first | exact (mapQ h).2 | cases h
 case index=>split at h<;>first | exact (mapQ h).2 | cases h
 case extract=>split at h<;>first | exact (mapQ h).2 | cases h
 case call c =>
  unfold yU at h
  split at h
  ·rename_i xs _
   cases hc:c.callee with
   | invoke r m=>rw[hc] at h;cases h
   | builtin b =>
     rw[hc] at hk h
     cases b<;>simp at hk<;>simp only[qj] at h
     ·split at h<;>first | exact (mapQ h).2 | cases h
     ·exact (mapQ h).2
     ·exact (mapQ h).2
   | value f =>
     rw[hc] at hk h
     cases f<;>simp at hk
     rename_i g'
     simp only[qN,get] at h
     split at h
     ·rename_i spec hg
      exact hpf g' spec (by by_cases hx:pf g'=true;exact hx;simp[hx] at hk) hg _ _ _ _ _ _ h
     ·cases h
  ·cases h
theorem quiet0_eq {op:Op} (hk:jY pf op=0) {ρ:Operand→Option PV} (hp hp2:Hp) (nx nx2:Nat):zB C ρ hp2 nx2 op=(zB C ρ hp nx op).map fun r=>(r.1,hp2,nx2):=by
 cases op<;>simp only[jY] at hk<;>(try (exact absurd hk (by omega)))<;>simp only[zB]
 case move x=>cases ρ x<;>rfl
 case assign x=>cases ρ x<;>rfl
 case pick c a b=>split<;>simp[Option.map_map,Function.comp_def]
 case build t ps=>split<;>simp[Option.map_map,Function.comp_def]
 case nilCheck x=>split<;>rfl
 case binOp=>split<;>simp[Option.map_map,Function.comp_def]
 case unOp=>split<;>simp[Option.map_map,Function.comp_def]
 case convert=>split<;>simp[Option.map_map,Function.comp_def]
 case makeFunc=>split<;>rfl
 case fieldAddr=>split<;>simp[Option.map_map,Function.comp_def]
 case field=>split<;>simp[Option.map_map,Function.comp_def]
 case index=>split<;>simp[Option.map_map,Function.comp_def]
 case extract=>split<;>simp[Option.map_map,Function.comp_def]
 case call c =>
  unfold yU
  cases qn (c.args.toList.map ρ) with
  | none=>rfl
  | some xs =>
    simp only
    cases hc:c.callee with
    | value f =>
      rw[hc] at hk
      cases f<;>simp at hk
      split at hk<;>omega
    | invoke r m=>rfl
    | builtin b =>
      rw[hc] at hk
      cases b<;>simp at hk<;>simp only[qj]
      ·split<;>simp[Option.map_map,Function.comp_def]
      ·simp[Option.map_map,Function.comp_def]
      ·simp[Option.map_map,Function.comp_def]
theorem quiet0 {op:Op} (hk:jY pf op=0) {ρ:Operand→Option PV} {hp hp':Hp} {nx nx':Nat} {x:PV} (h:zB C ρ hp nx op=some (x,hp',nx')) (hp2:Hp) (nx2:Nat):zB C ρ hp2 nx2 op=some (x,hp2,nx2):=by
 rw[quiet0_eq hk hp hp2 nx nx2,h]
 rfl
theorem kX {ρ ρ':Operand→Option PV}:∀{l:List (Nat×Operand)},(∀p∈l,ρ p.2=ρ' p.2)→yn ρ l=yn ρ' l
 | [],_=>rfl
 | (i,x)::l,h=>by
   simp only[yn]
   rw[h (i,x) (by simp),kX (l:=l) fun p hp=>h p (by simp[hp])]
theorem evalOp_congr {ρ ρ':Operand→Option PV} {op:Op} {hp:Hp} {nx:Nat} (h:∀x∈op.operands.toList,ρ x=ρ' x):zB C ρ hp nx op=zB C ρ' hp nx op:=by
 cases op<;>simp only[Op.operands] at h<;>simp only[zB]
 case move x=>rw[h x (by simp)]
 case assign x=>rw[h x (by simp)]
 case pick c a b=>rw[h c (by simp),h a (by simp),h b (by simp)]
 case box t x=>rw[h x (by simp)]
 case build t ps=>rw[kX (l:=ps.toList) fun p hp=>h p.2 (by simp only[List.mem_map];exact⟨p,hp,rfl⟩)]
 case buildSlice t n ps=>rw[kX (l:=ps.toList) fun p hp=>h p.2 (by simp only[List.mem_map];exact⟨p,hp,rfl⟩)]
 case load t x=>rw[h x (by simp)]
 case store t a x=>rw[h a (by simp),h x (by simp)]
 case nilCheck x=>rw[h x (by simp)]
 case binOp op t x y t2=>rw[h x (by simp),h y (by simp)]
 case unOp op t x=>rw[h x (by simp)]
 case convert s d x=>rw[h x (by simp)]
 case makeFunc f a b =>
  rw[List.map_congr_left (g:=ρ') fun x hx=>h x (by simp at hx ⊢;exact .inl hx),List.map_congr_left (l:=b.toList) (g:=ρ') fun x hx=>h x (by simp at hx ⊢;exact .inr hx)]
 case makeSlice t l c=>rw[h l (by simp),h c (by simp)]
 case slice t x lo hi mx =>
  cases mx with
  | some m=>rfl
  | none =>
    simp only
    rw[h x (by simp)]
    have hlo:lo.map ρ=lo.map ρ':=by cases lo with
     | none=>rfl
     | some y=>simp only[Option.map_some];rw[h y (by simp)]
    have hhi:hi.map ρ=hi.map ρ':=by cases hi with
     | none=>rfl
     | some y=>simp only[Option.map_some];rw[h y (by simp)]
    rw[hlo,hhi]
 case fieldAddr t x f=>rw[h x (by simp)]
 case field t x f=>rw[h x (by simp)]
 case indexAddr t x i=>rw[h x (by simp),h i (by simp)]
 case index t x i=>rw[h x (by simp),h i (by simp)]
 case extract x i=>rw[h x (by simp)]
 case makeMap t r=>cases r<;>rfl
 case lookup t x i ok=>rw[h x (by simp),h i (by simp)]
 case mapUpdate t m k x=>rw[h m (by simp),h k (by simp),h x (by simp)]
 case insert t m k x=>rw[h m (by simp),h k (by simp),h x (by simp)]
 case call c =>
  unfold yU
  have ha:c.args.toList.map ρ=c.args.toList.map ρ':=List.map_congr_left fun x hx=>h x (by simp only[Call.operands,Array.toList_append,List.mem_append];exact .inr hx)
  rw[ha]
  cases qn (c.args.toList.map ρ') with
  | none=>rfl
  | some xs =>
    simp only
    cases hc:c.callee with
    | value f =>
      simp only
      rw[h f (by simp[Call.operands,hc])]
    | invoke r m=>rfl
    | builtin b=>rfl
def rawA (C:Ctx) (ops:Array Oper) (o:Oper) (σ:Nat→PV) (hp:Hp) (nx:Nat):Option (PV×Hp×Nat) :=
 if Region.wanted o (jV ops σ)=true then zB C (get σ) hp nx o.op else some (.tup [],hp,nx)
theorem qB (ops:Array Oper) (o:Oper) (st:St):wD C ops o st=(rawA C ops o st.σ st.hp st.nx).map fun r=>⟨put st.σ o.dst r.1,r.2.1,r.2.2⟩:=by
 unfold wD rawA
 split
 ·cases zB C (get st.σ) st.hp st.nx o.op<;>rfl
 ·rfl
theorem jb {ops:Array Oper} {o:Oper} {σ σ':Nat→PV} {hp:Hp} {nx:Nat} (h:∀t,t∈o.looksAt ops→σ t=σ' t):rawA C ops o σ hp nx=rawA C ops o σ' hp nx:=by
 have hw:Region.wanted o (jV ops σ)=Region.wanted o (jV ops σ'):=by
  unfold Region.wanted
  split
  ·rfl
  ·rename_i j b hg
   have:jV ops σ j=jV ops σ' j:=by
    unfold jV
    split
    ·rename_i d hd
     rw[h d (by simp[Oper.looksAt,hg,hd])]
    ·rfl
   rw[this]
 unfold rawA
 rw[hw]
 split
 ·refine evalOp_congr fun x hx=>?_
  cases x with
  | tmp t =>
    simp only[get]
    rw[h t]
    simp only[Oper.looksAt,List.mem_append,List.mem_filterMap]
    exact .inl ⟨.tmp t,hx,rfl⟩
  | const x=>rfl
  | global g=>rfl
  | func f=>rfl
 ·rfl
theorem yh {σ:Nat→PV} {d:Option Tmp} {x:PV} {t:Nat} (h:∀e,d=some e→e≠t):put σ d x t=σ t:=by
 cases d with
 | none=>rfl
 | some e=>exact zH _ _ _ _ fun he=>h e rfl he.symm
theorem put_comm {σ:Nat→PV} {d e:Option Tmp} {x y:PV} (h:∀k,d=some k→e≠some k):put (put σ d x) e y=put (put σ e y) d x:=by
 cases d with
 | none=>rfl
 | some k =>
   cases e with
   | none=>rfl
   | some m =>
     have hne:m≠k:=fun he=>h k rfl (by rw[he])
     funext i
     simp only[put,upd]
     by_cases h1:i=m<;>by_cases h2:i=k<;>simp_all
def commB (pf:FuncId→Bool) (ops:Array Oper) (a b:Oper):Bool :=
 a.apart ops b&&(jY pf a.op==0||jY pf b.op==0||(decide (jY pf a.op≤1)&&decide (jY pf b.op≤1)))
theorem raw_quiet0 {ops:Array Oper} {o:Oper} {σ:Nat→PV} {hp hp':Hp} {nx nx':Nat} {x:PV} (hk:jY pf o.op=0) (h:rawA C ops o σ hp nx=some (x,hp',nx')) (hp2:Hp) (nx2:Nat):rawA C ops o σ hp2 nx2=some (x,hp2,nx2):=by
 unfold rawA at h ⊢
 split at h
 ·rename_i hw
  rw[if_pos hw]
  exact quiet0 hk h hp2 nx2
 ·rename_i hw
  rw[if_neg hw]
  injection h with h
  injection h with e _
  subst e
  rfl
theorem vP (hpf:∀g spec,pf g=true→C.Γ g=some spec→Quiet spec) {ops:Array Oper} {o:Oper} {σ:Nat→PV} {hp hp':Hp} {nx nx':Nat} {x:PV} (hk:jY pf o.op≤1) (h:rawA C ops o σ hp nx=some (x,hp',nx')):hp'=hp∧nx'=nx:=by
 unfold rawA at h
 split at h
 ·exact quiet1 hpf hk h
 ·injection h with h
  injection h with _ h
  injection h with h1 h2
  exact⟨h1.symm,h2.symm⟩
theorem comm_of0 {ops:Array Oper} {a b:Oper} (hk:jY pf a.op=0) (h1:∀d,a.dst=some d→d ∉ b.looksAt ops) (h2:∀d,a.dst=some d→b.dst≠some d) (h3:∀d,b.dst=some d→d ∉ a.looksAt ops) (st:St) :
  (wD C ops a st).bind (wD C ops b)=(wD C ops b st).bind (wD C ops a):=by
 have cb:∀x hp nx,rawA C ops b (put st.σ a.dst x) hp nx=rawA C ops b st.σ hp nx:=fun x hp nx=>jb fun t ht=>yh fun e he hte=>h1 e he (hte ▸ ht)
 have ca:∀x hp nx,rawA C ops a (put st.σ b.dst x) hp nx=rawA C ops a st.σ hp nx:=fun x hp nx=>jb fun t ht=>yh fun e he hte=>h3 e he (hte ▸ ht)
 have comm:∀x y,put (put st.σ a.dst x) b.dst y=put (put st.σ b.dst y) a.dst x:=fun x y=>put_comm h2
 rw[qB ops a st,qB ops b st]
 cases hra:rawA C ops a st.σ st.hp st.nx with
 | none =>
   cases hrb:rawA C ops b st.σ st.hp st.nx with
   | none=>rfl
   | some r =>
     obtain⟨y,hp2,n2⟩:=r
     simp only[Option.map_none,Option.bind_none,Option.map_some,Option.bind_some]
     rw[qB]
     simp only[ca]
     cases hx:rawA C ops a st.σ hp2 n2 with
     | none=>rfl
     | some r' =>
       obtain⟨x,hp3,n3⟩:=r'
       rw[raw_quiet0 hk hx st.hp st.nx] at hra
       cases hra
 | some r =>
   obtain⟨x,hp1,n1⟩:=r
   have h0:=raw_quiet0 hk hra st.hp st.nx
   rw[hra] at h0
   injection h0 with h0
   injection h0 with _ h0
   injection h0 with e1 e2
   subst e1;subst e2
   simp only[Option.map_some,Option.bind_some]
   rw[qB]
   simp only[cb]
   cases hrb:rawA C ops b st.σ st.hp st.nx with
   | none=>rfl
   | some r =>
     obtain⟨y,hp2,n2⟩:=r
     simp only[Option.map_some,Option.bind_some]
     rw[qB]
     simp only[ca,raw_quiet0 hk hra hp2 n2,Option.map_some,comm]
theorem step_comm (hpf:∀g spec,pf g=true→C.Γ g=some spec→Quiet spec) {ops:Array Oper} {a b:Oper} (h:commB pf ops a b=true) (st:St) :
  (wD C ops a st).bind (wD C ops b)=(wD C ops b st).bind (wD C ops a):=by
 simp only[commB,Bool.and_eq_true] at h
 obtain⟨hap,hkk⟩:=h
 obtain⟨h1,h2,h3⟩:=Oper.apart_spec hap
 simp only[Bool.or_eq_true,beq_iff_eq,Bool.and_eq_true,decide_eq_true_eq] at hkk
 rcases hkk with (h | h) | ⟨ka,kb⟩
 ·exact comm_of0 h h1 h2 h3 st
 ·exact (comm_of0 h h3 (fun d hd hb=>h2 d hb hd) h1 st).symm
 ·have cb:∀x hp nx,rawA C ops b (put st.σ a.dst x) hp nx=rawA C ops b st.σ hp nx:=fun x hp nx=>jb fun t ht=>yh fun e he hte=>h1 e he (hte ▸ ht)
  have ca:∀x hp nx,rawA C ops a (put st.σ b.dst x) hp nx=rawA C ops a st.σ hp nx:=fun x hp nx=>jb fun t ht=>yh fun e he hte=>h3 e he (hte ▸ ht)
  have comm:∀x y,put (put st.σ a.dst x) b.dst y=put (put st.σ b.dst y) a.dst x:=fun x y=>put_comm h2
  rw[qB ops a st,qB ops b st]
  cases hra:rawA C ops a st.σ st.hp st.nx with
  | none =>
    cases hrb:rawA C ops b st.σ st.hp st.nx with
    | none=>rfl
    | some r =>
      obtain⟨y,hp2,n2⟩:=r
      obtain⟨rfl,rfl⟩:=vP hpf kb hrb
      simp only[Option.map_none,Option.bind_none,Option.map_some,Option.bind_some]
      rw[qB]
      simp only[ca,hra,Option.map_none]
  | some r =>
    obtain⟨x,hp1,n1⟩:=r
    obtain⟨rfl,rfl⟩:=vP hpf ka hra
    simp only[Option.map_some,Option.bind_some]
    rw[qB]
    simp only[cb]
    cases hrb:rawA C ops b st.σ st.hp st.nx with
    | none=>rfl
    | some r =>
      obtain⟨y,hp2,n2⟩:=r
      obtain⟨rfl,rfl⟩:=vP hpf kb hrb
      simp only[Option.map_some,Option.bind_some]
      rw[qB]
      simp only[ca,hra,Option.map_some,comm]
def qY (C:Ctx) (ops:Array Oper):List Nat→St→Option St
 | [],st=>some st
 | i::l,st=>match ops[i]? with
   | none=>qY C ops l st
   | some o=>(wD C ops o st).bind (qY C ops l)
def maskOf (acc:List Nat) (o:Oper):Nat:=o.after.toList.foldl (fun s e=>if Region.binds .any e then s ||| 2 ^ e.on ||| acc.getD e.on 0 else s) 0
def okFrom (cm:Oper→Oper→Bool) (ops:Array Oper):List Oper→Nat→List Nat→Bool
 | [],_,_=>true
 | o::l,i,acc =>
   o.after.toList.all (fun e=>!Region.binds .any e||decide (e.on<i)) &&
   (List.range i).all (fun j=>(maskOf acc o).testBit j||(match ops[j]? with | some p=>cm p o | none=>false)) &&
   okFrom cm ops l (i+1) (acc++[maskOf acc o])
def Closed (ops:Array Oper) (L:Nat→Prop):Prop:=∀k o,L k→ops[k]?=some o→∀e∈o.after.toList,Region.binds .any e=true→L e.on
def Preds (L:Nat→Prop) (o:Oper):Prop:=∀e∈o.after.toList,Region.binds .any e=true→L e.on
theorem mask_bits (acc:List Nat) (j:Nat):∀(l:List Edge) (s:Nat),(l.foldl (fun s e=>if Region.binds .any e then s ||| 2 ^ e.on ||| acc.getD e.on 0 else s) s).testBit j=true →
  s.testBit j=true∨∃e∈l,Region.binds .any e=true∧(j=e.on∨(acc.getD e.on 0).testBit j=true)
 | [],s,h=>.inl h
 | e::l,s,h=>by
   simp only[List.foldl_cons] at h
   rcases mask_bits acc j l _ h with h1 | ⟨e',h1,h2,h3⟩
   ·split at h1
    ·rename_i hb
     simp only[Nat.testBit_or,Bool.or_eq_true] at h1
     rcases h1 with (h1 | h1) | h1
     ·exact .inl h1
     ·refine .inr ⟨e,by simp,hb,.inl ?_⟩
      by_cases hj:j=e.on
      ·exact hj
      ·rw[Nat.testBit_two_pow_of_ne (fun h=>hj h.symm)] at h1;cases h1
     ·exact .inr ⟨e,by simp,hb,.inr h1⟩
    ·exact .inl h1
   ·exact .inr ⟨e',by simp[h1],h2,h3⟩
def GoodMasks (ops:Array Oper) (acc:List Nat):Prop:=∀(k m:Nat),acc[k]?=some m→∀o,ops[k]?=some o→∀L,Closed ops L→Preds L o→∀j,m.testBit j=true→L j
theorem xO {ops:Array Oper} {acc:List Nat} (hg:GoodMasks ops acc) {o:Oper} (L:Nat→Prop) (hL:Closed ops L) (hp:Preds L o) (hb:∀e∈o.after.toList,Region.binds .any e=true→e.on<ops.size) (j:Nat) (h:(maskOf acc o).testBit j=true):L j:=by
 rcases mask_bits acc j _ 0 h with h1 | ⟨e,h1,h2,h3⟩
 ·simp at h1
 ·have hle:=hp e h1 h2
  rcases h3 with rfl | h3
  ·exact hle
  ·cases hk:acc[e.on]? with
   | none=>rw[List.getD_eq_getElem?_getD,hk] at h3;simp at h3
   | some m =>
     rw[List.getD_eq_getElem?_getD,hk] at h3
     have hlt:=hb e h1 h2
     exact hg e.on m hk ops[e.on] (by simp[hlt]) L hL (hL e.on _ hle (by simp[hlt])) j h3
theorem okFrom_spec {cm:Oper→Oper→Bool} {ops:Array Oper}:∀{l:List Oper} {i:Nat} {acc:List Nat},okFrom cm ops l i acc=true→acc.length=i→(∀k,l[k]?=ops[i+k]?)→GoodMasks ops acc →
  ∀k o,l[k]?=some o→(∀e∈o.after.toList,Region.binds .any e=true→e.on<i+k)∧∀j,j<i+k→(∀L,Closed ops L→Preds L o→L j)∨∃p,ops[j]?=some p∧cm p o=true
 | [],i,acc,_,_,_,_,k,o,hk=>by simp at hk
 | o'::l,i,acc,h,hl,hlk,hg,k,o,hk=>by
   simp only[okFrom,Bool.and_eq_true,List.all_eq_true,Bool.or_eq_true,Bool.not_eq_true',decide_eq_true_eq,List.mem_range] at h
   obtain⟨⟨h1,h2⟩,h3⟩:=h
   have hoi:ops[i]?=some o':=by have:=hlk 0;simpa using this.symm
   have hi:i<ops.size:=(Array.getElem?_eq_some_iff.1 hoi).1
   have hb:∀e∈o'.after.toList,Region.binds .any e=true→e.on<i:=fun e he hbe=>by
    rcases h1 e he with h | h
    ·rw[hbe] at h;cases h
    ·exact h
   have hgo:∀L,Closed ops L→Preds L o'→∀j,(maskOf acc o').testBit j=true→L j:=fun L hL hp j hj=>xO hg L hL hp (fun e he hbe=>by have:=hb e he hbe;omega) j hj
   cases k with
   | zero =>
     simp at hk
     subst hk
     refine⟨by simpa using hb,fun j hj=>?_⟩
     rcases h2 j (by simpa using hj) with h | h
     ·exact .inl fun L hL hp=>hgo L hL hp j h
     ·split at h
      ·rename_i p hp;exact .inr ⟨p,hp,h⟩
      ·cases h
   | succ k =>
     have hg':GoodMasks ops (acc++[maskOf acc o']):=by
      intro k' m hm ok hok L hL hp j hj
      by_cases hkl:k'<acc.length
      ·rw[List.getElem?_append_left hkl] at hm
       exact hg k' m hm ok hok L hL hp j hj
      ·rw[List.getElem?_append_right (by omega)] at hm
       have:k'=i:=by
        have:=(List.getElem?_eq_some_iff.1 hm).1
        simp at this
        omega
       subst this
       rw[hl] at hm
       simp at hm
       subst hm
       rw[hoi] at hok
       injection hok with hok
       subst hok
       exact hgo L hL hp j hj
     have:=okFrom_spec h3 (by simp[hl]) (fun k'=>by have:=hlk (k'+1);simpa[Nat.add_assoc,Nat.add_comm 1 k'] using this) hg' k o (by simpa using hk)
     rwa [show i+1+k=i+(k+1) from by omega] at this
def okDraw (cm:Oper→Oper→Bool) (ops:Array Oper):Bool:=okFrom cm ops ops.toList 0 []
theorem okDraw_spec {cm:Oper→Oper→Bool} {ops:Array Oper} (h:okDraw cm ops=true):∀i o,ops[i]?=some o→(∀e∈o.after.toList,Region.binds .any e=true→e.on<i)∧∀j,j<i→(∀L,Closed ops L→Preds L o→L j)∨∃p,ops[j]?=some p∧cm p o=true:=by
 intro i o ho
 have:=okFrom_spec h rfl (by simp) (fun k m hm=>by simp at hm) i o (by simpa using ho)
 simpa using this
structure CommOk (C:Ctx) (ops:Array Oper) (cm:Oper→Oper→Bool) (A:St→Prop):Prop where
 keep:∀(i:Nat) (o:Oper) (st st':St),ops[i]?=some o→A st→wD C ops o st=some st'→A st'
 comm:∀(i j:Nat) (a b:Oper) (st:St),ops[i]?=some a→ops[j]?=some b→cm a b=true→A st→(wD C ops a st).bind (wD C ops b)=(wD C ops b st).bind (wD C ops a)
theorem xP {ops:Array Oper} {cm:Oper→Oper→Bool} {A:St→Prop} (hc:CommOk C ops cm A) {i:Nat} {o:Oper} (ho:ops[i]?=some o) (post:List Nat):∀(pre:List Nat) (st:St),A st→(∀j∈pre,∃p,ops[j]?=some p∧cm p o=true) →
  qY C ops (pre++i::post) st=qY C ops (i::(pre++post)) st
 | [],st,_,_=>rfl
 | j::pre,st,hA,h=>by
   obtain⟨p,hp,hcp⟩:=h j (by simp)
   have e1:qY C ops (j::pre++i::post) st=(wD C ops p st).bind fun st'=>qY C ops (i::(pre++post)) st':=by
    simp only[List.cons_append,qY,hp]
    cases hs:wD C ops p st with
    | none=>rfl
    | some st' =>
      simp only[Option.bind_some]
      have:=xP hc ho post pre st' (hc.keep j p st st' hp hA hs) fun k hk=>h k (by simp[hk])
      simpa only[qY,ho] using this
   rw[e1]
   simp only[qY,ho,List.cons_append,hp]
   have hcm:=hc.comm j i p o st hp ho hcp hA
   rw[←Option.bind_assoc,hcm,Option.bind_assoc]
def yb (spec:AM.Spec):Prop:=∀args hp nx r hp' nx',spec args hp nx=some (r,hp',nx')→nx≤nx'∧∀id blk,id<nx→hp id=some blk→blk.arr=false→hp' id=some blk
def lookB (L:List Tmp):Op→Bool
 | .load _ (.tmp a)=>L.contains a
 | .indexAddr _ (.tmp a) _=>L.contains a
 | _=>false
def ixB (L:List Tmp):Op→Bool
 | .indexAddr _ (.tmp a) _=>L.contains a
 | _=>false
def freshB (bk:FuncId→Bool):Op→Bool
 | .call ⟨.value (.func g),_,_⟩=>bk g
 | .call ⟨.builtin .append,_,_⟩=>true
 | .buildSlice _ _ _=>true
 | _=>false
def storeB:Op→Bool
 | .store _ _ _=>true
 | _=>false
def loadStoreB (D:List (Tmp×Tmp)):Op→Op→Bool
 | .load _ (.tmp a),.store _ (.tmp b) _=>D.contains (a,b)
 | _,_=>false
def half (D:List (Tmp×Tmp)) (L:List Tmp) (bk:FuncId→Bool) (p o:Op):Bool:=loadStoreB D p o||(lookB L p&&freshB bk o)||(ixB L p&&storeB o)
def pairB (D:List (Tmp×Tmp)) (L:List Tmp) (bk:FuncId→Bool) (ops:Array Oper) (p o:Oper):Bool :=
 p.apart ops o&&o.apart ops p&&p.guard.isNone&&o.guard.isNone&&(half D L bk p.op o.op||half D L bk o.op p.op)
def commD (pf:FuncId→Bool) (D:List (Tmp×Tmp)) (L:List Tmp) (bk:FuncId→Bool) (ops:Array Oper) (p o:Oper):Bool:=commB pf ops p o||pairB D L bk ops p o
def plainB (pf:FuncId→Bool) (D:List (Tmp×Tmp)) (L:List Tmp) (bk:FuncId→Bool) (ops:Array Oper):Bool:=(D.isEmpty&&L.isEmpty)||ops.all fun o=>D.all (fun p=>o.dst != some p.2&&(o.dst != some p.1||match o.op with
    | .fieldAddr _ (.tmp s) _=>D.contains (s,p.2)
    | .indexAddr _ (.tmp s) _=>D.contains (s,p.2)&&L.contains s
    | _=>false)) &&
 L.all (fun s=>o.dst != some s||match o.op with
  | .fieldAddr _ (.tmp b) _=>L.contains b
  | .indexAddr _ (.tmp b) _=>L.contains b
  | _=>false) &&
 (decide (jY pf o.op≤1)||match o.op with
  | .store _ _ _=>true
  | .call ⟨.value (.func g),_,_⟩=>D.all (fun p=>L.contains p.2)&&bk g
  | .call ⟨.builtin .append,_,_⟩=>D.all (fun p=>L.contains p.2)
  | .buildSlice _ _ _=>D.all (fun p=>L.contains p.2)
  | _=>false)
end
section
variable {C:Ctx} {pf:FuncId→Bool}
theorem xk {hp hp1:Hp} {x y:PV} (h:zP hp x=some (y,hp1)) {id:Nat} {b:Blk} (hb:hp id=some b) (ha:b.arr=false):hp1 id=some b:=by
 unfold zP at h
 split at h
 ·split at h
  ·rename_i b' hb'
   split at h
   ·rename_i hc
    injection h with h
    injection h with _ h
    subst h
    rw[zH]
    ·exact hb
    ·rintro rfl
     rw[hb] at hb'
     injection hb' with hb'
     subst hb'
     rw[ha] at hc
     cases hc.1
   ·cases h
  ·cases h
 all_goals first
  | (injection h with h;injection h with _ h;subst h;exact hb)
  | (split at h<;>first | (injection h with h;injection h with _ h;subst h;exact hb) | cases h)
  | cases h
theorem kY:∀{xs ys:List PV} {hp hp1:Hp},zE hp xs=some (ys,hp1)→∀{id:Nat} {b:Blk},hp id=some b→b.arr=false→hp1 id=some b
 | [],ys,hp,hp1,h,id,b,hb,ha=>by
   simp only[zE] at h
   injection h with h;injection h with _ h;subst h;exact hb
 | x::l,ys,hp,hp1,h,id,b,hb,ha=>by
   simp only[zE] at h
   split at h
   ·rename_i y hp2 h1
    split at h
    ·rename_i r hp3 h2
     injection h with h;injection h with _ h;subst h
     exact kY h2 (xk h1 hb ha) ha
    ·cases h
   ·cases h
theorem ku {hp hp1:Hp} {x y:PV} (h:zC hp x=some (y,hp1)) {id:Nat} {b:Blk} (hb:hp id=some b) (ha:b.arr=false):hp1 id=some b:=by
 unfold zC at h
 split at h
 ·split at h
  ·rename_i l h2 hf
   injection h with h;injection h with _ h;subst h
   exact kY hf hb ha
  ·cases h
 ·exact xk h hb ha
theorem store_box {P:Program} {hp hp':Hp} {t:TypeId} {p x:PV} (h:kK P hp t p x=some hp') {id:Nat} {b:Blk} (hb:hp id=some b) (ha:b.arr=false):∃b',hp' id=some b'∧b'.arr=false:=by
 unfold kK at h
 split at h
 ·rename_i id' i j
  split at h
  ·rename_i b0 hb0
   split at h
   ·rename_i y hp1 hf
    have h1:hp1 id=some b:=by
     split at hf
     ·exact ku hf hb ha
     ·injection hf with hf;injection hf with _ hf;subst hf;exact hb
    split at h
    ·rename_i b1 n hb1 _
     split at h
     ·split at h
      ·injection h with h
       subst h
       by_cases he:id=id'
       ·subst he
        rw[h1] at hb1
        injection hb1 with hb1
        subst hb1
        exact⟨_,qg _ _ _,ha⟩
       ·exact⟨b,by rw[zH _ _ _ _ he];exact h1,ha⟩
      ·cases h
     ·cases h
    ·cases h
   ·cases h
  ·cases h
 ·cases h
theorem store_only {P:Program} {hp hp':Hp} {t:TypeId} {id i j:Nat} {x:PV} {b:Blk} (h:kK P hp t (.ref id i j) x=some hp') (hb:hp id=some b) (ha:b.arr=false) {k:Nat} (hk:k≠id):hp' k=hp k:=by
 simp only[kK,hb,ha] at h
 simp only[Bool.false_eq_true,if_false] at h
 split at h
 ·split at h
  ·split at h
   ·injection h with h
    subst h
    exact zH _ _ _ _ hk
   ·cases h
  ·cases h
 ·cases h
theorem gen_comm {ops:Array Oper} {l c:Oper} (hap:l.apart ops c=true) {st:St} (hq:∀hp nx y hp' nx',rawA C ops l st.σ hp nx=some (y,hp',nx')→hp'=hp∧nx'=nx)
  (hsame:∀z hp' nx',rawA C ops c st.σ st.hp st.nx=some (z,hp',nx')→(rawA C ops l st.σ hp' nx').map (·.1)=(rawA C ops l st.σ st.hp st.nx).map (·.1)) :
  (wD C ops l st).bind (wD C ops c)=(wD C ops c st).bind (wD C ops l):=by
 obtain⟨h1,h2,h3⟩:=Oper.apart_spec hap
 have cs:∀y hp nx,rawA C ops c (put st.σ l.dst y) hp nx=rawA C ops c st.σ hp nx:=fun y hp nx=>jb fun u hu=>yh fun e he hte=>h1 e he (hte ▸ hu)
 have cl:∀y hp nx,rawA C ops l (put st.σ c.dst y) hp nx=rawA C ops l st.σ hp nx:=fun y hp nx=>jb fun u hu=>yh fun e he hte=>h3 e he (hte ▸ hu)
 have comm:∀y z,put (put st.σ l.dst y) c.dst z=put (put st.σ c.dst z) l.dst y:=fun y z=>put_comm h2
 rw[qB ops l st,qB ops c st]
 cases hr:rawA C ops c st.σ st.hp st.nx with
 | none =>
   cases hv:rawA C ops l st.σ st.hp st.nx with
   | none=>rfl
   | some q =>
     obtain⟨y,hp1,nx1⟩:=q
     obtain⟨rfl,rfl⟩:=hq _ _ _ _ _ hv
     simp only[Option.map_some,Option.map_none,Option.bind_some,Option.bind_none]
     rw[qB]
     simp only[cs,hr,Option.map_none]
 | some q =>
   obtain⟨z,hp',nx'⟩:=q
   have hlo:=hsame z hp' nx' hr
   cases hv:rawA C ops l st.σ st.hp st.nx with
   | none =>
     rw[hv] at hlo
     have hn:rawA C ops l st.σ hp' nx'=none:=by
      cases hh:rawA C ops l st.σ hp' nx' with
      | none=>rfl
      | some r=>rw[hh] at hlo;cases hlo
     simp only[Option.map_some,Option.map_none,Option.bind_some,Option.bind_none]
     rw[qB]
     simp only[cl,hn,Option.map_none]
   | some q =>
     obtain⟨y,hp1,nx1⟩:=q
     obtain⟨rfl,rfl⟩:=hq _ _ _ _ _ hv
     rw[hv] at hlo
     obtain⟨q2,hq2,hy⟩:∃q2,rawA C ops l st.σ hp' nx'=some q2∧q2.1=y:=by
      cases hh:rawA C ops l st.σ hp' nx' with
      | none=>rw[hh] at hlo;cases hlo
      | some r=>rw[hh] at hlo;injection hlo with hlo;exact⟨r,rfl,hlo⟩
     obtain⟨y2,hp2,nx2⟩:=q2
     simp only at hy
     subst hy
     obtain⟨rfl,rfl⟩:=hq _ _ _ _ _ hq2
     simp only[Option.map_some,Option.bind_some]
     rw[qB,qB]
     simp only[cs,hr,cl,hq2,Option.map_some,comm]
theorem yi {ops:Array Oper} {o:Oper} (g:o.guard=none) (σ:Nat→PV) (hp:Hp) (nx:Nat):rawA C ops o σ hp nx=zB C (get σ) hp nx o.op:=by
 have w:Region.wanted o (jV ops σ)=true:=by unfold Region.wanted;rw[g]
 simp only[rawA,w,if_true]
theorem xQ {P:Program} {hp hp':Hp} {t:TypeId} {p:PV} (hno:∀id o n,p≠.own id o n) (q:PV):zK P hp' t p q=zK P hp t p q:=by
 cases q with
 | v y =>
   cases y with
   | int w i =>
     cases p with
     | own id o n=>exact absurd rfl (hno id o n)
     | _ =>
       simp only[zK]
       cases qA P t with
       | none=>rfl
       | some e =>
         simp only
         cases zU P e<;>rfl
   | _=>simp only[zK]
 | _=>simp only[zK]
theorem look_same {L:List Tmp} {op:Op} (hl:lookB L op=true) {st:St} (hA:RefsA L st) {hp':Hp} {nx nx':Nat} (hk:∀id blk,id<st.nx→st.hp id=some blk→blk.arr=false→hp' id=some blk) :
  (zB C (get st.σ) hp' nx' op).map (·.1)=(zB C (get st.σ) st.hp nx op).map (·.1):=by
 unfold lookB at hl
 split at hl
 ·rename_i t a
  obtain⟨hno,hrf⟩:=hA a (by simpa using hl)
  have:jQ C.P hp' t (st.σ a)=jQ C.P st.hp t (st.σ a):=by
   cases hσ:st.σ a with
   | ref id i j =>
     obtain⟨e1,blk,e2,e3⟩:=hrf id i j hσ
     simp only[jQ,hk id blk e1 e2 e3,e2]
   | _=>rfl
  simp only[zB,get,this]
  cases jQ C.P st.hp t (st.σ a)<;>rfl
 ·rename_i t a i
  obtain⟨hno,hrf⟩:=hA a (by simpa using hl)
  have:∀q,zK C.P hp' t (st.σ a) q=zK C.P st.hp t (st.σ a) q:=by
   exact fun q=>xQ hno q
  simp only[zB,show get st.σ (.tmp a)=some (st.σ a) from rfl]
  cases get st.σ i with
  | none=>rfl
  | some q =>
    simp only[this]
    cases zK C.P st.hp t (st.σ a) q<;>rfl
 ·cases hl
theorem look_quiet {op:Op} {σ:Nat→PV} {hp hp':Hp} {nx nx':Nat} {y:PV} (hl:(∃t a,op=.load t (.tmp a))∨∃t a i,op=.indexAddr t (.tmp a) i) (h:zB C (get σ) hp nx op=some (y,hp',nx')):hp'=hp∧nx'=nx:=by
 rcases hl with⟨t,a,rfl⟩ | ⟨t,a,i,rfl⟩
 ·simp only[zB,get] at h
  exact (mapQ h).2
 ·simp only[zB,get] at h
  split at h
  ·exact (mapQ h).2
  ·cases h
theorem lookB_op {L:List Tmp} {op:Op} (h:lookB L op=true):(∃t a,op=.load t (.tmp a))∨∃t a i,op=.indexAddr t (.tmp a) i:=by
 unfold lookB at h
 split at h
 ·exact .inl ⟨_,_,rfl⟩
 ·exact .inr ⟨_,_,_,rfl⟩
 ·cases h
theorem kZ:∀{ps qs:List (Nat×PV)} {hp hp1:Hp},zj hp ps=some (qs,hp1)→∀{id:Nat} {b:Blk},hp id=some b→b.arr=false→hp1 id=some b
 | [],qs,hp,hp1,h,id,b,hb,ha=>by
   simp only[zj] at h
   injection h with h;injection h with _ h;subst h;exact hb
 | (i,x)::l,qs,hp,hp1,h,id,b,hb,ha=>by
   simp only[zj] at h
   split at h
   ·rename_i y hp2 h1
    split at h
    ·rename_i r hp3 h2
     injection h with h;injection h with _ h;subst h
     exact kZ h2 (ku h1 hb ha) ha
    ·cases h
   ·cases h
theorem append_keep {P:Program} {hp hp':Hp} {nx nx':Nat} {t u:TypeId} {s x y:PV} (h:zV P hp nx t u s x=some (y,hp',nx')):nx≤nx'∧∀id blk,id<nx→hp id=some blk→blk.arr=false→hp' id=some blk:=by
 unfold zV at h
 split at h
 ·split at h
  ·split at h
   ·split at h
    ·split at h
     ·split at h
      ·injection h with h;injection h with _ h;injection h with e1 e2
       subst e1;subst e2
       exact⟨Nat.le_refl _,fun _ _ _ hb _=>hb⟩
      ·injection h with h;injection h with _ h;injection h with e1 e2
       subst e1;subst e2
       exact⟨by omega,fun id blk hid hb _=>by rw[zH _ _ _ _ (by omega)];exact hb⟩
     ·cases h
    ·split at h
     ·rename_i b hb0
      split at h
      ·rename_i hk
       injection h with h;injection h with _ h;injection h with e1 e2
       subst e1;subst e2
       refine⟨by omega,fun id blk hid hb ha=>?_⟩
       rw[zH _ _ _ _ (by omega),zH _ _ _ _ (fun e=>by
        subst e
        rw[hb] at hb0
        injection hb0 with hb0
        subst hb0
        rw[ha] at hk
        cases hk.1)]
       exact hb
      ·cases h
     ·cases h
    ·cases h
   ·cases h
  ·cases h
 ·cases h
theorem fresh_keep {bk:FuncId→Bool} (hbk:∀g spec,bk g=true→C.Γ g=some spec→yb spec) {op:Op} (hf:freshB bk op=true) {σ:Nat→PV} {hp hp':Hp} {nx nx':Nat} {z:PV} (h:zB C (get σ) hp nx op=some (z,hp',nx')) :
  nx≤nx'∧∀id blk,id<nx→hp id=some blk→blk.arr=false→hp' id=some blk:=by
 unfold freshB at hf
 split at hf
 ·rename_i g aZ ts
  simp only[zB,yU] at h
  split at h
  ·simp only[get,qN] at h
   split at h
   ·rename_i spec hs
    exact hbk g spec hf hs _ _ _ _ _ _ h
   ·cases h
  ·cases h
 ·rename_i aZ ts
  simp only[zB,yU] at h
  split at h
  ·simp only[qj] at h
   split at h
   ·exact append_keep h
   ·cases h
  ·cases h
 ·rename_i t len parts
  simp only[zB] at h
  split at h
  ·rename_i ps hps
   unfold zh at h
   split at h
   ·split at h
    ·rename_i n zz qs hp1 _ _ hfp
     split at h
     ·split at h
      ·injection h with h
       injection h with _ h
       injection h with e1 e2
       subst e1;subst e2
       refine⟨by omega,fun id blk hid hb ha=>?_⟩
       rw[zH _ _ _ _ (by omega)]
       exact kZ hfp hb ha
      ·cases h
     ·cases h
    ·cases h
   ·cases h
  ·cases h
 ·cases hf
theorem half_comm {bk:FuncId→Bool} (hbk:∀g spec,bk g=true→C.Γ g=some spec→yb spec) {D:List (Tmp×Tmp)} {L:List Tmp} {ops:Array Oper} {l c:Oper} (hh:half D L bk l.op c.op=true) (gl:l.guard=none) (gc:c.guard=none) (hap:l.apart ops c=true) {st:St} (hD:xi D st) (hL:RefsA L st) :
  (wD C ops l st).bind (wD C ops c)=(wD C ops c st).bind (wD C ops l):=by
 simp only[half,Bool.or_eq_true,Bool.and_eq_true] at hh
 rcases hh with (hls | ⟨hlk,hfr⟩) | ⟨hix,hst⟩
 ·unfold loadStoreB at hls
  split at hls
  ·rename_i t a t' b x hl hc
   refine gen_comm hap (fun hp nx y hp' nx' h=>?_) (fun z hp' nx' h=>?_)
   ·rw[yi gl,hl] at h
    exact look_quiet (.inl ⟨_,_,rfl⟩) h
   ·rw[yi gc,hc] at h
    rw[yi gl,yi gl,hl]
    simp only[zB,get] at h
    have hload:jQ C.P hp' t (st.σ a)=jQ C.P st.hp t (st.σ a):=by
     cases hσ:st.σ a with
     | ref id i j =>
       obtain⟨id',i',j',blk,eb,hne,hb,harr⟩:=hD (a,b) (by simpa using hls) id i j hσ
       rw[eb] at h
       split at h
       ·rename_i p q hp0 hq0
        simp only[Option.some.injEq] at hp0
        subst hp0
        obtain⟨h2,e1,e2⟩:=zs h
        injection e2 with _ e2
        injection e2 with e2 _
        subst e2
        simp only[jQ,store_only e1 hb harr hne]
       ·cases h
     | _=>rfl
    simp only[zB,get,hload]
    cases jQ C.P st.hp t (st.σ a)<;>rfl
  ·cases hls
 ·refine gen_comm hap (fun hp nx y hp' nx' h=>?_) (fun z hp' nx' h=>?_)
  ·rw[yi gl] at h
   exact look_quiet (lookB_op hlk) h
  ·rw[yi gc] at h
   rw[yi gl,yi gl]
   exact look_same hlk hL (fresh_keep hbk hfr h).2
 ·unfold ixB at hix
  split at hix
  ·rename_i t a i hl
   refine gen_comm hap (fun hp nx y hp' nx' h=>?_) (fun z hp' nx' h=>?_)
   ·rw[yi gl,hl] at h
    exact look_quiet (.inr ⟨_,_,_,rfl⟩) h
   ·rw[yi gl,yi gl,hl]
    obtain⟨hno,_⟩:=hL a (by simpa using hix)
    have:∀q,zK C.P hp' t (st.σ a) q=zK C.P st.hp t (st.σ a) q:=by
     exact fun q=>xQ hno q
    simp only[zB,show get st.σ (.tmp a)=some (st.σ a) from rfl]
    cases get st.σ i with
    | none=>rfl
    | some q =>
      simp only[this]
      cases zK C.P st.hp t (st.σ a) q<;>rfl
  ·cases hix
theorem xl {P:Program} {t:TypeId} {f:Nat} {p:PV} {id i j:Nat} (h:qv P t f p=some (.ref id i j)):∃i0 j0,p=.ref id i0 j0:=by
 unfold qv at h
 split at h
 ·split at h
  ·split at h
   ·cases h
   ·injection h with h;cases h
  ·cases h
 ·split at h
  ·split at h
   ·cases h
   ·injection h with h
    injection h with h1 _ _
    subst h1
    exact⟨_,_,rfl⟩
  ·cases h
 ·cases h
theorem fieldAddr_ownD {P:Program} {t:TypeId} {f:Nat} {p:PV} {id o n:Nat} (h:qv P t f p=some (.own id o n)):False:=by
 unfold qv at h
 split at h
 ·split at h
  ·split at h
   ·cases h
   ·injection h with h;cases h
  ·cases h
 ·split at h
  ·split at h
   ·cases h
   ·injection h with h;cases h
  ·cases h
 ·cases h
theorem xm {P:Program} {hp:Hp} {t:TypeId} {p q:PV} {id i j:Nat} (h:zK P hp t p q=some (.ref id i j)) (hno:∀id o n,p≠.own id o n):∃i0 j0,p=.ref id i0 j0:=by
 unfold zK at h
 split at h
 ·split at h
  ·split at h
   ·split at h
    ·obtain⟨z,_,e⟩:=zs h
     cases e
    ·cases h
   ·exact absurd rfl (hno _ _ _)
   ·cases h
  ·unfold yg at h
   split at h
   ·split at h
    ·split at h
     ·split at h
      ·injection h with h;cases h
      ·injection h with h
       injection h with h1 _ _
       subst h1
       exact⟨_,_,rfl⟩
      ·cases h
     ·cases h
    ·cases h
   ·cases h
 ·cases h
theorem indexAddr_ownD {P:Program} {hp:Hp} {t:TypeId} {p q:PV} {id o n:Nat} (h:zK P hp t p q=some (.own id o n)):False:=by
 unfold zK at h
 split at h
 ·split at h
  ·split at h
   ·split at h
    ·obtain⟨z,_,e⟩:=zs h
     cases e
    ·cases h
   ·split at h
    ·split at h
     ·injection h with h;cases h
     ·cases h
    ·cases h
   ·cases h
  ·unfold yg at h
   split at h
   ·split at h
    ·split at h
     ·split at h
      ·injection h with h;cases h
      ·injection h with h;cases h
      ·cases h
     ·cases h
    ·cases h
   ·cases h
 ·cases h
theorem commD_ok (hpf:∀g spec,pf g=true→C.Γ g=some spec→Quiet spec) {bk:FuncId→Bool} (hbk:∀g spec,bk g=true→C.Γ g=some spec→yb spec) {D:List (Tmp×Tmp)} {L:List Tmp} {ops:Array Oper} (hpl:plainB pf D L bk ops=true):CommOk C ops (commD pf D L bk ops) (fun st=>xi D st∧RefsA L st):=by
 refine⟨fun i o st st' ho hA hs=>?_,fun i j a b st ha hb hcm hA=>?_⟩
 ·simp only[plainB,Bool.or_eq_true,Bool.and_eq_true] at hpl
  rcases hpl with⟨hD,hL⟩ | hpl
  ·have hD:D=[]:=by simpa using hD
   have hL:L=[]:=by simpa using hL
   subst hD;subst hL
   exact⟨(fun p hp=>(by cases hp)),(fun s hs=>(by cases hs))⟩
  have h0:=Array.all_eq_true'.1 hpl o (Array.mem_of_getElem? ho)
  simp only[Bool.and_eq_true,Bool.or_eq_true,decide_eq_true_eq] at h0
  obtain⟨⟨hd,hld⟩,hk⟩:=h0
  rw[qB] at hs
  obtain⟨r,hr,hst⟩:=zs hs
  obtain⟨y,hp1,nx1⟩:=r
  subst hst
  have hbox:(∀id blk,st.hp id=some blk→blk.arr=false→D.all (fun p=>L.contains p.2)=false∨id<st.nx→∃b',hp1 id=some b'∧b'.arr=false)∧st.nx≤nx1:=by
   have hfresh:∀{op:Op},o.op=op→freshB bk op=true→D.all (fun p=>L.contains p.2)=true→(∀id blk,st.hp id=some blk→blk.arr=false→D.all (fun p=>L.contains p.2)=false∨id<st.nx→∃b',hp1 id=some b'∧b'.arr=false)∧st.nx≤nx1:=by
    intro op hop hf hDL
    unfold rawA at hr
    split at hr
    ·rw[hop] at hr
     obtain⟨e1,e2⟩:=fresh_keep hbk hf hr
     refine⟨fun id blk h1 h2 h3=>?_,e1⟩
     rcases h3 with h3 | h3
     ·rw[hDL] at h3;cases h3
     ·exact⟨blk,e2 id blk h3 h1 h2,h2⟩
    ·injection hr with hr
     injection hr with _ hr
     injection hr with e1 e2
     subst e1;subst e2
     exact⟨fun id blk h1 h2 _=>⟨blk,h1,h2⟩,Nat.le_refl _⟩
   rcases hk with hk | hk
   ·obtain⟨rfl,rfl⟩:=vP hpf hk hr
    exact⟨fun id blk h1 h2 _=>⟨blk,h1,h2⟩,Nat.le_refl _⟩
   ·split at hk
    ·rename_i t q x hop
     unfold rawA at hr
     split at hr
     ·rw[hop] at hr
      simp only[zB] at hr
      split at hr
      ·obtain⟨h2,e1,e2⟩:=zs hr
       injection e2 with _ e2
       injection e2 with e2 e3
       subst e2;subst e3
       exact⟨fun id blk h1 h2 _=>store_box e1 h1 h2,Nat.le_refl _⟩
      ·cases hr
     ·injection hr with hr
      injection hr with _ hr
      injection hr with e1 e2
      subst e1;subst e2
      exact⟨fun id blk h1 h2 _=>⟨blk,h1,h2⟩,Nat.le_refl _⟩
    ·rename_i g aZ ts hop
     simp only[Bool.and_eq_true] at hk
     exact hfresh hop (by simpa[freshB] using hk.2) hk.1
    ·rename_i aZ ts hop
     exact hfresh hop rfl hk
    ·rename_i t n ps hop
     exact hfresh hop rfl hk
    ·cases hk
  refine⟨fun p hp=>?_,fun s hsL=>?_⟩
  rotate_left
  ·have hl:=List.all_eq_true.1 hld s hsL
   simp only[Bool.or_eq_true,bne_iff_ne] at hl
   have hlow:(∀id o' n,put st.σ o.dst y s≠.own id o' n)∧∀id i' j',put st.σ o.dst y s=.ref id i' j'→id<st.nx∧∃blk,st.hp id=some blk∧blk.arr=false:=by
    by_cases hds:o.dst=some s
    ·have hps:put st.σ o.dst y s=y:=by rw[hds];exact qg _ _ _
     rw[hps]
     rcases hl with hl | hl
     ·exact absurd hds hl
     ·split at hl
      ·rename_i t b f hop
       obtain⟨hbo,hbr⟩:=hA.2 b (by simpa using hl)
       unfold rawA at hr
       split at hr
       ·rw[hop] at hr
        simp only[zB,get] at hr
        obtain⟨z,e1,e2⟩:=zs hr
        injection e2 with e2 _
        subst e2
        refine⟨fun id o' n e=>?_,fun id i' j' e=>?_⟩
        ·subst e;exact fieldAddr_ownD e1
        ·subst e
         obtain⟨i0,j0,e3⟩:=xl e1
         exact hbr _ _ _ e3
       ·injection hr with hr
        injection hr with hr _
        subst hr
        exact⟨(fun _ _ _ e=>by cases e),(fun _ _ _ e=>by cases e)⟩
      ·rename_i t b ix hop
       obtain⟨hbo,hbr⟩:=hA.2 b (by simpa using hl)
       unfold rawA at hr
       split at hr
       ·rw[hop] at hr
        simp only[zB,get] at hr
        split at hr
        ·rename_i p0 q0 hp0 hq0
         simp only[Option.some.injEq] at hp0
         subst hp0
         obtain⟨z,e1,e2⟩:=zs hr
         injection e2 with e2 _
         subst e2
         refine⟨fun id o' n e=>?_,fun id i' j' e=>?_⟩
         ·subst e;exact indexAddr_ownD e1
         ·subst e
          obtain⟨i0,j0,e3⟩:=xm e1 hbo
          exact hbr _ _ _ e3
        ·cases hr
       ·injection hr with hr
        injection hr with hr _
        subst hr
        exact⟨(fun _ _ _ e=>by cases e),(fun _ _ _ e=>by cases e)⟩
      ·cases hl
    ·have hps:put st.σ o.dst y s=st.σ s:=yh (fun e he=>by rintro rfl;exact hds he)
     rw[hps]
     exact hA.2 s hsL
   refine⟨hlow.1,fun id i' j' e=>?_⟩
   obtain⟨h1,blk,h2,h3⟩:=hlow.2 id i' j' e
   exact⟨Nat.lt_of_lt_of_le h1 hbox.2,hbox.1 id blk h2 h3 (.inr h1)⟩
  ·have hd:=List.all_eq_true.1 hd p hp
   simp only[Bool.and_eq_true,Bool.or_eq_true,bne_iff_ne] at hd
   obtain⟨hd2,hd1⟩:=hd
   have hpb:put st.σ o.dst y p.2=st.σ p.2:=yh (fun e he=>by rintro rfl;exact hd2 he)
   have hbase:∀id i j,put st.σ o.dst y p.1=.ref id i j→∃id' i' j' blk,st.σ p.2=.ref id' i' j'∧id≠id'∧st.hp id'=some blk∧blk.arr=false:=by
    intro id i j e
    by_cases hds:o.dst=some p.1
    ·have hps:put st.σ o.dst y p.1=y:=by rw[hds];exact qg _ _ _
     rw[hps] at e
     subst e
     rcases hd1 with hd1 | hd1
     ·exact absurd hds hd1
     ·split at hd1
      ·rename_i t b f hop
       unfold rawA at hr
       split at hr
       ·rw[hop] at hr
        simp only[zB,get] at hr
        obtain⟨z,e1,e2⟩:=zs hr
        injection e2 with e2 _
        subst e2
        obtain⟨i0,j0,e3⟩:=xl e1
        exact hA.1 (b,p.2) (by simpa using hd1) _ _ _ e3
       ·injection hr with hr
        injection hr with hr _
        cases hr
      ·rename_i t b ix hop
       simp only[Bool.and_eq_true] at hd1
       obtain⟨hbo,hbr⟩:=hA.2 b (by simpa using hd1.2)
       unfold rawA at hr
       split at hr
       ·rw[hop] at hr
        simp only[zB,get] at hr
        split at hr
        ·rename_i p0 q0 hp0 hq0
         simp only[Option.some.injEq] at hp0
         subst hp0
         obtain⟨z,e1,e2⟩:=zs hr
         injection e2 with e2 _
         subst e2
         obtain⟨i0,j0,e3⟩:=xm e1 hbo
         exact hA.1 (b,p.2) (by simpa using hd1.1) _ _ _ e3
        ·cases hr
       ·injection hr with hr
        injection hr with hr _
        cases hr
      ·cases hd1
    ·have hps:put st.σ o.dst y p.1=st.σ p.1:=yh (fun e he=>by rintro rfl;exact hds he)
     rw[hps] at e
     exact hA.1 p hp id i j e
   intro id i j e
   obtain⟨id',i',j',blk,eb,hne,hbl,harr⟩:=hbase id i j e
   have hcase:D.all (fun p=>L.contains p.2)=false∨id'<st.nx:=by
    cases hDL:D.all (fun p=>L.contains p.2)
    ·exact .inl rfl
    ·refine .inr ?_
     have:=List.all_eq_true.1 hDL p hp
     exact ((hA.2 p.2 (by simpa using this)).2 id' i' j' eb).1
   obtain⟨b',hb1,hb2⟩:=hbox.1 id' blk hbl harr hcase
   exact⟨id',i',j',b',by show put st.σ o.dst y p.2=_;rw[hpb];exact eb,hne,hb1,hb2⟩
 ·simp only[commD,Bool.or_eq_true] at hcm
  rcases hcm with hcm | hcm
  ·exact step_comm hpf hcm st
  ·simp only[pairB,Bool.and_eq_true,Bool.or_eq_true,Option.isNone_iff_eq_none] at hcm
   obtain⟨⟨⟨⟨hap,hap2⟩,ga⟩,gb⟩,hm⟩:=hcm
   rcases hm with hm | hm
   ·exact half_comm hbk hm ga gb hap hA.1 hA.2
   ·exact (half_comm hbk hm gb ga hap2 hA.1 hA.2).symm
end
end Go.AM
