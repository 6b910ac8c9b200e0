/-
The abstract machine, part 12: a region that draws its order: the evaluator comes to one state in every order that is allowed.
-/
import Derived.Test.YtjcofiomfmebkaaGreatDoorG5
import Derived.Orders
set_option maxRecDepth 8000
namespace Go.AM
open Go.RowKit
def jG (pf:FuncId→Bool):Op→Nat
 | .move _ | .assign _ | .pick .. | .build .. | .binOp .. | .unOp .. | .convert .. | .makeFunc .. | .fieldAddr .. | .field .. | .index .. | .extract .. | .nilCheck _=>0
 | .load .. | .indexAddr .. | .slice ..=>1
 | .call c=>match c.callee with
   | .builtin .len | .builtin .min | .builtin .max=>0
   | .value (.func g)=>if pf g then 1 else 2
   | _=>2
 | _=>2
def Zg (spec:AM.Spec):Prop:=∀args hp nx r hp' nx',spec args hp nx=some (r,hp',nx')→(hp'=hp∧nx'=nx)∧∀b,hp nx=none→spec args (upd hp nx b) (nx+1)=some (r,upd hp nx b,nx+1)
section
variable {C:Ctx} {pf:FuncId→Bool}
theorem zaI {α:Type} {o:Option PV} {hp hp':α} {nx nx':Nat} {x:PV} (h:(o.map fun y=>(y,hp,nx))=some (x,hp',nx')):o=some x∧hp'=hp∧nx'=nx:=by
 obtain⟨y,h1,h2⟩:=zp h
 injection h2 with e1 h2
 injection h2 with e2 e3
 subst e1;subst e2;subst e3
 exact⟨h1,rfl,rfl⟩
theorem zpX (hpf:∀g spec,pf g=true→C.Γ g=some spec→Zg spec) {op:Op} (hk:jG pf op≤1) {σ:Nat→PV} {hp hp':Hp} {nx nx':Nat} {x:PV} (h:zw C (get σ) hp nx op=some (x,hp',nx')):hp'=hp∧nx'=nx:=by
 have triv:∀{y:PV},some (y,hp,nx)=some (x,hp',nx')→hp'=hp∧nx'=nx:=by
  intro y h
  injection h with h
  injection h with _ h
  injection h with h1 h2
  exact⟨h1.symm,h2.symm⟩
 cases op<;>simp only[jG] at hk<;>(try omega)<;>simp only[zw] at h
 case move=>exact (zaI h).2
 case assign=>exact (zaI h).2
 case pick=>split at h<;>first | exact (zaI h).2 | cases h
 case build=>split at h<;>first | exact (zaI h).2 | cases h
 case load=>split at h<;>first | exact (zaI h).2 | cases h
 case nilCheck=>split at h<;>first | exact triv h | cases h
 case binOp=>split at h<;>first | exact (zaI h).2 | cases h
 case unOp=>split at h<;>first | exact (zaI h).2 | cases h
 case convert=>split at h<;>first | exact (zaI h).2 | cases h
 case makeFunc=>split at h<;>first | exact triv h | cases h
 case slice t x lo hi mx=>cases mx<;>simp only at h<;>first | (split at h<;>first | exact (zaI h).2 | cases h) | cases h
 case fieldAddr=>split at h<;>first | exact (zaI h).2 | cases h
 case field=>split at h<;>first | exact (zaI h).2 | cases h
 case indexAddr=>split at h<;>first | exact (zaI h).2 | cases h
 case index=>split at h<;>first | exact (zaI h).2 | cases h
 case extract=>split at h<;>first | exact (zaI h).2 | cases h
 case call c =>
  unfold jc at h
  split at h
  ·rename_i xs _
   cases hc:c.callee with
   | invoke r m=>rw[hc] at h;cases h
   | builtin b =>
     rw[hc] at hk h
     cases b<;>simp at hk<;>simp only[qr] at h
     ·split at h<;>first | exact (zaI h).2 | cases h
     ·exact (zaI h).2
     ·exact (zaI h).2
   | value f =>
     rw[hc] at hk h
     cases f<;>simp at hk
     rename_i g'
     simp only[wg,get] at h
     split at h
     ·rename_i spec hg
      exact (hpf g' spec (by by_cases hx:pf g'=true;exact hx;simp[hx] at hk) hg _ _ _ _ _ _ h).1
     ·cases h
  ·cases h
theorem zkw {op:Op} (hk:jG pf op=0) {ρ:Operand→Option PV} (hp hp2:Hp) (nx nx2:Nat):zw C ρ hp2 nx2 op=(zw C ρ hp nx op).map fun r=>(r.1,hp2,nx2):=by
 cases op<;>simp only[jG] at hk<;>(try (exact absurd hk (by omega)))<;>simp only[zw]
 case move x=>cases ρ x<;>rfl
 case assign x=>cases ρ x<;>rfl
 case pick c a b=>split<;>simp[Option.map_map,Function.comp_def]
 case build t ps=>split<;>simp[Option.map_map,Function.comp_def]
 case nilCheck x=>split<;>rfl
 case binOp=>split<;>simp[Option.map_map,Function.comp_def]
 case unOp=>split<;>simp[Option.map_map,Function.comp_def]
 case convert=>split<;>simp[Option.map_map,Function.comp_def]
 case makeFunc=>split<;>rfl
 case fieldAddr=>split<;>simp[Option.map_map,Function.comp_def]
 case field=>split<;>simp[Option.map_map,Function.comp_def]
 case index=>split<;>simp[Option.map_map,Function.comp_def]
 case extract=>split<;>simp[Option.map_map,Function.comp_def]
 case call c =>
  unfold jc
  cases qu (c.args.toList.map ρ) with
  | none=>rfl
  | some xs =>
    simp only
    cases hc:c.callee with
    | value f =>
      rw[hc] at hk
      cases f<;>simp at hk
      split at hk<;>omega
    | invoke r m=>rfl
    | builtin b =>
      rw[hc] at hk
      cases b<;>simp at hk<;>simp only[qr]
      ·split<;>simp[Option.map_map,Function.comp_def]
      ·simp[Option.map_map,Function.comp_def]
      ·simp[Option.map_map,Function.comp_def]
theorem zsX {op:Op} (hk:jG pf op=0) {ρ:Operand→Option PV} {hp hp':Hp} {nx nx':Nat} {x:PV} (h:zw C ρ hp nx op=some (x,hp',nx')) (hp2:Hp) (nx2:Nat):zw C ρ hp2 nx2 op=some (x,hp2,nx2):=by
 rw[zkw hk hp hp2 nx nx2,h]
 rfl
theorem Zh {ρ ρ':Operand→Option PV}:∀{l:List (Nat×Operand)},(∀p∈l,ρ p.2=ρ' p.2)→yE ρ l=yE ρ' l
 | [],_=>rfl
 | (i,x)::l,h=>by
   simp only[yE]
   rw[h (i,x) (by simp),Zh (l:=l) fun p hp=>h p (by simp[hp])]
theorem zcC {ρ ρ':Operand→Option PV} {op:Op} {hp:Hp} {nx:Nat} (h:∀x∈op.operands.toList,ρ x=ρ' x):zw C ρ hp nx op=zw C ρ' hp nx op:=by
 cases op<;>simp only[Op.operands] at h<;>simp only[zw]
 case move x=>rw[h x (by simp)]
 case assign x=>rw[h x (by simp)]
 case pick c a b=>rw[h c (by simp),h a (by simp),h b (by simp)]
 case box t x=>rw[h x (by simp)]
 case build t ps=>rw[Zh (l:=ps.toList) fun p hp=>h p.2 (by simp only[List.mem_map];exact⟨p,hp,rfl⟩)]
 case buildSlice t n ps=>rw[Zh (l:=ps.toList) fun p hp=>h p.2 (by simp only[List.mem_map];exact⟨p,hp,rfl⟩)]
 case load t x=>rw[h x (by simp)]
 case store t a x=>rw[h a (by simp),h x (by simp)]
 case nilCheck x=>rw[h x (by simp)]
 case binOp op t x y t2=>rw[h x (by simp),h y (by simp)]
 case unOp op t x=>rw[h x (by simp)]
 case convert s d x=>rw[h x (by simp)]
 case makeFunc f a b =>
  rw[List.map_congr_left (g:=ρ') fun x hx=>h x (by simp at hx ⊢;exact .inl hx),List.map_congr_left (l:=b.toList) (g:=ρ') fun x hx=>h x (by simp at hx ⊢;exact .inr hx)]
 case makeSlice t l c=>rw[h l (by simp),h c (by simp)]
 case slice t x lo hi mx =>
  cases mx with
  | some m=>rfl
  | none =>
    simp only
    rw[h x (by simp)]
    have hlo:lo.map ρ=lo.map ρ':=by cases lo with
     | none=>rfl
     | some y=>simp only[Option.map_some];rw[h y (by simp)]
    have hhi:hi.map ρ=hi.map ρ':=by cases hi with
     | none=>rfl
     | some y=>simp only[Option.map_some];rw[h y (by simp)]
    rw[hlo,hhi]
 case fieldAddr t x f=>rw[h x (by simp)]
 case field t x f=>rw[h x (by simp)]
 case indexAddr t x i=>rw[h x (by simp),h i (by simp)]
 case index t x i=>rw[h x (by simp),h i (by simp)]
 case extract x i=>rw[h x (by simp)]
 case makeMap t r=>cases r<;>rfl
 case lookup t x i ok=>rw[h x (by simp),h i (by simp)]
 case mapUpdate t m k x=>rw[h m (by simp),h k (by simp),h x (by simp)]
 case insert t m k x=>rw[h m (by simp),h k (by simp),h x (by simp)]
 case call c =>
  unfold jc
  have ha:c.args.toList.map ρ=c.args.toList.map ρ':=List.map_congr_left fun x hx=>h x (by simp only[Call.operands,Array.toList_append,List.mem_append];exact .inr hx)
  rw[ha]
  cases qu (c.args.toList.map ρ') with
  | none=>rfl
  | some xs =>
    simp only
    cases hc:c.callee with
    | value f =>
      simp only
      rw[h f (by simp[Call.operands,hc])]
    | invoke r m=>rfl
    | builtin b=>rfl
def jT (C:Ctx) (ops:Array Oper) (o:Oper) (σ:Nat→PV) (hp:Hp) (nx:Nat):Option (PV×Hp×Nat) :=
 if Region.wanted o (vJ ops σ)=true then zw C (get σ) hp nx o.op else some (.tup [],hp,nx)
theorem qA (ops:Array Oper) (o:Oper) (st:St):q9 C ops o st=(jT C ops o st.σ st.hp st.nx).map fun r=>⟨put st.σ o.dst r.1,r.2.1,r.2.2⟩:=by
 unfold q9 jT
 split
 ·cases zw C (get st.σ) st.hp st.nx o.op<;>rfl
 ·rfl
theorem ko {ops:Array Oper} {o:Oper} {σ σ':Nat→PV} {hp:Hp} {nx:Nat} (h:∀t,t∈o.looksAt ops→σ t=σ' t):jT C ops o σ hp nx=jT C ops o σ' hp nx:=by
 have hw:Region.wanted o (vJ ops σ)=Region.wanted o (vJ ops σ'):=by
  unfold Region.wanted
  split
  ·rfl
  ·rename_i j b hg
   have:vJ ops σ j=vJ ops σ' j:=by
    unfold vJ
    split
    ·rename_i d hd
     rw[h d (by simp[Oper.looksAt,hg,hd])]
    ·rfl
   rw[this]
 unfold jT
 rw[hw]
 split
 ·refine zcC fun x hx=>?_
  cases x with
  | tmp t =>
    simp only[get]
    rw[h t]
    simp only[Oper.looksAt,List.mem_append,List.mem_filterMap]
    exact .inl ⟨.tmp t,hx,rfl⟩
  | const x=>rfl
  | global g=>rfl
  | func f=>rfl
 ·rfl
theorem yH {σ:Nat→PV} {d:Option Tmp} {x:PV} {t:Nat} (h:∀e,d=some e→e≠t):put σ d x t=σ t:=by
 cases d with
 | none=>rfl
 | some e=>exact zT _ _ _ _ fun he=>h e rfl he.symm
theorem zaJ {σ:Nat→PV} {d e:Option Tmp} {x y:PV} (h:∀k,d=some k→e≠some k):put (put σ d x) e y=put (put σ e y) d x:=by
 cases d with
 | none=>rfl
 | some k =>
   cases e with
   | none=>rfl
   | some m =>
     have hne:m≠k:=fun he=>h k rfl (by rw[he])
     funext i
     simp only[put,upd]
     by_cases h1:i=m<;>by_cases h2:i=k<;>simp_all
def zqz (pf:FuncId→Bool) (ops:Array Oper) (a b:Oper):Bool :=
 a.apart ops b&&(jG pf a.op==0||jG pf b.op==0||(decide (jG pf a.op≤1)&&decide (jG pf b.op≤1)))
theorem Yh {ops:Array Oper} {o:Oper} {σ:Nat→PV} {hp hp':Hp} {nx nx':Nat} {x:PV} (hk:jG pf o.op=0) (h:jT C ops o σ hp nx=some (x,hp',nx')) (hp2:Hp) (nx2:Nat):jT C ops o σ hp2 nx2=some (x,hp2,nx2):=by
 unfold jT at h ⊢
 split at h
 ·rename_i hw
  rw[if_pos hw]
  exact zsX hk h hp2 nx2
 ·rename_i hw
  rw[if_neg hw]
  injection h with h
  injection h with e _
  subst e
  rfl
theorem vO (hpf:∀g spec,pf g=true→C.Γ g=some spec→Zg spec) {ops:Array Oper} {o:Oper} {σ:Nat→PV} {hp hp':Hp} {nx nx':Nat} {x:PV} (hk:jG pf o.op≤1) (h:jT C ops o σ hp nx=some (x,hp',nx')):hp'=hp∧nx'=nx:=by
 unfold jT at h
 split at h
 ·exact zpX hpf hk h
 ·injection h with h
  injection h with _ h
  injection h with h1 h2
  exact⟨h1.symm,h2.symm⟩
theorem zg0 {ops:Array Oper} {a b:Oper} (hk:jG pf a.op=0) (h1:∀d,a.dst=some d→d ∉ b.looksAt ops) (h2:∀d,a.dst=some d→b.dst≠some d) (h3:∀d,b.dst=some d→d ∉ a.looksAt ops) (st:St) :
  (q9 C ops a st).bind (q9 C ops b)=(q9 C ops b st).bind (q9 C ops a):=by
 have cb:∀x hp nx,jT C ops b (put st.σ a.dst x) hp nx=jT C ops b st.σ hp nx:=fun x hp nx=>ko fun t ht=>yH fun e he hte=>h1 e he (hte ▸ ht)
 have ca:∀x hp nx,jT C ops a (put st.σ b.dst x) hp nx=jT C ops a st.σ hp nx:=fun x hp nx=>ko fun t ht=>yH fun e he hte=>h3 e he (hte ▸ ht)
 have comm:∀x y,put (put st.σ a.dst x) b.dst y=put (put st.σ b.dst y) a.dst x:=fun x y=>zaJ h2
 rw[qA ops a st,qA ops b st]
 cases hra:jT C ops a st.σ st.hp st.nx with
 | none =>
   cases hrb:jT C ops b st.σ st.hp st.nx with
   | none=>rfl
   | some r =>
     obtain⟨y,hp2,n2⟩:=r
     simp only[Option.map_none,Option.bind_none,Option.map_some,Option.bind_some]
     rw[qA]
     simp only[ca]
     cases hx:jT C ops a st.σ hp2 n2 with
     | none=>rfl
     | some r' =>
       obtain⟨x,hp3,n3⟩:=r'
       rw[Yh hk hx st.hp st.nx] at hra
       cases hra
 | some r =>
   obtain⟨x,hp1,n1⟩:=r
   have h0:=Yh hk hra st.hp st.nx
   rw[hra] at h0
   injection h0 with h0
   injection h0 with _ h0
   injection h0 with e1 e2
   subst e1;subst e2
   simp only[Option.map_some,Option.bind_some]
   rw[qA]
   simp only[cb]
   cases hrb:jT C ops b st.σ st.hp st.nx with
   | none=>rfl
   | some r =>
     obtain⟨y,hp2,n2⟩:=r
     simp only[Option.map_some,Option.bind_some]
     rw[qA]
     simp only[ca,Yh hk hra hp2 n2,Option.map_some,comm]
theorem zkx (hpf:∀g spec,pf g=true→C.Γ g=some spec→Zg spec) {ops:Array Oper} {a b:Oper} (h:zqz pf ops a b=true) (st:St) :
  (q9 C ops a st).bind (q9 C ops b)=(q9 C ops b st).bind (q9 C ops a):=by
 simp only[zqz,Bool.and_eq_true] at h
 obtain⟨hap,hkk⟩:=h
 obtain⟨h1,h2,h3⟩:=Oper.apart_spec hap
 simp only[Bool.or_eq_true,beq_iff_eq,Bool.and_eq_true,decide_eq_true_eq] at hkk
 rcases hkk with (h | h) | ⟨ka,kb⟩
 ·exact zg0 h h1 h2 h3 st
 ·exact (zg0 h h3 (fun d hd hb=>h2 d hb hd) h1 st).symm
 ·have cb:∀x hp nx,jT C ops b (put st.σ a.dst x) hp nx=jT C ops b st.σ hp nx:=fun x hp nx=>ko fun t ht=>yH fun e he hte=>h1 e he (hte ▸ ht)
  have ca:∀x hp nx,jT C ops a (put st.σ b.dst x) hp nx=jT C ops a st.σ hp nx:=fun x hp nx=>ko fun t ht=>yH fun e he hte=>h3 e he (hte ▸ ht)
  have comm:∀x y,put (put st.σ a.dst x) b.dst y=put (put st.σ b.dst y) a.dst x:=fun x y=>zaJ h2
  rw[qA ops a st,qA ops b st]
  cases hra:jT C ops a st.σ st.hp st.nx with
  | none =>
    cases hrb:jT C ops b st.σ st.hp st.nx with
    | none=>rfl
    | some r =>
      obtain⟨y,hp2,n2⟩:=r
      obtain⟨rfl,rfl⟩:=vO hpf kb hrb
      simp only[Option.map_none,Option.bind_none,Option.map_some,Option.bind_some]
      rw[qA]
      simp only[ca,hra,Option.map_none]
  | some r =>
    obtain⟨x,hp1,n1⟩:=r
    obtain⟨rfl,rfl⟩:=vO hpf ka hra
    simp only[Option.map_some,Option.bind_some]
    rw[qA]
    simp only[cb]
    cases hrb:jT C ops b st.σ st.hp st.nx with
    | none=>rfl
    | some r =>
      obtain⟨y,hp2,n2⟩:=r
      obtain⟨rfl,rfl⟩:=vO hpf kb hrb
      simp only[Option.map_some,Option.bind_some]
      rw[qA]
      simp only[ca,hra,Option.map_some,comm]
def wN (C:Ctx) (ops:Array Oper):List Nat→St→Option St
 | [],st=>some st
 | i::l,st=>match ops[i]? with
   | none=>wN C ops l st
   | some o=>(q9 C ops o st).bind (wN C ops l)
def zcD (acc:List Nat) (o:Oper):Nat:=o.after.toList.foldl (fun s e=>if Region.binds .any e then s ||| 2 ^ e.on ||| acc.getD e.on 0 else s) 0
def zg1 (cm:Oper→Oper→Bool) (ops:Array Oper):List Oper→Nat→List Nat→Bool
 | [],_,_=>true
 | o::l,i,acc =>
   o.after.toList.all (fun e=>!Region.binds .any e||decide (e.on<i)) &&
   (List.range i).all (fun j=>(zcD acc o).testBit j||(match ops[j]? with | some p=>cm p o | none=>false)) &&
   zg1 cm ops l (i+1) (acc++[zcD acc o])
def Kd (ops:Array Oper) (L:Nat→Prop):Prop:=∀k o,L k→ops[k]?=some o→∀e∈o.after.toList,Region.binds .any e=true→L e.on
def ziv (L:Nat→Prop) (o:Oper):Prop:=∀e∈o.after.toList,Region.binds .any e=true→L e.on
theorem zcE (acc:List Nat) (j:Nat):∀(l:List Edge) (s:Nat),(l.foldl (fun s e=>if Region.binds .any e then s ||| 2 ^ e.on ||| acc.getD e.on 0 else s) s).testBit j=true →
  s.testBit j=true∨∃e∈l,Region.binds .any e=true∧(j=e.on∨(acc.getD e.on 0).testBit j=true)
 | [],s,h=>.inl h
 | e::l,s,h=>by
   simp only[List.foldl_cons] at h
   rcases zcE acc j l _ h with h1 | ⟨e',h1,h2,h3⟩
   ·split at h1
    ·rename_i hb
     simp only[Nat.testBit_or,Bool.or_eq_true] at h1
     rcases h1 with (h1 | h1) | h1
     ·exact .inl h1
     ·refine .inr ⟨e,by simp,hb,.inl ?_⟩
      by_cases hj:j=e.on
      ·exact hj
      ·rw[Nat.testBit_two_pow_of_ne (fun h=>hj h.symm)] at h1;cases h1
     ·exact .inr ⟨e,by simp,hb,.inr h1⟩
    ·exact .inl h1
   ·exact .inr ⟨e',by simp[h1],h2,h3⟩
def Ke (ops:Array Oper) (acc:List Nat):Prop:=∀(k m:Nat),acc[k]?=some m→∀o,ops[k]?=some o→∀L,Kd ops L→ziv L o→∀j,m.testBit j=true→L j
theorem Q2 {ops:Array Oper} {acc:List Nat} (hg:Ke ops acc) {o:Oper} (L:Nat→Prop) (hL:Kd ops L) (hp:ziv L o) (hb:∀e∈o.after.toList,Region.binds .any e=true→e.on<ops.size) (j:Nat) (h:(zcD acc o).testBit j=true):L j:=by
 rcases zcE acc j _ 0 h with h1 | ⟨e,h1,h2,h3⟩
 ·simp at h1
 ·have hle:=hp e h1 h2
  rcases h3 with rfl | h3
  ·exact hle
  ·cases hk:acc[e.on]? with
   | none=>rw[List.getD_eq_getElem?_getD,hk] at h3;simp at h3
   | some m =>
     rw[List.getD_eq_getElem?_getD,hk] at h3
     have hlt:=hb e h1 h2
     exact hg e.on m hk ops[e.on] (by simp[hlt]) L hL (hL e.on _ hle (by simp[hlt])) j h3
theorem Kf {cm:Oper→Oper→Bool} {ops:Array Oper}:∀{l:List Oper} {i:Nat} {acc:List Nat},zg1 cm ops l i acc=true→acc.length=i→(∀k,l[k]?=ops[i+k]?)→Ke ops acc →
  ∀k o,l[k]?=some o→(∀e∈o.after.toList,Region.binds .any e=true→e.on<i+k)∧∀j,j<i+k→(∀L,Kd ops L→ziv L o→L j)∨∃p,ops[j]?=some p∧cm p o=true
 | [],i,acc,_,_,_,_,k,o,hk=>by simp at hk
 | o'::l,i,acc,h,hl,hlk,hg,k,o,hk=>by
   simp only[zg1,Bool.and_eq_true,List.all_eq_true,Bool.or_eq_true,Bool.not_eq_true',decide_eq_true_eq,List.mem_range] at h
   obtain⟨⟨h1,h2⟩,h3⟩:=h
   have hoi:ops[i]?=some o':=by have:=hlk 0;simpa using this.symm
   have hi:i<ops.size:=(Array.getElem?_eq_some_iff.1 hoi).1
   have hb:∀e∈o'.after.toList,Region.binds .any e=true→e.on<i:=fun e he hbe=>by
    rcases h1 e he with h | h
    ·rw[hbe] at h;cases h
    ·exact h
   have hgo:∀L,Kd ops L→ziv L o'→∀j,(zcD acc o').testBit j=true→L j:=fun L hL hp j hj=>Q2 hg L hL hp (fun e he hbe=>by have:=hb e he hbe;omega) j hj
   cases k with
   | zero =>
     simp at hk
     subst hk
     refine⟨by simpa using hb,fun j hj=>?_⟩
     rcases h2 j (by simpa using hj) with h | h
     ·exact .inl fun L hL hp=>hgo L hL hp j h
     ·split at h
      ·rename_i p hp;exact .inr ⟨p,hp,h⟩
      ·cases h
   | succ k =>
     have hg':Ke ops (acc++[zcD acc o']):=by
      intro k' m hm ok hok L hL hp j hj
      by_cases hkl:k'<acc.length
      ·rw[List.getElem?_append_left hkl] at hm
       exact hg k' m hm ok hok L hL hp j hj
      ·rw[List.getElem?_append_right (by omega)] at hm
       have:k'=i:=by
        have:=(List.getElem?_eq_some_iff.1 hm).1
        simp at this
        omega
       subst this
       rw[hl] at hm
       simp at hm
       subst hm
       rw[hoi] at hok
       injection hok with hok
       subst hok
       exact hgo L hL hp j hj
     have:=Kf h3 (by simp[hl]) (fun k'=>by have:=hlk (k'+1);simpa[Nat.add_assoc,Nat.add_comm 1 k'] using this) hg' k o (by simpa using hk)
     rwa [show i+1+k=i+(k+1) from by omega] at this
def zcF (cm:Oper→Oper→Bool) (ops:Array Oper):Bool:=zg1 cm ops ops.toList 0 []
theorem Kg {cm:Oper→Oper→Bool} {ops:Array Oper} (h:zcF cm ops=true):∀i o,ops[i]?=some o→(∀e∈o.after.toList,Region.binds .any e=true→e.on<i)∧∀j,j<i→(∀L,Kd ops L→ziv L o→L j)∨∃p,ops[j]?=some p∧cm p o=true:=by
 intro i o ho
 have:=Kf h rfl (by simp) (fun k m hm=>by simp at hm) i o (by simpa using ho)
 simpa using this
structure CommOk (C:Ctx) (ops:Array Oper) (cm:Oper→Oper→Bool) (A:St→Prop):Prop where
 keep:∀(i:Nat) (o:Oper) (st st':St),ops[i]?=some o→A st→q9 C ops o st=some st'→A st'
 comm:∀(i j:Nat) (a b:Oper) (st st':St),ops[i]?=some a→ops[j]?=some b→cm a b=true→A st→(q9 C ops a st).bind (q9 C ops b)=some st'→(q9 C ops b st).bind (q9 C ops a)=some st'
theorem Q3 {ops:Array Oper} {cm:Oper→Oper→Bool} {A:St→Prop} (hc:CommOk C ops cm A) {i:Nat} {o:Oper} (ho:ops[i]?=some o) (post:List Nat):∀(pre:List Nat) (st r:St),A st→(∀j∈pre,∃p,ops[j]?=some p∧cm p o=true) →
  wN C ops (pre++i::post) st=some r→wN C ops (i::(pre++post)) st=some r
 | [],st,r,_,_,h=>h
 | j::pre,st,r,hA,h,hr=>by
   obtain⟨p,hp,hcp⟩:=h j (by simp)
   simp only[List.cons_append,wN,hp] at hr
   cases hs:q9 C ops p st with
   | none=>rw[hs] at hr;cases hr
   | some st1 =>
     rw[hs,Option.bind_some] at hr
     have h1:=Q3 hc ho post pre st1 r (hc.keep j p st st1 hp hA hs) (fun k hk=>h k (by simp[hk])) hr
     simp only[wN,ho] at h1
     cases h2:q9 C ops o st1 with
     | none=>rw[h2] at h1;cases h1
     | some st2 =>
       rw[h2,Option.bind_some] at h1
       have h3:=hc.comm j i p o st st2 hp ho hcp hA (by rw[hs,Option.bind_some];exact h2)
       simp only[wN,ho,List.cons_append,hp]
       cases h4:q9 C ops o st with
       | none=>rw[h4] at h3;cases h3
       | some st3 =>
         rw[h4,Option.bind_some] at h3
         rw[Option.bind_some,h3,Option.bind_some]
         exact h1
def vr (spec:AM.Spec):Prop:=∀args hp nx r hp' nx',spec args hp nx=some (r,hp',nx')→nx≤nx'∧∀id blk,id<nx→hp id=some blk→blk.arr=false→hp' id=some blk
def zky (L:List Tmp):Op→Bool
 | .load _ (.tmp a)=>L.contains a
 | .indexAddr _ (.tmp a) _=>L.contains a
 | _=>false
def ixB (L:List Tmp):Op→Bool
 | .indexAddr _ (.tmp a) _=>L.contains a
 | _=>false
def zcG (bk:FuncId→Bool):Op→Bool
 | .call ⟨.value (.func g),_,_⟩=>bk g
 | .call ⟨.builtin .append,_,_⟩=>true
 | .buildSlice _ _ _=>true
 | .alloc _=>true
 | _=>false
def zsY:Op→Bool
 | .store _ _ _=>true
 | _=>false
def XM (D:List (Tmp×Tmp)):Op→Op→Bool
 | .load _ (.tmp a),.store _ (.tmp b) _=>D.contains (a,b)
 | _,_=>false
def zuD (D:List (Tmp×Tmp)) (L:List Tmp) (bk:FuncId→Bool) (p o:Op):Bool:=XM D p o||(zky L p&&zcG bk o)||(ixB L p&&zsY o)
def zsZ (D:List (Tmp×Tmp)) (L:List Tmp) (bk:FuncId→Bool) (ops:Array Oper) (p o:Oper):Bool :=
 p.apart ops o&&o.apart ops p&&p.guard.isNone&&o.guard.isNone&&(zuD D L bk p.op o.op||zuD D L bk o.op p.op)
def zsF (L:List Tmp):Bool:=L.any fun s=>decide (zB≤s)
def Q4 (L:List Tmp):Op→Bool
 | .buildSlice _ _ parts=>parts.toList.all fun p=>match p.2 with
   | .tmp z=>L.contains (z+zB)
   | _=>false
 | _=>false
def Kh:Op→Bool
 | .load _ (.tmp _)=>true
 | .indexAddr _ (.tmp _) _=>true
 | _=>false
def Ki (pf:FuncId→Bool):Op→Bool
 | .call ⟨.value (.func g),_,_⟩=>pf g
 | _=>false
def zpY:Op→Bool
 | .alloc _=>true
 | _=>false
def zuE (pf:FuncId→Bool) (L:List Tmp) (ops:Array Oper) (p o:Oper):Bool:=zsF L&&p.apart ops o&&p.guard.isNone&&o.guard.isNone&&(Kh p.op||Ki pf p.op)&&(Q4 L o.op||zpY o.op)
def znL (pf:FuncId→Bool) (D:List (Tmp×Tmp)) (L:List Tmp) (bk:FuncId→Bool) (ops:Array Oper) (p o:Oper):Bool:=zqz pf ops p o||zsZ D L bk ops p o||zuE pf L ops p o
def zuU (pf:FuncId→Bool) (o:Op):Bool:=decide (jG pf o≤1)||match o with
 | .store _ _ _=>true
 | .call ⟨.builtin .append,_,_⟩=>true
 | .buildSlice _ _ _=>true
 | .alloc _=>true
 | _=>false
def zkz (pf:FuncId→Bool) (L:List Tmp) (ops:Array Oper):Bool:=!zsF L||ops.all fun o=>zuU pf o.op&&L.all fun s=>decide (s<zB)||o.dst != some (s - zB)||(o.guard.isNone&&match o.op with
 | .move (.tmp b)=>L.contains (b+zB)
 | .build _ parts=>parts.toList.all fun p=>match p.2 with
   | .tmp z=>L.contains (z+zB)
   | _=>false
 | _=>false)
def zeV (pf:FuncId→Bool) (D:List (Tmp×Tmp)) (L:List Tmp) (bk:FuncId→Bool) (ops:Array Oper):Bool:=(D.isEmpty&&L.isEmpty)||ops.all fun o=>D.all (fun p=>o.dst != some p.2&&(o.dst != some p.1||match o.op with
    | .fieldAddr _ (.tmp s) _=>D.contains (s,p.2)
    | .indexAddr _ (.tmp s) _=>D.contains (s,p.2)&&L.contains s
    | _=>false)) &&
 L.all (fun s=>o.dst != some s||match o.op with
  | .fieldAddr _ (.tmp b) _=>L.contains b
  | .indexAddr _ (.tmp b) _=>L.contains b
  | _=>false) &&
 (decide (jG pf o.op≤1)||match o.op with
  | .store _ _ _=>true
  | .call ⟨.value (.func g),_,_⟩=>D.all (fun p=>L.contains p.2)&&bk g
  | .call ⟨.builtin .append,_,_⟩=>D.all (fun p=>L.contains p.2)
  | .buildSlice _ _ _=>D.all (fun p=>L.contains p.2)
  | .alloc _=>D.all (fun p=>L.contains p.2)
  | _=>false)
def zg2 (pf:FuncId→Bool) (D:List (Tmp×Tmp)) (L:List Tmp) (bk:FuncId→Bool) (ops:Array Oper):Bool:=zkz pf L ops&&zeV pf D L bk ops
end
section
variable {C:Ctx} {pf:FuncId→Bool}
theorem Qj {hp hp1:Hp} {x y:PV} (h:qh hp x=some (y,hp1)) {id:Nat} {b:Blk} (hb:hp id=some b) (ha:b.arr=false):hp1 id=some b:=by
 unfold qh at h
 split at h
 ·split at h
  ·rename_i b' hb'
   split at h
   ·rename_i hc
    injection h with h
    injection h with _ h
    subst h
    rw[zT]
    ·exact hb
    ·rintro rfl
     rw[hb] at hb'
     injection hb' with hb'
     subst hb'
     rw[ha] at hc
     cases hc.1
   ·cases h
  ·cases h
 all_goals first
  | (injection h with h;injection h with _ h;subst h;exact hb)
  | (split at h<;>first | (injection h with h;injection h with _ h;subst h;exact hb) | cases h)
  | cases h
theorem Zi:∀{xs ys:List PV} {hp hp1:Hp},zW hp xs=some (ys,hp1)→∀{id:Nat} {b:Blk},hp id=some b→b.arr=false→hp1 id=some b
 | [],ys,hp,hp1,h,id,b,hb,ha=>by
   simp only[zW] at h
   injection h with h;injection h with _ h;subst h;exact hb
 | x::l,ys,hp,hp1,h,id,b,hb,ha=>by
   simp only[zW] at h
   split at h
   ·rename_i y hp2 h1
    split at h
    ·rename_i r hp3 h2
     injection h with h;injection h with _ h;subst h
     exact Zi h2 (Qj h1 hb ha) ha
    ·cases h
   ·cases h
theorem xr {hp hp1:Hp} {x y:PV} (h:zE hp x=some (y,hp1)) {id:Nat} {b:Blk} (hb:hp id=some b) (ha:b.arr=false):hp1 id=some b:=by
 unfold zE at h
 split at h
 ·split at h
  ·rename_i l h2 hf
   injection h with h;injection h with _ h;subst h
   exact Zi hf hb ha
  ·cases h
 ·exact Qj h hb ha
theorem zkA {P:Program} {hp hp':Hp} {t:TypeId} {p x:PV} (h:vH P hp t p x=some hp') {id:Nat} {b:Blk} (hb:hp id=some b) (ha:b.arr=false):∃b',hp' id=some b'∧b'.arr=false:=by
 unfold vH at h
 split at h
 ·rename_i id' i j
  split at h
  ·rename_i b0 hb0
   split at h
   ·rename_i y hp1 hf
    have h1:hp1 id=some b:=by
     split at hf
     ·exact xr hf hb ha
     ·injection hf with hf;injection hf with _ hf;subst hf;exact hb
    split at h
    ·rename_i b1 n hb1 _
     split at h
     ·split at h
      ·injection h with h
       subst h
       by_cases he:id=id'
       ·subst he
        rw[h1] at hb1
        injection hb1 with hb1
        subst hb1
        exact⟨_,qd _ _ _,ha⟩
       ·exact⟨b,by rw[zT _ _ _ _ he];exact h1,ha⟩
      ·cases h
     ·cases h
    ·cases h
   ·cases h
  ·cases h
 ·cases h
theorem ziw {P:Program} {hp hp':Hp} {t:TypeId} {id i j:Nat} {x:PV} {b:Blk} (h:vH P hp t (.ref id i j) x=some hp') (hb:hp id=some b) (ha:b.arr=false) {k:Nat} (hk:k≠id):hp' k=hp k:=by
 simp only[vH,hb,ha] at h
 simp only[Bool.false_eq_true,if_false] at h
 split at h
 ·split at h
  ·split at h
   ·injection h with h
    subst h
    exact zT _ _ _ _ hk
   ·cases h
  ·cases h
 ·cases h
theorem JP {ops:Array Oper} {l c:Oper} (hap:l.apart ops c=true) {st:St} (hq:∀hp nx y hp' nx',jT C ops l st.σ hp nx=some (y,hp',nx')→hp'=hp∧nx'=nx)
  (hsame:∀z hp' nx',jT C ops c st.σ st.hp st.nx=some (z,hp',nx')→(jT C ops l st.σ hp' nx').map (·.1)=(jT C ops l st.σ st.hp st.nx).map (·.1)) :
  (q9 C ops l st).bind (q9 C ops c)=(q9 C ops c st).bind (q9 C ops l):=by
 obtain⟨h1,h2,h3⟩:=Oper.apart_spec hap
 have cs:∀y hp nx,jT C ops c (put st.σ l.dst y) hp nx=jT C ops c st.σ hp nx:=fun y hp nx=>ko fun u hu=>yH fun e he hte=>h1 e he (hte ▸ hu)
 have cl:∀y hp nx,jT C ops l (put st.σ c.dst y) hp nx=jT C ops l st.σ hp nx:=fun y hp nx=>ko fun u hu=>yH fun e he hte=>h3 e he (hte ▸ hu)
 have comm:∀y z,put (put st.σ l.dst y) c.dst z=put (put st.σ c.dst z) l.dst y:=fun y z=>zaJ h2
 rw[qA ops l st,qA ops c st]
 cases hr:jT C ops c st.σ st.hp st.nx with
 | none =>
   cases hv:jT C ops l st.σ st.hp st.nx with
   | none=>rfl
   | some q =>
     obtain⟨y,hp1,nx1⟩:=q
     obtain⟨rfl,rfl⟩:=hq _ _ _ _ _ hv
     simp only[Option.map_some,Option.map_none,Option.bind_some,Option.bind_none]
     rw[qA]
     simp only[cs,hr,Option.map_none]
 | some q =>
   obtain⟨z,hp',nx'⟩:=q
   have hlo:=hsame z hp' nx' hr
   cases hv:jT C ops l st.σ st.hp st.nx with
   | none =>
     rw[hv] at hlo
     have hn:jT C ops l st.σ hp' nx'=none:=by
      cases hh:jT C ops l st.σ hp' nx' with
      | none=>rfl
      | some r=>rw[hh] at hlo;cases hlo
     simp only[Option.map_some,Option.map_none,Option.bind_some,Option.bind_none]
     rw[qA]
     simp only[cl,hn,Option.map_none]
   | some q =>
     obtain⟨y,hp1,nx1⟩:=q
     obtain⟨rfl,rfl⟩:=hq _ _ _ _ _ hv
     rw[hv] at hlo
     obtain⟨q2,hq2,hy⟩:∃q2,jT C ops l st.σ hp' nx'=some q2∧q2.1=y:=by
      cases hh:jT C ops l st.σ hp' nx' with
      | none=>rw[hh] at hlo;cases hlo
      | some r=>rw[hh] at hlo;injection hlo with hlo;exact⟨r,rfl,hlo⟩
     obtain⟨y2,hp2,nx2⟩:=q2
     simp only at hy
     subst hy
     obtain⟨rfl,rfl⟩:=hq _ _ _ _ _ hq2
     simp only[Option.map_some,Option.bind_some]
     rw[qA,qA]
     simp only[cs,hr,cl,hq2,Option.map_some,comm]
theorem wp {ops:Array Oper} {o:Oper} (g:o.guard=none) (σ:Nat→PV) (hp:Hp) (nx:Nat):jT C ops o σ hp nx=zw C (get σ) hp nx o.op:=by
 have w:Region.wanted o (vJ ops σ)=true:=by unfold Region.wanted;rw[g]
 simp only[jT,w,if_true]
theorem xt {P:Program} {hp hp':Hp} {t:TypeId} {p:PV} (hno:∀id o n,p≠.own id o n) (q:PV):zI P hp' t p q=zI P hp t p q:=by
 cases q with
 | v y =>
   cases y with
   | int w i =>
     cases p with
     | own id o n=>exact absurd rfl (hno id o n)
     | _ =>
       simp only[zI]
       cases qG P t with
       | none=>rfl
       | some e =>
         simp only
         cases zS P e<;>rfl
   | _=>simp only[zI]
 | _=>simp only[zI]
theorem zkB {L:List Tmp} {op:Op} (hl:zky L op=true) {st:St} (hA:xi L st) {hp':Hp} {nx nx':Nat} (hk:∀id blk,id<st.nx→st.hp id=some blk→blk.arr=false→hp' id=some blk) :
  (zw C (get st.σ) hp' nx' op).map (·.1)=(zw C (get st.σ) st.hp nx op).map (·.1):=by
 unfold zky at hl
 split at hl
 ·rename_i t a
  obtain⟨⟨hno,hrf⟩,_⟩:=hA a (by simpa using hl)
  have:jZ C.P hp' t (st.σ a)=jZ C.P st.hp t (st.σ a):=by
   cases hσ:st.σ a with
   | ref id i j =>
     obtain⟨e1,blk,e2,e3⟩:=hrf id i j hσ
     simp only[jZ,hk id blk e1 e2 e3,e2]
   | _=>rfl
  simp only[zw,get,this]
  cases jZ C.P st.hp t (st.σ a)<;>rfl
 ·rename_i t a i
  obtain⟨⟨hno,hrf⟩,_⟩:=hA a (by simpa using hl)
  have:∀q,zI C.P hp' t (st.σ a) q=zI C.P st.hp t (st.σ a) q:=by
   exact fun q=>xt hno q
  simp only[zw,show get st.σ (.tmp a)=some (st.σ a) from rfl]
  cases get st.σ i with
  | none=>rfl
  | some q =>
    simp only[this]
    cases zI C.P st.hp t (st.σ a) q<;>rfl
 ·cases hl
theorem Yi {op:Op} {σ:Nat→PV} {hp hp':Hp} {nx nx':Nat} {y:PV} (hl:(∃t a,op=.load t (.tmp a))∨∃t a i,op=.indexAddr t (.tmp a) i) (h:zw C (get σ) hp nx op=some (y,hp',nx')):hp'=hp∧nx'=nx:=by
 rcases hl with⟨t,a,rfl⟩ | ⟨t,a,i,rfl⟩
 ·simp only[zw,get] at h
  exact (zaI h).2
 ·simp only[zw,get] at h
  split at h
  ·exact (zaI h).2
  ·cases h
theorem znM {L:List Tmp} {op:Op} (h:zky L op=true):(∃t a,op=.load t (.tmp a))∨∃t a i,op=.indexAddr t (.tmp a) i:=by
 unfold zky at h
 split at h
 ·exact .inl ⟨_,_,rfl⟩
 ·exact .inr ⟨_,_,_,rfl⟩
 ·cases h
theorem Zj:∀{ps qs:List (Nat×PV)} {hp hp1:Hp},zf hp ps=some (qs,hp1)→∀{id:Nat} {b:Blk},hp id=some b→b.arr=false→hp1 id=some b
 | [],qs,hp,hp1,h,id,b,hb,ha=>by
   simp only[zf] at h
   injection h with h;injection h with _ h;subst h;exact hb
 | (i,x)::l,qs,hp,hp1,h,id,b,hb,ha=>by
   simp only[zf] at h
   split at h
   ·rename_i y hp2 h1
    split at h
    ·rename_i r hp3 h2
     injection h with h;injection h with _ h;subst h
     exact Zj h2 (xr h1 hb ha) ha
    ·cases h
   ·cases h
theorem zeW {P:Program} {hp hp':Hp} {nx nx':Nat} {t u:TypeId} {s x y:PV} (h:qY P hp nx t u s x=some (y,hp',nx')):nx≤nx'∧∀id blk,id<nx→hp id=some blk→blk.arr=false→hp' id=some blk:=by
 unfold qY at h
 split at h
 ·split at h
  ·split at h
   ·split at h
    ·split at h
     ·split at h
      ·injection h with h;injection h with _ h;injection h with e1 e2
       subst e1;subst e2
       exact⟨Nat.le_refl _,fun _ _ _ hb _=>hb⟩
      ·injection h with h;injection h with _ h;injection h with e1 e2
       subst e1;subst e2
       exact⟨by omega,fun id blk hid hb _=>by rw[zT _ _ _ _ (by omega)];exact hb⟩
     ·cases h
    ·split at h
     ·rename_i b hb0
      split at h
      ·rename_i hk
       injection h with h;injection h with _ h;injection h with e1 e2
       subst e1;subst e2
       refine⟨by omega,fun id blk hid hb ha=>?_⟩
       rw[zT _ _ _ _ (by omega),zT _ _ _ _ (fun e=>by
        subst e
        rw[hb] at hb0
        injection hb0 with hb0
        subst hb0
        rw[ha] at hk
        cases hk.1)]
       exact hb
      ·cases h
     ·cases h
    ·cases h
   ·cases h
  ·cases h
 ·cases h
theorem Kj {t:TypeId} {σ:Nat→PV} {hp hp':Hp} {nx nx':Nat} {z:PV} (h:zw C (get σ) hp nx (.alloc t)=some (z,hp',nx')):∃b,hp'=upd hp nx b∧nx'=nx+1:=by
 simp only[zw] at h
 split at h
 ·split at h
  ·injection h with h
   injection h with _ h
   injection h with e1 e2
   exact⟨_,e1.symm,e2.symm⟩
  ·cases h
 ·cases h
theorem XN {bk:FuncId→Bool} (hbk:∀g spec,bk g=true→C.Γ g=some spec→vr spec) {op:Op} (hf:zcG bk op=true) {σ:Nat→PV} {hp hp':Hp} {nx nx':Nat} {z:PV} (h:zw C (get σ) hp nx op=some (z,hp',nx')) :
  nx≤nx'∧∀id blk,id<nx→hp id=some blk→blk.arr=false→hp' id=some blk:=by
 unfold zcG at hf
 split at hf
 ·rename_i g aZ ts
  simp only[zw,jc] at h
  split at h
  ·simp only[get,wg] at h
   split at h
   ·rename_i spec hs
    exact hbk g spec hf hs _ _ _ _ _ _ h
   ·cases h
  ·cases h
 ·rename_i aZ ts
  simp only[zw,jc] at h
  split at h
  ·simp only[qr] at h
   split at h
   ·exact zeW h
   ·cases h
  ·cases h
 ·rename_i t len parts
  simp only[zw] at h
  split at h
  ·rename_i ps hps
   unfold zh at h
   split at h
   ·split at h
    ·rename_i n zz qs hp1 _ _ hfp
     split at h
     ·split at h
      ·injection h with h
       injection h with _ h
       injection h with e1 e2
       subst e1;subst e2
       refine⟨by omega,fun id blk hid hb ha=>?_⟩
       rw[zT _ _ _ _ (by omega)]
       exact Zj hfp hb ha
      ·cases h
     ·cases h
    ·cases h
   ·cases h
  ·cases h
 ·rename_i t
  obtain⟨bb,e1,e2⟩:=Kj h
  subst e1;subst e2
  refine⟨by omega,fun id blk hid hb _=>?_⟩
  rw[zT _ _ _ _ (by omega)]
  exact hb
 ·cases hf
theorem zcH {bk:FuncId→Bool} (hbk:∀g spec,bk g=true→C.Γ g=some spec→vr spec) {D:List (Tmp×Tmp)} {L:List Tmp} {ops:Array Oper} {l c:Oper} (hh:zuD D L bk l.op c.op=true) (gl:l.guard=none) (gc:c.guard=none) (hap:l.apart ops c=true) {st:St} (hD:xM D st) (hL:xi L st) :
  (q9 C ops l st).bind (q9 C ops c)=(q9 C ops c st).bind (q9 C ops l):=by
 simp only[zuD,Bool.or_eq_true,Bool.and_eq_true] at hh
 rcases hh with (hls | ⟨hlk,hfr⟩) | ⟨hix,hst⟩
 ·unfold XM at hls
  split at hls
  ·rename_i t a t' b x hl hc
   refine JP hap (fun hp nx y hp' nx' h=>?_) (fun z hp' nx' h=>?_)
   ·rw[wp gl,hl] at h
    exact Yi (.inl ⟨_,_,rfl⟩) h
   ·rw[wp gc,hc] at h
    rw[wp gl,wp gl,hl]
    simp only[zw,get] at h
    have hload:jZ C.P hp' t (st.σ a)=jZ C.P st.hp t (st.σ a):=by
     cases hσ:st.σ a with
     | ref id i j =>
       obtain⟨id',i',j',blk,eb,hne,hb,harr⟩:=hD (a,b) (by simpa using hls) id i j hσ
       rw[eb] at h
       split at h
       ·rename_i p q hp0 hq0
        simp only[Option.some.injEq] at hp0
        subst hp0
        obtain⟨h2,e1,e2⟩:=zp h
        injection e2 with _ e2
        injection e2 with e2 _
        subst e2
        simp only[jZ,ziw e1 hb harr hne]
       ·cases h
     | _=>rfl
    simp only[zw,get,hload]
    cases jZ C.P st.hp t (st.σ a)<;>rfl
  ·cases hls
 ·refine JP hap (fun hp nx y hp' nx' h=>?_) (fun z hp' nx' h=>?_)
  ·rw[wp gl] at h
   exact Yi (znM hlk) h
  ·rw[wp gc] at h
   rw[wp gl,wp gl]
   exact zkB hlk hL (XN hbk hfr h).2
 ·unfold ixB at hix
  split at hix
  ·rename_i t a i hl
   refine JP hap (fun hp nx y hp' nx' h=>?_) (fun z hp' nx' h=>?_)
   ·rw[wp gl,hl] at h
    exact Yi (.inr ⟨_,_,_,rfl⟩) h
   ·rw[wp gl,wp gl,hl]
    obtain⟨⟨hno,_⟩,_⟩:=hL a (by simpa using hix)
    have:∀q,zI C.P hp' t (st.σ a) q=zI C.P st.hp t (st.σ a) q:=by
     exact fun q=>xt hno q
    simp only[zw,show get st.σ (.tmp a)=some (st.σ a) from rfl]
    cases get st.σ i with
    | none=>rfl
    | some q =>
      simp only[this]
      cases zI C.P st.hp t (st.σ a) q<;>rfl
  ·cases hix
theorem Qk {P:Program} {t:TypeId} {f:Nat} {p:PV} {id i j:Nat} (h:qC P t f p=some (.ref id i j)):∃i0 j0,p=.ref id i0 j0:=by
 unfold qC at h
 split at h
 ·split at h
  ·split at h
   ·cases h
   ·injection h with h;cases h
  ·cases h
 ·split at h
  ·split at h
   ·cases h
   ·injection h with h
    injection h with h1 _ _
    subst h1
    exact⟨_,_,rfl⟩
  ·cases h
 ·cases h
theorem V1 {P:Program} {t:TypeId} {f:Nat} {p:PV} {id o n:Nat} (h:qC P t f p=some (.own id o n)):False:=by
 unfold qC at h
 split at h
 ·split at h
  ·split at h
   ·cases h
   ·injection h with h;cases h
  ·cases h
 ·split at h
  ·split at h
   ·cases h
   ·injection h with h;cases h
  ·cases h
 ·cases h
theorem Ql {P:Program} {hp:Hp} {t:TypeId} {p q:PV} {id i j:Nat} (h:zI P hp t p q=some (.ref id i j)) (hno:∀id o n,p≠.own id o n):∃i0 j0,p=.ref id i0 j0:=by
 unfold zI at h
 split at h
 ·split at h
  ·split at h
   ·split at h
    ·obtain⟨z,_,e⟩:=zp h
     cases e
    ·cases h
   ·exact absurd rfl (hno _ _ _)
   ·cases h
  ·unfold jb at h
   split at h
   ·split at h
    ·split at h
     ·split at h
      ·injection h with h;cases h
      ·injection h with h
       injection h with h1 _ _
       subst h1
       exact⟨_,_,rfl⟩
      ·cases h
     ·cases h
    ·cases h
   ·cases h
 ·cases h
theorem V2 {P:Program} {hp:Hp} {t:TypeId} {p q:PV} {id o n:Nat} (h:zI P hp t p q=some (.own id o n)):False:=by
 unfold zI at h
 split at h
 ·split at h
  ·split at h
   ·split at h
    ·obtain⟨z,_,e⟩:=zp h
     cases e
    ·cases h
   ·split at h
    ·split at h
     ·injection h with h;cases h
     ·cases h
    ·cases h
   ·cases h
  ·unfold jb at h
   split at h
   ·split at h
    ·split at h
     ·split at h
      ·injection h with h;cases h
      ·injection h with h;cases h
      ·cases h
     ·cases h
    ·cases h
   ·cases h
 ·cases h
theorem XO {x:PV} (h:x.shut1=true) (hp:Hp):qh hp x=some (x,hp):=by cases x<;>first | rfl | cases h
theorem XP:∀{cs:List PV},cs.all PV.shut1=true→∀hp:Hp,zW hp cs=some (cs,hp)
 | [],_,_=>rfl
 | x::cs,h,hp=>by
   simp only[List.all_cons,Bool.and_eq_true] at h
   simp only[zW,XO h.1,XP h.2]
theorem znN {x:PV} (h:x.shut=true) (hn:∀cs,x≠.agg cs):x.shut1=true:=by cases x<;>first | exact absurd rfl (hn _) | exact h
theorem znO {x:PV} (h:x.shut=true) (hp:Hp):zE hp x=some (x,hp):=by
 by_cases hn:∀cs,x≠.agg cs
 ·have h1:=XO (znN h hn) hp
  unfold zE
  split
  ·exact absurd rfl (hn _)
  ·exact h1
 ·have:∃cs,x=.agg cs:=Classical.byContradiction fun hc=>hn fun cs e=>hc ⟨cs,e⟩
  obtain⟨cs,rfl⟩:=this
  simp only[zE,XP (cs:=cs) h]
theorem zkC {x:PV} (h:x.shutZ=true) (hn:∀cs,x≠.tup cs):x.shut=true:=by cases x<;>first | exact absurd rfl (hn _) | exact h
theorem zkD {x y:PV} (h:x.shutZ=true) {hp hp1:Hp} (hf:zE hp x=some (y,hp1)):hp1=hp:=by
 by_cases hn:∀cs,x≠.tup cs
 ·rw[znO (zkC h hn)] at hf
  injection hf with hf
  injection hf with _ hf
  exact hf.symm
 ·exfalso
  apply hn
  rintro cs rfl
  cases hf
theorem XQ:∀{ps qs:List (Nat×PV)} {hp hp1:Hp},(∀p∈ps,p.2.shutZ=true)→zf hp ps=some (qs,hp1)→hp1=hp
 | [],qs,hp,hp1,_,h=>by injection h with h;injection h with _ h;exact h.symm
 | (i,x)::l,qs,hp,hp1,hs,h=>by
   simp only[zf] at h
   split at h
   ·rename_i y hp2 h1
    split at h
    ·rename_i r hp3 h2
     injection h with h;injection h with _ h;subst h
     rw[XQ (fun p hp=>hs p (by simp[hp])) h2,zkD (hs (i,x) (by simp)) h1]
    ·cases h
   ·cases h
theorem zcI {x:PV} (h:x.shutZ=true) (hc:x.cells.all PV.isCell=true):x.cells.all PV.shut1=true:=by
 cases x with
 | agg cs=>exact h
 | tup cs=>simp[PV.cells,PV.isCell] at hc
 | _=>simpa[PV.cells,PV.shutZ,PV.shut] using h
theorem zeX {v:Value} {p:PV} (h:XG v=some p):p.shut1=true:=by
 unfold XG at h
 split at h<;>first | (injection h with h;subst h;rfl) | cases h
theorem Y3:∀{l:List Value} {ps:List PV},ofCells l=some ps→ps.all PV.shut1=true
 | [],ps,h=>by injection h with h;subst h;rfl
 | x::l,ps,h=>by
   simp only[ofCells] at h
   split at h
   ·rename_i p r h1 h2
    injection h with h
    subst h
    rw[List.all_cons,zeX h1,Y3 h2]
    rfl
   ·cases h
theorem XR {P:Program} {t:TypeId} {z:List PV} (h:wy P t=some z):z.all PV.shut1=true:=by
 unfold wy at h
 cases h1:(P.info? t).bind (·.zero) with
 | none=>rw[h1] at h;cases h
 | some q=>rw[h1] at h;exact Y3 h
theorem Q5:∀{xs cs:List PV} {off:Nat},cs.all PV.shut1=true→xs.all PV.shut1=true→(qO cs off xs).all PV.shut1=true
 | [],cs,off,h,_=>h
 | x::xs,cs,off,h,hx=>by
   simp only[List.all_cons,Bool.and_eq_true] at hx
   simp only[qO]
   refine Q5 ?_ hx.2
   rw[List.all_eq_true] at h ⊢
   intro y hy
   rcases List.mem_or_eq_of_mem_set hy with hy | rfl
   ·exact h y hy
   ·exact hx.1
theorem Yj {place:Nat→Option (Nat×Nat)}:∀{ps:List (Nat×PV)} {cs r:List PV},cs.all PV.shut1=true→(∀p∈ps,p.2.shutZ=true)→zR place cs ps=some r→r.all PV.shut1=true
 | [],cs,r,h,_,hr=>by injection hr with hr;subst hr;exact h
 | (i,x)::l,cs,r,h,hp,hr=>by
   simp only[zR] at hr
   split at hr
   ·split at hr
    ·rename_i hc
     exact Yj (Q5 h (zcI (hp (i,x) (by simp)) hc.2.2)) (fun p hp'=>hp p (by simp[hp'])) hr
    ·cases hr
   ·cases hr
theorem zeY {P:Program} {t:TypeId} {ps:List (Nat×PV)} {y:PV} (hp:∀p∈ps,p.2.shutZ=true) (h:zx P t ps=some y):y.shut=true:=by
 unfold zx at h
 split at h
 ·rename_i pl z _ hz
  obtain⟨r,h1,rfl⟩:=zp h
  exact Yj (XR hz) hp h1
 ·rename_i z _ hz
  split at h
  ·split at h
   ·obtain⟨r,h1,rfl⟩:=zp h
    exact Yj (XR hz) hp h1
   ·cases h
  ·cases h
 ·cases h
theorem XT {ρ:Operand→Option PV}:∀{l:List (Nat×Operand)} {ps:List (Nat×PV)},yE ρ l=some ps→∀p∈ps,∃q∈l,ρ q.2=some p.2
 | [],ps,h,p,hp=>by injection h with h;subst h;cases hp
 | (i,x)::l,ps,h,p,hp=>by
   simp only[yE] at h
   split at h
   ·rename_i y r h1 h2
    injection h with h
    subst h
    rcases List.mem_cons.1 hp with rfl | hp
    ·exact⟨(i,x),by simp,h1⟩
    ·obtain⟨q,hq,e⟩:=XT h2 p hp
     exact⟨q,by simp[hq],e⟩
   ·cases h
theorem zkE {L:List Tmp} {st:St} (h:xi L st) {z:Tmp} (hz:L.contains (z+zB)=true):(st.σ z).shutZ=true:=by
 have:=(h (z+zB) (by simpa using hz)).2 (Nat.le_add_left _ _)
 simpa using this
theorem XU {L:List Tmp} {st:St} (h:xi L st) {parts:List (Nat×Operand)} (hp:(parts.all fun p=>match p.2 with | .tmp z=>L.contains (z+zB) | _=>false)=true) {ps:List (Nat×PV)} (hs:yE (get st.σ) parts=some ps):∀p∈ps,p.2.shutZ=true:=by
 intro p hpm
 obtain⟨q,hq,e⟩:=XT hs p hpm
 have:=List.all_eq_true.1 hp q hq
 split at this
 ·rename_i z hz
  rw[hz] at e
  simp only[get,Option.some.injEq] at e
  rw[←e]
  exact zkE h this
 ·cases this
theorem zs0 {x:PV} (h:x.shut=true):x.shutZ=true:=by cases x<;>first | rfl | exact h
def zeZ (hp:Hp) (nx:Nat):Prop:=∀id b,hp id=some b→id<nx
theorem Qm {hp hp1:Hp} {x y:PV} (h:qh hp x=some (y,hp1)) {id:Nat} {b:Blk} (hb:hp1 id=some b):hp id=some b:=by
 unfold qh at h
 split at h
 ·rename_i k off n
  split at h
  ·rename_i b' hb'
   split at h
   ·injection h with h
    injection h with _ h
    subst h
    by_cases e:id=k
    ·subst e;rw[qd] at hb;cases hb
    ·rwa [zT _ _ _ _ e] at hb
   ·cases h
  ·cases h
 all_goals first
  | (injection h with h;injection h with _ h;subst h;exact hb)
  | (split at h<;>first | (injection h with h;injection h with _ h;subst h;exact hb) | cases h)
  | cases h
theorem Zk:∀{xs ys:List PV} {hp hp1:Hp},zW hp xs=some (ys,hp1)→∀{id:Nat} {b:Blk},hp1 id=some b→hp id=some b
 | [],ys,hp,hp1,h,id,b,hb=>by
   simp only[zW] at h
   injection h with h;injection h with _ h;subst h;exact hb
 | x::l,ys,hp,hp1,h,id,b,hb=>by
   simp only[zW] at h
   split at h
   ·rename_i y hp2 h1
    split at h
    ·rename_i r hp3 h2
     injection h with h;injection h with _ h;subst h
     exact Qm h1 (Zk h2 hb)
    ·cases h
   ·cases h
theorem Q6 {hp hp1:Hp} {x y:PV} (h:zE hp x=some (y,hp1)) {id:Nat} {b:Blk} (hb:hp1 id=some b):hp id=some b:=by
 unfold zE at h
 split at h
 ·split at h
  ·rename_i l h2 hf
   injection h with h;injection h with _ h;subst h
   exact Zk hf hb
  ·cases h
 ·exact Qm h hb
theorem Zl:∀{ps qs:List (Nat×PV)} {hp hp1:Hp},zf hp ps=some (qs,hp1)→∀{id:Nat} {b:Blk},hp1 id=some b→hp id=some b
 | [],qs,hp,hp1,h,id,b,hb=>by
   simp only[zf] at h
   injection h with h;injection h with _ h;subst h;exact hb
 | (i,x)::l,qs,hp,hp1,h,id,b,hb=>by
   simp only[zf] at h
   split at h
   ·rename_i y hp2 h1
    split at h
    ·rename_i r hp3 h2
     injection h with h;injection h with _ h;subst h
     exact Q6 h1 (Zl h2 hb)
    ·cases h
   ·cases h
theorem ze0 {hp:Hp} {nx:Nat} (h:∀id b,hp id=some b→id<nx) (x:Blk):zeZ (upd hp nx (some x)) (nx+1):=by
 intro id b hb
 by_cases e:id=nx
 ·omega
 ·rw[zT _ _ _ _ e] at hb
  have:=h id b hb
  omega
theorem zkF {P:Program} {hp hp':Hp} {t:TypeId} {p x:PV} (h:vH P hp t p x=some hp') {nx:Nat} (ht:zeZ hp nx):zeZ hp' nx:=by
 unfold vH at h
 split at h
 ·rename_i k i j
  split at h
  ·rename_i b0 hb0
   split at h
   ·rename_i y hp1 hf
    have h1:∀id b,hp1 id=some b→hp id=some b:=fun id b hb=>by
     split at hf
     ·exact Q6 hf hb
     ·injection hf with hf;injection hf with _ hf;subst hf;exact hb
    split at h
    ·split at h
     ·split at h
      ·injection h with h
       subst h
       intro id b hb
       by_cases e:id=k
       ·subst e;exact ht id b0 hb0
       ·rw[zT _ _ _ _ e] at hb
        exact ht id b (h1 id b hb)
      ·cases h
     ·cases h
    ·cases h
   ·cases h
  ·cases h
 ·cases h
theorem zix {P:Program} {hp hp':Hp} {nx nx':Nat} {t u:TypeId} {s x y:PV} (h:qY P hp nx t u s x=some (y,hp',nx')) (ht:zeZ hp nx):zeZ hp' nx':=by
 unfold qY at h
 split at h
 ·split at h
  ·split at h
   ·split at h
    ·split at h
     ·split at h
      ·injection h with h;injection h with _ h;injection h with e1 e2
       subst e1;subst e2
       exact ht
      ·injection h with h;injection h with _ h;injection h with e1 e2
       subst e1;subst e2
       exact ze0 ht _
     ·cases h
    ·split at h
     ·rename_i k _ _ b hb0
      split at h
      ·injection h with h;injection h with _ h;injection h with e1 e2
       subst e1;subst e2
       refine ze0 (fun id b' hb=>?_) _
       unfold upd at hb
       split at hb
       ·cases hb
       ·exact ht id b' hb
      ·cases h
     ·cases h
    ·cases h
   ·cases h
  ·cases h
 ·cases h
theorem zkG {P:Program} {hp hp':Hp} {nx nx':Nat} {t:TypeId} {len:Nat} {ps:List (Nat×PV)} {y:PV} (h:zh P hp nx t len ps=some (y,hp',nx')) (ht:zeZ hp nx):zeZ hp' nx':=by
 unfold zh at h
 split at h
 ·split at h
  ·rename_i n zz qs hp1 _ _ hfp
   split at h
   ·split at h
    ·injection h with h
     injection h with _ h
     injection h with e1 e2
     subst e1;subst e2
     exact ze0 (fun id b hb=>ht id b (Zl hfp hb)) _
    ·cases h
   ·cases h
  ·cases h
 ·cases h
theorem zkH (hpf:∀g spec,pf g=true→C.Γ g=some spec→Zg spec) {op:Op} (ho:zuU pf op=true) {σ:Nat→PV} {hp hp':Hp} {nx nx':Nat} {y:PV} (h:zw C (get σ) hp nx op=some (y,hp',nx')) (ht:zeZ hp nx):zeZ hp' nx':=by
 simp only[zuU,Bool.or_eq_true,decide_eq_true_eq] at ho
 rcases ho with ho | ho
 ·obtain⟨rfl,rfl⟩:=zpX hpf ho h
  exact ht
 ·split at ho
  ·simp only[zw] at h
   split at h
   ·obtain⟨h2,e1,e2⟩:=zp h
    injection e2 with _ e2
    injection e2 with e2 e3
    subst e2;subst e3
    exact zkF e1 ht
   ·cases h
  ·simp only[zw,jc] at h
   split at h
   ·simp only[qr] at h
    split at h
    ·exact zix h ht
    ·cases h
   ·cases h
  ·simp only[zw] at h
   split at h
   ·exact zkG h ht
   ·cases h
  ·obtain⟨bb,e1,e2⟩:=Kj h
   subst e1;subst e2
   intro id b hb
   unfold upd at hb
   split at hb
   ·omega
   ·have:=ht id b hb;omega
  ·cases ho
theorem zkI {P:Program} {hp hp':Hp} {t:TypeId} {p y:PV} (hs:∀id b,hp id=some b→hp' id=some b) (h:jZ P hp t p=some y):jZ P hp' t p=some y:=by
 cases p with
 | ref id i j =>
   simp only[jZ] at h ⊢
   cases hb:hp id with
   | none=>rw[hb] at h;cases h
   | some b=>rw[hb] at h;rw[hs id b hb];exact h
 | _=>exact h
theorem V3 {P:Program} {hp hp':Hp} {t:TypeId} {p q y:PV} (hs:∀id b,hp id=some b→hp' id=some b) (h:zI P hp t p q=some y):zI P hp' t p q=some y:=by
 by_cases hno:∀id o n,p≠.own id o n
 ·rw[xt (hp:=hp) hno];exact h
 ·have:∃id o n,p=.own id o n:=by
   refine Classical.byContradiction fun hc=>hno fun id o n e=>hc ⟨id,o,n,e⟩
  obtain⟨id,o,n,rfl⟩:=this
  cases q with
  | v z =>
    cases z with
    | int k i =>
      simp only[zI] at h ⊢
      cases he:qG P t with
      | none=>rw[he] at h;exact h
      | some e =>
        rw[he] at h
        simp only at h ⊢
        cases hz:zS P e with
        | none=>rw[hz] at h;cases h
        | some m =>
          rw[hz] at h
          simp only at h ⊢
          cases hb:hp id with
          | none=>rw[hb] at h;cases h
          | some b=>rw[hb] at h;rw[hs id b hb];exact h
    | _=>cases h
  | _=>cases h
theorem zkJ {op:Op} (ho:Kh op=true) {σ:Nat→PV} {hp hp':Hp} {nx nx':Nat} {y:PV} {h1:Hp} {n1:Nat} (hs:∀id b,hp id=some b→hp' id=some b) (h:zw C (get σ) hp nx op=some (y,h1,n1)):zw C (get σ) hp' nx' op=some (y,hp',nx'):=by
 unfold Kh at ho
 split at ho
 ·rename_i t a
  simp only[zw,get] at h ⊢
  obtain⟨z,e1,e2⟩:=zp h
  injection e2 with e2 _
  subst e2
  rw[zkI hs e1]
  rfl
 ·rename_i t a i
  simp only[zw,show get σ (.tmp a)=some (σ a) from rfl] at h ⊢
  cases hq:get σ i with
  | none=>rw[hq] at h;cases h
  | some q =>
    rw[hq] at h
    obtain⟨z,e1,e2⟩:=zp h
    injection e2 with e2 _
    subst e2
    simp only[V3 hs e1]
    rfl
 ·cases ho
theorem ziy {op:Op} (h:Kh op=true):(∃t a,op=.load t (.tmp a))∨∃t a i,op=.indexAddr t (.tmp a) i:=by
 unfold Kh at h
 split at h
 ·exact .inl ⟨_,_,rfl⟩
 ·exact .inr ⟨_,_,_,rfl⟩
 ·cases h
theorem zkK {L:List Tmp} {t:TypeId} {len:Nat} {parts:Array (Nat×Operand)} {st:St} (hL:xi L st) (hsl:Q4 L (.buildSlice t len parts)=true) {hp':Hp} {nx':Nat} {z:PV} (h:zw C (get st.σ) st.hp st.nx (.buildSlice t len parts)=some (z,hp',nx')):∃b,hp'=upd st.hp st.nx b∧nx'=st.nx+1:=by
 simp only[Q4] at hsl
 simp only[zw] at h
 split at h
 ·rename_i ps hps
  have hps':=XU hL hsl hps
  unfold zh at h
  split at h
  ·split at h
   ·rename_i n zz qs hp1 _ _ hfp
    have e0:=XQ hps' hfp
    subst e0
    split at h
    ·split at h
     ·injection h with h
      injection h with _ h
      injection h with e1 e2
      exact⟨_,e1.symm,e2.symm⟩
     ·cases h
    ·cases h
   ·cases h
  ·cases h
 ·cases h
theorem znP (hpf:∀g spec,pf g=true→C.Γ g=some spec→Zg spec) {L:List Tmp} {ops:Array Oper} {l c:Oper} (hh:zuE pf L ops l c=true) {st st':St} (hL:xi L st) (ht:zeZ st.hp st.nx) (hs:(q9 C ops l st).bind (q9 C ops c)=some st'):(q9 C ops c st).bind (q9 C ops l)=some st':=by
 simp only[zuE,Bool.and_eq_true,Option.isNone_iff_eq_none] at hh
 obtain⟨⟨⟨⟨⟨_,hap⟩,gl⟩,gc⟩,hlk⟩,hsl⟩:=hh
 have hkl:jG pf l.op≤1:=by
  rcases Bool.or_eq_true_iff.1 hlk with hlk | hlk
  ·rcases ziy hlk with⟨t,a,e⟩ | ⟨t,a,i,e⟩<;>simp[e,jG]
  ·unfold Ki at hlk
   split at hlk
   ·rename_i g aZ ts hop
    simp[hop,jG,hlk]
   ·cases hlk
 have hno:st.hp st.nx=none:=by
  cases hx:st.hp st.nx with
  | none=>rfl
  | some b=>have:=ht _ b hx;omega
 cases hv:jT C ops l st.σ st.hp st.nx with
 | none=>rw[qA,hv] at hs;cases hs
 | some q =>
   obtain⟨y,h1,n1⟩:=q
   rw[←JP hap (fun hp nx y hp' nx' h=>vO hpf hkl h) (fun z hp' nx' h=>?_)]
   ·exact hs
   ·rw[wp gc] at h
    have hnew:∃b,hp'=upd st.hp st.nx b∧nx'=st.nx+1:=by
     rcases Bool.or_eq_true_iff.1 hsl with hsl | hsl
     ·have hsl0:=hsl
      unfold Q4 at hsl
      split at hsl
      ·rename_i t len parts hop
       rw[hop] at h hsl0
       exact zkK hL hsl0 h
      ·cases hsl
     ·unfold zpY at hsl
      split at hsl
      ·rename_i t hop
       rw[hop] at h
       exact Kj h
      ·cases hsl
    obtain⟨b,rfl,rfl⟩:=hnew
    rcases Bool.or_eq_true_iff.1 hlk with hlk | hlk
    ·have hmon:∀id b',st.hp id=some b'→upd st.hp st.nx b id=some b':=fun id b' hb=>by
      rw[zT _ _ _ _ (by have:=ht id b' hb;omega)]
      exact hb
     rw[wp gl] at hv ⊢
     rw[wp gl,hv,zkJ hlk hmon hv]
     rfl
    ·unfold Ki at hlk
     split at hlk
     ·rename_i g aZ ts hop
      rw[wp gl,hop] at hv ⊢
      rw[wp gl,hop,hv]
      have key:zw C (get st.σ) (upd st.hp st.nx b) (st.nx+1) (.call ⟨.value (.func g),aZ,ts⟩)=some (y,upd st.hp st.nx b,st.nx+1):=by
       simp only[zw,jc] at hv ⊢
       cases hxs:qu (aZ.toList.map (get st.σ)) with
       | none=>rw[hxs] at hv;cases hv
       | some xs =>
         rw[hxs] at hv
         simp only[get,wg] at hv ⊢
         cases hsp:C.Γ g with
         | none=>rw[hsp] at hv;cases hv
         | some spec =>
           rw[hsp] at hv
           exact (hpf g spec hlk hsp _ _ _ _ _ _ hv).2 b hno
      rw[key]
      rfl
     ·cases hlk
def zwK (D:List (Tmp×Tmp)) (L:List Tmp) (st:St):Prop:=(xM D st∧xi L st)∧(zsF L=true→zeZ st.hp st.nx)
theorem ziz (hpf:∀g spec,pf g=true→C.Γ g=some spec→Zg spec) {bk:FuncId→Bool} (hbk:∀g spec,bk g=true→C.Γ g=some spec→vr spec) {D:List (Tmp×Tmp)} {L:List Tmp} {ops:Array Oper} (hpl:zeV pf D L bk ops=true) {i:Nat} {o:Oper} {st st':St} (ho:ops[i]?=some o) (hA:xM D st∧zsQ L st) (hs:q9 C ops o st=some st'):xM D st'∧zsQ L st':=by
  simp only[zeV,Bool.or_eq_true,Bool.and_eq_true] at hpl
  rcases hpl with⟨hD,hL⟩ | hpl
  ·have hD:D=[]:=by simpa using hD
   have hL:L=[]:=by simpa using hL
   subst hD;subst hL
   exact⟨(fun p hp=>(by cases hp)),(fun s hs=>(by cases hs))⟩
  have h0:=Array.all_eq_true'.1 hpl o (Array.mem_of_getElem? ho)
  simp only[Bool.and_eq_true,Bool.or_eq_true,decide_eq_true_eq] at h0
  obtain⟨⟨hd,hld⟩,hk⟩:=h0
  rw[qA] at hs
  obtain⟨r,hr,hst⟩:=zp hs
  obtain⟨y,hp1,nx1⟩:=r
  subst hst
  have hbox:(∀id blk,st.hp id=some blk→blk.arr=false→D.all (fun p=>L.contains p.2)=false∨id<st.nx→∃b',hp1 id=some b'∧b'.arr=false)∧st.nx≤nx1:=by
   have hfresh:∀{op:Op},o.op=op→zcG bk op=true→D.all (fun p=>L.contains p.2)=true→(∀id blk,st.hp id=some blk→blk.arr=false→D.all (fun p=>L.contains p.2)=false∨id<st.nx→∃b',hp1 id=some b'∧b'.arr=false)∧st.nx≤nx1:=by
    intro op hop hf hDL
    unfold jT at hr
    split at hr
    ·rw[hop] at hr
     obtain⟨e1,e2⟩:=XN hbk hf hr
     refine⟨fun id blk h1 h2 h3=>?_,e1⟩
     rcases h3 with h3 | h3
     ·rw[hDL] at h3;cases h3
     ·exact⟨blk,e2 id blk h3 h1 h2,h2⟩
    ·injection hr with hr
     injection hr with _ hr
     injection hr with e1 e2
     subst e1;subst e2
     exact⟨fun id blk h1 h2 _=>⟨blk,h1,h2⟩,Nat.le_refl _⟩
   rcases hk with hk | hk
   ·obtain⟨rfl,rfl⟩:=vO hpf hk hr
    exact⟨fun id blk h1 h2 _=>⟨blk,h1,h2⟩,Nat.le_refl _⟩
   ·split at hk
    ·rename_i t q x hop
     unfold jT at hr
     split at hr
     ·rw[hop] at hr
      simp only[zw] at hr
      split at hr
      ·obtain⟨h2,e1,e2⟩:=zp hr
       injection e2 with _ e2
       injection e2 with e2 e3
       subst e2;subst e3
       exact⟨fun id blk h1 h2 _=>zkA e1 h1 h2,Nat.le_refl _⟩
      ·cases hr
     ·injection hr with hr
      injection hr with _ hr
      injection hr with e1 e2
      subst e1;subst e2
      exact⟨fun id blk h1 h2 _=>⟨blk,h1,h2⟩,Nat.le_refl _⟩
    ·rename_i g aZ ts hop
     simp only[Bool.and_eq_true] at hk
     exact hfresh hop (by simpa[zcG] using hk.2) hk.1
    ·rename_i aZ ts hop
     exact hfresh hop rfl hk
    ·rename_i t n ps hop
     exact hfresh hop rfl hk
    ·rename_i t hop
     exact hfresh hop rfl hk
    ·cases hk
  refine⟨fun p hp=>?_,fun s hsL=>?_⟩
  rotate_left
  ·have hl:=List.all_eq_true.1 hld s hsL
   simp only[Bool.or_eq_true,bne_iff_ne] at hl
   have hlow:(∀id o' n,put st.σ o.dst y s≠.own id o' n)∧∀id i' j',put st.σ o.dst y s=.ref id i' j'→id<st.nx∧∃blk,st.hp id=some blk∧blk.arr=false:=by
    by_cases hds:o.dst=some s
    ·have hps:put st.σ o.dst y s=y:=by rw[hds];exact qd _ _ _
     rw[hps]
     rcases hl with hl | hl
     ·exact absurd hds hl
     ·split at hl
      ·rename_i t b f hop
       obtain⟨hbo,hbr⟩:=hA.2 b (by simpa using hl)
       unfold jT at hr
       split at hr
       ·rw[hop] at hr
        simp only[zw,get] at hr
        obtain⟨z,e1,e2⟩:=zp hr
        injection e2 with e2 _
        subst e2
        refine⟨fun id o' n e=>?_,fun id i' j' e=>?_⟩
        ·subst e;exact V1 e1
        ·subst e
         obtain⟨i0,j0,e3⟩:=Qk e1
         exact hbr _ _ _ e3
       ·injection hr with hr
        injection hr with hr _
        subst hr
        exact⟨(fun _ _ _ e=>by cases e),(fun _ _ _ e=>by cases e)⟩
      ·rename_i t b ix hop
       obtain⟨hbo,hbr⟩:=hA.2 b (by simpa using hl)
       unfold jT at hr
       split at hr
       ·rw[hop] at hr
        simp only[zw,get] at hr
        split at hr
        ·rename_i p0 q0 hp0 hq0
         simp only[Option.some.injEq] at hp0
         subst hp0
         obtain⟨z,e1,e2⟩:=zp hr
         injection e2 with e2 _
         subst e2
         refine⟨fun id o' n e=>?_,fun id i' j' e=>?_⟩
         ·subst e;exact V2 e1
         ·subst e
          obtain⟨i0,j0,e3⟩:=Ql e1 hbo
          exact hbr _ _ _ e3
        ·cases hr
       ·injection hr with hr
        injection hr with hr _
        subst hr
        exact⟨(fun _ _ _ e=>by cases e),(fun _ _ _ e=>by cases e)⟩
      ·cases hl
    ·have hps:put st.σ o.dst y s=st.σ s:=yH (fun e he=>by rintro rfl;exact hds he)
     rw[hps]
     exact hA.2 s hsL
   refine⟨hlow.1,fun id i' j' e=>?_⟩
   obtain⟨h1,blk,h2,h3⟩:=hlow.2 id i' j' e
   exact⟨Nat.lt_of_lt_of_le h1 hbox.2,hbox.1 id blk h2 h3 (.inr h1)⟩
  ·have hd:=List.all_eq_true.1 hd p hp
   simp only[Bool.and_eq_true,Bool.or_eq_true,bne_iff_ne] at hd
   obtain⟨hd2,hd1⟩:=hd
   have hpb:put st.σ o.dst y p.2=st.σ p.2:=yH (fun e he=>by rintro rfl;exact hd2 he)
   have hbase:∀id i j,put st.σ o.dst y p.1=.ref id i j→∃id' i' j' blk,st.σ p.2=.ref id' i' j'∧id≠id'∧st.hp id'=some blk∧blk.arr=false:=by
    intro id i j e
    by_cases hds:o.dst=some p.1
    ·have hps:put st.σ o.dst y p.1=y:=by rw[hds];exact qd _ _ _
     rw[hps] at e
     subst e
     rcases hd1 with hd1 | hd1
     ·exact absurd hds hd1
     ·split at hd1
      ·rename_i t b f hop
       unfold jT at hr
       split at hr
       ·rw[hop] at hr
        simp only[zw,get] at hr
        obtain⟨z,e1,e2⟩:=zp hr
        injection e2 with e2 _
        subst e2
        obtain⟨i0,j0,e3⟩:=Qk e1
        exact hA.1 (b,p.2) (by simpa using hd1) _ _ _ e3
       ·injection hr with hr
        injection hr with hr _
        cases hr
      ·rename_i t b ix hop
       simp only[Bool.and_eq_true] at hd1
       obtain⟨hbo,hbr⟩:=hA.2 b (by simpa using hd1.2)
       unfold jT at hr
       split at hr
       ·rw[hop] at hr
        simp only[zw,get] at hr
        split at hr
        ·rename_i p0 q0 hp0 hq0
         simp only[Option.some.injEq] at hp0
         subst hp0
         obtain⟨z,e1,e2⟩:=zp hr
         injection e2 with e2 _
         subst e2
         obtain⟨i0,j0,e3⟩:=Ql e1 hbo
         exact hA.1 (b,p.2) (by simpa using hd1.1) _ _ _ e3
        ·cases hr
       ·injection hr with hr
        injection hr with hr _
        cases hr
      ·cases hd1
    ·have hps:put st.σ o.dst y p.1=st.σ p.1:=yH (fun e he=>by rintro rfl;exact hds he)
     rw[hps] at e
     exact hA.1 p hp id i j e
   intro id i j e
   obtain⟨id',i',j',blk,eb,hne,hbl,harr⟩:=hbase id i j e
   have hcase:D.all (fun p=>L.contains p.2)=false∨id'<st.nx:=by
    cases hDL:D.all (fun p=>L.contains p.2)
    ·exact .inl rfl
    ·refine .inr ?_
     have:=List.all_eq_true.1 hDL p hp
     exact ((hA.2 p.2 (by simpa using this)).2 id' i' j' eb).1
   obtain⟨b',hb1,hb2⟩:=hbox.1 id' blk hbl harr hcase
   exact⟨id',i',j',b',by show put st.σ o.dst y p.2=_;rw[hpb];exact eb,hne,hb1,hb2⟩
theorem zs1 (hpf:∀g spec,pf g=true→C.Γ g=some spec→Zg spec) {L:List Tmp} {ops:Array Oper} (hz:zkz pf L ops=true) (hh:zsF L=true) {i:Nat} {o:Oper} {st st':St} (ho:ops[i]?=some o) (hA:xi L st) (ht:zeZ st.hp st.nx) (hs:q9 C ops o st=some st') :
  (∀s∈L,zB≤s→(st'.σ (s - zB)).shutZ=true)∧zeZ st'.hp st'.nx:=by
 simp only[zkz,hh,Bool.not_true,Bool.false_or] at hz
 have h0:=Array.all_eq_true'.1 hz o (Array.mem_of_getElem? ho)
 simp only[Bool.and_eq_true] at h0
 obtain⟨htop,hall⟩:=h0
 rw[qA] at hs
 obtain⟨r,hr,hst⟩:=zp hs
 obtain⟨y,hp1,nx1⟩:=r
 subst hst
 refine⟨fun s hsL hle=>?_,?_⟩
 ·have hb:=List.all_eq_true.1 hall s hsL
  simp only[Bool.or_eq_true,decide_eq_true_eq,bne_iff_ne,Bool.and_eq_true,Option.isNone_iff_eq_none] at hb
  by_cases hd:o.dst=some (s - zB)
  ·have hps:put st.σ o.dst y (s - zB)=y:=by rw[hd];exact qd _ _ _
   show (put st.σ o.dst y (s - zB)).shutZ=true
   rw[hps]
   rcases hb with (hb | hb) | ⟨hg,hb⟩
   ·exact absurd hb (Nat.not_lt.2 hle)
   ·exact absurd hd hb
   ·rw[wp hg] at hr
    split at hb
    ·rename_i b hop
     rw[hop] at hr
     simp only[zw,get,Option.map_some] at hr
     injection hr with hr
     injection hr with hr _
     rw[←hr]
     exact zkE hA hb
    ·rename_i t parts hop
     rw[hop] at hr
     simp only[zw] at hr
     split at hr
     ·rename_i ps hps2
      obtain⟨z,e1,e2⟩:=zp hr
      injection e2 with e2 _
      subst e2
      exact zs0 (zeY (XU hA hb hps2) e1)
     ·cases hr
    ·cases hb
  ·have hps:put st.σ o.dst y (s - zB)=st.σ (s - zB):=yH (fun e he hne=>hd (by rw[he,hne]))
   show (put st.σ o.dst y (s - zB)).shutZ=true
   rw[hps]
   exact (hA s hsL).2 hle
 ·show zeZ hp1 nx1
  unfold jT at hr
  split at hr
  ·exact zkH hpf htop hr ht
  ·injection hr with hr
   injection hr with _ hr
   injection hr with e1 e2
   subst e1;subst e2
   exact ht
theorem znQ (hpf:∀g spec,pf g=true→C.Γ g=some spec→Zg spec) {bk:FuncId→Bool} (hbk:∀g spec,bk g=true→C.Γ g=some spec→vr spec) {D:List (Tmp×Tmp)} {L:List Tmp} {ops:Array Oper} (hpl:zg2 pf D L bk ops=true):CommOk C ops (znL pf D L bk ops) (zwK D L):=by
 simp only[zg2,Bool.and_eq_true] at hpl
 obtain⟨hz,hpl⟩:=hpl
 refine⟨fun i o st st' ho hA hs=>?_,fun i j a b st st' ha hb hcm hA hs=>?_⟩
 ·obtain⟨h1,h2⟩:=ziz hpf hbk hpl ho ⟨hA.1.1,fun s hs=>(hA.1.2 s hs).1⟩ hs
  cases hh:zsF L
  ·refine⟨⟨h1,fun s hsL=>⟨h2 s hsL,fun hle=>?_⟩⟩,fun e=>by rw[hh] at e;cases e⟩
   have:=List.any_eq_false.1 hh s hsL
   simp at this
   omega
  ·obtain⟨h3,h4⟩:=zs1 hpf hz hh ho hA.1.2 (hA.2 hh) hs
   exact⟨⟨h1,fun s hsL=>⟨h2 s hsL,h3 s hsL⟩⟩,fun _=>h4⟩
 ·simp only[znL,Bool.or_eq_true] at hcm
  rcases hcm with (hcm | hcm) | hcm
  ·rw[←zkx hpf hcm st];exact hs
  ·simp only[zsZ,Bool.and_eq_true,Bool.or_eq_true,Option.isNone_iff_eq_none] at hcm
   obtain⟨⟨⟨⟨hap,hap2⟩,ga⟩,gb⟩,hm⟩:=hcm
   rcases hm with hm | hm
   ·rw[←zcH hbk hm ga gb hap hA.1.1 hA.1.2];exact hs
   ·rw[zcH hbk hm gb ga hap2 hA.1.1 hA.1.2];exact hs
  ·have hzz:zsF L=true:=by simp only[zuE,Bool.and_eq_true] at hcm;exact hcm.1.1.1.1.1
   exact znP hpf hcm hA.1.2 (hA.2 hzz) hs
end
end Go.AM
