/-
The abstract machine, part 3: rules to run the evaluator on code that is written out.
-/
import Derived.Test.YtjcofiomfmebkaaGreatDoorG1
import Derived.Test.YtjcofiomfmebkaaGreatDoorG6
import Derived.LoopNIn
import Derived.RangeFuncRecord
import Derived.RangeFuncSeq
set_option maxRecDepth 8000
namespace Go.AM
open Go.RowKit
def EvC (C:Ctx) (code:Code) (st:St) (K:Exit→St→Prop):Prop:=∃e st',zQ C code st=some (e,st')∧K e st'
def EvL (C:Ctx) (ops:Array Oper) (l:List Oper) (st:St) (K:St→Prop):Prop:=∃st',yN C ops l st=some st'∧K st'
def Kk {α:Type} (o:Option α) (K:α→Prop):Prop:=∃x,o=some x∧K x
theorem ze1 {α:Type} {o o':Option α} (K:α→Prop) (h:o=o'):Kk o K=Kk o' K:=by rw[h]
theorem ziA {α:Type} (x:α) (K:α→Prop):Kk (some x) K=K x:=by simp[Kk]
def zcJ (C:Ctx) (o:Option PV) (x y:Code) (st:St) (K:Exit→St→Prop):Prop:=(o=some (.v (.bool true))∧EvC C x st K)∨(o=some (.v (.bool false))∧EvC C y st K)
theorem ze2 {C:Ctx} {o o':Option PV} {x y:Code} {st:St} {K:Exit→St→Prop} (h:o=o'):zcJ C o x y st K=zcJ C o' x y st K:=by rw[h]
theorem ziB (C:Ctx) (x y:Code) (st:St) (K:Exit→St→Prop):zcJ C (some (.v (.bool true))) x y st K=EvC C x st K:=by simp[zcJ]
theorem ze5 (C:Ctx) (x y:Code) (st:St) (K:Exit→St→Prop):zcJ C (some (.v (.bool false))) x y st K=EvC C y st K:=by simp[zcJ]
def ze6 (C:Ctx) (b:Code) (K:Exit→St→Prop) (e:Exit) (st:St):Prop:=match e with
 | .normal=>EvC C b st K
 | e=>K e st
def xO (id:Nat) (K:Exit→St→Prop) (e:Exit) (st:St):Prop:=match e with
 | .exit i=>if i=id then K .normal st else K (.exit i) st
 | e=>K e st
def Yk (K:Exit→St→Prop) (st:St):Prop:=K .normal st
theorem zcK (C:Ctx) (b:Code) (K:Exit→St→Prop) (st:St):ze6 C b K .normal st=EvC C b st K:=rfl
theorem zkL (C:Ctx) (b:Code) (K:Exit→St→Prop) (st:St):ze6 C b K .ret st=K .ret st:=rfl
theorem ziC (C:Ctx) (b:Code) (K:Exit→St→Prop) (i:Nat) (st:St):ze6 C b K (.exit i) st=K (.exit i) st:=rfl
theorem zaK (id:Nat) (K:Exit→St→Prop) (st:St):xO id K .normal st=K .normal st:=rfl
theorem ziD (id:Nat) (K:Exit→St→Prop) (st:St):xO id K .ret st=K .ret st:=rfl
theorem Jo (id:Nat) (K:Exit→St→Prop) (st:St):xO id K (.exit id) st=K .normal st:=by simp[xO]
theorem Q7 {C:Ctx} {code:Code} {st:St} {e0:Exit} {st0:St} (K:Exit→St→Prop) (h:zQ C code st=some (e0,st0)):EvC C code st K=K e0 st0:=by
 unfold EvC
 apply propext
 constructor
 ·rintro⟨e,st',h1,hk⟩
  rw[h] at h1
  obtain⟨rfl,rfl⟩:e0=e∧st0=st':=by simpa using h1
  exact hk
 ·exact fun hk=>⟨_,_,h,hk⟩
theorem znR (C:Ctx) (st:St) (K:Exit→St→Prop):EvC C .skip st K=K .normal st:=Q7 K (by simp only[zQ])
theorem znS (C:Ctx) (id:Nat) (st:St) (K:Exit→St→Prop):EvC C (.exit id) st K=K (.exit id) st:=Q7 K (by simp only[zQ])
theorem zqA (C:Ctx) (st:St) (K:Exit→St→Prop):EvC C .ret st K=K .ret st:=Q7 K (by simp only[zQ])
theorem zkM (C:Ctx) (l:Nat) (st:St) (K:Exit→St→Prop):EvC C (.label l) st K=K .normal st:=Q7 K (by simp only[zQ])
theorem ze7 (C:Ctx) (i:Nat) (ops:Array Oper) (d:Bool) (st0 st:St) (K:Exit→St→Prop) (h3:thaw (C.fz i) st0=some st) (h:xM (C.dyn i) st) (h2:xi (C.lds i) st):EvC C (.region i ops d) st0 K=EvL C ops ops.toList st (Yk K):=by
 unfold EvC EvL Yk
 simp only[zQ,h3,h,h2,and_self,if_true]
 apply propext
 constructor
 ·rintro⟨e,st',h,hk⟩
  split at h
  ·rename_i s hs
   obtain⟨rfl,rfl⟩:Exit.normal=e∧s=st':=by simpa using h
   exact⟨_,hs,hk⟩
  ·cases h
 ·rintro⟨st',h,hk⟩
  exact⟨.normal,st',by rw[h],hk⟩
theorem kB (C:Ctx) (i:Nat) (ops:Array Oper) (d:Bool) (st:St) (K:Exit→St→Prop) (h:xM (C.dyn i) st) (h2:xi (C.lds i) st) (h3:C.fz i=[]:=by rfl):EvC C (.region i ops d) st K=EvL C ops ops.toList st (Yk K) :=
 ze7 C i ops d st st K (by rw[h3];rfl) h h2
theorem vP (C:Ctx) (i:Nat) (ops:Array Oper) (d:Bool) (st:St) (K:Exit→St→Prop) (h:C.dyn i=[]) (h2:C.lds i=[]) (h3:C.fz i=[]:=by rfl):EvC C (.region i ops d) st K=EvL C ops ops.toList st (Yk K):=kB C i ops d st K (by rw[h];intro p hp;cases hp) (by rw[h2];intro p hp;cases hp) h3
theorem ze8 (C:Ctx) (a b:Code) (st:St) (K:Exit→St→Prop):EvC C (.seq a b) st K=EvC C a st (ze6 C b K):=by
 unfold EvC
 simp only[zQ]
 apply propext
 constructor
 ·rintro⟨e,st',h,hk⟩
  split at h
  ·rename_i s hs
   exact⟨.normal,s,hs,e,st',h,hk⟩
  ·rename_i r hr
   refine⟨e,st',h,?_⟩
   cases e<;>simp_all[ze6]
 ·rintro⟨e,st',h,hk⟩
  cases e
  case normal =>
   obtain⟨e2,st2,h2,hk2⟩:=hk
   exact⟨e2,st2,by rw[h];exact h2,hk2⟩
  all_goals exact⟨_,st',by rw[h],hk⟩
theorem znT (C:Ctx) (c:Operand) (x y:Code) (st:St) (K:Exit→St→Prop):EvC C (.cond c x y) st K=zcJ C (get st.σ c) x y st K:=by
 unfold EvC zcJ
 simp only[zQ]
 apply propext
 constructor
 ·rintro⟨e,st',h,hk⟩
  split at h
  ·rename_i hg;exact .inl ⟨hg,e,st',h,hk⟩
  ·rename_i hg;exact .inr ⟨hg,e,st',h,hk⟩
  ·cases h
 ·rintro (⟨hg,e,st',h,hk⟩ | ⟨hg,e,st',h,hk⟩)
  ·exact⟨e,st',by rw[hg];exact h,hk⟩
  ·exact⟨e,st',by rw[hg];exact h,hk⟩
theorem zkN (C:Ctx) (id:Nat) (b:Code) (st:St) (K:Exit→St→Prop):EvC C (.block id b) st K=EvC C b st (xO id K):=by
 unfold EvC
 simp only[zQ]
 apply propext
 constructor
 ·rintro⟨e,st',h,hk⟩
  split at h
  ·rename_i i s hs
   refine⟨.exit i,s,hs,?_⟩
   unfold xO
   split at h
   ·rename_i hi
    obtain⟨rfl,rfl⟩:Exit.normal=e∧s=st':=by simpa using h
    simp[hi,hk]
   ·rename_i hi
    obtain⟨rfl,rfl⟩:Exit.exit i=e∧s=st':=by simpa using h
    simp[hi,hk]
  ·rename_i r hr
   refine⟨e,st',h,?_⟩
   cases e<;>simp_all[xO]
 ·rintro⟨e,st',h,hk⟩
  cases e
  case exit i =>
   unfold xO at hk
   simp only[h]
   by_cases hi:i=id
   ·simp only[hi,if_true] at hk ⊢
    exact⟨_,_,rfl,hk⟩
   ·simp only[hi,if_false] at hk ⊢
    exact⟨_,_,rfl,hk⟩
  all_goals exact⟨_,st',by rw[h],hk⟩
def zvL (C:Ctx) (b:Code) (K:Exit→St→Prop) (e:Exit) (st:St):Prop:=match e with
 | .normal=>EvC C b st K
 | _=>False
def zuV (I:Nat→Hp→Nat→Prop) (k:Nat) (σ:Nat→PV) (K:Exit→St→Prop) (e:Exit) (st:St):Prop:=match e with
 | .normal=>I (k+1) st.hp st.nx
 | .ret=>K .ret ⟨σ,st.hp,st.nx⟩
 | .exit i=>K (.exit i) ⟨σ,st.hp,st.nx⟩
 | _=>False
theorem zkO {C:Ctx} {f:Operand} {ps:Array Tmp} {a b:Code} {st:St} {K:Exit→St→Prop} {p:Tmp} {g:FuncId} {cap:List PV} {it:jY} {xs:List PV} {hp1:Hp}
  (hps:ps.toList=[p]) (hf:get st.σ f=some (.fn (.func g) [] cap)) (hit:C.it g=some it) (hx:it cap st.hp=some (xs,hp1)) (I:Nat→Hp→Nat→Prop) (h0:I 0 hp1 st.nx)
  (round:∀k hp nx (hk:k<xs.length),I k hp nx→EvC C a ⟨upd st.σ p xs[k],hp,nx⟩ (zvL C b (zuV I k st.σ K))) (hend:∀hp nx,I xs.length hp nx→K .normal ⟨st.σ,hp,nx⟩):EvC C (.rangeFunc f ps a b) st K:=by
 have key:∀d k hp nx,xs.length - k=d→k≤xs.length→I k hp nx→∃e hp2 nx2,Qz (zQ C a) (zQ C b) st.σ p (xs.drop k) hp nx=some (e,hp2,nx2)∧K e ⟨st.σ,hp2,nx2⟩:=by
  intro d
  induction d with
  | zero =>
    intro k hp nx hd hk hI
    obtain rfl:k=xs.length:=by omega
    exact⟨.normal,hp,nx,by rw[List.drop_length];rfl,hend hp nx hI⟩
  | succ d ih =>
    intro k hp nx hd hk hI
    have hlt:k<xs.length:=by omega
    obtain⟨e1,s1,h1,h2⟩:=round k hp nx hlt hI
    rw[List.drop_eq_getElem_cons hlt]
    simp only[Qz,h1]
    cases e1<;>try exact h2.elim
    obtain⟨e2,s2,h3,h4⟩:=h2
    simp only[h3]
    cases e2<;>try exact h4.elim
    ·exact ih (k+1) s2.hp s2.nx (by omega) (by omega) h4
    ·exact⟨_,_,_,rfl,h4⟩
    ·exact⟨_,_,_,rfl,h4⟩
 obtain⟨e,hp2,nx2,h1,h2⟩:=key _ 0 hp1 st.nx rfl (Nat.zero_le _) h0
 rw[List.drop_zero] at h1
 exact⟨e,⟨st.σ,hp2,nx2⟩,by simp only[zQ,hps,hf,hit,hx,h1],h2⟩
theorem zqB (C:Ctx) (ops:Array Oper) (st:St) (K:St→Prop):EvL C ops [] st K=K st:=by simp[EvL,yN]
def zqC (C:Ctx) (ops:Array Oper) (l:List Oper) (K:St→Prop) (st:St):Prop:=EvL C ops l st K
theorem znU (C:Ctx) (ops:Array Oper) (l:List Oper) (K:St→Prop) (st:St):zqC C ops l K st=EvL C ops l st K:=rfl
theorem znV (C:Ctx) (ops:Array Oper) (o:Oper) (l:List Oper) (st:St) (K:St→Prop):EvL C ops (o::l) st K=Kk (q9 C ops o st) (zqC C ops l K):=by
 unfold EvL Kk zqC EvL
 simp only[yN]
 apply propext
 constructor
 ·rintro⟨st',h,hk⟩
  split at h
  ·rename_i s hs;exact⟨s,hs,st',h,hk⟩
  ·cases h
 ·rintro⟨s,hs,st',h,hk⟩
  exact⟨st',by rw[hs];exact h,hk⟩
theorem zl (C:Ctx) (b:Code) (st:St) (K:Exit→St→Prop):EvC C (.loop b) st K=EvC C b st (ze6 C (.loop b) K):=by
 unfold EvC
 simp only[zQ]
 rw[zcq]
 apply propext
 constructor
 ·rintro⟨e,st',h,hk⟩
  split at h
  ·rename_i s hs
   exact⟨.normal,s,hs,e,st',by simpa only[zQ] using h,hk⟩
  ·rename_i r hr
   refine⟨e,st',h,?_⟩
   cases e<;>simp_all[ze6]
 ·rintro⟨e,st',h,hk⟩
  cases e
  case normal =>
   obtain⟨e2,st2,h2,hk2⟩:=hk
   exact⟨e2,st2,by rw[h];simpa only[zQ] using h2,hk2⟩
  all_goals exact⟨_,st',by rw[h],hk⟩
def zg3 (I:St→Prop) (μ:St→Nat) (n:Nat) (K:Exit→St→Prop) (e:Exit) (st:St):Prop:=match e with
 | .normal=>I st∧μ st<n
 | e=>K e st
theorem zaL (I:St→Prop) (μ:St→Nat) (n:Nat) (K:Exit→St→Prop) (st:St):zg3 I μ n K .normal st=(I st∧μ st<n):=rfl
theorem ziE (I:St→Prop) (μ:St→Nat) (n:Nat) (K:Exit→St→Prop) (st:St):zg3 I μ n K .ret st=K .ret st:=rfl
theorem zfa (I:St→Prop) (μ:St→Nat) (n i:Nat) (K:Exit→St→Prop) (st:St):zg3 I μ n K (.exit i) st=K (.exit i) st:=rfl
theorem EvC.mono {C:Ctx} {code:Code} {st:St} {K K':Exit→St→Prop} (h:EvC C code st K) (hk:∀e st,K e st→K' e st):EvC C code st K' :=
 let ⟨e,st',h1,h2⟩:=h
 ⟨e,st',h1,hk _ _ h2⟩
theorem kX {C:Ctx} {b:Code} {st:St} {K:Exit→St→Prop} (I:St→Prop) (μ:St→Nat) (h0:I st) (round:∀st,I st→EvC C b st (zg3 I μ (μ st) K)):EvC C (.loop b) st K:=by
 have key:∀n st,μ st=n→I st→EvC C (.loop b) st K:=by
  intro n
  induction n using Nat.strongRecOn with
  | _ n ih =>
    intro st hn hI
    rw[zl]
    refine (round st hI).mono fun e st' hk=>?_
    cases e
    case normal=>exact ih (μ st') (hn ▸ hk.2) st' rfl hk.1
    all_goals exact hk
 exact key _ st rfl h0
def zcL (P:Program) (fn:Func) (R:PV→Hp→Nat→Prop) (e:Exit) (st:St):Prop:=match e with
 | .normal | .ret=>Kk (jd P fn st) (fun x=>R x st.hp st.nx)
 | _=>False
theorem zfb (P:Program) (fn:Func) (R:PV→Hp→Nat→Prop) (st:St):zcL P fn R .normal st=Kk (jd P fn st) (fun x=>R x st.hp st.nx):=rfl
theorem znW (P:Program) (fn:Func) (R:PV→Hp→Nat→Prop) (st:St):zcL P fn R .ret st=Kk (jd P fn st) (fun x=>R x st.hp st.nx):=rfl
theorem zM {C:Ctx} {fn:Func} {code:Code} {args:List PV} {hp:Hp} {nx:Nat} {R:PV→Hp→Nat→Prop} (hb:fn.body=some code)
  (h:EvC C code ⟨yF args,hp,nx⟩ (zcL C.P fn R)):∃x hp' nx',q8 C fn args hp nx=some (x,hp',nx')∧R x hp' nx':=by
 obtain⟨e,st,h1,h2⟩:=h
 unfold q8
 simp only[hb,h1]
 unfold zcL at h2
 split at h2
 ·obtain⟨x,hx,hR⟩:=h2
  exact⟨x,st.hp,st.nx,by simp[hx],hR⟩
 ·obtain⟨x,hx,hR⟩:=h2
  exact⟨x,st.hp,st.nx,by simp[hx],hR⟩
 ·exact h2.elim
def qe (r:PV) (x:PV) (hp:Hp) (_:Nat):Prop:=(freeze hp x).map (·.1)=some r
theorem zb {C:Ctx} {fn:Func} {code:Code} {args:List PV} {r:PV} (hb:fn.body=some code)
  (h:EvC C code ⟨yF args,fun _=>none,0⟩ (zcL C.P fn (qe r))):zg C fn args=some r:=by
 obtain⟨x,hp',nx',h1,h2⟩:=zM hb h
 unfold zg
 simp only[h1]
 exact h2
theorem xu (d:Option Tmp) (op:Op) (t:TypeId) (p:String) (af:Array Edge) (y:Nat→Option Bool):Region.wanted ⟨d,op,t,p,af,none⟩ y=true:=rfl
theorem znX (C:Ctx) (ops:Array Oper) (d:Option Tmp) (op:Op) (t:TypeId) (p:String) (af:Array Edge) (st:St):q9 C ops ⟨d,op,t,p,af,none⟩ st =
  (zw C (get st.σ) st.hp st.nx op).map fun r=>⟨put st.σ d r.1,r.2.1,r.2.2⟩:=by
 simp only[q9,xu,if_true]
 cases zw C (get st.σ) st.hp st.nx op<;>rfl
variable {dr:Prop}
section
variable {C:Ctx} {pf:FuncId→Bool}
def kC (listed:Array Bool) (k:Nat):Prop:=listed.getD k false=true
theorem Kl {i n:Nat} (h:i<n):List.range n=List.range i++i::List.range' (i+1) (n - i - 1):=by
 have h1:List.range n=List.range' 0 i++List.range' i (n - i):=by
  rw[List.range_eq_range',show List.range' 0 n=List.range' 0 (i+(n - i)) from by rw[show i+(n - i)=n from by omega],←List.range'_append_1]
  simp
 rw[h1,List.range_eq_range']
 congr 1
 rw[show n - i=(n - i - 1)+1 from by omega,List.range'_succ]
 simp
theorem znY {ops:Array Oper} {cm:Oper→Oper→Bool} {A:St→Prop} (hcm:CommOk C ops cm A) (hok:zcF cm ops=true):∀(fuel t:Nat) (listed:Array Bool) (st:St),A st→listed.size=ops.size→Kd ops (kC listed) →
  ((List.range ops.size).filter fun i=>!listed.getD i true).length≤fuel →
  ∀r:St,wN C ops ((List.range ops.size).filter fun i=>!listed.getD i true) st=some r→wN C ops (Region.linearise.go .any ops fuel t listed []) st=some r:=by
 intro fuel
 induction fuel with
 | zero =>
   intro t listed st _ _ _ hc r hr
   rw[List.eq_nil_of_length_eq_zero (Nat.le_zero.1 hc)] at hr
   exact hr
 | succ fuel ih =>
   intro t listed st hA hsz hcl hc r hr
   simp only[Region.linearise.go]
   change wN C ops (match (Region.ready .any ops listed)[t % (Region.ready .any ops listed).length]? with
    | some i=>Region.linearise.go .any ops fuel (t / (Region.ready .any ops listed).length) (listed.setIfInBounds i true) [i]
    | none=>[].reverse) st=some r
   have hget:∀k,k<ops.size→listed.getD k true=listed.getD k false:=fun k hk=>by
    have:k<listed.size:=by omega
    simp[this]
   have hready:∀i,i∈Region.ready .any ops listed↔i<ops.size∧listed.getD i true=false∧∃o,ops[i]?=some o∧ziv (kC listed) o:=by
    intro i
    unfold Region.ready
    simp only[List.mem_filter,List.mem_range,Bool.and_eq_true,Bool.not_eq_true']
    constructor
    ·rintro⟨h1,h2,h3⟩
     refine⟨h1,h2,ops[i],by simp[h1],fun e he hb=>?_⟩
     simp only[h1,Array.getElem?_eq_getElem,Option.map_some,Option.getD_some] at h3
     have:=Array.all_eq_true'.1 h3 e (by simpa using he)
     simpa[hb,kC] using this
    ·rintro⟨h1,h2,o,ho,hp⟩
     refine⟨h1,h2,?_⟩
     simp only[ho,Option.map_some,Option.getD_some]
     refine Array.all_eq_true'.2 fun e he=>?_
     cases hb:Region.binds .any e with
     | false=>rfl
     | true=>simpa[kC] using hp e (by simpa using he) hb
   cases hi:(Region.ready .any ops listed)[t % (Region.ready .any ops listed).length]? with
   | none =>
     have hnil:Region.ready .any ops listed=[]:=by
      cases hr:Region.ready .any ops listed with
      | nil=>rfl
      | cons x xs =>
        rw[hr] at hi
        have hlt:t % (x::xs).length<(x::xs).length:=Nat.mod_lt _ (by simp)
        simp at hi
        simp at hlt
        omega
     have hall:∀n k,k<n→k<ops.size→listed.getD k true=true:=by
      intro n
      induction n with
      | zero=>intro k hk;omega
      | succ n ihn =>
        intro k hk hks
        by_cases hkn:k<n
        ·exact ihn k hkn hks
        ·have hkk:k=n:=by omega
         subst hkk
         cases hb:listed.getD k true with
         | true=>rfl
         | false =>
           have ho:ops[k]?=some ops[k]:=by simp[hks]
           have hmem:k∈Region.ready .any ops listed:=(hready k).2 ⟨hks,hb,ops[k],ho,fun e he hbe=>by
            have hlt:=(Kg hok k _ ho).1 e he hbe
            have:=ihn e.on hlt (by omega)
            rw[hget e.on (by omega)] at this
            exact this⟩
           rw[hnil] at hmem
           cases hmem
     have:((List.range ops.size).filter fun i=>!listed.getD i true)=[]:=by
      rw[List.filter_eq_nil_iff]
      intro k hk
      have hks:=List.mem_range.1 hk
      rw[hall (k+1) k (by omega) hks]
      simp
     rw[this] at hr
     exact hr
   | some i =>
     simp only[]
     obtain⟨hin,hul,o,ho,hp⟩:=(hready i).1 (List.mem_of_getElem? hi)
     rw[linearise_go_acc,List.reverse_singleton,List.singleton_append]
     have hl':∀k,(listed.setIfInBounds i true).getD k true=if k=i then true else listed.getD k true:=by
      intro k
      by_cases hk:k=i
      ·subst hk
       have:k<listed.size:=by omega
       simp[this]
      ·rw[if_neg hk]
       simp[Array.getElem?_setIfInBounds_ne (fun h=>hk h.symm)]
     have hlf:∀k,kC (listed.setIfInBounds i true) k↔k=i∨kC listed k:=by
      intro k
      unfold kC
      by_cases hk:k=i
      ·subst hk
       have:k<listed.size:=by omega
       simp[this]
      ·simp[Array.getElem?_setIfInBounds_ne (fun h=>hk h.symm),hk]
     have hsplit:((List.range ops.size).filter fun k=>!listed.getD k true)=((List.range i).filter fun k=>!listed.getD k true)++i::((List.range' (i+1) (ops.size - i - 1)).filter fun k=>!listed.getD k true):=by
      rw[Kl hin,List.filter_append,List.filter_cons_of_pos (by rw[hul];rfl)]
     have hsplit':((List.range ops.size).filter fun k=>!(listed.setIfInBounds i true).getD k true)=((List.range i).filter fun k=>!listed.getD k true)++((List.range' (i+1) (ops.size - i - 1)).filter fun k=>!listed.getD k true):=by
      rw[Kl hin,List.filter_append,List.filter_cons_of_neg (by rw[hl'];simp)]
      congr 1
      ·exact List.filter_congr fun k hk=>by
        have:=List.mem_range.1 hk
        rw[hl',if_neg (by omega)]
      ·exact List.filter_congr fun k hk=>by
        have:=(List.mem_range'_1.1 hk).1
        rw[hl',if_neg (by omega)]
     have hcl':Kd ops (kC (listed.setIfInBounds i true)):=by
      intro k o' hk ho' e he hb
      rw[hlf] at hk ⊢
      rcases hk with rfl | hk
      ·rw[ho] at ho'
       injection ho' with ho'
       subst ho'
       exact .inr (hp e he hb)
      ·exact .inr (hcl k o' hk ho' e he hb)
     have hcount:((List.range ops.size).filter fun k=>!(listed.setIfInBounds i true).getD k true).length≤fuel:=by
      rw[hsplit']
      rw[hsplit] at hc
      simp only[List.length_append,List.length_cons] at hc ⊢
      omega
     have hrec:=fun st hA=>ih (t / (Region.ready .any ops listed).length) (listed.setIfInBounds i true) st hA (by simpa using hsz) hcl' hcount
     rw[hsplit] at hr
     have hr:=Q3 hcm ho _ _ _ r hA (fun j hj=>by
      obtain⟨hji,hju⟩:=List.mem_filter.1 hj
      have hji:=List.mem_range.1 hji
      rcases (Kg hok i o ho).2 j hji with h | h
      ·have:=h (kC listed) hcl hp
       unfold kC at this
       rw[←hget j (by omega)] at this
       rw[this] at hju
       cases hju
      ·exact h) hr
     simp only[wN,ho] at hr ⊢
     cases hso:q9 C ops o st with
     | none=>rw[hso] at hr;cases hr
     | some st' =>
       rw[hso] at hr
       simp only[Option.bind_some] at hr ⊢
       exact hrec st' (hcm.keep i o st st' ho hA hso) r (by rw[hsplit'];exact hr)
theorem zcM (ops:Array Oper) (st:St):∀(l:List Oper) (i:Nat),(∀k,l[k]?=ops[i+k]?)→i+l.length=ops.size→wN C ops (List.range' i l.length) st=yN C ops l st:=by
 intro l
 induction l generalizing st with
 | nil=>intro i _ _;rfl
 | cons o l ih =>
   intro i hk hl
   have ho:ops[i]?=some o:=by have:=hk 0;simpa using this.symm
   simp only[List.length_cons,List.range'_succ,wN,ho,yN]
   cases hs:q9 C ops o st with
   | none=>rfl
   | some st' =>
     simp only[Option.bind_some]
     exact ih st' (i+1) (fun k=>by have:=hk (k+1);simpa[Nat.add_assoc,Nat.add_comm 1 k] using this) (by simp at hl;omega)
theorem Q8 (ops:Array Oper) (st:St):wN C ops (List.range ops.size) st=yN C ops ops.toList st:=by
 have:=zcM (C:=C) ops st ops.toList 0 (by simp) (by simp)
 rw[List.range_eq_range']
 simpa using this
theorem zqD {ops:Array Oper} {cm:Oper→Oper→Bool} {A:St→Prop} (hcm:CommOk C ops cm A) (hok:zcF cm ops=true) (t:Nat) (st r:St) (hA:A st) (hr:yN C ops ops.toList st=some r):wN C ops (Region.linearise .any ops t) st=some r:=by
 unfold Region.linearise
 refine znY hcm hok ops.size t _ st hA (by simp) (fun k o hk=>by
  unfold kC at hk
  rw[Array.getD_eq_getD_getElem?,Array.getElem?_replicate] at hk
  split at hk<;>simp at hk) (Nat.le_trans (List.length_filter_le _ _) (by simp)) r ?_
 have:((List.range ops.size).filter fun i=>!(Array.replicate ops.size false).getD i true)=List.range ops.size:=by
  rw[List.filter_eq_self]
  intro i hi
  have hi:=List.mem_range.1 hi
  simp[hi]
 rw[this,Q8]
 exact hr
end
section
variable {C:Ctx} {pf:FuncId→Bool} {w0:World} {S0 L:Nat→Prop} {N nx0:Nat} {G0:Nat→GI} {n0:Nat}
theorem Q9 {w:World} {S:Nat→Prop} {G:Nat→GI} {nx:Nat} {ops:Array Oper} {σ:Nat→PV} {a:Act} (hs:∀t,RepO w S G nx (σ t) (a.tmps.getD t undef)):yielded ops a.tmps=vJ ops σ:=by
 funext j
 unfold yielded vJ
 cases hd:(ops[j]?).bind (·.dst) with
 | none=>rfl
 | some d =>
   simp only[Option.bind_some]
   have hr:=hs d
   have hnb:∀b:Bool,a.tmps.getD d undef=.bool b→a.tmps[d]?=some (.bool b):=by
    intro b hb
    by_cases hlt:d<a.tmps.size
    ·simp[hlt] at hb ⊢;exact hb
    ·simp[hlt] at hb
     simp[undef] at hb
   cases hσ:σ d with
   | v x =>
     rw[hσ] at hr
     obtain⟨e,hl⟩:=hr.v_inv
     cases x with
     | bool b=>simp only[hnb b e]
     | _ =>
       cases hk:a.tmps[d]? with
       | none=>rfl
       | some y =>
         have:a.tmps.getD d undef=y:=by simp[hk]
         rw[this] at e
         subst e
         rfl
   | _ =>
     cases hk:a.tmps[d]? with
     | none=>rfl
     | some y =>
       have:a.tmps.getD d undef=y:=by simp[hk]
       rw[hσ,this] at hr
       cases y with
       | bool b=>cases hr with
         | c h=>cases h
       | _=>rfl
def Easy (F:Fence):Prop:=F=Fence.wide∨∃l,F=Fence.wide.inRound l
theorem Easy.fn {F:Fence} (h:Easy F) (f:FuncId):F.fn f:=by
 rcases h with rfl | ⟨l,rfl⟩<;>trivial
theorem Easy.deep {F:Fence} (h:Easy F):F.depth=none:=by
 rcases h with rfl | ⟨l,rfl⟩<;>rfl
theorem Easy.inRound {F:Fence} (h:Easy F) (l:Nat):Easy (F.inRound l):=by
 rcases h with rfl | ⟨k,rfl⟩
 ·exact .inr ⟨l,rfl⟩
 ·exact .inr ⟨l,rfl⟩
theorem Easy.calls {F:Fence} (h:Easy F) {n:Nat} {P:Program} {f:FuncId} {args:Array Value} {w:World} {R:Ending→World→Prop} (hc:Calls P f args w R):CallsIn F n P f args w R:=by
 rcases h with rfl | ⟨l,rfl⟩
 ·exact callsIn_wide.2 hc
 ·exact (callsIn_wide.2 hc:CallsIn Fence.wide n P f args w R)
theorem vQ (hΓ:∀g spec,C.Γ g=some spec→jt dr C.P g spec) {ops:Array Oper} (hN:∀(i:Nat) (o:Oper),ops[i]?=some o→∀d,o.dst=some d→d<N) {F:Fence} {n:Nat} (hF:Easy F) {Q:Exit→Act→World→Prop} :
  ∀(l:List Nat) (st st':St) (a:Act) (w:World),wN C ops l st=some st'→Sim dr C.P w0 S0 L N nx0 G0 n0 st a w→(∀a' w',Sim dr C.P w0 S0 L N nx0 G0 n0 st' a' w'→Q .normal a' w')→wpOpsIn F n C.P ops Q l a w
 | [],st,st',a,w,h,hs,hQ=>by
   simp only[wN] at h
   injection h with h
   subst h
   exact hQ a w hs
 | i::l,st,st',a,w,h,hs,hQ=>by
   simp only[wpOpsIn]
   cases ho:ops[i]? with
   | none =>
     simp only[wN,ho] at h
     exact vQ hΓ hN hF l st st' a w h hs hQ
   | some o =>
     simp only[wN,ho] at h
     cases hst:q9 C ops o st with
     | none=>rw[hst] at h;cases h
     | some st1 =>
       rw[hst] at h
       simp only[Option.bind_some] at h
       obtain⟨S,G,hS⟩:=hs
       unfold q9 at hst
       simp only[]
       rw[Q9 hS.slots]
       split at hst
       ·rename_i hw
        rw[if_pos hw]
        split at hst
        ·rename_i x hp nx hev
         injection hst with hst
         subst hst
         have hnd:∀c,o.op≠.defer c:=by
          intro c hc
          rw[hc] at hev
          simp[zw] at hev
         refine⟨fun f _=>hF.fn f,?_⟩
         rw[Oper.semAt_eq _ _ _ hnd]
         have hop:=Y2 hΓ hS.inv (a:=a.eval) (fun y pv hy=>kx hS.slots hy) (o:=o) hev
         rcases hop with⟨v,w',S',G',hr,hk,hx⟩ | ⟨g,vs,hr,hc⟩
         ·have hsim:Sim dr C.P w0 S0 L N nx0 G0 n0 ⟨put st.σ o.dst x,hp,nx⟩ (a.put o.dst v) w':=⟨S',G',hS.step hk hx (hN i o ho)⟩
          have hrest:=vQ (n:=n) hΓ hN hF l _ st' _ w' h hsim hQ
          rcases hr with hr | ⟨hr,rfl⟩
          ·rw[hr];exact hrest
          ·rw[hr];exact hrest
         ·rw[hr]
          refine⟨fun h=>by simp[hF.deep] at h,hF.calls (hc.mono fun e w' hh=>?_)⟩
          obtain⟨v,S',G',rfl,hk,hx⟩:=hh
          have hsim:Sim dr C.P w0 S0 L N nx0 G0 n0 ⟨put st.σ o.dst x,hp,nx⟩ (a.put o.dst v) w':=⟨S',G',hS.step hk hx (hN i o ho)⟩
          exact vQ hΓ hN hF l _ st' _ w' h hsim hQ
        ·cases hst
       ·rename_i hw
        rw[if_neg hw]
        injection hst with hst
        subst hst
        exact⟨fun f _=>hF.fn f,vQ hΓ hN hF l _ st' _ w h ⟨S,G,hS.step (.refl hS.inv) qW (hN i o ho)⟩ hQ⟩
def wn:Code→Bool
 | .seq a b=>wn a&&wn b
 | .cond _ a b=>wn a&&wn b
 | .block _ b=>wn b
 | .loop b=>wn b
 | .rangeFunc _ _ _ _=>false
 | .scope _=>false
 | _=>true
def je (pf:FuncId→Bool) (dyn:Nat→List (Tmp×Tmp)) (lds:Nat→List Tmp) (bk:FuncId→Bool) (N:Nat):Code→Bool
 | .region i ops draw=>ops.all (fun o=>match o.dst with | some d=>decide (d<N) | none=>true)&&(!draw||(zcF (znL pf (dyn i) (lds i) bk ops) ops&&zg2 pf (dyn i) (lds i) bk ops))
 | .seq a b=>je pf dyn lds bk N a&&je pf dyn lds bk N b
 | .cond _ a b=>je pf dyn lds bk N a&&je pf dyn lds bk N b
 | .block _ b=>je pf dyn lds bk N b
 | .loop b=>je pf dyn lds bk N b
 | .rangeFunc _ ps a b=>ps.all (fun p=>decide (p<N))&&wn a&&wn b&&je pf dyn lds bk N a&&je pf dyn lds bk N b
 | _=>true
theorem Sim.drew {st:St} {a:Act} {w:World} (h:Sim dr C.P w0 S0 L N nx0 G0 n0 st a w):Sim dr C.P w0 S0 L N nx0 G0 n0 st a { w with drawn:=w.drawn+1 }:=by
 obtain⟨S,G,hS⟩:=h
 refine⟨S,G,hS.inv.same rfl,fun t=>(hS.slots t).mono (fun b hb=>⟨hb,rfl⟩) (Nat.le_refl _) (fun _ _=>rfl),hS.size,hS.defers,hS.s0,hS.s1,hS.own,hS.fr.trans (Fr.drew w L) fun _ _ h=>h,hS.up,hS.loc⟩
theorem Sim.top {st:St} {a:Act} {w:World} (h:Sim dr C.P w0 S0 L N nx0 G0 n0 st a w):zeZ st.hp st.nx:=by
 obtain⟨S,G,hS⟩:=h
 exact hS.inv.top
theorem Sim.thaw1 {st:St} {a:Act} {w:World} (h:Sim dr C.P w0 S0 L N nx0 G0 n0 st a w) {t:Nat} {y:PV} {hp1:Hp} (hf:zE st.hp (st.σ t)=some (y,hp1)):Sim dr C.P w0 S0 L N nx0 G0 n0 ⟨upd st.σ t y,hp1,st.nx⟩ a w:=by
 obtain⟨S,G,h⟩:=h
 obtain⟨S',k,c,_,_⟩:=wH (dr:=dr) h.inv hf (h.slots t)
 have hlive:∀b,yg st.hp G b→L b∨w0.heap.size≤b:=by
  rintro b ⟨id,blk,hid,rfl⟩
  exact h.own id blk hid
 refine⟨S',G,k.inv,fun s=>?_,h.size,h.defers.step k,fun b hb=>k.keep (dr:=dr) b (h.s0 b hb),fun b hb=>?_,fun id b hb=>?_,h.fr,h.up,h.loc⟩
 ·show RepO w S' G st.nx (upd st.σ t y s) _
  by_cases hs:s=t
  ·subst hs
   rw[qd]
   exact .c c
  ·rw[zT _ _ _ _ hs]
   exact (h.slots s).mono (k.same h.inv) (Nat.le_refl _) (fun _ _=>rfl)
 ·rcases k.from_ b hb with h1 | h1 | h1
  ·exact h.s1 b h1
  ·exact .inr (hlive b h1)
  ·exact .inr (.inr (Nat.le_trans h.fr.size h1))
 ·rcases k.own id b hb with h1 | h1
  ·exact hlive _ h1
  ·exact .inr (Nat.le_trans h.fr.size h1)
theorem Sim.thaw {a:Act} {w:World}:∀{l:List Tmp} {st st1:St},Sim dr C.P w0 S0 L N nx0 G0 n0 st a w→AM.thaw l st=some st1→Sim dr C.P w0 S0 L N nx0 G0 n0 st1 a w
 | [],st,st1,h,e=>by
   simp only[AM.thaw] at e
   injection e with e
   rw[←e];exact h
 | t::l,st,st1,h,e=>by
   simp only[AM.thaw] at e
   split at e
   ·rename_i y hp1 hf
    exact Sim.thaw (h.thaw1 hf) e
   ·cases e
def Away (S:Nat→Prop) (G:Nat→GI) (hp:Hp) (b:Nat):Prop:=¬S b∧∀id blk,hp id=some blk→(G id).g≠b
theorem Away.step {P:Program} {hp hp':Hp} {nx nx':Nat} {S S':Nat→Prop} {G G':Nat→GI} {w w':World} {b:Nat} (h:Away S G hp b) (k:Stp dr P hp nx S G w hp' nx' S' G' w') (hb:b<w.heap.size):Away S' G' hp' b:=by
 refine⟨fun hs=>?_,fun id blk hid he=>?_⟩
 ·rcases k.from_ b hs with h1 | ⟨id,blk,h1,h2⟩ | h1
  ·exact h.1 h1
  ·exact h.2 id blk h1 h2
  ·omega
 ·rcases k.own id blk hid with⟨id',blk',h1,h2⟩ | h1
  ·exact h.2 id' blk' h1 (h2.trans he)
  ·omega
theorem Away.same {P:Program} {hp hp':Hp} {nx nx':Nat} {S S':Nat→Prop} {G G':Nat→GI} {w w':World} {b:Nat} (h:Away S G hp b) (k:Stp dr P hp nx S G w hp' nx' S' G' w') (hb:b<w.heap.size):w'.heap[b]?=w.heap[b]? :=
 k.fr.block b hb fun⟨id,blk,h1,h2⟩=>h.2 id blk h1 h2
section
variable {P:Program} {S:Nat→Prop} {G:Nat→GI}
theorem Inv.frame {w w':World} {hp:Hp} {nx:Nat} {B:Nat→Prop} (h:Inv P w S G hp nx) (fr:Fr dr w B w') (hB:∀b,B b→Away S G hp b):Inv P w' S G hp nx:=by
 have hS:∀b,S b→S b∧w'.heap[b]?=w.heap[b]?:=fun b hb=>⟨hb,fr.block b (h.st b hb) fun hb'=>(hB b hb').1 hb⟩
 exact⟨fun b hb=>Nat.lt_of_lt_of_le (h.st b hb) fr.size,h.top,fun id b hb=>(h.live id b hb).mono hS (Nat.le_refl _) (fun _ _=>rfl) (fr.block _ (h.live id b hb).lt fun hb'=>(hB _ hb').2 id b hb rfl),h.apart,h.inj,h.glo.mono hS⟩
theorem Marks.frame {w w':World} {hp:Hp} {B:Nat→Prop} {ds:List Deferred} (h:Marks n0 w S hp G ds) (fr:Fr dr w B w') (hm:∀D,zkf D∈ds→¬B D):Marks n0 w' S hp G ds:=by
 obtain⟨h0,Ds,e,hn,hD⟩:=h
 refine⟨Nat.le_trans h0 fr.size,Ds,e,hn,fun D hd=>?_⟩
 obtain⟨h1,h2,h3⟩:=hD D hd
 exact⟨h1,(fr.block D (Array.getElem?_eq_some_iff.1 h2).1 (hm D (by rw[e];exact List.mem_map_of_mem hd))).trans h2,h3⟩
theorem zg4 {D D':Nat} (h:zkf D=zkf D'):D=D':=by
 unfold zkf at h
 injection h with h
 injection h
theorem Marks.at {w:World} {hp:Hp} {ds:List Deferred} (h:Marks n0 w S hp G ds) {D:Nat} (hd:zkf D∈ds):n0≤D∧w.heap[D]?=some (.deferred (some []))∧¬S D∧∀id b,hp id=some b→(G id).g≠D:=by
 obtain⟨h0,Ds,rfl,hn,hD⟩:=h
 obtain⟨D',h1,h2⟩:=List.mem_map.1 hd
 rw[←zg4 h2]
 exact hD D' h1
theorem SimAt.frame {st:St} {a:Act} {w w':World} {B:Nat→Prop} (h:SimAt dr P w0 S0 L N nx0 G0 n0 st S G a w) (fr:Fr dr w B w') (hB:∀b,B b→Away S G st.hp b) (hL:∀b,B b→L b∨w0.heap.size≤b)
  (hm:∀D,zkf D∈a.defers→¬B D):SimAt dr P w0 S0 L N nx0 G0 n0 st S G a w':=by
 have hS:∀b,S b→S b∧w'.heap[b]?=w.heap[b]?:=fun b hb=>⟨hb,fr.block b (h.inv.st b hb) fun hb'=>(hB b hb').1 hb⟩
 refine⟨h.inv.frame fr hB,fun t=>(h.slots t).mono hS (Nat.le_refl _) (fun _ _=>rfl),h.size,h.defers.frame fr hm,h.s0,h.s1,h.own,h.fr.trans fr fun b hb h1=>?_,h.up,h.loc⟩
 rcases hL b h1 with h2 | h2
 ·exact h2
 ·omega
theorem SimAt.innerAt {st:St} {a:Act} {w w':World} {B:Nat→Prop} (h:SimAt dr P w0 S0 L N nx0 G0 0 st S G a w) (fr:Fr dr w B w') (hB:∀b,B b→Away S G st.hp b) (hm:∀D,zkf D∈a.defers→¬B D):SimAt dr P w' S (yg st.hp G) N st.nx G 0 st S G a w':=by
 have hS:∀b,S b→S b∧w'.heap[b]?=w.heap[b]?:=fun b hb=>⟨hb,fr.block b (h.inv.st b hb) fun hb'=>(hB b hb').1 hb⟩
 exact⟨h.inv.frame fr hB,fun t=>(h.slots t).mono hS (Nat.le_refl _) (fun _ _=>rfl),h.size,h.defers.frame fr hm,fun _ h=>h,fun _ h=>.inl h,fun id b hb=>.inl ⟨id,b,hb,rfl⟩,Fr.refl _ _,Nat.le_refl _,fun _ _=>rfl⟩
theorem SimAt.inner {st:St} {a:Act} {w:World} (h:SimAt dr P w0 S0 L N nx0 G0 n0 st S G a w):SimAt dr P w S (yg st.hp G) N st.nx G 0 st S G { a with defers:=[] } w :=
 ⟨h.inv,h.slots,h.size,.nil (Nat.zero_le _),fun _ h=>h,fun _ h=>.inl h,fun id b hb=>.inl ⟨id,b,hb,rfl⟩,Fr.refl _ _,Nat.le_refl _,fun _ _=>rfl⟩
theorem SimAt.stp {hp:Hp} {nx:Nat} {S':Nat→Prop} {G':Nat→GI} {st:St} {a:Act} {w w':World} (h:SimAt dr P w S (yg hp G) N nx G n0 st S' G' a w'):Stp dr P hp nx S G w st.hp st.nx S' G' w':=⟨h.inv,h.up,h.loc,h.s0,h.s1,h.own,h.fr⟩
end
def zkP (dr:Prop) (P:Program) (g:FuncId) (it:jY):Prop :=
 (∃fn,P.funcs[g]?=some fn∧(fn.name== "runtime.NumGoroutine")=false∧fn.body.isNone=false) ∧
 ∀cap hp nx xs hp1,it cap hp=some (xs,hp1)→∃us:List Value,xs=us.map PV.v∧(∀u∈us,lit u=true)∧(∀id b,hp1 id=some b→hp id=some b) ∧
  ∀(w:World) (S:Nat→Prop) (G:Nat→GI) (vs:List Value),Inv P w S G hp nx→Zip (RepO w S G nx) cap vs →
   ∃B:Nat→Prop,(∀b,B b→yg hp G b∧Away S G hp1 b) ∧
    ∀(n l:Nat) (J Jx:List Value→World→Prop),
     (∀pre W W',J pre W→Fr dr W B W'→J pre W')→(∀pre W W',Jx pre W→Fr dr W B W'→Jx pre W')→(∀pre W,J pre W→Glo P W fun b=>b<W.heap.size) →
     (∀pre x W,J pre W→us[pre.length]?=some x→YieldAt Fence.wide n P l #[x] W fun e W'=>(e=.returned (.bool true)∧J (pre++[x]) W'∧(∀b,B b→W'.heap[b]?=W.heap[b]?)∧W.heap.size≤W'.heap.size)∨(e=.returned (.bool false)∧Jx (pre++[x]) W')) →
     ∀W,J [] W→(∀b,B b→W.heap[b]?=w.heap[b]?)→w.heap.size≤W.heap.size →
      CallsIn Fence.wide (n+1) P g (#[.func (.yield l) #[] #[]]++vs.toArray) W fun e W'=>(∃v,e=.returned v)∧(J us W'∨∃pre,Jx pre W')
abbrev zkQ:=zkP True
theorem zqE {w:World} {S:Nat→Prop} {G:Nat→GI} {nx:Nat} {u:Value} (h:lit u=true):RepO w S G nx (.v u) u:=.c (.v h)
theorem zkR {w:World} {l:Nat} (o:Obj) (B:Nat→Prop) (hB:B l):Fr dr w B (w.putObj l o) :=
 ⟨rfl,rfl,rfl,by simp,fun _=>Nat.le_refl _,fun k _ hn=>World.putObj_heap_other fun e=>hn (e ▸ hB)⟩
theorem XV (hΓ:∀g spec,C.Γ g=some spec→jt dr C.P g spec) (hpf:∀g spec,pf g=true→C.Γ g=some spec→Zg spec) (hbk:∀g spec,C.bk g=true→C.Γ g=some spec→vr spec) (hit:∀g it,C.it g=some it→zkP dr C.P g it) (hm:C.P.follows .mixedOrders=true) :
  ∀(c:Code),je pf C.dyn C.lds C.bk N c=true→∀(F:Fence) (n:Nat),Easy F→(F=Fence.wide∨wn c=true)→∀(w0:World) (S0 L:Nat→Prop) (nx0:Nat) (G0:Nat→GI) (n0:Nat) (st st':St) (e:Exit) (a:Act) (w:World) (Q:Exit→Act→World→Prop),n0≤w0.heap.size→zQ C c st=some (e,st')→Sim dr C.P w0 S0 L N nx0 G0 n0 st a w →
   (∀a' w',Sim dr C.P w0 S0 L N nx0 G0 n0 st' a' w'→Q e a' w')→c.wpIn F n C.P Q a w:=by
 intro c
 induction c with
 | skip =>
   intro _ F n hF _ w0 S0 L nx0 G0 n0 st st' e a w Q _ h hs hQ
   simp only[zQ] at h
   injection h with h
   injection h with e1 e2
   subst e1;subst e2
   exact wpIn_skip (hQ a w hs)
 | region id ops draw =>
   intro hok F n hF _ w0 S0 L nx0 G0 n0 st st' e a w Q _ h hs hQ
   simp only[je,Bool.and_eq_true,Bool.or_eq_true,Bool.not_eq_true'] at hok
   obtain⟨hN0,hdraw⟩:=hok
   have hN:∀(i:Nat) (o:Oper),ops[i]?=some o→∀d,o.dst=some d→d<N:=by
    intro i o ho d hd
    have:=Array.all_eq_true'.1 hN0 o (Array.mem_of_getElem? ho)
    simpa[hd] using this
   simp only[zQ] at h
   split at h
   case h_2=>cases h
   rename_i st1 hth
   have hs:=hs.thaw hth
   clear hth
   generalize st1=st at h hs
   split at h
   case isFalse=>cases h
   rename_i hA
   split at h
   ·rename_i s hs1
    injection h with h
    injection h with e1 e2
    subst e1;subst e2
    cases draw with
    | false=>exact wpIn_region (vQ hΓ hN hF _ st s a w (by rw[Q8];exact hs1) hs hQ)
    | true =>
      have hd:zcF (znL pf (C.dyn id) (C.lds id) C.bk ops) ops=true∧zg2 pf (C.dyn id) (C.lds id) C.bk ops=true:=by simpa using hdraw
      refine wpIn_region_draw fun t=>?_
      simp only[Region.schedule,hm,Bool.true_or,if_true]
      exact vQ hΓ hN hF _ st s a _ (zqD (znQ hpf hbk hd.2) hd.1 _ _ _ ⟨hA,fun _=>hs.top⟩ hs1) hs.drew hQ
   ·cases h
 | seq x y ihx ihy =>
   intro hok F n hF hno w0 S0 L nx0 G0 n0 st st' e a w Q hn0 h hs hQ
   simp only[je,Bool.and_eq_true] at hok
   have hnx:F=Fence.wide∨wn x=true:=hno.imp (fun h=>h) fun h=>by simp only[wn,Bool.and_eq_true] at h;exact h.1
   have hny:F=Fence.wide∨wn y=true:=hno.imp (fun h=>h) fun h=>by simp only[wn,Bool.and_eq_true] at h;exact h.2
   simp only[zQ] at h
   split at h
   ·rename_i s hx
    exact wpIn_seq (ihx hok.1 F n hF hnx w0 S0 L nx0 G0 n0 st s .normal a w _ hn0 hx hs fun a' w' hs'=>ihy hok.2 F n hF hny w0 S0 L nx0 G0 n0 s st' e a' w' Q hn0 h hs' hQ)
   ·rename_i r hr
    refine wpIn_seq (ihx hok.1 F n hF hnx w0 S0 L nx0 G0 n0 st st' e a w _ hn0 h hs fun a' w' hs'=>?_)
    have:=hQ a' w' hs'
    cases e<;>first
     | exact this
     | exact (hr _ h).elim
 | cond c x y ihx ihy =>
   intro hok F n hF hno w0 S0 L nx0 G0 n0 st st' e a w Q hn0 h hs hQ
   simp only[je,Bool.and_eq_true] at hok
   have hnx:F=Fence.wide∨wn x=true:=hno.imp (fun h=>h) fun h=>by simp only[wn,Bool.and_eq_true] at h;exact h.1
   have hny:F=Fence.wide∨wn y=true:=hno.imp (fun h=>h) fun h=>by simp only[wn,Bool.and_eq_true] at h;exact h.2
   simp only[zQ] at h
   obtain⟨S,G,hS⟩:=hs
   split at h
   ·rename_i hc
    obtain⟨hv,_⟩:=(kx hS.slots hc).v_inv
    exact wpIn_cond_true hv (ihx hok.1 F n hF hnx w0 S0 L nx0 G0 n0 st st' e a w Q hn0 h ⟨S,G,hS⟩ hQ)
   ·rename_i hc
    obtain⟨hv,_⟩:=(kx hS.slots hc).v_inv
    exact wpIn_cond_false hv (ihy hok.2 F n hF hny w0 S0 L nx0 G0 n0 st st' e a w Q hn0 h ⟨S,G,hS⟩ hQ)
   ·cases h
 | block id b ih =>
   intro hok F n hF hno w0 S0 L nx0 G0 n0 st st' e a w Q hn0 h hs hQ
   simp only[je] at hok
   have hnb:F=Fence.wide∨wn b=true:=hno.imp (fun h=>h) fun h=>by simp only[wn] at h;exact h
   simp only[zQ] at h
   split at h
   ·rename_i i s hb
    refine wpIn_block (ih hok F n hF hnb w0 S0 L nx0 G0 n0 st s (.exit i) a w _ hn0 hb hs fun a' w' hs'=>?_)
    unfold Exit.inBlock
    split at h
    ·rename_i hi
     injection h with h
     injection h with e1 e2
     subst e1;subst e2
     simp[hi,hQ a' w' hs']
    ·rename_i hi
     injection h with h
     injection h with e1 e2
     subst e1;subst e2
     simp[hi,hQ a' w' hs']
   ·rename_i r hr
    refine wpIn_block (ih hok F n hF hnb w0 S0 L nx0 G0 n0 st st' e a w _ hn0 h hs fun a' w' hs'=>?_)
    have:=hQ a' w' hs'
    cases e<;>first
     | exact this
     | exact (hr _ _ h).elim
 | loop b ih =>
   intro hok F n hF hno w0 S0 L nx0 G0 n0 st st' e a w Q hn0 h hs hQ
   simp only[je] at hok
   have hnb:F=Fence.wide∨wn b=true:=hno.imp (fun h=>h) fun h=>by simp only[wn] at h;exact h
   simp only[zQ] at h
   obtain⟨m,hm'⟩:=j5 h
   refine wpIn_loop_rounds m ?_
   clear h
   induction m generalizing st a w with
   | zero=>simp[iter] at hm'
   | succ m ihn =>
     rw[roundsIn_succ]
     simp only[iter] at hm'
     split at hm'
     ·rename_i s hb
      exact ih hok F n hF hnb w0 S0 L nx0 G0 n0 st s .normal a w _ hn0 hb hs fun a' w' hs'=>ihn s a' w' hs' hm'
     ·rename_i r hr
      refine ih hok F n hF hnb w0 S0 L nx0 G0 n0 st st' e a w _ hn0 hm' hs fun a' w' hs'=>?_
      have:=hQ a' w' hs'
      cases e<;>first
       | exact this
       | exact (hr _ hm').elim
 | rangeFunc f ps x y ihx ihy =>
   intro hok F n hF hno w0 S0 L nx0 G0 n0 st st' e a w Q hn0 h hs hQ
   obtain rfl:F=Fence.wide:=hno.resolve_right (by simp[wn])
   simp only[je,Bool.and_eq_true] at hok
   obtain⟨⟨⟨⟨hps,hnx⟩,hny⟩,hox⟩,hoy⟩:=hok
   simp only[zQ] at h
   split at h
   case h_2=>cases h
   rename_i p g cap hpl hfg
   split at h
   case h_2=>cases h
   rename_i it hIt
   split at h
   case h_2=>cases h
   rename_i xs hp1 hx
   split at h
   case h_2=>cases h
   rename_i e0 hp2 nx2 hro
   injection h with h
   injection h with e1 e2
   subst e1;subst e2
   obtain⟨S,G,hS⟩:=hs
   obtain⟨⟨gfn,gf1,gf2,gf3⟩,hitS⟩:=hit g it hIt
   obtain⟨us,rfl,hlit,hsub,hrun⟩:=hitS cap st.hp st.nx _ hp1 hx
   obtain⟨aZ,vs,ev,l1,l2,r1,r2⟩:=(kx hS.slots hfg).fn_inv
   obtain rfl:aZ=#[]:=by simpa using l1.symm
   obtain⟨B,hB,hcalls⟩:=hrun w S G vs.toList hS.inv ⟨by simpa using l2,fun j pv u hj hu=>r2 j pv u hj (by simpa using hu)⟩
   have hBlt:∀b,B b→b<w.heap.size:=fun b hb=>by
    obtain⟨id,blk,h1,rfl⟩:=(hB b hb).1
    exact (hS.inv.live id blk h1).lt
   have hpN:p<N:=by
    have:=Array.all_eq_true'.1 hps p (by rw[←Array.mem_toList_iff,hpl];simp)
    simpa using this
   have hps1:ps=#[p]:=by
    apply Array.toList_inj.1
    rw[hpl]
   subst hps1
   refine wpIn_rangeFunc fun fn hfn=>?_
   obtain⟨rec,hrec⟩:∃rec:LoopState→Option Code→Loop,rec=fun s pe=>{ state:=s,pending:=pe,fn,tmps:=a.tmps,params:=#[p],assign:=x,body:=y,defers:=w.heap.size }:=⟨_,rfl⟩
   obtain⟨W1,hW1⟩:∃W1,(w.alloc (.deferred (some []))).alloc (.loop (rec .ready none))=W1:=⟨_,rfl⟩
   have hL1:W1.heap[w.heap.size+1]?=some (.loop (rec .ready none)):=by
    rw[←hW1];have:=World.alloc_heap_new (w.alloc (.deferred (some []))) (.loop (rec .ready none));rwa [World.size_alloc] at this
   have hK1:W1.heap[w.heap.size]?=some (.deferred (some [])):=by
    rw[←hW1];exact (Below.heap_alloc _ _ _ (by simp)).trans (World.alloc_heap_new w _)
   have hsz1:W1.heap.size=w.heap.size+2:=by rw[←hW1];simp
   have hold1:∀b,b<w.heap.size→W1.heap[b]?=w.heap[b]?:=fun b hb=>by
    rw[←hW1];exact (Below.heap_alloc _ _ _ (by simp;omega)).trans (Below.heap_alloc w _ b hb)
   have fr1:Fr dr w (fun _=>False) W1:=⟨by rw[←hW1];rfl,by rw[←hW1];rfl,by rw[←hW1];rfl,by omega,fun _=>by rw[←hW1];exact Nat.le_refl _,fun k hk _=>hold1 k hk⟩
   obtain⟨l,hl⟩:∃l,l=w.heap.size+1:=⟨_,rfl⟩
   obtain⟨a1,ha1⟩:∃a1:Act,a1={ a with defers:=zkf w.heap.size::a.defers }:=⟨_,rfl⟩
   have hfreshAway:∀b,w.heap.size≤b→Away S G hp1 b:=fun b hb=>⟨fun hs=>by have:=hS.inv.st b hs;omega,fun id blk hid he=>by have:=(hS.inv.live id blk (hsub id blk hid)).lt;omega⟩
   have hk0:Inv C.P W1 S G hp1 st.nx:=by
    have h1:Inv C.P w S G hp1 st.nx:=⟨hS.inv.st,fun id b hb=>hS.inv.top id b (hsub id b hb),fun id b hb=>hS.inv.live id b (hsub id b hb),fun id b hb=>hS.inv.apart id b (hsub id b hb),fun id id' b b' hb hb' he=>hS.inv.inj id id' b b' (hsub id b hb) (hsub id' b' hb') he,hS.inv.glo⟩
    exact h1.frame fr1 (fun _ h=>h.elim)
   have hsim1:SimAt dr C.P w0 S0 L N nx0 G0 n0 ⟨st.σ,hp1,st.nx⟩ S G a1 W1:=by
    subst ha1
    obtain⟨hd0,Ds,hd1,hd2,hd3⟩:=hS.defers
    refine⟨hk0,fun t=>(hS.slots t).mono (fun b hb=>⟨hb,hold1 b (hS.inv.st b hb)⟩) (Nat.le_refl _) (fun _ _=>rfl),hS.size,⟨by omega,w.heap.size::Ds,by simp[hd1],?_,?_⟩,hS.s0,hS.s1,fun id b hb=>hS.own id b (hsub id b hb),hS.fr.trans fr1 (fun _ _ h=>h.elim),hS.up,hS.loc⟩
    ·refine List.nodup_cons.2 ⟨fun hm=>?_,hd2⟩
     have:=(Array.getElem?_eq_some_iff.1 (hd3 _ hm).2.1).1
     omega
    ·intro D hD
     rcases List.mem_cons.1 hD with rfl | hD
     ·exact⟨hd0,hK1,(hfreshAway _ (Nat.le_refl _))⟩
     ·obtain⟨g1,g2,g4,g3⟩:=hd3 D hD
      exact⟨g1,(hold1 D (Array.getElem?_eq_some_iff.1 g2).1).trans g2,g4,fun id b hb=>g3 id b (hsub id b hb)⟩
   have hsmall:w0.heap.size≤w.heap.size:=hS.fr.size
   have hBL:∀b,B b→L b∨w0.heap.size≤b:=fun b hb=>by
    obtain⟨id,blk,h1,rfl⟩:=(hB b hb).1
    exact hS.own id blk h1
   have hmk:∀D,zkf D∈a1.defers→¬B D∧¬D=l:=by
    intro D hD
    subst ha1
    rcases List.mem_cons.1 hD with h1 | h1
    ·obtain rfl:=zg4 h1
     exact⟨fun hb=>by have:=hBlt _ hb;omega,by omega⟩
    ·obtain⟨g1,g2,_,g3⟩:=hS.defers.at h1
     have:=(Array.getElem?_eq_some_iff.1 g2).1
     refine⟨fun hb=>?_,by omega⟩
     obtain⟨id,blk,h2,h3⟩:=(hB D hb).1
     exact g3 id blk h2 h3
   have hlB:¬B l:=fun hb=>by have:=hBlt l hb;omega
   obtain⟨Good,hGood⟩:∃Good:Hp→Nat→(Nat→Prop)→(Nat→GI)→LoopState→Option Code→World→Prop,Good=fun hp nx S G s pe W =>
     SimAt dr C.P w0 S0 L N nx0 G0 n0 ⟨st.σ,hp,nx⟩ S G a1 W∧(∀b,B b→Away S G hp b)∧Away S G hp l∧W.heap[l]?=some (.loop (rec s pe))∧w.heap.size≤W.heap.size:=⟨_,rfl⟩
   have good_frame:∀{hp nx S G s pe W W'},Good hp nx S G s pe W→Fr dr W B W'→Good hp nx S G s pe W':=by
    intro hp nx S G s pe W W' hg fr
    subst hGood
    obtain⟨g1,g2,g3,g4,g5⟩:=hg
    exact⟨g1.frame fr g2 hBL (fun D hD=>(hmk D hD).1),g2,g3,(fr.block l (Array.getElem?_eq_some_iff.1 g4).1 hlB).trans g4,Nat.le_trans g5 fr.size⟩
   have good_put:∀{hp nx S G s pe W} (s':LoopState) (pe':Option Code),Good hp nx S G s pe W→Good hp nx S G s' pe' (W.putObj l (.loop (rec s' pe'))):=by
    intro hp nx S G s pe W s' pe' hg
    subst hGood
    obtain⟨g1,g2,g3,g4,g5⟩:=hg
    refine⟨g1.frame (zkR _ (fun b=>b=l) rfl) (fun b hb=>hb ▸ g3) (fun b hb=>.inr (by omega)) (fun D hD=>(hmk D hD).2),g2,g3,World.putObj_heap_same (Array.getElem?_eq_some_iff.1 g4).1,by simpa using g5⟩
   have Q2:∀{hp nx S G s pe W hp' nx' S' G' W'},Good hp nx S G s pe W→Stp dr C.P hp nx S G W hp' nx' S' G' W'→Good hp' nx' S' G' s pe W'∧∀b,B b→W'.heap[b]?=W.heap[b]?:=by
    intro hp nx S G s pe W hp' nx' S' G' W' hg k
    subst hGood
    obtain⟨g1,g2,g3,g4,g5⟩:=hg
    have hll:=(Array.getElem?_eq_some_iff.1 g4).1
    refine⟨⟨g1.step (dst:=none) k qW (fun _ h=>by cases h),fun b hb=>(g2 b hb).step k (Nat.lt_of_lt_of_le (hBlt b hb) g5),g3.step k hll,(g3.same k hll).trans g4,Nat.le_trans g5 k.fr.size⟩,fun b hb=>(g2 b hb).same k (Nat.lt_of_lt_of_le (hBlt b hb) g5)⟩
   obtain⟨J,hJ⟩:∃J:List Value→World→Prop,J=fun pre W=>∃hp nx S G,Good hp nx S G .ready none W∧Qz (zQ C x) (zQ C y) st.σ p ((us.drop pre.length).map PV.v) hp nx=some (e0,hp2,nx2):=⟨_,rfl⟩
   obtain⟨Jx,hJx⟩:∃Jx:List Value→World→Prop,Jx=fun _ W=>∃c S G,Good hp2 nx2 S G .done (some c) W∧(c=.ret∧e0=.ret∨∃i,c=.exit i∧e0=.exit i):=⟨_,rfl⟩
   have hJ0:J [] W1:=by
    subst hJ
    refine⟨hp1,st.nx,S,G,?_,hro⟩
    subst hGood
    exact⟨hsim1,fun b hb=>(hB b hb).2,hfreshAway l (by omega),by rw[hl];exact hL1,by omega⟩
   have gf2':¬gfn.name= "runtime.NumGoroutine":=by simpa using gf2
   have gf3':¬gfn.body=none:=by intro h;simp[h] at gf3
   refine⟨l,[zkf w.heap.size],W1,{ target:=.fn (.func g) vs,args:=#[.func (.yield l) #[] #[]] },W1,g,#[.func (.yield l) #[] #[]]++vs,W1,?_,?_,?_,?_,(fun h=>by simp[Fence.wide] at h),?_⟩
   ·rw[hl,←hW1,hrec];exact run_enterLoop_outer _ _ _ _ _
   ·simp only[resolve,ev]
    simp[go_sem]
   ·intro f' _;trivial
   ·simp[invoke,callFunc,gf1,gf2',gf3']
   ·have hround:∀pre u W,J pre W→us[pre.length]?=some u→YieldAt Fence.wide 0 C.P l #[u] W fun e W'=>(e=.returned (.bool true)∧J (pre++[u]) W'∧(∀b,B b→W'.heap[b]?=W.heap[b]?)∧W.heap.size≤W'.heap.size)∨(e=.returned (.bool false)∧Jx (pre++[u]) W'):=by
     intro pre u W hj hu
     subst hJ
     obtain⟨hp,nx,S1,G1,hg,hr⟩:=hj
     obtain⟨hlt,hue⟩:=List.getElem?_eq_some_iff.1 hu
     rw[List.drop_eq_getElem_cons hlt,hue] at hr
     simp only[List.map_cons,Qz] at hr
     split at hr
     case h_2=>cases hr
     rename_i s1 hfx
     have hg1:=hg
     rw[hGood] at hg1
     obtain⟨g1,g2,g3,g4,g5⟩:=hg1
     have hy:=run_yield (P:=C.P) (args:=#[u]) g4 (by rw[hrec];rfl)
     rw[hrec] at hy
     refine⟨fn,_,x,y,hy,roundIn_of_wpIn (F:=Fence.wide) trivial ?_⟩
     have hin:=(g1.step (dst:=some p) (u:=u) (.refl g1.inv) (zqE (hlit u (List.mem_of_getElem? hu))) (fun d hd=>by cases hd;exact hpN)).inner
     have htm:(#[p].zip #[u]).foldl (fun tmps (t,a)=>tmps.setIfInBounds t a) a.tmps=a.tmps.setIfInBounds p u:=by simp
     rw[ha1] at hin
     rw[htm]
     refine ihx hox (Fence.wide.inRound l) 0 (.inr ⟨l,rfl⟩) (.inr hnx) W S1 (yg hp G1) nx G1 0 _ s1 .normal _ W _ (Nat.zero_le _) hfx ⟨S1,G1,hin⟩ fun a2 w2 hs2=>?_
     obtain⟨S2,G2,h2⟩:=hs2
     obtain⟨hg2,hb2⟩:=Q2 hg h2.stp
     have hl2:w2.heap[l]?=some (.loop (rec .ready none)):=by rw[hGood] at hg2;exact hg2.2.2.2.1
     have hbr:=run_beginRound (P:=C.P) hl2 (by rw[hrec])
     have hrb:({ rec .ready none with state:=.busy }:Loop)=rec .busy none:=by rw[hrec]
     rw[hrb] at hbr
     refine⟨_,hbr,?_⟩
     have hg3:=good_put .busy none hg2
     have hal2:Away S2 G2 s1.hp l:=by rw[hGood] at hg2;exact hg2.2.2.1
     have h3:=h2.innerAt (zkR (.loop (rec .busy none)) (fun b=>b=l) rfl) (fun b hb=>hb ▸ hal2) (fun D hD e=>by
      have:=(h2.defers.at hD).2.1
      rw[e,hl2] at this
      cases this)
     cases hfy:zQ C y s1 with
     | none=>rw[hfy] at hr;cases hr
     | some r2 =>
       obtain⟨e2,s2⟩:=r2
       rw[hfy] at hr
       refine ihy hoy (Fence.wide.inRound l) 0 (.inr ⟨l,rfl⟩) (.inr hny) _ S2 (yg s1.hp G2) s1.nx G2 0 s1 s2 e2 a2 _ _ (Nat.zero_le _) hfy ⟨S2,G2,h3⟩ fun a4 w4 hs4=>?_
       obtain⟨S4,G4,h4⟩:=hs4
       obtain⟨hg4,hb4⟩:=Q2 hg3 h4.stp
       have hl4:w4.heap[l]?=some (.loop (rec .busy none)):=by rw[hGood] at hg4;exact hg4.2.2.2.1
       have hbb:∀b,B b→w4.heap[b]?=W.heap[b]?:=fun b hb=>(hb4 b hb).trans ((World.putObj_heap_other (k:=b) (r:=l) (fun e=>hlB (by rw[←e];exact hb))).trans (hb2 b hb))
       have hsz:W.heap.size≤w4.heap.size:=by
        have q1:=h2.fr.size
        have q2:=h4.fr.size
        rw[World.putObj_size] at q2
        exact Nat.le_trans q1 q2
       cases e2 with
       | normal =>
         have he:=run_endRound (P:=C.P) none hl4
         have hrr:({ rec .busy none with state:=if (none:Option Code).isNone then .ready else .done,pending:=none }:Loop)=rec .ready none:=by rw[hrec];rfl
         rw[hrr] at he
         refine⟨_,_,he,.inl ⟨rfl,⟨s2.hp,s2.nx,S4,G4,good_put .ready none hg4,by simpa using hr⟩,fun b hb=>(World.putObj_heap_other (k:=b) (r:=l) (fun e=>hlB (by rw[←e];exact hb))).trans (hbb b hb),by simpa using hsz⟩⟩
       | ret =>
         have he:=run_endRound (P:=C.P) (some .ret) hl4
         have hrr:({ rec .busy none with state:=if (some Code.ret:Option Code).isNone then .ready else .done,pending:=some .ret }:Loop)=rec .done (some .ret):=by rw[hrec];rfl
         rw[hrr] at he
         simp only at hr
         injection hr with hr
         injection hr with r1 hr
         injection hr with r2 r3
         subst r1;subst r2;subst r3
         refine⟨_,_,he,.inr ⟨rfl,?_⟩⟩
         rw[hJx]
         exact⟨.ret,S4,G4,good_put .done (some .ret) hg4,.inl ⟨rfl,rfl⟩⟩
       | exit i =>
         have he:=run_endRound (P:=C.P) (some (.exit i)) hl4
         have hrr:({ rec .busy none with state:=if (some (Code.exit i):Option Code).isNone then .ready else .done,pending:=some (.exit i) }:Loop)=rec .done (some (.exit i)):=by rw[hrec];rfl
         rw[hrr] at he
         simp only at hr
         injection hr with hr
         injection hr with r1 hr
         injection hr with r2 r3
         subst r1;subst r2;subst r3
         refine⟨_,_,he,.inr ⟨rfl,?_⟩⟩
         rw[hJx]
         exact⟨.exit i,S4,G4,good_put .done (some (.exit i)) hg4,.inr ⟨i,rfl,rfl⟩⟩
       | _=>cases hr
    have hcl:=hcalls 0 l J Jx (fun pre W W' hj fr=>by
      subst hJ
      obtain⟨hp,nx,S1,G1,hg,hr⟩:=hj
      exact⟨hp,nx,S1,G1,good_frame hg fr,hr⟩) (fun pre W W' hj fr=>by
      subst hJx
      obtain⟨c,S1,G1,hg,hr⟩:=hj
      exact⟨c,S1,G1,good_frame hg fr,hr⟩) (fun pre W hj=>by
      subst hJ
      obtain⟨hp,nx,S1,G1,hg,hr⟩:=hj
      rw[hGood] at hg
      exact hg.1.inv.glo.mono fun b hb=>⟨hg.1.inv.st b hb,rfl⟩) hround W1 hJ0 (fun b hb=>hold1 b (hBlt b hb)) (by omega)
    refine callsIn_wide.2 ((callsIn_wide.1 hcl).mono ?_)
    rintro e W2 ⟨⟨v,rfl⟩,hj | ⟨pre,hj⟩⟩
    ·rw[hJ] at hj
     obtain⟨hp,nx,S1,G1,hg,hr⟩:=hj
     rw[List.drop_length] at hr
     simp only[List.map_nil,Qz] at hr
     injection hr with hr
     injection hr with r1 hr
     injection hr with r2 r3
     subst r1;subst r2;subst r3
     have hl2:W2.heap[l]?=some (.loop (rec .ready none)):=by rw[hGood] at hg;exact hg.2.2.2.1
     have he:=run_endLoop (P:=C.P) hl2 (by rw[hrec];simp)
     have hrr:({ rec .ready none with state:=.exhausted }:Loop)=rec .exhausted none:=by rw[hrec]
     have hrp:(rec .ready none).pending=none:=by rw[hrec]
     rw[hrr,hrp] at he
     have hg':=good_put .exhausted none hg
     rw[hGood] at hg'
     have hq:=hQ a1 _ ⟨S1,G1,hg'.1⟩
     rw[ha1] at hq
     exact⟨none,_,he,hq⟩
    ·rw[hJx] at hj
     obtain⟨c,S1,G1,hg,hc⟩:=hj
     have hl2:W2.heap[l]?=some (.loop (rec .done (some c))):=by rw[hGood] at hg;exact hg.2.2.2.1
     have he:=run_endLoop (P:=C.P) hl2 (by rw[hrec];simp)
     have hrr:({ rec .done (some c) with state:=.exhausted }:Loop)=rec .exhausted (some c):=by rw[hrec]
     have hrp:(rec .done (some c)).pending=some c:=by rw[hrec]
     rw[hrr,hrp] at he
     have hg':=good_put .exhausted (some c) hg
     rw[hGood] at hg'
     have hq:=hQ a1 _ ⟨S1,G1,hg'.1⟩
     rw[ha1] at hq
     refine⟨some c,_,he,?_⟩
     rcases hc with⟨rfl,rfl⟩ | ⟨i,rfl,rfl⟩
     ·exact wpIn_ret hq
     ·exact wpIn_exit hq
 | exit id =>
   intro _ F n hF _ w0 S0 L nx0 G0 n0 st st' e a w Q _ h hs hQ
   simp only[zQ] at h
   injection h with h
   injection h with e1 e2
   subst e1;subst e2
   exact wpIn_exit (hQ a w hs)
 | scope b _=>intro _ F n hF _ w0 S0 L nx0 G0 n0 st st' e a w Q _ h;simp[zQ] at h
 | label l =>
   intro _ F n hF _ w0 S0 L nx0 G0 n0 st st' e a w Q _ h hs hQ
   simp only[zQ] at h
   injection h with h
   injection h with e1 e2
   subst e1;subst e2
   exact wpIn_label (hQ a w hs)
 | goto l=>intro _ F n hF _ w0 S0 L nx0 G0 n0 st st' e a w Q _ h;simp[zQ] at h
 | ret =>
   intro _ F n hF _ w0 S0 L nx0 G0 n0 st st' e a w Q _ h hs hQ
   simp only[zQ] at h
   injection h with h
   injection h with e1 e2
   subst e1;subst e2
   exact wpIn_ret (hQ a w hs)
 | refuse why=>intro _ F n hF _ w0 S0 L nx0 G0 n0 st st' e a w Q _ h;simp[zQ] at h
end
end Go.AM
