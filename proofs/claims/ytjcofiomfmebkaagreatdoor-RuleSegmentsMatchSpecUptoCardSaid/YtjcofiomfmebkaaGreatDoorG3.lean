/-
The abstract machine, part 7: addresses, values, numbers, strings.
-/
import Derived.Test.YtjcofiomfmebkaaGreatDoorG2
set_option maxRecDepth 8000
namespace Go.AM
open Go.RowKit
variable {dr:Prop}
section
variable {P:Program} {w:World} {S:Nat→Prop} {G:Nat→GI} {hp:Hp} {nx:Nat}
theorem QA {t:TypeId} {f o n:Nat} {ag:Bool} (h:zn P t f=some (o,n,ag)):∃(fs:Array Field) (x:Field),P.underlying t=some (.struct fs)∧fs[f]?=some x∧x.offset=o∧zS P x.type=some n∧qE P x.type=some ag:=by
 unfold zn at h
 split at h
 ·rename_i fs hu
  split at h
  ·rename_i x hx
   split at h
   ·rename_i n' a' h1 h2
    injection h with h
    injection h with e1 h
    injection h with e2 e3
    subst e1;subst e2;subst e3
    exact⟨fs,x,hu,hx,rfl,h1,h2⟩
   ·cases h
  ·cases h
 ·cases h
theorem VY (hi:Inv P w S G hp nx) {t:TypeId} {f:Nat} {p x:PV} {u:Value} (h:qC P t f p=some x) (hp':RepO w S G nx p u):Done dr P w hp nx S G x hp nx ((Instr.fieldAt t u f).run P w):=by
 have run:∀{o n:Nat} {ag:Bool} {ad:Addr},zn P t f=some (o,n,ag)→n≠0→(Instr.fieldAt t (.pointer (some ad)) f).run P w=.ok (.pointer (some (ad.add o))) w:=by
  intro o n ag ad hf hn
  obtain⟨fs,x,hu,hx,rfl,hs,_⟩:=QA hf
  simp[Instr.fieldAt,run_underlying hu,hx,Instr.sureAddr,fieldPlace,ql hs,hn]
 unfold qC at h
 split at h
 ·rename_i cs
  split at h
  ·rename_i o n ag hf
   split at h
   ·cases h
   ·rename_i hn
    injection h with h
    subst h
    cases hp'.ptr_inv with
    | ptr us h1 h2 =>
      refine zA hi (run hf hn) (.c (.ptr (fun j=>us (o+j)) (fun j pv hj=>?_) (fun j pv hj=>?_)))
      ·rw[List.getElem?_drop] at hj
       rw[kw,J3]
       exact h1 _ pv hj
      ·rw[List.getElem?_drop] at hj
       exact h2 _ pv hj
  ·cases h
 ·rename_i id i j
  have hrp:=hp'.ref_pos
  obtain⟨hid,rfl⟩:=hp'.ref_inv
  split at h
  ·rename_i o n ag hf
   split at h
   ·cases h
   ·rename_i hn
    injection h with h
    subst h
    refine zA hi (run hf hn) ?_
    rw[Addr.add_lit,Nat.add_assoc]
    exact .ref hid hrp
  ·cases h
 ·cases h
theorem zim (hi:Inv P w S G hp nx) {t:TypeId} {f:Nat} {p x:PV} {u:Value} (h:jF P t f p=some x) (hp':RepO w S G nx p u):Done dr P w hp nx S G x hp nx ((Instr.field t u f).run P w):=by
 unfold jF at h
 split at h
 ·rename_i cs
  obtain⟨us,rfl,hl,hr⟩:=hp'.agg_inv
  split at h
  ·rename_i o n hf
   split at h
   ·rename_i hle
    injection h with h
    subst h
    obtain⟨fs,x,hu,hx,rfl,hs,ha⟩:=QA hf
    refine zA (v:=.agg (us.extract x.offset (x.offset+n))) hi ?_ (.agg ?_ ?_)
    ·simp[Instr.field,run_underlying hu,hx,asAgg,part,yG ha,ql hs]
    ·simp;omega
    ·intro j pv v hj hv
     rw[List.getElem?_take] at hj
     split at hj
     ·rw[List.getElem?_drop] at hj
      rw[Array.getElem?_extract] at hv
      split at hv
      ·exact hr _ pv v hj hv
      ·cases hv
     ·cases hj
   ·cases h
  ·rename_i o n hf
   obtain⟨fs,y,hu,hx,rfl,hs,ha⟩:=QA hf
   have hlt:y.offset<us.size:=by rw[←hl];exact (List.getElem?_eq_some_iff.1 h).1
   have hu':us[y.offset]?=some us[y.offset]:=by simp[hlt]
   refine zA (v:=us[y.offset]) hi ?_ (hr _ x _ h hu')
   simp[Instr.field,run_underlying hu,hx,asAgg,part,yG ha,hu']
  ·cases h
 ·cases h
theorem wU {t e:TypeId} (h:qG P t=some e):P.underlying t=some (.slice e):=by
 unfold qG at h
 split at h
 ·injection h with h;subst h;assumption
 ·cases h
theorem znA {t:TypeId} {m:Nat} {e:TypeId} (h:zpW P t=some (m,e)):P.underlying t=some (.array m e):=by
 unfold zpW at h
 split at h
 ·injection h with h;injection h with h1 h2;subst h1;subst h2;assumption
 ·cases h
theorem zaF (hi:Inv P w S G hp nx) {t:TypeId} {p x:PV} {u:Value} {k:IntKind} {i:Int} (h:jb P t i p=some x) (hp':RepO w S G nx p u):Done dr P w hp nx S G x hp nx ((Instr.indexAt t u (.int k i)).run P w):=by
 unfold jb at h
 split at h
 ·rename_i m e ha
  have hu:=znA ha
  split at h
  ·rename_i n hn
   split at h
   ·rename_i hc
    obtain⟨hi0,him⟩:=hc
    split at h
    ·rename_i cs
     injection h with h
     subst h
     cases hp'.ptr_inv with
     | ptr us h1 h2 =>
       rename_i ad
       refine zA (v:=.pointer (some (ad.add (i.toNat*n)))) hi ?_ (.c (.ptr (fun j=>us (i.toNat*n+j)) (fun j pv hj=>?_) (fun j pv hj=>?_)))
       ·simp[Instr.indexAt,run_underlying hu,asIntOf,hi0,him,Instr.sureAddr,ql hn]
       ·rw[List.getElem?_drop] at hj
        rw[kw,J3]
        exact h1 _ pv hj
       ·rw[List.getElem?_drop] at hj
        exact h2 _ pv hj
    ·rename_i id a b
     injection h with h
     subst h
     have hrp:=hp'.ref_pos
     obtain⟨hid,rfl⟩:=hp'.ref_inv
     refine zA (v:=.pointer (some ((⟨(G id).g,a*(G id).s+b,none⟩:Addr).add (i.toNat*n)))) hi ?_ ?_
     ·simp[Instr.indexAt,run_underlying hu,asIntOf,hi0,him,Instr.sureAddr,ql hn]
     ·rw[Addr.add_lit,Nat.add_assoc]
      exact .ref hid hrp
    ·cases h
   ·cases h
  ·cases h
 ·cases h
theorem VZ (hi:Inv P w S G hp nx) {t:TypeId} {p q x:PV} {u v:Value} (h:zI P hp t p q=some x) (hp':RepO w S G nx p u) (hq:RepO w S G nx q v):Done dr P w hp nx S G x hp nx ((Instr.indexAt t u v).run P w):=by
 unfold zI at h
 split at h
 ·rename_i k i
  obtain⟨rfl,_⟩:=hq.v_inv
  split at h
  ·rename_i e he
   have hu:=wU he
   split at h
   ·rename_i n s es hs
    split at h
    ·rename_i hc
     obtain⟨rfl,hs0,hi0⟩:=hc
     cases hes:es[i.toNat]? with
     | none=>simp[hes] at h
     | some c =>
       simp[hes] at h
       subst h
       cases hp'.sl_inv with
       | sl us h0 h1 h2 h3 h4 h5 =>
         rename_i A cap
         have hcl:=h3 c (List.mem_of_getElem? hes)
         have hil:i.toNat<es.length:=(List.getElem?_eq_some_iff.1 hes).1
         have hc0:c[0]?=some (c[0]'(by omega)):=List.getElem?_eq_getElem (by omega)
         obtain⟨ad,rfl,hS,_⟩:=h4 i.toNat 0 c _ hes hc0
         have hil':i<es.length:=by omega
         refine zA (v:=.pointer (some (ad.add (i.toNat*s)))) hi ?_ (.c (.ptr (fun j=>us i.toNat j) (fun j pv hj=>?_) (fun j pv hj=>h5 i.toNat j c pv hes hj)))
         ·simp[Instr.indexAt,run_underlying hu,asIntOf,hi0,hil',ql hs]
         ·obtain⟨ad',e1,h6,h7,_⟩:=h4 i.toNat j c pv hes hj
          injection e1 with e1
          subst e1
          rw[kw,J3]
          exact⟨h6,h7⟩
    ·cases h
   ·rename_i n id off m hs
    split at h
    ·rename_i b hb
     split at h
     ·rename_i hc
      obtain⟨rfl,hn0,hi0,hik⟩:=hc
      injection h with h
      subst h
      have hop:=hp'.own_pos
      obtain⟨cap,h3,h4,h5,h6,rfl⟩:=hp'.own_inv
      have hsz:(G id).s=n:=by
       have:=(hi.live id b hb).size hop
       have h7:(P.info? b.e).map (·.size)=some n:=hs
       rw[h7] at this
       injection this with this
       exact this.symm
      have hik':i<m:=by omega
      refine zA (v:=.pointer (some ((⟨(G id).g,off*(G id).s,none⟩:Addr).add (i.toNat*n)))) hi ?_ ?_
      ·simp[Instr.indexAt,run_underlying hu,asIntOf,hi0,hik',ql hs]
      ·rw[Addr.add_lit,←hsz,←Nat.add_mul]
       have:=RepO.ref (w:=w) (S:=S) (G:=G) (nx:=nx) (id:=id) (i:=off+i.toNat) (j:=0) h3 hop
       simpa using this
     ·cases h
    ·cases h
   ·cases h
  ·exact zaF hi h hp'
 ·cases h
theorem zin (hi:Inv P w S G hp nx) {t:TypeId} {p q x:PV} {u v:Value} (h:vI P t p q=some x) (hp':RepO w S G nx p u) (hq:RepO w S G nx q v):Done dr P w hp nx S G x hp nx ((Instr.index t u v).run P w):=by
 unfold vI at h
 split at h
 ·rename_i s k i
  obtain⟨rfl,_⟩:=hq.v_inv
  obtain⟨rfl,_⟩:=hp'.v_inv
  split at h
  ·rename_i hu
   split at h
   ·rename_i h0
    split at h
    ·rename_i b hb
     injection h with h
     subst h
     refine zA (v:=.int .u8 b.toNat) hi ?_ (.c (.v rfl))
     simp[Instr.index,run_underlying hu,asIntOf,h0,hb]
    ·cases h
   ·cases h
  ·cases h
 ·cases h
theorem zcu (hi:Inv P w S G hp nx) {vs:List PV} {x:PV} {i:Nat} {u:Value} (h:vs[i]?=some x) (hp':RepO w S G nx (.tup vs) u):Done dr P w hp nx S G x hp nx ((Instr.extract u i).run P w):=by
 obtain⟨us,rfl,hl,hr⟩:=hp'.tup_inv
 have hlt:i<us.size:=by rw[←hl];exact (List.getElem?_eq_some_iff.1 h).1
 have hu':us[i]?=some us[i]:=by simp[hlt]
 exact zA (v:=us[i]) hi (by simp[Instr.extract,hu']) (hr i x _ h hu')
theorem j8 (x:Value) (h:lit x=true):RepO w S G nx (.v x) x:=.c (.v h)
theorem znB {op:BinOp} {k:IntKind} {a b:Int} {x:PV} (h:zsR op k a b=some x) (t:TypeId) (w:World):∃v,x=.v v∧lit v=true∧(binOp op t (.int k a) (.int k b)).run P w=.ok v w:=by
 unfold zsR at h
 split at h<;>(try (split at h))<;>first
  | (injection h with h;subst h;exact⟨_,rfl,rfl,by simp[binOp,Op.intArith,Op.intDiv,Op.intCmp,Op.intBits,Op.shift, *]⟩)
  | cases h
theorem znC {op:BinOp} {a b:ByteArray} {x:PV} (h:zsS op a b=some x) (t:TypeId) (w:World):∃v,x=.v v∧lit v=true∧(binOp op t (.string a) (.string b)).run P w=.ok v w:=by
 have hmax:IntKind.i64.max=9223372036854775807:=by decide
 unfold zsS at h
 split at h
 ·split at h
  ·rename_i hle
   injection h with h
   subst h
   refine⟨_,rfl,rfl,?_⟩
   have h2:(a.size:Int)+(b.size:Int)≤9223372036854775807:=by simp only[maxLen] at hle;omega
   simp[binOp,Op.stringOp,h2]
  ·cases h
 all_goals first
  | (injection h with h;subst h;exact⟨_,rfl,rfl,by simp[binOp,Op.stringOp]⟩)
  | cases h
theorem xo {op:BinOp} {t:TypeId} {x y:Operand} {a b:Value} (h:lit a=true) (hn:a≠.nilIface) (w:World):(eqGuard op t x y a b).run P w=.ok () w:=by
 unfold eqGuard
 cases op<;>simp<;>(cases a<;>cases b<;>simp_all[lit])
theorem zkl {t:TypeId} {k:Nat} (h:zsE P t=some k):qE P t=some false:=by
 unfold zsE at h
 unfold qE
 split at h<;>first
  | (rename_i hu;rw[hu];rfl)
  | cases h
theorem YZ (w:World) (d:Nat) (ux uy:Array Value):∀(fs:List Field) (k:Nat) (ks:List Nat) (px py:List PV) (r:Bool),zih P k fs=some ks→qp ks px py=some r →
  (∀(j:Nat) (pv:PV),px[j]?=some pv→∃u,ux[k+j]?=some u∧RepO w S G nx pv u)→(∀(j:Nat) (pv:PV),py[j]?=some pv→∃u,uy[k+j]?=some u∧RepO w S G nx pv u) →
  (Op.eqFields (d+1) ux uy fs).run P w=.ok r w
 | [],k,ks,px,py,r,ht,he,_,_=>by
   simp only[zih] at ht
   injection ht with ht
   subst ht
   simp only[qp] at he
   injection he with he
   subst he
   simp[Op.eqFields]
 | f::fs,k,ks,px,py,r,ht,he,hx,hy=>by
   simp only[zih] at ht
   split at ht
   ·rename_i hon
    split at ht
    ·rename_i tg ks' h1 h2
     injection ht with ht
     subst ht
     have fin:∀(p q:PV) (px' py':List PV) (b r':Bool),px=p::px'→py=q::py'→(∀u v,RepO w S G nx p u→RepO w S G nx q v→(Op.equalIn (d+1) f.type u v).run P w=.ok b w)→qp ks' px' py'=some r'→r=(b&&r') →
       (Op.eqFields (d+1) ux uy (f::fs)).run P w=.ok r w:=by
      intro p q px' py' b r' e1 e2 h3 h4 h5
      subst e1;subst e2;subst h5
      obtain⟨u,hu1,hu2⟩:=hx 0 p rfl
      obtain⟨v,hv1,hv2⟩:=hy 0 q rfl
      simp only[Nat.add_zero] at hu1 hv1
      have ha:=zkl h1
      have hp1:(part f.type ux f.offset).run P w=.ok u w:=by simp[part,yG ha,hon.1,hu1]
      have hp2:(part f.type uy f.offset).run P w=.ok v w:=by simp[part,yG ha,hon.1,hv1]
      have ih:=YZ w d ux uy fs (k+1) ks' px' py' r' h2 h4 (fun j pv hj=>by have:=hx (j+1) pv (by simpa using hj);rwa [show k+(j+1)=k+1+j from by omega] at this) (fun j pv hj=>by have:=hy (j+1) pv (by simpa using hj);rwa [show k+(j+1)=k+1+j from by omega] at this)
      cases b<;>simp[Op.eqFields,hon.2,hp1,hp2,h3 u v hu2 hv2,ih]
     unfold qp at he
     unfold zsE at h1
     split at he
     ·simp_all
     ·rename_i ks1 kk a xs1 kk' b ys1 e1
      injection e1 with e1 e1'
      subst e1;subst e1'
      split at he
      ·rename_i hk
       subst hk
       cases he':qp ks' xs1 ys1 with
       | none=>simp[he'] at he
       | some r' =>
         simp[he'] at he
         refine fin _ _ _ _ (a==b) r' rfl rfl (fun u v hu hv=>?_) he' he.symm
         obtain⟨rfl,_⟩:=hu.v_inv
         obtain⟨rfl,_⟩:=hv.v_inv
         split at h1<;>first
          | (rename_i hun;simp[Op.equalIn,run_underlying hun];done)
          | simp_all
      ·cases he
     ·rename_i ks1 a xs1 b ys1 e1
      injection e1 with e1 e1'
      subst e1;subst e1'
      cases he':qp ks' xs1 ys1 with
      | none=>simp[he'] at he
      | some r' =>
        simp[he'] at he
        refine fin _ _ _ _ (a==b) r' rfl rfl (fun u v hu hv=>?_) he' he.symm
        obtain⟨rfl,_⟩:=hu.v_inv
        obtain⟨rfl,_⟩:=hv.v_inv
        split at h1<;>first
         | (rename_i hun;simp[Op.equalIn,run_underlying hun];done)
         | simp_all
     ·rename_i ks1 a xs1 b ys1 e1
      injection e1 with e1 e1'
      subst e1;subst e1'
      cases he':qp ks' xs1 ys1 with
      | none=>simp[he'] at he
      | some r' =>
        simp[he'] at he
        refine fin _ _ _ _ (a==b) r' rfl rfl (fun u v hu hv=>?_) he' he.symm
        obtain⟨rfl,_⟩:=hu.v_inv
        obtain⟨rfl,_⟩:=hv.v_inv
        split at h1<;>first
         | (rename_i hun;simp[Op.equalIn,run_underlying hun];done)
         | simp_all
     ·cases he
    ·cases ht
   ·cases ht
def eq1:Nat→PV→PV→Option Bool
 | 0,.v (.int k a),.v (.int k' b)=>if k=k' then some (a==b) else none
 | 1,.v (.bool a),.v (.bool b)=>some (a==b)
 | 2,.v (.string a),.v (.string b)=>some (a==b)
 | _,_,_=>none
theorem Zd (k:Nat) (ks:List Nat) (py:List PV):qp (k::ks) [] py=none:=by
 unfold qp
 split<;>first | rfl | simp_all
theorem Ze (k:Nat) (ks:List Nat) (px:List PV):qp (k::ks) px []=none:=by
 unfold qp
 split<;>first | rfl | simp_all
theorem kW (k:Nat) (ks:List Nat) (p q:PV) (px py:List PV):qp (k::ks) (p::px) (q::py)=(eq1 k p q).bind fun b=>(qp ks px py).map (b&&·):=by
 match k with
 | 0 =>
   cases p with
   | v x=>cases x with
     | int w a=>cases q with
       | v y=>cases y with
         | int w' b=>simp only[qp,eq1];split<;>rfl
         | _=>rfl
       | _=>rfl
     | _=>rfl
   | _=>rfl
 | 1 =>
   cases p with
   | v x=>cases x with
     | bool a=>cases q with
       | v y=>cases y<;>rfl
       | _=>rfl
     | _=>rfl
   | _=>rfl
 | 2 =>
   cases p with
   | v x=>cases x with
     | string a=>cases q with
       | v y=>cases y<;>rfl
       | _=>rfl
     | _=>rfl
   | _=>rfl
 | k+3=>rfl
theorem Qi:∀(ks1 ks:List Nat) (px py:List PV) (r:Bool),qp (ks1++ks) px py=some r→∃r1 r2,qp ks1 px py=some r1∧qp ks (px.drop ks1.length) (py.drop ks1.length)=some r2∧r=(r1&&r2)
 | [],ks,px,py,r,h=>⟨true,r,rfl,h,rfl⟩
 | k::ks1,ks,[],py,r,h=>by rw[List.cons_append,Zd] at h;cases h
 | k::ks1,ks,p::px,[],r,h=>by rw[List.cons_append,Ze] at h;cases h
 | k::ks1,ks,p::px,q::py,r,h=>by
   rw[List.cons_append,kW] at h
   cases hb:eq1 k p q with
   | none=>rw[hb] at h;cases h
   | some b =>
     rw[hb,Option.bind_some] at h
     obtain⟨r',h1,rfl⟩:=Option.map_eq_some_iff.1 h
     obtain⟨r1,r2,g1,g2,rfl⟩:=Qi ks1 ks px py r' h1
     exact⟨b&&r1,r2,by rw[kW,hb,Option.bind_some,g1];rfl,g2,by rw[Bool.and_assoc]⟩
theorem Y0:∀(ks:List Nat) (px py:List PV),qp ks (px.take ks.length) (py.take ks.length)=qp ks px py
 | [],px,py=>by simp only[qp]
 | k::ks,[],py=>by rw[List.take_nil,Zd,Zd]
 | k::ks,p::px,[]=>by rw[List.take_nil,Ze,Ze]
 | k::ks,p::px,q::py=>by rw[List.length_cons,List.take_succ_cons,List.take_succ_cons,kW,kW,Y0 ks px py]
theorem znD {t:TypeId} {ks:List Nat} (h:zuT P t=some ks):∃gs,P.underlying t=some (.struct gs)∧zih P 0 gs.toList=some ks∧P.stoodInHeld t=false∧zS P t=some ks.length:=by
 unfold zuT at h
 split at h
 ·cases h
 ·rename_i hg
  split at h
  ·rename_i gs hu
   split at h
   ·rename_i ks0 ht
    split at h
    ·rename_i hn
     injection h with h
     subst h
     exact⟨gs,hu,ht,by cases hh:P.stoodInHeld t<;>simp_all,hn⟩
    ·cases h
   ·cases h
  ·cases h
set_option maxHeartbeats 2000000 in
theorem xp (w:World) (d:Nat) (ux uy:Array Value):∀(fs:List Field) (k:Nat) (ks:List Nat) (px py:List PV) (r:Bool),zii P k fs=some ks→qp ks px py=some r →
  (∀(j:Nat) (pv:PV),px[j]?=some pv→∃u,ux[k+j]?=some u∧RepO w S G nx pv u)→(∀(j:Nat) (pv:PV),py[j]?=some pv→∃u,uy[k+j]?=some u∧RepO w S G nx pv u) →
  (Op.eqFields (d+2) ux uy fs).run P w=.ok r w
 | [],k,ks,px,py,r,ht,he,_,_=>by
   simp only[zii] at ht
   injection ht with ht
   subst ht
   simp only[qp] at he
   injection he with he
   subst he
   simp[Op.eqFields]
 | f::fs,k,ks,px,py,r,ht,he,hx,hy=>by
   simp only[zii] at ht
   split at ht
   ·rename_i hon
    split at ht
    ·rename_i tg h1
     split at ht
     case h_2=>cases ht
     rename_i ks' h2
     injection ht with ht
     subst ht
     have fin:∀(p q:PV) (px' py':List PV) (b r':Bool),px=p::px'→py=q::py'→(∀u v,RepO w S G nx p u→RepO w S G nx q v→(Op.equalIn (d+2) f.type u v).run P w=.ok b w)→qp ks' px' py'=some r'→r=(b&&r') →
       (Op.eqFields (d+2) ux uy (f::fs)).run P w=.ok r w:=by
      intro p q px' py' b r' e1 e2 h3 h4 h5
      subst e1;subst e2;subst h5
      obtain⟨u,hu1,hu2⟩:=hx 0 p rfl
      obtain⟨v,hv1,hv2⟩:=hy 0 q rfl
      simp only[Nat.add_zero] at hu1 hv1
      have ha:=zkl h1
      have hp1:(part f.type ux f.offset).run P w=.ok u w:=by simp[part,yG ha,hon.1,hu1]
      have hp2:(part f.type uy f.offset).run P w=.ok v w:=by simp[part,yG ha,hon.1,hv1]
      have ih:=xp w d ux uy fs (k+1) ks' px' py' r' h2 h4 (fun j pv hj=>by have:=hx (j+1) pv (by simpa using hj);rwa [show k+(j+1)=k+1+j from by omega] at this) (fun j pv hj=>by have:=hy (j+1) pv (by simpa using hj);rwa [show k+(j+1)=k+1+j from by omega] at this)
      cases b<;>simp[Op.eqFields,hon.2,hp1,hp2,h3 u v hu2 hv2,ih]
     unfold qp at he
     unfold zsE at h1
     split at he
     ·simp_all
     ·rename_i ks1 kk a xs1 kk' b ys1 e1
      injection e1 with e1 e1'
      subst e1;subst e1'
      split at he
      ·rename_i hk
       subst hk
       cases he':qp ks' xs1 ys1 with
       | none=>simp[he'] at he
       | some r' =>
         simp[he'] at he
         refine fin _ _ _ _ (a==b) r' rfl rfl (fun u v hu hv=>?_) he' he.symm
         obtain⟨rfl,_⟩:=hu.v_inv
         obtain⟨rfl,_⟩:=hv.v_inv
         split at h1<;>first
          | (rename_i hun;simp[Op.equalIn,run_underlying hun];done)
          | simp_all
      ·cases he
     ·rename_i ks1 a xs1 b ys1 e1
      injection e1 with e1 e1'
      subst e1;subst e1'
      cases he':qp ks' xs1 ys1 with
      | none=>simp[he'] at he
      | some r' =>
        simp[he'] at he
        refine fin _ _ _ _ (a==b) r' rfl rfl (fun u v hu hv=>?_) he' he.symm
        obtain⟨rfl,_⟩:=hu.v_inv
        obtain⟨rfl,_⟩:=hv.v_inv
        split at h1<;>first
         | (rename_i hun;simp[Op.equalIn,run_underlying hun];done)
         | simp_all
     ·rename_i ks1 a xs1 b ys1 e1
      injection e1 with e1 e1'
      subst e1;subst e1'
      cases he':qp ks' xs1 ys1 with
      | none=>simp[he'] at he
      | some r' =>
        simp[he'] at he
        refine fin _ _ _ _ (a==b) r' rfl rfl (fun u v hu hv=>?_) he' he.symm
        obtain⟨rfl,_⟩:=hu.v_inv
        obtain⟨rfl,_⟩:=hv.v_inv
        split at h1<;>first
         | (rename_i hun;simp[Op.equalIn,run_underlying hun];done)
         | simp_all
     ·cases he
    ·split at ht
     case h_2=>cases ht
     rename_i k1 hs1
     split at ht
     case h_2=>cases ht
     rename_i ks' h2
     injection ht with ht
     subst ht
     obtain⟨r1,r2,e1,e2,rfl⟩:=Qi _ _ _ _ _ he
     rw[←Y0] at e1
     obtain⟨gs,hgu,hgt,hgs,hgn⟩:=znD hs1
     have hagg:qE P f.type=some true:=by unfold qE;rw[hgu];rfl
     have hfo:P.fieldsOf f.type=gs:=by simp[Program.fieldsOf,hgu]
     have hp1:(part f.type ux f.offset).run P w=.ok (.agg (ux.extract k (k+k1.length))) w:=by simp[part,yG hagg,hon.1,ql hgn]
     have hp2:(part f.type uy f.offset).run P w=.ok (.agg (uy.extract k (k+k1.length))) w:=by simp[part,yG hagg,hon.1,ql hgn]
     have hin:∀(pz:List PV) (uz:Array Value),(∀(j:Nat) (pv:PV),pz[j]?=some pv→∃u,uz[k+j]?=some u∧RepO w S G nx pv u)→∀(j:Nat) (pv:PV),(pz.take k1.length)[j]?=some pv→∃u,(uz.extract k (k+k1.length))[0+j]?=some u∧RepO w S G nx pv u:=by
      intro pz uz hz j pv hj
      have hjl:j<k1.length:=by
       have:=(List.getElem?_eq_some_iff.1 hj).1
       rw[List.length_take] at this
       omega
      rw[List.getElem?_take_of_lt hjl] at hj
      obtain⟨u,hu1,hu2⟩:=hz j pv hj
      refine⟨u,?_,hu2⟩
      rw[Nat.zero_add,Array.getElem?_extract]
      have hlt:=(Array.getElem?_eq_some_iff.1 hu1).1
      rw[if_pos (by omega)]
      exact hu1
     have hrun:(Op.equalIn (d+2) f.type (.agg (ux.extract k (k+k1.length))) (.agg (uy.extract k (k+k1.length)))).run P w=.ok r1 w:=by
      rw[run_equalIn_struct w (d+1) f.type _ _ (by rw[hfo];exact hgu) hgs,hfo]
      exact YZ w d _ _ gs.toList 0 k1 _ _ r1 hgt e1 (hin px ux hx) (hin py uy hy)
     have hdr:∀(pz:List PV) (uz:Array Value),(∀(j:Nat) (pv:PV),pz[j]?=some pv→∃u,uz[k+j]?=some u∧RepO w S G nx pv u)→∀(j:Nat) (pv:PV),(pz.drop k1.length)[j]?=some pv→∃u,uz[k+k1.length+j]?=some u∧RepO w S G nx pv u:=by
      intro pz uz hz j pv hj
      rw[List.getElem?_drop] at hj
      obtain⟨u,hu1,hu2⟩:=hz (k1.length+j) pv hj
      exact⟨u,by rwa [show k+(k1.length+j)=k+k1.length+j by omega] at hu1,hu2⟩
     have ih:=xp w d ux uy fs (k+k1.length) ks' _ _ r2 h2 e2 (hdr px ux hx) (hdr py uy hy)
     cases r1<;>simp[Op.eqFields,hon.2,hp1,hp2,hrun,ih]
   ·cases ht
theorem zcv {t:TypeId} {ks:List Nat} {xs ys:List PV} {r:Bool} {u v:Value} (hf:znv P t=some ks) (he:qp ks xs ys=some r) (hx:RepO w S G nx (.agg xs) u) (hy:RepO w S G nx (.agg ys) v) :
  (Op.equal t u v).run P w=.ok r w∧∀(op:BinOp) (x y:Operand),(eqGuard op t x y u v).run P w=.ok () w:=by
 obtain⟨ux,rfl,hlx,hrx⟩:=hx.agg_inv
 obtain⟨uy,rfl,hly,hry⟩:=hy.agg_inv
 unfold znv at hf
 split at hf
 ·cases hf
 ·rename_i hg
  have hg1:P.stoodInHeld t=false:=by cases h:P.stoodInHeld t<;>simp_all
  have hg2:P.eqGuardType P.depth t=false:=by cases h:P.eqGuardType P.depth t<;>simp_all
  split at hf
  ·rename_i fs hu
   have hfo:P.fieldsOf t=fs:=by simp[Program.fieldsOf,hu]
   constructor
   ·unfold Op.equal Op.maxDepth
    rw[show (10000:Nat)=9999+1 from rfl,run_equalIn_struct w 9999 t ux uy (by rw[hfo];exact hu) hg1,hfo]
    exact xp w 9997 ux uy fs.toList 0 ks xs ys r hf he
     (fun j pv hj=>by
      have hlt:j<ux.size:=by rw[←hlx];exact (List.getElem?_eq_some_iff.1 hj).1
      exact⟨ux[j],by simp[hlt],hrx j pv _ hj (by simp[hlt])⟩)
     (fun j pv hj=>by
      have hlt:j<uy.size:=by rw[←hly];exact (List.getElem?_eq_some_iff.1 hj).1
      exact⟨uy[j],by simp[hlt],hry j pv _ hj (by simp[hlt])⟩)
   ·intro op x y
    unfold eqGuard
    cases op<;>simp[hg2]
  ·cases hf
theorem XK {t:TypeId} (a b:Bool) (hu:P.underlying t=some .bool) (w:World):(Op.equal t (.bool a) (.bool b)).run P w=.ok (a==b) w:=by
 have h:∀d:Nat,(Op.equalIn (d+1) t (.bool a) (.bool b)).run P w=.ok (a==b) w:=fun d=>by simp only[Op.equalIn,Sem.run_bind,run_underlying hu,Result.andThen_ok,Sem.run_pure]
 exact h 9999
theorem zcw {t e:TypeId} (A:Option Addr) (n c:Nat) (hu:P.underlying t=some (.slice e)) (w:World):(Op.equal t (.slice A n c) (.slice none 0 0)).run P w=.ok A.isNone w:=by
 have h:∀d:Nat,(Op.equalIn (d+1) t (.slice A n c) (.slice none 0 0)).run P w=.ok A.isNone w:=fun d=>by
  cases A<;>simp only[Op.equalIn,Sem.run_bind,run_underlying hu,Result.andThen_ok,Sem.run_pure]<;>rfl
 exact h 9999
theorem zcx {p:PV} {u:Value} {r:Bool} (h:QY p=some r) (hu:RepO w S G nx p u):∃A n c,u=.slice A n c∧A.isNone=r:=by
 unfold QY at h
 split at h
 ·injection h with h;subst h;exact⟨none,0,0,hu.nil_inv,rfl⟩
 ·injection h with h;subst h
  obtain⟨ad,cap,rfl,_⟩:=hu.em_inv
  exact⟨_,_,_,rfl,rfl⟩
 ·injection h with h;subst h
  obtain⟨cap,_,_,_,_,rfl⟩:=hu.own_inv
  exact⟨_,_,_,rfl,rfl⟩
 ·rename_i s c es
  injection h with h;subst h
  cases hu.sl_inv with
  | sl us h0 h1 h2 h3 h4 h5 =>
    rename_i A cap
    cases A with
    | none=>have:=h0 rfl;subst this;simp at h1
    | some a=>exact⟨_,_,_,rfl,rfl⟩
 ·cases h
theorem zio (hi:Inv P w S G hp nx) {op:BinOp} {t:TypeId} {p q x:PV} {u v:Value} (ox oy:Operand) (h:QZ P op t p q=some x) (hu:RepO w S G nx p u) (hv:RepO w S G nx q v) :
  Done dr P w hp nx S G x hp nx ((do eqGuard op t ox oy u v;binOp op t u v:Sem Value).run P w):=by
 unfold QZ at h
 split at h
 ·rename_i k a k' b
  obtain⟨rfl,_⟩:=hu.v_inv
  obtain⟨rfl,_⟩:=hv.v_inv
  split at h
  ·rename_i hk
   subst hk
   obtain⟨r,rfl,hl,hr⟩:=znB (P:=P) h t w
   exact zA (v:=r) hi (by simp[xo (a:=.int k a) rfl (by simp) w,hr]) (j8 r hl)
  ·cases h
 ·rename_i a b
  obtain⟨rfl,_⟩:=hu.v_inv
  obtain⟨rfl,_⟩:=hv.v_inv
  obtain⟨r,rfl,hl,hr⟩:=znC (P:=P) h t w
  exact zA (v:=r) hi (by simp[xo (a:=.string a) rfl (by simp) w,hr]) (j8 r hl)
 ·rename_i a b
  obtain⟨rfl,_⟩:=hu.v_inv
  obtain⟨rfl,_⟩:=hv.v_inv
  split at h
  ·rename_i hun
   injection h with h
   subst h
   refine zA (v:=.bool (a==b)) hi ?_ (j8 _ rfl)
   simp only[Sem.run_bind,xo (a:=.bool a) rfl (by simp) w,Result.andThen_ok,binOp,XK a b hun,Sem.run_pure]
  ·rename_i hun
   injection h with h
   subst h
   refine zA (v:=.bool (!(a==b))) hi ?_ (j8 _ rfl)
   simp only[Sem.run_bind,xo (a:=.bool a) rfl (by simp) w,Result.andThen_ok,binOp,XK a b hun,Sem.run_pure]
  ·cases h
 ·rename_i xs ys
  split at h
  ·rename_i ks hf
   split at h
   ·cases he:qp ks xs ys with
    | none=>simp[he] at h
    | some r =>
      simp[he] at h
      subst h
      obtain⟨h1,h2⟩:=zcv hf he hu hv
      obtain⟨ux,rfl,_,_⟩:=hu.agg_inv
      obtain⟨uy,rfl,_,_⟩:=hv.agg_inv
      exact zA (v:=.bool r) hi (by simp[h2,binOp,h1]) (j8 _ rfl)
   ·cases he:qp ks xs ys with
    | none=>simp[he] at h
    | some r =>
      simp[he] at h
      subst h
      obtain⟨h1,h2⟩:=zcv hf he hu hv
      obtain⟨ux,rfl,_,_⟩:=hu.agg_inv
      obtain⟨uy,rfl,_,_⟩:=hv.agg_inv
      exact zA (v:=.bool !r) hi (by simp[h2,binOp,h1]) (j8 _ rfl)
   ·cases h
  ·cases h
 ·have:=hv.nil_inv
  subst this
  split at h
  ·rename_i e r he hn
   injection h with h
   subst h
   obtain⟨A,n,c,rfl,rfl⟩:=zcx hn hu
   refine zA (v:=.bool A.isNone) hi ?_ (j8 _ rfl)
   simp only[Sem.run_bind,eqGuard,binOp,zcw A n c (wU he),Sem.run_pure,Result.andThen_ok]
   simp
  ·rename_i e r he hn
   injection h with h
   subst h
   obtain⟨A,n,c,rfl,rfl⟩:=zcx hn hu
   refine zA (v:=.bool !A.isNone) hi ?_ (j8 _ rfl)
   simp only[Sem.run_bind,eqGuard,binOp,zcw A n c (wU he),Sem.run_pure,Result.andThen_ok]
   simp
  ·cases h
 ·cases h
theorem zkm (hi:Inv P w S G hp nx) {op:BinOp} {t:TypeId} {p q x:PV} {u v:Value} (ox oy:Operand) (h:zco (isK oy) P op t p q=some x) (hu:RepO w S G nx p u) (hv:RepO w S G nx q v) :
  Done dr P w hp nx S G x hp nx ((do eqGuard op t ox oy u v;binOp op t u v:Sem Value).run P w):=by
 unfold zco at h
 split at h
 ·rename_i hk
  obtain⟨rfl,_⟩:=hu.v_inv
  obtain⟨rfl,_⟩:=hv.v_inv
  obtain⟨c,rfl⟩:∃c,oy=.const c:=by
   cases oy<;>first | exact⟨_,rfl⟩ | (simp[isK] at hk)
  unfold znw at h
  split at h
  ·rename_i hf
   unfold zkj at hf
   split at hf
   ·rename_i ms hun
    have he:(Op.equal t .nilIface .nilIface).run P w=.ok true w:=by
     have h:∀d:Nat,(Op.equalIn (d+1) t .nilIface .nilIface).run P w=.ok true w:=fun d=>by simp only[Op.equalIn,Sem.run_bind,run_underlying hun,Result.andThen_ok,Sem.run_pure]
     exact h 9999
    split at h
    ·injection h with h
     subst h
     refine zA (v:=.bool true) hi ?_ (j8 _ rfl)
     simp[eqGuard,binOp,he,Result.andThen]
    ·injection h with h
     subst h
     refine zA (v:=.bool false) hi ?_ (j8 _ rfl)
     simp[eqGuard,binOp,he,Result.andThen]
    ·cases h
   ·cases hf
  ·cases h
 ·exact zio hi ox oy h hu hv
theorem zkn (hi:Inv P w S G hp nx) {op:UnOp} {p x:PV} {u:Value} (h:unA op p=some x) (hu:RepO w S G nx p u):Done dr P w hp nx S G x hp nx ((Op.unary op u).run P w):=by
 unfold unA at h
 split at h
 ·obtain⟨rfl,_⟩:=hu.v_inv
  split at h
  ·injection h with h
   subst h
   exact zA (v:=_) hi (by simp[Op.unary]) (j8 _ rfl)
  ·cases h
 ·obtain⟨rfl,_⟩:=hu.v_inv
  split at h
  ·injection h with h
   subst h
   exact zA (v:=_) hi (by simp[Op.unary,Op.intArith]) (j8 _ rfl)
  ·cases h
 ·cases h
theorem zko (hi:Inv P w S G hp nx) {src dst:TypeId} {p x:PV} {u:Value} (h:VV P src dst p=some x) (hu:RepO w S G nx p u):Done dr P w hp nx S G x hp nx ((convert src dst u).run P w):=by
 unfold VV at h
 split at h
 ·obtain⟨rfl,_⟩:=hu.v_inv
  split at h
  ·rename_i d k h1 h2
   injection h with h
   subst h
   exact zA (v:=_) hi (by simp[convert,run_underlying h1,run_underlying h2,Conv.intToInt]) (j8 _ rfl)
  ·cases h
 ·obtain⟨rfl,_⟩:=hu.v_inv
  split at h
  ·rename_i d h1 h2
   injection h with h
   subst h
   exact zA (v:=_) hi (by simp[convert,run_underlying h1,run_underlying h2]) (j8 _ rfl)
  ·cases h
 ·cases h
end
end Go.AM
