/-
The abstract machine, part 17: from what the row reads to pure arguments; a law's call.
-/
import Derived.Test.YtjcofiomfmebkaaGreatDoorG8
import Derived.ProofKit
import Derived.Lib.Strings
import Derived.Carry
import Derived.ChangeSame
import Derived.OpenShut
set_option maxRecDepth 8000
namespace Go.AM
open Go.RowKit Go.WideShapes Go.ChangeShapes
variable {dr:Prop}
def zkU (P:Program):Nat→List Field→Option Nat
 | o,[]=>some o
 | o,f::fs=>if f.offset=o then zkU P (o+P.cellsOf f.type) fs else none
def zaP (P:Program) (T:List TypeId):Bool:=T.all fun t=>match P.underlying t with
 | some .bool | some (.int _) | some .string=>P.cellsOf t==1
 | some (.slice e)=>P.cellsOf t==1&&T.contains e&&decide (0<P.cellsOf e)
 | some (.struct fs)=>zkU P 0 fs.toList==some (P.cellsOf t)&&fs.toList.all fun f=>T.contains f.type
 | _=>false
structure Bounds (H:Type) (Bl:Nat→Prop) (Bd:DataW H→Prop):Prop where
 slice:∀es sp,Bd (.slice es sp)→Bl es.length∧∀d∈es,Bd d
 nil:Bl 0
 agg:∀l,Bd (.agg l)→∀d∈l,Bd d
 str:∀b,Bd (.lit (.string b))→Bl b.length
section
variable {H:Type} {enc:TypeId×Value→H} {P:Program} {w:World} {sp:Nat→Bool} {held:Bool} {Bl:Nat→Prop} {Bd:DataW H→Prop}
theorem zaQ {α:Type} {l:List α} {o n j:Nat} (hj:j<n):((l.drop o).take n)[j]?=l[o+j]?:=by
 rw[List.getElem?_take,if_pos hj,List.getElem?_drop]
theorem zcO {R:PV→Value→Prop} {Q:Field→List PV→Prop}:∀(fs:List Field) (o n:Nat) (cs:List Value),zkU P o fs=some n→cs.length=n →
  (∀f∈fs,∃pvs,Zip R pvs ((cs.drop f.offset).take (P.cellsOf f.type))∧Q f pvs) →
  ∃pvs:List PV,pvs.length+o=n∧(∀(j:Nat) (pv:PV) (u:Value),pvs[j]?=some pv→cs[o+j]?=some u→R pv u)∧∀f∈fs,o≤f.offset∧Q f ((pvs.drop (f.offset - o)).take (P.cellsOf f.type))
 | [],o,n,cs,ht,hl,_=>by
   simp only[zkU] at ht
   injection ht with ht
   subst ht
   exact⟨[],by simp,by simp,by simp⟩
 | f::fs,o,n,cs,ht,hl,h=>by
   simp only[zkU] at ht
   split at ht
   ·rename_i ho
    obtain⟨p1,hz,hq⟩:=h f (by simp)
    obtain⟨p2,h1,h2,h3⟩:=zcO fs (o+P.cellsOf f.type) n cs ht hl (fun f' hf'=>h f' (by simp[hf']))
    have hl1:p1.length=P.cellsOf f.type:=by
     have:=hz.1
     simp only[List.length_take,List.length_drop] at this
     omega
    refine⟨p1++p2,by simp;omega,fun j pv u hj hu=>?_,fun f' hf'=>?_⟩
    ·by_cases hjl:j<p1.length
     ·rw[List.getElem?_append_left hjl] at hj
      refine hz.2 j pv u hj ?_
      rw[zaQ (by omega),ho]
      exact hu
     ·rw[List.getElem?_append_right (by omega)] at hj
      refine h2 (j - p1.length) pv u hj ?_
      rw[show o+P.cellsOf f.type+(j - p1.length)=o+j from by omega]
      exact hu
    ·rcases List.mem_cons.1 hf' with rfl | hf'
     ·refine⟨by omega,?_⟩
      have:((p1++p2).drop (f'.offset - o)).take (P.cellsOf f'.type)=p1:=by
       rw[show f'.offset - o=0 from by omega,List.drop_zero,←hl1,List.take_left]
      rw[this]
      exact hq
     ·obtain⟨a1,a2⟩:=h3 f' hf'
      refine⟨by omega,?_⟩
      have:(p1++p2).drop (f'.offset - o)=p2.drop (f'.offset - (o+P.cellsOf f.type)):=by
       rw[List.drop_append,List.drop_eq_nil_of_le (by omega),List.nil_append]
       congr 1
       omega
      rw[this]
      exact a2
   ·cases ht
end
section
variable {C:Ctx} {pf:FuncId→Bool} {f:FuncId} {fn:Func} {code:Code}
theorem zkV (hg:GoodD dr C pf) (hk:Known C pf f fn code) {args:List PV} (h:zg C fn args=some (.v (.bool true))) (hn:args.length≤fn.ntmps) {w:World} {vs:List Value} (hsh:w.ShapedOpen C.P) (htab:∀t∈ZP,zkh w (fun b=>b<w.heap.size) t) (hz:Zip (RepC w (fun b=>b<w.heap.size)) args vs) :
  Calls C.P f vs.toArray w fun e w'=>e=.returned (.bool true)∧Below w.heap.size w w':=by
 unfold zg at h
 split at h
 ·rename_i x hpe nxe hef
  obtain⟨⟨r,hp2⟩,hfz,hr⟩:=zp h
  simp only at hr
  subst hr
  refine (ju hg hk hef hn (fun _ hb=>hb) (Glo.of_shape hsh htab) hz).mono fun e w' hh=>?_
  obtain⟨v,S',G',he,fr,inv',hx,_⟩:=hh
  obtain⟨S2,_,hc⟩:=kV (dr:=dr) inv' hfz hx
  obtain⟨rfl,_⟩:=hc.v_inv
  exact⟨he,fr.os,fr.tape,fr.output,fr.size,fun k hk=>fr.block k hk fun h=>h⟩
 ·cases h
end
end Go.AM
namespace Go.AM
open Go.RowKit
variable {dr:Prop}
attribute [congr] ze1 ze2
attribute [simp] znR znS zqA zkM ze8 znT zkN zqB znV znU ziA ziB ze5 zcK zkL ziC zaK ziD Jo
 zaL ziE zfa zfb znW
@[simp] theorem zn0 (K:Exit→St→Prop) (st:St):Yk K st=K .normal st:=rfl
@[simp] theorem blockK_other (id i:Nat) (K:Exit→St→Prop) (st:St) (h:¬i=id):xO id K (.exit i) st=K (.exit i) st:=by simp[xO,h]
@[simp] theorem zq {α:Type} (f:Nat→α) (k i:Nat) (x:α) (h:¬i=k):upd f k x i=f i:=by simp[upd,h]
@[simp] theorem put_some (σ:Nat→PV) (d:Nat) (x:PV):put σ (some d) x=upd σ d x:=rfl
@[simp] theorem put_none (σ:Nat→PV) (x:PV):put σ none x=σ:=rfl
@[simp] theorem start_app (args:List PV) (t:Nat):yF args t=(args[t]?).getD (.tup []):=rfl
@[simp] theorem get_tmp (σ:Nat→PV) (t:Nat):get σ (.tmp t)=some (σ t):=rfl
@[simp] theorem zn1 (σ:Nat→PV) (f:Nat):get σ (.func f)=some (.fn (.func f) [] []):=rfl
@[simp] theorem get_int (σ:Nat→PV) (k:IntKind) (n:Int):get σ (.const (.int k n))=some (.v (.int k n)):=rfl
@[simp] theorem get_bool (σ:Nat→PV) (b:Bool):get σ (.const (.bool b))=some (.v (.bool b)):=rfl
@[simp] theorem get_str (σ:Nat→PV) (s:ByteArray):get σ (.const (.string s))=some (.v (.string s)):=rfl
@[simp] theorem get_nil (σ:Nat→PV):get σ (.const (.slice none 0 0))=some .nil:=rfl
@[simp] theorem get_nilFunc (σ:Nat→PV):get σ (.const .nilFunc)=some (.v .nilFunc):=rfl
@[simp] theorem get_agg (σ:Nat→PV) (cs:Array Value):get σ (.const (.agg cs))=(ofCells cs.toList).map .agg:=rfl
@[simp] theorem step_plain (C:Ctx) (ops:Array Oper) (d:Option Tmp) (op:Op) (t:TypeId) (p:String) (af:Array Edge) (st:St):q9 C ops ⟨d,op,t,p,af,none⟩ st =
  (zw C (get st.σ) st.hp st.nx op).map fun r=>⟨put st.σ d r.1,r.2.1,r.2.2⟩:=znX C ops d op t p af st
def jU (C:Ctx) (d:Option Tmp) (op:Op) (st:St) (y:Option Bool) (b:Bool):Option St :=
 if y=some b then (zw C (get st.σ) st.hp st.nx op).map fun r=>⟨put st.σ d r.1,r.2.1,r.2.2⟩ else some ⟨put st.σ d (.tup []),st.hp,st.nx⟩
theorem zcP {C:Ctx} {d:Option Tmp} {op:Op} {st:St} {y y':Option Bool} {b:Bool} (h:y=y'):jU C d op st y b=jU C d op st y' b:=by rw[h]
@[simp] theorem step_guard (C:Ctx) (ops:Array Oper) (d:Option Tmp) (op:Op) (t:TypeId) (p:String) (af:Array Edge) (j:Nat) (b:Bool) (st:St):q9 C ops ⟨d,op,t,p,af,some (j,b)⟩ st =
  jU C d op st (vJ ops st.σ j) b:=by
 unfold q9 jU Region.wanted
 simp only[beq_iff_eq]
 split
 ·cases zw C (get st.σ) st.hp st.nx op<;>rfl
 ·rfl
@[simp] theorem guard_hit (C:Ctx) (d:Option Tmp) (op:Op) (st:St) (b:Bool):jU C d op st (some b) b=(zw C (get st.σ) st.hp st.nx op).map fun r=>⟨put st.σ d r.1,r.2.1,r.2.2⟩:=by simp[jU]
@[simp] theorem guard_tf (C:Ctx) (d:Option Tmp) (op:Op) (st:St):jU C d op st (some true) false=some ⟨put st.σ d (.tup []),st.hp,st.nx⟩:=by simp[jU]
@[simp] theorem guard_ft (C:Ctx) (d:Option Tmp) (op:Op) (st:St):jU C d op st (some false) true=some ⟨put st.σ d (.tup []),st.hp,st.nx⟩:=by simp[jU]
@[simp] theorem guard_none (C:Ctx) (d:Option Tmp) (op:Op) (st:St) (b:Bool):jU C d op st none b=some ⟨put st.σ d (.tup []),st.hp,st.nx⟩:=by simp[jU]
attribute [congr] zcP
def Y4:PV→Option Bool
 | .v (.bool b)=>some b
 | _=>none
@[simp] theorem boolOf_bool (b:Bool):Y4 (.v (.bool b))=some b:=rfl
@[simp] theorem boolOf_tup (l:List PV):Y4 (.tup l)=none:=rfl
def zkW (σ:Nat→PV):Option Nat→Option Bool
 | some d=>Y4 (σ d)
 | none=>none
@[simp] theorem slotOf_some (σ:Nat→PV) (d:Nat):zkW σ (some d)=Y4 (σ d):=rfl
@[simp] theorem yield_get (ops:Array Oper) (σ:Nat→PV) (j:Nat):vJ ops σ j=zkW σ ((ops[j]?).bind (·.dst)):=by
 unfold vJ zkW Y4
 cases (ops[j]?).bind (·.dst) with
 | none=>rfl
 | some d=>rfl
section
variable (C:Ctx) (ρ:Operand→Option PV) (hp:Hp) (nx:Nat)
@[simp] theorem zqG (x:Operand):zw C ρ hp nx (.move x)=(ρ x).map fun y=>(y,hp,nx):=rfl
@[simp] theorem zkX (x:Operand):zw C ρ hp nx (.assign x)=(ρ x).map fun y=>(y,hp,nx):=rfl
def QB (c a b:Option PV):Option PV:=match c with
 | some (.v (.bool true))=>a
 | some (.v (.bool false))=>b
 | _=>none
@[simp] theorem pickA_true (a b:Option PV):QB (some (.v (.bool true))) a b=a:=rfl
@[simp] theorem pickA_false (a b:Option PV):QB (some (.v (.bool false))) a b=b:=rfl
@[simp] theorem zqH (c a b:Operand):zw C ρ hp nx (.pick c a b)=(QB (ρ c) (ρ a) (ρ b)).map fun y=>(y,hp,nx):=by
 unfold QB
 simp only[zw]
 generalize ρ c=o
 cases o with
 | none=>rfl
 | some p =>
   cases p<;>(try rfl)
   rename_i x
   cases x<;>(try rfl)
   rename_i t
   cases t<;>rfl
@[simp] theorem zs2 (op:BinOp) (t t2:TypeId) (x y:Operand):zw C ρ hp nx (.binOp op t x y t2)=(do let p ←ρ x;let q ←ρ y;let r ←zco (isK y) C.P op t p q;some (r,hp,nx)):=by
 simp only[zw];cases ρ x<;>cases ρ y<;>(try rfl);simp;cases zco (isK y) C.P op t _ _<;>rfl
@[simp] theorem zuW (op:UnOp) (t:TypeId) (x:Operand):zw C ρ hp nx (.unOp op t x)=(do let p ←ρ x;let r ←unA op p;some (r,hp,nx)):=by
 simp only[zw];cases ρ x<;>(try rfl);simp;cases unA op _<;>rfl
@[simp] theorem zqI (s d:TypeId) (x:Operand):zw C ρ hp nx (.convert s d x)=(do let p ←ρ x;let r ←VV C.P s d p;some (r,hp,nx)):=by
 simp only[zw];cases ρ x<;>(try rfl);simp;cases VV C.P s d _<;>rfl
@[simp] theorem zqJ (t:TypeId) (x:Operand):zw C ρ hp nx (.load t x)=(do let p ←ρ x;let r ←jZ C.P hp t p;some (r,hp,nx)):=by
 simp only[zw];cases ρ x<;>(try rfl);simp;cases jZ C.P hp t _<;>rfl
@[simp] theorem op_store (t:TypeId) (a x:Operand):zw C ρ hp nx (.store t a x)=(do let p ←ρ a;let q ←ρ x;let h ←vH C.P hp t p q;some (.tup [],h,nx)):=by
 simp only[zw];cases ρ a<;>cases ρ x<;>(try rfl);simp;cases vH C.P hp t _ _<;>rfl
@[simp] theorem zcQ (t:TypeId) (x:Operand) (f:Nat):zw C ρ hp nx (.fieldAddr t x f)=(do let p ←ρ x;let r ←qC C.P t f p;some (r,hp,nx)):=by
 simp only[zw];cases ρ x<;>(try rfl);simp;cases qC C.P t f _<;>rfl
@[simp] theorem zn2 (t:TypeId) (x:Operand) (f:Nat):zw C ρ hp nx (.field t x f)=(do let p ←ρ x;let r ←jF C.P t f p;some (r,hp,nx)):=by
 simp only[zw];cases ρ x<;>(try rfl);simp;cases jF C.P t f _<;>rfl
@[simp] theorem zcR (t:TypeId) (x i:Operand):zw C ρ hp nx (.indexAddr t x i)=(do let p ←ρ x;let q ←ρ i;let r ←zI C.P hp t p q;some (r,hp,nx)):=by
 simp only[zw];cases ρ x<;>cases ρ i<;>(try rfl);simp;cases zI C.P hp t _ _<;>rfl
@[simp] theorem zn3 (t:TypeId) (x i:Operand):zw C ρ hp nx (.index t x i)=(do let p ←ρ x;let q ←ρ i;let r ←vI C.P t p q;some (r,hp,nx)):=by
 simp only[zw];cases ρ x<;>cases ρ i<;>(try rfl);simp;cases vI C.P t _ _<;>rfl
@[simp] theorem zn4 (t:TypeId) (x:Operand) (lo hi:Option Operand):zw C ρ hp nx (.slice t x lo hi none)=(do let p ←ρ x;let r ←wB C.P hp t p (lo.map ρ) (hi.map ρ);some (r,hp,nx)):=by
 simp only[zw];cases ρ x<;>(try rfl);simp;cases wB C.P hp t _ _ _<;>rfl
@[simp] theorem op_makeSlice (t:TypeId) (l c:Operand):zw C ρ hp nx (.makeSlice t l c)=(do let p ←ρ l;let q ←ρ c;yV C.P hp nx t p q):=by
 simp only[zw];cases ρ l<;>cases ρ c<;>rfl
def ZR (i:Nat):PV→Option PV
 | .tup vs=>vs[i]?
 | _=>none
@[simp] theorem extractA_tup (i:Nat) (vs:List PV):ZR i (.tup vs)=vs[i]?:=rfl
@[simp] theorem ziF (x:Operand) (i:Nat):zw C ρ hp nx (.extract x i)=(do let p ←ρ x;let r ←ZR i p;some (r,hp,nx)):=by
 simp only[zw]
 cases ρ x with
 | none=>rfl
 | some p=>cases p<;>(try rfl);simp[ZR];rename_i vs;cases vs[i]?<;>rfl
@[simp] theorem op_alloc (t:TypeId):zw C ρ hp nx (.alloc t)=(do let n ←zS C.P t;let z ←wy C.P t;if 0<n∧z.length=n then some (.ref nx 0 0,upd hp nx (some ⟨t,n,false,[z]⟩),nx+1) else none):=by
 simp only[zw];cases zS C.P t<;>cases wy C.P t<;>rfl
@[simp] theorem op_box (t:TypeId) (x:Operand):zw C ρ hp nx (.box t x)=(do let n ←zS C.P t;let y ←ρ x;if 0<n∧y.cells.length=n∧y.cells.all PV.isCell=true then some (.ref nx 0 0,upd hp nx (some ⟨t,n,false,[y.cells]⟩),nx+1) else none):=by
 simp only[zw];cases zS C.P t<;>cases ρ x<;>rfl
@[simp] theorem op_build (t:TypeId) (ps:Array (Nat×Operand)):zw C ρ hp nx (.build t ps)=(do let q ←yE ρ ps.toList;let r ←zx C.P t q;some (r,hp,nx)):=by
 simp only[zw];cases yE ρ ps.toList<;>(try rfl);simp;cases zx C.P t _<;>rfl
@[simp] theorem op_buildSlice (t:TypeId) (n:Nat) (ps:Array (Nat×Operand)):zw C ρ hp nx (.buildSlice t n ps)=(do let q ←yE ρ ps.toList;zh C.P hp nx t n q):=by
 simp only[zw];cases yE ρ ps.toList<;>rfl
@[simp] theorem op_makeFunc (f:Fn) (a b:Array Operand):zw C ρ hp nx (.makeFunc f a b)=(do let p ←qu (a.toList.map ρ);let q ←qu (b.toList.map ρ);some (.fn f p q,hp,nx)):=by
 simp only[zw];cases qu (a.toList.map ρ)<;>cases qu (b.toList.map ρ)<;>rfl
@[simp] theorem zqK (f:Operand) (args:Array Operand) (ts:Array TypeId):zw C ρ hp nx (.call { callee:=.value f,args:=args,argTypes:=ts })=(do let xs ←qu (args.toList.map ρ);wg C hp nx (ρ f) xs):=by
 simp only[zw,jc];cases qu (args.toList.map ρ)<;>rfl
@[simp] theorem ziG (b:Builtin) (args:Array Operand) (ts:Array TypeId):zw C ρ hp nx (.call { callee:=.builtin b,args:=args,argTypes:=ts })=(do let xs ←qu (args.toList.map ρ);qr C.P hp nx ts b xs):=by
 simp only[zw,jc];cases qu (args.toList.map ρ)<;>rfl
end
@[simp] theorem allSome_nil {α:Type}:qu ([]:List (Option α))=some []:=rfl
@[simp] theorem allSome_cons {α:Type} (x:α) (l:List (Option α)):qu (some x::l)=(qu l).map (x::·):=rfl
@[simp] theorem parts_nil (ρ:Operand→Option PV):yE ρ []=some []:=rfl
@[simp] theorem parts_cons (ρ:Operand→Option PV) (i:Nat) (x:Operand) (l:List (Nat×Operand)):yE ρ ((i,x)::l)=(do let p ←ρ x;let r ←yE ρ l;some ((i,p)::r)):=by
 simp only[yE];cases ρ x<;>cases yE ρ l<;>rfl
theorem ziH (C:Ctx) (hp:Hp) (nx g:Nat) (first captured xs:List PV) (spec:AM.Spec) (h:C.Γ g=some spec):wg C hp nx (some (.fn (.func g) first captured)) xs=spec (first++xs++captured) hp nx:=by simp[wg,h]
section
variable (P:Program) (hp:Hp) (nx:Nat) (t:TypeId)
@[simp] theorem bin_int (op:BinOp) (k:IntKind) (a b:Int):QZ P op t (.v (.int k a)) (.v (.int k b))=zsR op k a b:=by simp[QZ]
@[simp] theorem bin_str (op:BinOp) (a b:ByteArray):QZ P op t (.v (.string a)) (.v (.string b))=zsS op a b:=rfl
@[simp] theorem un_not (b:Bool):unA .not (.v (.bool b))=some (.v (.bool !b)):=rfl
@[simp] theorem un_neg (k:IntKind) (n:Int):unA .neg (.v (.int k n))=some (.v (.int k (k.wrap (0 - n)))):=rfl
@[simp] theorem load_ptr (cs:List PV):jZ P hp t (.ptr cs)=zr P t cs:=rfl
@[simp] theorem load_ref (id i j:Nat):jZ P hp t (.ref id i j)=(do let b ←hp id;let c ←b.es[i]?;zr P t (c.drop j)):=by
 simp only[jZ];cases hp id with
 | none=>rfl
 | some b=>simp;cases b.es[i]?<;>rfl
@[simp] theorem fieldAddr_ptr (f:Nat) (cs:List PV):qC P t f (.ptr cs)=(do let q ←zn P t f;if q.2.1=0 then none else some (.ptr (cs.drop q.1))):=by
 simp only[qC];cases zn P t f<;>rfl
@[simp] theorem fieldAddr_ref (f id i j:Nat):qC P t f (.ref id i j)=(do let q ←zn P t f;if q.2.1=0 then none else some (.ref id i (j+q.1))):=by
 simp only[qC];cases zn P t f<;>rfl
@[simp] theorem len_str (s:ByteArray):VW P t (.v (.string s))=match P.underlying t with | some .string=>some (.v (.int .i64 s.size)) | _=>none:=rfl
@[simp] theorem len_sl (s:Nat) (es:List (List PV)):VW P t (.sl s es)=(qG P t).map fun _=>.v (.int .i64 es.length):=rfl
@[simp] theorem len_nil:VW P t .nil=(qG P t).map fun _=>.v (.int .i64 0):=rfl
@[simp] theorem len_own (id off n:Nat):VW P t (.own id off n)=(qG P t).map fun _=>.v (.int .i64 n):=rfl
theorem zcS (i:Int) (x:PV) (h1:∀cs,x≠.ptr cs) (h2:∀a b c,x≠.ref a b c):jb P t i x=none:=by
 unfold jb
 split
 ·split
  ·split
   ·split
    ·exact absurd rfl (h1 _)
    ·exact absurd rfl (h2 _ _ _)
    ·rfl
   ·rfl
  ·rfl
 ·rfl
@[simp] theorem index_sl (s:Nat) (es:List (List PV)) (k:IntKind) (i:Int):zI P hp t (.sl s es) (.v (.int k i))=(do let e ←qG P t;let n ←zS P e;if s=n∧0<n∧0≤i then (es[i.toNat]?).map .ptr else none):=by
 simp only[zI];cases qG P t with
 | none=>exact (zcS P t i _ (fun _=>by simp) (fun _ _ _=>by simp)).trans rfl
 | some e=>simp;cases zS P e<;>rfl
@[simp] theorem index_own (id off n:Nat) (k:IntKind) (i:Int):zI P hp t (.own id off n) (.v (.int k i))=(do let e ←qG P t;let m ←zS P e;let b ←hp id;if b.e=e∧0<m∧0≤i∧i.toNat<n then some (.ref id (off+i.toNat) 0) else none):=by
 simp only[zI];cases qG P t with
 | none=>exact (zcS P t i _ (fun _=>by simp) (fun _ _ _=>by simp)).trans rfl
 | some e=>simp;cases zS P e<;>(try rfl);simp;cases hp id<;>rfl
end
@[simp] theorem zqL (P:Program) (hp:Hp) (nx:Nat) (ts:Array TypeId) (x:PV):qr P hp nx ts .len [x]=(do let t ←ts[0]?;let y ←VW P t x;some (y,hp,nx)):=by
 simp only[qr];cases ts[0]? with
 | none=>rfl
 | some t=>simp;cases VW P t x<;>rfl
@[simp] theorem zqM (P:Program) (hp:Hp) (nx:Nat) (ts:Array TypeId) (xs:List PV):qr P hp nx ts .min xs=(zsT xs).map fun y=>(y,hp,nx):=rfl
@[simp] theorem zqN (P:Program) (hp:Hp) (nx:Nat) (ts:Array TypeId) (xs:List PV):qr P hp nx ts .max xs=(zsU xs).map fun y=>(y,hp,nx):=rfl
@[simp] theorem blt_append (P:Program) (hp:Hp) (nx:Nat) (ts:Array TypeId) (s x:PV):qr P hp nx ts .append [s,x]=(do let t ←ts[0]?;let u ←ts[1]?;qY P hp nx t u s x):=by
 simp only[qr];cases ts[0]?<;>cases ts[1]?<;>rfl
@[simp] theorem viewS_own (P:Program) (hp:Hp) (n:Nat) (e t u:TypeId) (i o k:Nat):zeS P hp n e t u (.own i o k)=if u=t then view hp n (.own i o k) else none:=rfl
@[simp] theorem viewS_sl (P:Program) (hp:Hp) (n:Nat) (e t u:TypeId) (k:Nat) (es:List (List PV)):zeS P hp n e t u (.sl k es)=if u=t then view hp n (.sl k es) else none:=rfl
@[simp] theorem viewS_nil (P:Program) (hp:Hp) (n:Nat) (e t u:TypeId):zeS P hp n e t u .nil=if u=t then view hp n .nil else none:=rfl
@[simp] theorem viewS_em (P:Program) (hp:Hp) (n:Nat) (e t u:TypeId):zeS P hp n e t u .em=if u=t then view hp n .em else none:=rfl
@[simp] theorem viewS_str (P:Program) (hp:Hp) (n:Nat) (e t u:TypeId) (b:ByteArray):zeS P hp n e t u (.v (.string b))=if zuC P u=true∧znx P e=true then some (b.data.toList.map fun c=>[.v (.int .u8 c.toNat)]) else none:=rfl
@[simp] theorem blt_clear (P:Program) (hp:Hp) (nx:Nat) (ts:Array TypeId) (x:PV):qr P hp nx ts .clear [x]=(do let t ←ts[0]?;XH P hp nx t x):=by
 simp only[qr];cases ts[0]?<;>rfl
@[simp] theorem blt_copy (P:Program) (hp:Hp) (nx:Nat) (ts:Array TypeId) (s x:PV):qr P hp nx ts .copy [s,x]=(do let t ←ts[0]?;zny P hp nx t s x):=by
 simp only[qr];cases ts[0]?<;>rfl
attribute [simp] zsT Ye zsU Yf zsR zsS qO jd xm
@[simp] theorem cells_agg (cs:List PV):PV.cells (.agg cs)=cs:=rfl
@[simp] theorem cells_tup (cs:List PV):PV.cells (.tup cs)=[.tup cs]:=rfl
@[simp] theorem cells_v (x:Value):PV.cells (.v x)=[.v x]:=rfl
@[simp] theorem cells_nil:PV.cells .nil=[.nil]:=rfl
@[simp] theorem cells_em:PV.cells .em=[.em]:=rfl
@[simp] theorem cells_sl (s:Nat) (es:List (List PV)):PV.cells (.sl s es)=[.sl s es]:=rfl
@[simp] theorem cells_ptr (cs:List PV):PV.cells (.ptr cs)=[.ptr cs]:=rfl
@[simp] theorem cells_own (i o n:Nat):PV.cells (.own i o n)=[.own i o n]:=rfl
@[simp] theorem cells_ref (i o n:Nat):PV.cells (.ref i o n)=[.ref i o n]:=rfl
@[simp] theorem cells_fn (f:Fn) (a b:List PV):PV.cells (.fn f a b)=[.fn f a b]:=rfl
@[simp] theorem isCell_v (x:Value):PV.isCell (.v x)=true:=rfl
@[simp] theorem isCell_nil:PV.isCell .nil=true:=rfl
@[simp] theorem isCell_em:PV.isCell .em=true:=rfl
@[simp] theorem isCell_sl (s:Nat) (es:List (List PV)):PV.isCell (.sl s es)=true:=rfl
@[simp] theorem isCell_ptr (cs:List PV):PV.isCell (.ptr cs)=true:=rfl
@[simp] theorem isCell_own (i o n:Nat):PV.isCell (.own i o n)=true:=rfl
@[simp] theorem isCell_ref (i o n:Nat):PV.isCell (.ref i o n)=true:=rfl
@[simp] theorem isCell_fn (f:Fn) (a b:List PV):PV.isCell (.fn f a b)=true:=rfl
@[simp] theorem isCell_agg (cs:List PV):PV.isCell (.agg cs)=false:=rfl
@[simp] theorem isCell_tup (cs:List PV):PV.isCell (.tup cs)=false:=rfl
attribute [simp] qh zE zj zW AM.freeze PV.flat PV.isV PV.noOwn
@[simp] theorem cellOpen_own (i o n:Nat):PV.cellOpen (.own i o n)=true:=rfl
@[simp] theorem cellOpen_v (x:Value):PV.cellOpen (.v x)=false:=rfl
@[simp] theorem cellOpen_nil:PV.cellOpen .nil=false:=rfl
@[simp] theorem cellOpen_em:PV.cellOpen .em=false:=rfl
@[simp] theorem cellOpen_sl (s:Nat) (es:List (List PV)):PV.cellOpen (.sl s es)=false:=rfl
@[simp] theorem cellOpen_ptr (cs:List PV):PV.cellOpen (.ptr cs)=false:=rfl
@[simp] theorem cellOpen_ref (i o n:Nat):PV.cellOpen (.ref i o n)=false:=rfl
@[simp] theorem cellOpen_fn (f:Fn) (a b:List PV):PV.cellOpen (.fn f a b)=false:=rfl
@[simp] theorem upd_upd {α:Type} (f:Nat→α) (k:Nat) (x y:α):upd (upd f k x) k y=upd f k y:=by
 funext i;simp only[upd];split<;>rfl
@[simp] theorem store_ref (P:Program) (hp:Hp) (t:TypeId) (id i j:Nat) (x:PV):vH P hp t (.ref id i j) x=(do
  let b0 ←hp id
  let q ←(if b0.arr=true then zE hp x else some (x,hp))
  let b ←q.2 id
  let n ←zS P t
  let c ←b.es[i]?
  if q.1.cells.length=n∧j+n≤c.length∧q.1.cells.all PV.isCell=true then some (upd q.2 id (some ⟨b.e,b.s,b.arr,b.es.set i (qO c j q.1.cells)⟩)) else none):=by
 simp only[vH]
 cases hp id with
 | none=>rfl
 | some b0 =>
   simp only[Option.bind_eq_bind,Option.bind_some]
   generalize (if b0.arr=true then zE hp x else some (x,hp))=o
   cases o with
   | none=>rfl
   | some q =>
     obtain⟨y,h1⟩:=q
     simp only[Option.bind_some]
     cases h1 id with
     | none=>rfl
     | some b =>
       simp only[Option.bind_some]
       cases zS P t with
       | none=>rfl
       | some n =>
         simp only[Option.bind_some]
         cases b.es[i]?<;>rfl
@[simp] theorem pureR_v (x y:Value) (hp:Hp) (nx:Nat):qe (.v y) (.v x) hp nx=(x=y):=by simp[qe]
def Jp:PV→Int
 | .v (.int _ n)=>n
 | _=>0
@[simp] theorem numAt_int (k:IntKind) (n:Int):Jp (.v (.int k n))=n:=rfl
theorem zc {n:Int} (h1:-9223372036854775808≤n) (h2:n≤9223372036854775807):IntKind.i64.wrap n=n:=by rw[IntKind.wrap_i64];omega
variable {dr:Prop}
open Classical in
noncomputable def zJ {α β:Type} (enc:α→List PV) (pre:α→Prop) (out:α→β):List PV→Option β:=fun args =>
 if h:∃a,args=enc a∧pre a then some (out (Classical.choose h)) else none
theorem zm {α β:Type} {enc:α→List PV} {pre:α→Prop} {out:α→β} (inj:∀a b,enc a=enc b→a=b) {a:α} (h:pre a):zJ enc pre out (enc a)=some (out a):=by
 have hex:∃b,enc a=enc b∧pre b:=⟨a,rfl,h⟩
 unfold zJ
 rw[dif_pos hex]
 have:=Classical.choose_spec hex
 rw[←inj _ _ this.1]
theorem ze {α β:Type} {enc:α→List PV} {pre:α→Prop} {out:α→β} {args:List PV} {r:β} (h:zJ enc pre out args=some r):∃a,args=enc a∧pre a∧r=out a:=by
 unfold zJ at h
 split at h
 ·rename_i hex
  injection h with h
  have:=Classical.choose_spec hex
  exact⟨_,this.1,this.2,h.symm⟩
 ·cases h
abbrev Tab:=List (Nat×AM.Spec)
def lookup:Tab→Nat→Option AM.Spec
 | [],_=>none
 | (k,s)::l,g=>if g=k then some s else lookup l g
@[simp] theorem Ko (k:Nat) (s:AM.Spec) (l:Tab) (g:Nat):lookup ((k,s)::l) g=if g=k then some s else lookup l g:=rfl
def zC (P:Program) (l:Tab):Ctx:=⟨P,lookup l,fun _=>[],fun _=>[],fun _=>false,fun _=>[],fun _=>none⟩
@[simp] theorem mkCtx_dyn (P:Program) (l:Tab) (i:Nat):(zC P l).dyn i=[]:=rfl
@[simp] theorem EvC_region_mk (P:Program) (l:Tab) (i:Nat) (ops:Array Oper) (d:Bool) (st:St) (K:Exit→St→Prop):EvC (zC P l) (.region i ops d) st K=EvL (zC P l) ops ops.toList st (Yk K):=vP _ i ops d st K rfl rfl
def Wa (P:Program) (l:Tab) (dyn:Nat→List (Tmp×Tmp)):Ctx:=⟨P,lookup l,dyn,fun _=>[],fun _=>false,fun _=>[],fun _=>none⟩
@[simp] theorem mkCtxD_P (P:Program) (l:Tab) (dyn:Nat→List (Tmp×Tmp)):(Wa P l dyn).P=P:=rfl
@[simp] theorem mkCtx_P (P:Program) (l:Tab):(zC P l).P=P:=rfl
@[simp] theorem call_mk (P:Program) (l:Tab) (hp:Hp) (nx g:Nat) (a b xs:List PV):wg (zC P l) hp nx (some (.fn (.func g) a b)) xs=(lookup l g).bind fun s=>s (a++xs++b) hp nx:=by
 unfold wg zC
 simp only
 cases lookup l g<;>rfl
@[simp] theorem call_mkD (P:Program) (l:Tab) (dyn:Nat→List (Tmp×Tmp)) (hp:Hp) (nx g:Nat) (a b xs:List PV):wg (Wa P l dyn) hp nx (some (.fn (.func g) a b)) xs=(lookup l g).bind fun s=>s (a++xs++b) hp nx:=by
 unfold wg Wa
 simp only
 cases lookup l g<;>rfl
def ziI (dr:Prop) (P:Program) (q:List Nat):Tab→Prop
 | []=>True
 | (g,s)::l=>jt dr P g s∧(q.contains g=true→Zg s)∧ziI dr P q l
theorem zk {P:Program} {l:Tab} {q:List Nat} (hm:P.follows .mixedOrders=true) (h:ziI dr P q l):GoodD dr (zC P l) (fun g=>q.contains g):=by
 have key:∀(l:Tab),ziI dr P q l→∀g s,lookup l g=some s→jt dr P g s∧(q.contains g=true→Zg s):=by
  intro l
  induction l with
  | nil=>intro _ g s h;cases h
  | cons x l ih =>
    obtain⟨k,sp⟩:=x
    rintro⟨h1,h2,h3⟩ g s hs
    simp only[Ko] at hs
    split at hs
    ·rename_i hgk
     injection hs with hs
     subst hs
     subst hgk
     exact⟨h1,h2⟩
    ·exact ih h3 g s hs
 exact⟨fun g s hs=>(key l h g s hs).1,fun g s hq hs=>(key l h g s hs).2 hq,hm,(fun _ _ h=>by cases h),(fun _ _ h=>by cases h)⟩
theorem zg8 {P:Program} {l:Tab} {q:List Nat} (dyn:Nat→List (Tmp×Tmp)) (hm:P.follows .mixedOrders=true) (h:ziI dr P q l):GoodD dr (Wa P l dyn) (fun g=>q.contains g) :=
 let g:=zk hm h
 ⟨g.spec,g.quiet,g.mixed,(fun _ _ h=>by cases h),(fun _ _ h=>by cases h)⟩
def zfd (r:PV) (x:PV) (hp:Hp) (_:Nat):Prop:=∃r0,(AM.freeze hp x).map (·.1)=some r0∧zaM r0 r
theorem Zo {C:Ctx} {fn:Func} {code:Code} {args:List PV} {r:PV} (hb:fn.body=some code)
  (h:EvC C code ⟨yF args,fun _=>none,0⟩ (zcL C.P fn (zfd r))):∃r0,zg C fn args=some r0∧zaM r0 r:=by
 obtain⟨x,hp',nx',h1,r0,h2,h3⟩:=zM hb h
 exact⟨r0,by unfold zg;simp only[h1];exact h2,h3⟩
theorem zK (x:PV):zaM x x:=by
 unfold zaM
 split
 ·exact⟨rfl,fun j x y hx hy=>by rw[hx] at hy;injection hy with hy;exact .inl hy⟩
 ·exact .inl rfl
theorem Zp {C:Ctx} {fn:Func} {code:Code} {args:List PV} {hp:Hp} {nx:Nat} {r:Option Blk} (hb:fn.body=some code)
  (h:EvC C code ⟨yF args,hp,nx⟩ (zcL C.P fn (zcl r))):∃x hp' nx',q8 C fn args hp nx=some (x,hp',nx')∧zcl r x hp' nx':=zM hb h
def OwnS (hp:Hp) (nx:Nat) (e s:Nat) (v:PV) (xs:List (List PV)):Prop:=(v=.nil∧xs=[])∨∃id,id<nx∧v=.own id 0 xs.length∧hp id=some ⟨e,s,true,xs⟩
def QC (v:PV) (hp:Hp):Hp:=match v with
 | .own id _ _=>upd hp id none
 | _=>hp
theorem OwnS.nil (hp:Hp) (nx e s:Nat):OwnS hp nx e s .nil []:=.inl ⟨rfl,rfl⟩
theorem OwnS.own {hp:Hp} {nx e s id:Nat} {xs:List (List PV)} (h1:id<nx) (h2:hp id=some ⟨e,s,true,xs⟩):OwnS hp nx e s (.own id 0 xs.length) xs:=.inr ⟨id,h1,rfl,h2⟩
theorem OwnS.len {P:Program} {hp:Hp} {nx e s:Nat} {v:PV} {xs:List (List PV)} {t:TypeId} (h:OwnS hp nx e s v xs) (ht:qG P t=some e):VW P t v=some (.v (.int .i64 xs.length)):=by
 rcases h with⟨rfl,rfl⟩ | ⟨id,_,rfl,_⟩<;>simp[ht]
theorem OwnS.view {hp:Hp} {nx e s:Nat} {v:PV} {xs:List (List PV)} (h:OwnS hp nx e s v xs):view hp s v=some xs:=by
 rcases h with⟨rfl,rfl⟩ | ⟨id,_,rfl,h⟩<;>simp[AM.view, *]
theorem OwnS.append1 {P:Program} {hp:Hp} {nx e s by_:Nat} {v:PV} {xs:List (List PV)} {c z:List PV} {t:TypeId} (h:OwnS hp nx e s v xs) (ht:qG P t=some e) (hs:zS P e=some s) (hb:wL P e=some by_) (hz:wy P e=some z)
  (hzl:z.length=s) (h0:0<s) (h1:xs.length+1≤maxLen) (h2:(xs.length+1)*by_≤140737488355328) :
  qY P (upd hp nx (some ⟨e,s,true,[c]⟩)) (nx+1) t t v (.own nx 0 1) =
   some (.own (nx+1) 0 (xs.length+1),upd (QC v (upd hp nx (some ⟨e,s,true,[c]⟩))) (nx+1) (some ⟨e,s,true,xs++[c]⟩),nx+2):=by
 rcases h with⟨rfl,rfl⟩ | ⟨id,hid,rfl,hh⟩
 ·simp at h1 h2
  simp[qY,ht,hs,hb,hz,hzl,h0,h1,h2,AM.view,QC]
 ·have hne:¬id=nx:=by omega
  simp[qY,ht,hs,hb,hz,hzl,h0,h1,h2,AM.view,QC,hne,hh]
theorem OwnS.after {hp:Hp} {nx e s:Nat} {v:PV} {xs:List (List PV)} {c:List PV} {tmp:Option Blk}:OwnS (upd (QC v (upd hp nx tmp)) (nx+1) (some ⟨e,s,true,xs++[c]⟩)) (nx+2) e s (.own (nx+1) 0 (xs.length+1)) (xs++[c]) :=
 .inr ⟨nx+1,by omega,by simp,by simp⟩
theorem qM {hp:Hp} {nx e s:Nat} {v:PV} {xs:List (List PV)} (h:OwnS hp nx e s v xs) (hp':Hp) (id:Nat) (hne:∀n,v≠.own id 0 n):QC v hp' id=hp' id:=by
 rcases h with⟨rfl,rfl⟩ | ⟨k,hk,rfl,hh⟩
 ·rfl
 ·have:¬id=k:=fun e=>hne _ (by rw[e])
  simp[QC,this]
theorem OwnS.ret {hp:Hp} {nx e s:Nat} {v:PV} {xs:List (List PV)} (h:OwnS hp nx e s v xs) (nx':Nat):zcl (match v with | .nil=>none | _=>some ⟨e,s,true,xs⟩) v hp nx':=by
 rcases h with⟨rfl,rfl⟩ | ⟨id,hid,rfl,hh⟩
 ·rfl
 ·exact⟨id,rfl,hh,rfl⟩
theorem OwnS.freeze {hp:Hp} {nx e s:Nat} {v:PV} {xs:List (List PV)} (h:OwnS hp nx e s v xs) (nx':Nat):zfd (.sl s xs) v hp nx':=by
 rcases h with⟨rfl,rfl⟩ | ⟨id,hid,rfl,hh⟩
 ·exact⟨.nil,by simp,.inr ⟨rfl,s,rfl⟩⟩
 ·exact⟨.sl s xs,by simp[hh],zK _⟩
theorem yz {α β:Type} {f:α→β} (h:∀a b,f a=f b→a=b):∀{xs ys:List α},xs.map f=ys.map f→xs=ys
 | [],[],_=>rfl
 | [],y::ys,e=>by simp at e
 | x::xs,[],e=>by simp at e
 | x::xs,y::ys,e=>by
   simp at e
   rw[h x y e.1,yz h e.2]
def zuF (I:Nat→(Nat→PV)→Hp→Nat→Prop) (n k:Nat) (K:Exit→St→Prop) (e:Exit) (st:St):Prop:=match e with
 | .normal=>k+1≤n∧I (k+1) st.σ st.hp st.nx
 | e=>K e st
@[simp] theorem forK_normal (I:Nat→(Nat→PV)→Hp→Nat→Prop) (n k:Nat) (K:Exit→St→Prop) (st:St):zuF I n k K .normal st=(k+1≤n∧I (k+1) st.σ st.hp st.nx):=rfl
@[simp] theorem forK_ret (I:Nat→(Nat→PV)→Hp→Nat→Prop) (n k:Nat) (K:Exit→St→Prop) (st:St):zuF I n k K .ret st=K .ret st:=rfl
@[simp] theorem forK_exit (I:Nat→(Nat→PV)→Hp→Nat→Prop) (n k i:Nat) (K:Exit→St→Prop) (st:St):zuF I n k K (.exit i) st=K (.exit i) st:=rfl
theorem zu {C:Ctx} {b:Code} {st:St} {K:Exit→St→Prop} (I:Nat→(Nat→PV)→Hp→Nat→Prop) (n:Nat) (h0:I 0 st.σ st.hp st.nx)
  (round:∀k σ hp nx,k≤n→I k σ hp nx→EvC C b ⟨σ,hp,nx⟩ (zuF I n k K)):EvC C (.loop b) st K:=by
 have key:∀d k st,n - k=d→k≤n→I k st.σ st.hp st.nx→EvC C (.loop b) st K:=by
  intro d
  induction d with
  | zero =>
    intro k st hd hk hI
    rw[zl]
    refine (round k st.σ st.hp st.nx hk hI).mono fun e st' h=>?_
    cases e
    case normal=>have:=h.1;omega
    all_goals exact h
  | succ d ih =>
    intro k st hd hk hI
    rw[zl]
    refine (round k st.σ st.hp st.nx hk hI).mono fun e st' h=>?_
    cases e
    case normal=>exact ih (k+1) st' (by omega) h.1 h.2
    all_goals exact h
 exact key _ 0 st rfl (Nat.zero_le _) h0
variable {dr:Prop}
abbrev str (l:List UInt8):PV:=.v (.string ⟨l.toArray⟩)
@[simp] theorem zuX (l:List UInt8):(ByteArray.mk l.toArray).size=l.length:=by simp[ByteArray.size]
@[simp] theorem zwL (l:List UInt8) (i:Nat):(ByteArray.mk l.toArray)[i]?=l[i]?:=by
 by_cases h:i<l.length
 ·rw[getElem?_pos (ByteArray.mk l.toArray) i (by simpa using h),List.getElem?_eq_getElem h];rfl
 ·rw[getElem?_neg (ByteArray.mk l.toArray) i (by simpa using h),List.getElem?_eq_none (by omega)]
@[simp] theorem zn5 (l:List UInt8) (a b:Nat):(ByteArray.mk l.toArray).extract a b=⟨((l.drop a).take (b - a)).toArray⟩:=by
 have h:=Lib.extract_data (ByteArray.mk l.toArray) a b
 rw[ByteArray.ext_iff]
 apply Array.toList_inj.1
 rw[h]
theorem qg {a b:List UInt8} (h:str a=str b):a=b:=by
 injection h with h;injection h with h;injection h with h
 simpa using congrArg Array.toList h
@[simp] theorem index_str (P:Program) (t:TypeId) (l:List UInt8) (k:IntKind) (i:Int) (h:P.underlying t=some .string):vI P t (.v (.string ⟨l.toArray⟩)) (.v (.int k i)) =
  if 0≤i then (l[i.toNat]?).map fun b=>.v (.int .u8 b.toNat) else none:=by
 simp only[vI,h,zwL]
 split
 ·cases l[i.toNat]?<;>rfl
 ·rfl
@[simp] theorem slice_str (P:Program) (hp:Hp) (t:TypeId) (l:List UInt8) (lo hi:Option (Option PV)) (h:P.underlying t=some .string):wB P hp t (.v (.string ⟨l.toArray⟩)) lo hi =
  (yx 0 lo).bind fun a=>(yx l.length hi).bind fun b=>if a≤b∧b≤l.length then some (str ((l.drop a).take (b - a))) else none:=by
 simp only[wB,h,zuX,zn5]
 cases yx 0 lo<;>(try rfl)
 cases yx l.length hi<;>rfl
attribute [simp] yx
@[simp] theorem bin_bool_eql (P:Program) (t:TypeId) (a b:Bool) (h:P.underlying t=some .bool):QZ P .eql t (.v (.bool a)) (.v (.bool b))=some (.v (.bool (a==b))):=by simp[QZ,h]
@[simp] theorem bin_bool_neq (P:Program) (t:TypeId) (a b:Bool) (h:P.underlying t=some .bool):QZ P .neq t (.v (.bool a)) (.v (.bool b))=some (.v (.bool (!(a==b)))):=by simp[QZ,h]
@[simp] theorem conv_int (P:Program) (s d:TypeId) (k:IntKind) (n:Int):VV P s d (.v (.int k n))=(P.underlying s).bind fun _=>(P.underlying d).bind fun u=>match u with | .int k'=>some (.v (.int k' (k'.wrap n))) | _=>none:=by
 simp only[VV]
 cases P.underlying s<;>(try rfl)
 cases P.underlying d<;>(try rfl)
 rename_i u
 cases u<;>rfl
theorem zfe (a b:UInt8):((a.toNat:Int)==(b.toNat:Int))=decide (a=b):=by
 rw[Bool.eq_iff_iff];simp[←UInt8.toNat_inj];omega
theorem zH {F:List PV→Option PV} {ns:List Nat} {kill:Bool} {args aZ:List PV} {hp hp1:Hp} {nx:Nat} {r:PV} (h1:zj hp args=some (aZ,hp1)) (h2:F (qw ns aZ)=some r) (h3:r.flat=true∨args.all PV.noOwn=true) :
  zd kill ns F args hp nx=some (r,hp,nx):=by
 unfold zd
 simp only[h1,h2,h3,if_true]
theorem zP {k:IntKind} {a b:Int} (h:PV.v (.int k a)=.v (.int k b)):a=b:=by
 injection h with h;injection h
theorem vR {a b:Bool} (h:PV.v (.bool a)=.v (.bool b)):a=b:=by
 injection h with h;injection h
def zuY {α β:Type} (f:α→β) (K:β→Prop) (x:α):Prop:=K (f x)
def zuZ {α β:Type} (f:α→Option β) (K:β→Prop) (x:α):Prop:=Kk (f x) K
@[simp] theorem compK_app {α β:Type} (f:α→β) (K:β→Prop) (x:α):zuY f K x=K (f x):=rfl
@[simp] theorem bindC_app {α β:Type} (f:α→Option β) (K:β→Prop) (x:α):zuZ f K x=Kk (f x) K:=rfl
def xP (C:Ctx) (pf:FuncId→Bool) (f:FuncId) (fn:Func):Prop:=∃code,Known C pf f fn code
theorem zL {C:Ctx} {pf:FuncId→Bool} {f:FuncId} {fn:Func} (hg:GoodD dr C pf) (hk:xP C pf f fn) (kill:Bool) (ns:List Nat) (F:List PV→Option PV) (hF:∀args r,F args=some r→args.length≤fn.ntmps∧∃r0,zg C fn args=some r0∧zaM r0 r):jt dr C.P f (zd kill ns F) :=
 let ⟨_,hk⟩:=hk
 zfc hg hk kill ns F hF
noncomputable def yf (C:Ctx) (fn:Func):AM.Spec:=fun args hp nx=>if args.length≤fn.ntmps then q8 C fn args hp nx else none
theorem zX {C:Ctx} {pf:FuncId→Bool} {f:FuncId} {fn:Func} {code:Code} (hg:GoodD dr C pf) (hk:Known C pf f fn code):jt dr C.P f (yf C fn):=by
 refine⟨⟨fn,hk.func,hk.name,by rw[hk.body];rfl⟩,?_⟩
 intro args hp nx r hp' nx' h w S G vs hi hz
 unfold yf at h
 split at h
 ·rename_i hn
  exact XW hg.spec hg.quiet hg.box hg.iter hg.mixed hk.func hk.body hk.ok h hi hz hn
 ·cases h
end Go.AM
namespace Go.AM
open Go.RowKit Go.WideShapes Go.ChangeShapes
variable {dr:Prop}
section
variable {H:Type} {enc:TypeId×Value→H} {P:Program}
theorem Wb (hl:laidOutB P=true) {W W':World} (hb:Below W.heap.size W W') {sp:Nat→Bool}:∀{ts:List TypeId} {vs:List Value} {ds:List (DataW H)} {ps:List MemPlace},(∀t∈ts,P.readableRec t=true∧t<P.types.size) →
  DataW.TrodAll enc P W 0 (fun _=>true) true ts vs ds ps→(∀p∈ps,p.block<W.heap.size)→(∀p∈ps,sp p.block=true)→DataW.TrodAll enc P W' 0 sp true ts vs ds ps
 | [],vs,ds,ps,_,h,_,_=>by
   obtain⟨rfl,rfl,rfl⟩:=trodAll_nil h
   exact trodAll_mk0
 | t::ts,vs,ds,ps,ht,h,hlt,hsp=>by
   obtain⟨v,vs',d,ds',p,q,rfl,rfl,rfl,h0,h1⟩:=trodAll_cons h
   exact trodAll_cons_mk (WideElems.Trod_stays hl (ht t (by simp)).1 (ht t (by simp)).2 h0 (fun x hx=>hb.same (hlt x (by simp[hx]))) (fun x hx=>hsp x (by simp[hx])))
    (Wb hl hb (fun u hu=>ht u (by simp[hu])) h1 (fun x hx=>hlt x (by simp[hx])) (fun x hx=>hsp x (by simp[hx])))
theorem zn6 {f:Func} {s:ChangeSpec} {apart fresh handsOn again:Bool} {W W':World} {args:Array Value} {ds gs:List (DataW H)} {before:List MemPlace} (hl:laidOutB P=true) (hT:∀t∈f.params.toList,P.readableRec t=true∧t<P.types.size)
  (hv:s.vars=[]) (hW:DataW.Whole enc P f.params.toList s.vars apart W args.toList ds gs before) (hfn:s.fn H ds={ results:=[.lit (.bool true)],args:=ds }) {tb:TypeId} (hr:f.resultTypes=#[tb]) (hub:P.underlying tb=some .bool) (hb:Below W.heap.size W W') :
  s.post enc P f apart fresh handsOn again W args (.bool true) W':=by
 have hlt:∀p∈before,p.block<W.heap.size:=fun p hp=>hW.lt p hp
 have hW':=hW
 obtain⟨p,q,hA,hV,hpq,hz,hn⟩:=hW
 rw[hv] at hV
 obtain⟨rfl,rfl⟩:=trodVars_none hV
 simp only[List.append_nil] at hpq
 subst hpq
 have hA':DataW.TrodAll enc P W 0 (fun _=>true) true f.params.toList args.toList ds before:=hA
 have hargs:∀sp:Nat→Bool,(∀p∈before,sp p.block=true)→DataW.TrodAll enc P W' 0 sp true f.params.toList args.toList ds before:=fun sp hsp=>Wb hl hb hT hA' hlt hsp
 have hold:∀p∈before,(fun b=>decide (b<W.heap.size)) p.block=true:=fun p hp=>by simpa using hlt p hp
 have hres:∀(b:Nat) (sp:Nat→Bool) (hd:Bool),DataW.TrodAll enc P W' b sp hd f.resultTypes.toList ((Value.bool true).resultList f.resultTypes.size) [.lit (.bool true)] []:=fun b sp hd=>by
  rw[hr]
  exact trodAll_cons_mk (shut_bool hub _) trodAll_mk0
 have hvars:∀sp,DataW.TrodVars enc P W' sp s.vars [] []:=fun sp=>by rw[hv];rfl
 refine⟨ds,[],before,[],before,[],by simpa using hW',?_,?_,?_,World.keptBut_mono (fun p hp=>⟨hp,.inr (.inl hp)⟩) (hb.frame (·∈before)),fun _=>?_⟩
 ·rw[List.append_nil,hfn];exact hres _ _ _
 ·rw[List.append_nil,hfn];exact hargs _ hold
 ·rw[List.append_nil,hfn];exact hvars _
 ·refine⟨ok_one hr rfl (okWide_bool_mk hub _),_,_,([]++before)++[],⟨[]++before,[],trodAll_append (hargs _ (fun _ _=>rfl)) (hres _ _ _),hvars _,rfl,?_,?_⟩,?_⟩
  ·intro b off hp
   have hin:MemPlace.cell b off∈before:=by simpa using hp
   rw[hb.frozen (hlt _ hin)]
   exact hz b off (by simpa using hin)
  ·intro ha
   have:=hn ha
   simpa using this
  ·intro p hp _
   simpa using hp
end
end Go.AM
