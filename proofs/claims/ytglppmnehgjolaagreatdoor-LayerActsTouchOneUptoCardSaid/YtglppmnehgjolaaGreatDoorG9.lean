/-
The abstract machine, part 21: strings as lists of bytes; splitting at tests that are not known; functions that are run in place.
The abstract machine, part 23: guarded operations whose guard is not known: both outcomes in one state.
The library's comparison of strings, off the kit's shelf, at this program (written after what the kit's tool prints).
Names, keys and texts: what the program's and the reference's functions on bytes compute.
Values as data: their cells, their bulk, how a reading gives one.
-/
import Derived.Test.YtglppmnehgjolaaGreatDoorG8
import Derived.Lib.Strings
import Derived.Carry
import Derived.ChangeSame
import Derived.OpenShut
import Derived.Shelf.Small.Strs
import Derived.Shelf.Strconv.Itoa0
import Derived.Ground.Names2Prog
import Derived.Test.YtglppmnehgjolaaGreatDoorProg
import Derived.Test.YtglppmnehgjolaaGreatDoorG10
set_option maxRecDepth 8000
namespace Go.AM
open Go.RowKit
variable {dr:Prop}
abbrev str (l:List UInt8):PV:=.v (.string ⟨l.toArray⟩)
@[simp] theorem bsize (l:List UInt8):(ByteArray.mk l.toArray).size=l.length:=by simp[ByteArray.size]
@[simp] theorem bget (l:List UInt8) (i:Nat):(ByteArray.mk l.toArray)[i]?=l[i]?:=by
 by_cases h:i<l.length
 ·rw[getElem?_pos (ByteArray.mk l.toArray) i (by simpa using h),List.getElem?_eq_getElem h];rfl
 ·rw[getElem?_neg (ByteArray.mk l.toArray) i (by simpa using h),List.getElem?_eq_none (by omega)]
@[simp] theorem bextract (l:List UInt8) (a b:Nat):(ByteArray.mk l.toArray).extract a b=⟨((l.drop a).take (b - a)).toArray⟩:=by
 have h:=Lib.extract_data (ByteArray.mk l.toArray) a b
 rw[ByteArray.ext_iff]
 apply Array.toList_inj.1
 rw[h]
theorem qa {a b:List UInt8} (h:str a=str b):a=b:=by
 injection h with h;injection h with h;injection h with h
 simpa using congrArg Array.toList h
@[simp] theorem index_str (P:Program) (t:TypeId) (l:List UInt8) (k:IntKind) (i:Int) (h:P.underlying t=some .string):jU P t (.v (.string ⟨l.toArray⟩)) (.v (.int k i)) =
  if 0≤i then (l[i.toNat]?).map fun b=>.v (.int .u8 b.toNat) else none:=by
 simp only[jU,h,bget]
 split
 ·cases l[i.toNat]?<;>rfl
 ·rfl
@[simp] theorem slice_str (P:Program) (hp:Hp) (t:TypeId) (l:List UInt8) (lo hi:Option (Option PV)) (h:P.underlying t=some .string):wx P hp t (.v (.string ⟨l.toArray⟩)) lo hi =
  (wT 0 lo).bind fun a=>(wT l.length hi).bind fun b=>if a≤b∧b≤l.length then some (str ((l.drop a).take (b - a))) else none:=by
 simp only[wx,h,bsize,bextract]
 cases wT 0 lo<;>(try rfl)
 cases wT l.length hi<;>rfl
attribute [simp] wT
@[simp] theorem bin_bool_eql (P:Program) (t:TypeId) (a b:Bool) (h:P.underlying t=some .bool):binA P .eql t (.v (.bool a)) (.v (.bool b))=some (.v (.bool (a==b))):=by simp[binA,h]
@[simp] theorem conv_int (P:Program) (s d:TypeId) (k:IntKind) (n:Int):convA P s d (.v (.int k n))=(P.underlying s).bind fun _=>(P.underlying d).bind fun u=>match u with | .int k'=>some (.v (.int k' (k'.wrap n))) | _=>none:=by
 simp only[convA]
 cases P.underlying s<;>(try rfl)
 cases P.underlying d<;>(try rfl)
 rename_i u
 cases u<;>rfl
theorem zJ {F:List PV→Option PV} {ns:List Nat} {kill:Bool} {args aZ:List PV} {hp hp1:Hp} {nx:Nat} {r:PV} (h1:zk hp args=some (aZ,hp1)) (h2:F (qr ns aZ)=some r) (h3:r.flat=true∨args.all PV.noOwn=true) :
  zd kill ns F args hp nx=some (r,hp,nx):=by
 unfold zd
 simp only[h1,h2,h3,if_true]
theorem zG {k:IntKind} {a b:Int} (h:PV.v (.int k a)=.v (.int k b)):a=b:=by
 injection h with h;injection h
theorem j5 {a b:Bool} (h:PV.v (.bool a)=.v (.bool b)):a=b:=by
 injection h with h;injection h
def compK {α β:Type} (f:α→β) (K:β→Prop) (x:α):Prop:=K (f x)
def bindC {α β:Type} (f:α→Option β) (K:β→Prop) (x:α):Prop:=bindK (f x) K
@[simp] theorem compK_app {α β:Type} (f:α→β) (K:β→Prop) (x:α):compK f K x=K (f x):=rfl
@[simp] theorem bindC_app {α β:Type} (f:α→Option β) (K:β→Prop) (x:α):bindC f K x=bindK (f x) K:=rfl
def KnownF (C:Ctx) (pf:FuncId→Bool) (f:FuncId) (fn:Func):Prop:=∃code,Known C pf f fn code
theorem zZ {C:Ctx} {pf:FuncId→Bool} {f:FuncId} {fn:Func} (hg:GoodD dr C pf) (hk:KnownF C pf f fn) (kill:Bool) (ns:List Nat) (F:List PV→Option PV) (hF:∀args r,F args=some r→args.length≤fn.ntmps∧∃r0,zl C fn args=some r0∧NilUp r0 r):ya dr C.P f (zd kill ns F) :=
 let ⟨_,hk⟩:=hk
 hPure_sound hg hk kill ns F hF
noncomputable def hRun (C:Ctx) (fn:Func):AM.Spec:=fun args hp nx=>if args.length≤fn.ntmps then qq C fn args hp nx else none
theorem zS {C:Ctx} {pf:FuncId→Bool} {f:FuncId} {fn:Func} {code:Code} (hg:GoodD dr C pf) (hk:Known C pf f fn code):ya dr C.P f (hRun C fn):=by
 refine⟨⟨fn,hk.func,hk.name,by rw[hk.body];rfl⟩,?_⟩
 intro args hp nx r hp' nx' h w S G vs hi hz
 unfold hRun at h
 split at h
 ·rename_i hn
  exact func_calls hg.spec hg.quiet hg.box hg.iter hg.mixed hk.func hk.body hk.ok h hi hz hn
 ·cases h
end Go.AM
namespace Go.AM
open Go.RowKit Go.WideShapes Go.ChangeShapes
variable {dr:Prop}
section
variable {H:Type} {enc:TypeId×Value→H} {P:Program}
theorem xX (hl:laidOutB P=true) {W W':World} (hb:Below W.heap.size W W') {sp:Nat→Bool}:∀{ts:List TypeId} {vs:List Value} {ds:List (DataW H)} {ps:List MemPlace},(∀t∈ts,P.readableRec t=true∧t<P.types.size) →
  DataW.TrodAll enc P W 0 (fun _=>true) true ts vs ds ps→(∀p∈ps,p.block<W.heap.size)→(∀p∈ps,sp p.block=true)→DataW.TrodAll enc P W' 0 sp true ts vs ds ps
 | [],vs,ds,ps,_,h,_,_=>by
   obtain⟨rfl,rfl,rfl⟩:=trodAll_nil h
   exact trodAll_mk0
 | t::ts,vs,ds,ps,ht,h,hlt,hsp=>by
   obtain⟨v,vs',d,ds',p,q,rfl,rfl,rfl,h0,h1⟩:=trodAll_cons h
   exact trodAll_cons_mk (WideElems.Trod_stays hl (ht t (by simp)).1 (ht t (by simp)).2 h0 (fun x hx=>hb.same (hlt x (by simp[hx]))) (fun x hx=>hsp x (by simp[hx])))
    (xX hl hb (fun u hu=>ht u (by simp[hu])) h1 (fun x hx=>hlt x (by simp[hx])) (fun x hx=>hsp x (by simp[hx])))
theorem law_post {f:Func} {s:ChangeSpec} {apart fresh handsOn again:Bool} {W W':World} {args:Array Value} {ds gs:List (DataW H)} {before:List MemPlace} (hl:laidOutB P=true) (hT:∀t∈f.params.toList,P.readableRec t=true∧t<P.types.size)
  (hv:s.vars=[]) (hW:DataW.Whole enc P f.params.toList s.vars apart W args.toList ds gs before) (hfn:s.fn H ds={ results:=[.lit (.bool true)],args:=ds }) {tb:TypeId} (hr:f.resultTypes=#[tb]) (hub:P.underlying tb=some .bool) (hb:Below W.heap.size W W') :
  s.post enc P f apart fresh handsOn again W args (.bool true) W':=by
 have hlt:∀p∈before,p.block<W.heap.size:=fun p hp=>hW.lt p hp
 have hW':=hW
 obtain⟨p,q,hA,hV,hpq,hz,hn⟩:=hW
 rw[hv] at hV
 obtain⟨rfl,rfl⟩:=trodVars_none hV
 simp only[List.append_nil] at hpq
 subst hpq
 have hA':DataW.TrodAll enc P W 0 (fun _=>true) true f.params.toList args.toList ds before:=hA
 have hargs:∀sp:Nat→Bool,(∀p∈before,sp p.block=true)→DataW.TrodAll enc P W' 0 sp true f.params.toList args.toList ds before:=fun sp hsp=>xX hl hb hT hA' hlt hsp
 have hold:∀p∈before,(fun b=>decide (b<W.heap.size)) p.block=true:=fun p hp=>by simpa using hlt p hp
 have hres:∀(b:Nat) (sp:Nat→Bool) (hd:Bool),DataW.TrodAll enc P W' b sp hd f.resultTypes.toList ((Value.bool true).resultList f.resultTypes.size) [.lit (.bool true)] []:=fun b sp hd=>by
  rw[hr]
  exact trodAll_cons_mk (shut_bool hub _) trodAll_mk0
 have hvars:∀sp,DataW.TrodVars enc P W' sp s.vars [] []:=fun sp=>by rw[hv];rfl
 refine⟨ds,[],before,[],before,[],by simpa using hW',?_,?_,?_,World.keptBut_mono (fun p hp=>⟨hp,.inr (.inl hp)⟩) (hb.frame (·∈before)),fun _=>?_⟩
 ·rw[List.append_nil,hfn];exact hres _ _ _
 ·rw[List.append_nil,hfn];exact hargs _ hold
 ·rw[List.append_nil,hfn];exact hvars _
 ·refine⟨ok_one hr rfl (okWide_bool_mk hub _),_,_,([]++before)++[],⟨[]++before,[],trodAll_append (hargs _ (fun _ _=>rfl)) (hres _ _ _),hvars _,rfl,?_,?_⟩,?_⟩
  ·intro b off hp
   have hin:MemPlace.cell b off∈before:=by simpa using hp
   rw[hb.frozen (hlt _ hin)]
   exact hz b off (by simpa using hin)
  ·intro ha
   have:=hn ha
   simpa using this
  ·intro p hp _
   simpa using hp
end
end Go.AM
namespace Go.AM
open Go.RowKit
variable {dr:Prop}
def pureOp:Op→Bool
 | .move _ | .assign _ | .pick _ _ _ | .load _ _ | .binOp _ _ _ _ _ | .unOp _ _ _ | .convert _ _ _ | .fieldAddr _ _ _ | .field _ _ _ | .indexAddr _ _ _ | .index _ _ _ | .extract _ _=>true
 | .slice _ _ _ _ none=>true
 | .call c=>match c.callee with
   | .builtin .len=>true
   | .builtin .min=>true
   | .builtin .max=>true
   | _=>false
 | _=>false
def valA (C:Ctx) (st:St) (op:Op):Option PV:=(zB C (get st.σ) st.hp st.nx op).map (·.1)
theorem xY {o:Option PV} {hp:Hp} {nx:Nat}:(o.map fun y=>(y,hp,nx))=((o.map fun y=>(y,hp,nx)).map (·.1)).map fun x=>(x,hp,nx):=by cases o<;>rfl
theorem wJ {o:Option PV} {hp:Hp} {nx:Nat}:(o.bind fun y=>some (y,hp,nx))=((o.bind fun y=>some (y,hp,nx)).map (·.1)).map fun x=>(x,hp,nx):=by cases o<;>rfl
theorem pureOp_eq {C:Ctx} {st:St} {op:Op} (h:pureOp op=true):zB C (get st.σ) st.hp st.nx op=(valA C st op).map fun x=>(x,st.hp,st.nx):=by
 unfold valA
 generalize get st.σ=ρ
 cases op with
 | move x=>simp only[op_move];exact xY
 | assign x=>simp only[op_assign];exact xY
 | pick c a b=>simp only[op_pick];exact xY
 | load t a=>simp only[op_load];cases ρ a<;>(try rfl);exact wJ
 | binOp op t x y t2=>simp only[op_bin];cases ρ x<;>cases ρ y<;>(try rfl);exact wJ
 | unOp op t x=>simp only[op_un];cases ρ x<;>(try rfl);exact wJ
 | convert s d x=>simp only[op_conv];cases ρ x<;>(try rfl);exact wJ
 | fieldAddr t x f=>simp only[op_fieldAddr];cases ρ x<;>(try rfl);exact wJ
 | field t x f=>simp only[op_field];cases ρ x<;>(try rfl);exact wJ
 | indexAddr t x i=>simp only[op_indexAddr];cases ρ x<;>cases ρ i<;>(try rfl);exact wJ
 | index t x i=>simp only[op_index];cases ρ x<;>cases ρ i<;>(try rfl);exact wJ
 | extract x i=>simp only[op_extract];cases ρ x<;>(try rfl);exact wJ
 | slice t x lo hi mx =>
   cases mx with
   | none=>simp only[op_slice];cases ρ x<;>(try rfl);exact wJ
   | some m=>simp[pureOp] at h
 | call c =>
   obtain⟨callee,args,ts⟩:=c
   cases callee with
   | builtin b =>
     simp only[op_builtin]
     cases qn (args.toList.map ρ) with
     | none=>rfl
     | some xs =>
       simp only[Option.bind_eq_bind,Option.bind_some]
       cases b<;>(try (simp[pureOp] at h;done))
       case len =>
        cases xs with
        | nil=>rfl
        | cons x l =>
          cases l with
          | nil =>
            simp only[blt_len]
            cases ts[0]?<;>(try rfl)
            exact wJ
          | cons _ _=>rfl
       case min=>simp only[blt_min];exact xY
       case max=>simp only[blt_max];exact xY
   | _=>simp[pureOp] at h
 | _=>simp[pureOp] at h
def qE (C:Ctx) (g:FuncId):Prop:=∀spec,C.Γ g=some spec→Quiet spec
def wX (C:Ctx) (op:Op):Prop:=∀st:St,zB C (get st.σ) st.hp st.nx op=(valA C st op).map fun x=>(x,st.hp,st.nx)
theorem qI {C:Ctx} {op:Op} (h:pureOp op=true):wX C op:=fun _=>pureOp_eq h
@[simp] theorem pu_call (C:Ctx) (g:FuncId) (a:Array Operand) (ts:Array TypeId) (h:qE C g):wX C (.call ⟨.value (.func g),a,ts⟩):=by
 intro st
 unfold valA
 simp only[op_call,get_func]
 cases qn (a.toList.map (get st.σ)) with
 | none=>rfl
 | some xs =>
   simp only[Option.bind_eq_bind,Option.bind_some]
   cases hs:C.Γ g with
   | none=>simp[qN,hs]
   | some spec =>
     rw[callVal_fn C st.hp st.nx g [] [] xs spec hs]
     cases hr:spec ([]++xs++[]) st.hp st.nx with
     | none=>rfl
     | some r =>
       obtain⟨x,hp',nx'⟩:=r
       obtain⟨rfl,rfl⟩:=h spec hs _ _ _ _ _ _ hr
       rfl
theorem zW {P:Program} {l:Tab} {g:Nat} {spec:AM.Spec} (h:lookup l g=some spec) (hq:Quiet spec):qE (zN P l) g:=fun s hs=>by
 have:lookup l g=some s:=hs
 rw[h] at this
 injection this with this
 exact this ▸ hq
@[simp] theorem pu_move (C:Ctx) (x:Operand):wX C (.move x):=qI rfl
@[simp] theorem pu_assign (C:Ctx) (x:Operand):wX C (.assign x):=qI rfl
@[simp] theorem pu_pick (C:Ctx) (c a b:Operand):wX C (.pick c a b):=qI rfl
@[simp] theorem pu_load (C:Ctx) (t:TypeId) (x:Operand):wX C (.load t x):=qI rfl
@[simp] theorem pu_bin (C:Ctx) (o:BinOp) (t t2:TypeId) (x y:Operand):wX C (.binOp o t x y t2):=qI rfl
@[simp] theorem pu_un (C:Ctx) (o:UnOp) (t:TypeId) (x:Operand):wX C (.unOp o t x):=qI rfl
@[simp] theorem pu_conv (C:Ctx) (t u:TypeId) (x:Operand):wX C (.convert t u x):=qI rfl
@[simp] theorem pu_fa (C:Ctx) (t:TypeId) (x:Operand) (f:Nat):wX C (.fieldAddr t x f):=qI rfl
@[simp] theorem pu_fi (C:Ctx) (t:TypeId) (x:Operand) (f:Nat):wX C (.field t x f):=qI rfl
@[simp] theorem pu_ia (C:Ctx) (t:TypeId) (x i:Operand):wX C (.indexAddr t x i):=qI rfl
@[simp] theorem pu_ix (C:Ctx) (t:TypeId) (x i:Operand):wX C (.index t x i):=qI rfl
@[simp] theorem pu_ex (C:Ctx) (x:Operand) (i:Nat):wX C (.extract x i):=qI rfl
@[simp] theorem pu_sl (C:Ctx) (t:TypeId) (x:Operand) (lo hi:Option Operand):wX C (.slice t x lo hi none):=qI rfl
@[simp] theorem pu_len (C:Ctx) (a:Array Operand) (ts:Array TypeId):wX C (.call ⟨.builtin .len,a,ts⟩):=qI rfl
@[simp] theorem pu_min (C:Ctx) (a:Array Operand) (ts:Array TypeId):wX C (.call ⟨.builtin .min,a,ts⟩):=qI rfl
@[simp] theorem pu_max (C:Ctx) (a:Array Operand) (ts:Array TypeId):wX C (.call ⟨.builtin .max,a,ts⟩):=qI rfl
def bc {α:Type} (y:Bool) (a b:α):α:=match y with
 | true=>a
 | false=>b
@[simp] theorem bc_true {α:Type} (a b:α):bc true a b=a:=rfl
@[simp] theorem bc_false {α:Type} (a b:α):bc false a b=b:=rfl
@[simp] theorem bc_not {α:Type} (y:Bool) (a b:α):bc (!y) a b=bc y b a:=by cases y<;>rfl
@[simp] theorem bc_same {α:Type} (y:Bool) (a:α):bc y a a=a:=by cases y<;>rfl
def bx (y:Bool):Bool:=y
@[simp] theorem bx_true:bx true=true:=rfl
@[simp] theorem bx_false:bx false=false:=rfl
@[simp] theorem bc_bc1 {α:Type} (y:Bool) (a b c:α):bc y (bc y a b) c=bc y a c:=by cases y<;>rfl
@[simp] theorem bc_bc2 {α:Type} (y:Bool) (a b c:α):bc y a (bc y b c)=bc y a c:=by cases y<;>rfl
def gval (C:Ctx) (st:St) (op:Op) (y:Option Bool) (b:Bool):Option PV:=if y=some b then valA C st op else some (.tup [])
section
variable (C:Ctx) (d:Option Tmp) (op:Op) (st:St)
theorem guard_gval (y:Option Bool) (b:Bool) (h:wX C op):yQ C d op st y b=(gval C st op y b).map fun x=>⟨put st.σ d x,st.hp,st.nx⟩:=by
 unfold yQ gval
 rw[h st]
 split
 ·cases valA C st op<;>rfl
 ·rfl
@[simp low] theorem guard_lazy (y b:Bool) (h:wX C op):yQ C d op st (some y) b=(gval C st op (some y) b).map fun x=>⟨put st.σ d x,st.hp,st.nx⟩:=guard_gval C d op st _ b h
@[simp] theorem guard_bc (y:Bool) (p q:Option Bool) (b:Bool) (h:wX C op):yQ C d op st (bc y p q) b=(gval C st op (bc y p q) b).map fun x=>⟨put st.σ d x,st.hp,st.nx⟩:=guard_gval C d op st _ b h
@[simp] theorem gval_bc (y:Bool) (p q:Option Bool) (b:Bool):gval C st op (bc y p q) b=bc y (gval C st op p b) (gval C st op q b):=by cases y<;>rfl
@[simp] theorem gval_none (b:Bool):gval C st op none b=some (.tup []):=rfl
@[simp] theorem gval_t (y:Bool):gval C st op (some y) true=bc (bx y) (valA C st op) (some (.tup [])):=by cases y<;>rfl
@[simp] theorem gval_f (y:Bool):gval C st op (some y) false=bc (bx y) (some (.tup [])) (valA C st op):=by cases y<;>rfl
end
@[simp] theorem boolOf_bc (y:Bool) (a b:PV):boolOf (bc y a b)=bc y (boolOf a) (boolOf b):=by cases y<;>rfl
@[simp] theorem bc_some {α:Type} (y:Bool) (a b:α):bc y (some a) (some b)=some (bc y a b):=by cases y<;>rfl
@[simp] theorem pick_and (y z:Bool) (w:PV):xx (some (.v (.bool y))) (some (bc (bx y) (.v (.bool z)) w)) (some (.v (.bool false)))=some (.v (.bool (y&&z))):=by cases y<;>rfl
@[simp] theorem pick_or (y z:Bool) (w:PV):xx (some (.v (.bool y))) (some (.v (.bool true))) (some (bc (bx y) w (.v (.bool z))))=some (.v (.bool (y||z))):=by cases y<;>rfl
@[simp] theorem bc_deep1 {α:Type} (y q1:Bool) (a b d0 d1:α):bc y (bc q1 (bc y a b) d1) d0=bc y (bc q1 a d1) d0:=by cases y<;>rfl
@[simp] theorem bc_deep2 {α:Type} (y q1:Bool) (a b d0 d1:α):bc y (bc q1 d1 (bc y a b)) d0=bc y (bc q1 d1 a) d0:=by cases y<;>rfl
@[simp] theorem bc_deep3 {α:Type} (y q1:Bool) (a b d0 d1:α):bc y d0 (bc q1 (bc y a b) d1)=bc y d0 (bc q1 b d1):=by cases y<;>rfl
@[simp] theorem bc_deep4 {α:Type} (y q1:Bool) (a b d0 d1:α):bc y d0 (bc q1 d1 (bc y a b))=bc y d0 (bc q1 d1 b):=by cases y<;>rfl
@[simp] theorem bc_deep5 {α:Type} (y q1 q2:Bool) (a b d0 d1 d2:α):bc y (bc q1 (bc q2 (bc y a b) d2) d1) d0=bc y (bc q1 (bc q2 a d2) d1) d0:=by cases y<;>rfl
@[simp] theorem bc_deep6 {α:Type} (y q1 q2:Bool) (a b d0 d1 d2:α):bc y (bc q1 (bc q2 d2 (bc y a b)) d1) d0=bc y (bc q1 (bc q2 d2 a) d1) d0:=by cases y<;>rfl
@[simp] theorem bc_deep7 {α:Type} (y q1 q2:Bool) (a b d0 d1 d2:α):bc y (bc q1 d1 (bc q2 (bc y a b) d2)) d0=bc y (bc q1 d1 (bc q2 a d2)) d0:=by cases y<;>rfl
@[simp] theorem bc_deep8 {α:Type} (y q1 q2:Bool) (a b d0 d1 d2:α):bc y (bc q1 d1 (bc q2 d2 (bc y a b))) d0=bc y (bc q1 d1 (bc q2 d2 a)) d0:=by cases y<;>rfl
@[simp] theorem bc_deep9 {α:Type} (y q1 q2:Bool) (a b d0 d1 d2:α):bc y d0 (bc q1 (bc q2 (bc y a b) d2) d1)=bc y d0 (bc q1 (bc q2 b d2) d1):=by cases y<;>rfl
@[simp] theorem bc_deep10 {α:Type} (y q1 q2:Bool) (a b d0 d1 d2:α):bc y d0 (bc q1 (bc q2 d2 (bc y a b)) d1)=bc y d0 (bc q1 (bc q2 d2 b) d1):=by cases y<;>rfl
@[simp] theorem bc_deep11 {α:Type} (y q1 q2:Bool) (a b d0 d1 d2:α):bc y d0 (bc q1 d1 (bc q2 (bc y a b) d2))=bc y d0 (bc q1 d1 (bc q2 b d2)):=by cases y<;>rfl
@[simp] theorem bc_deep12 {α:Type} (y q1 q2:Bool) (a b d0 d1 d2:α):bc y d0 (bc q1 d1 (bc q2 d2 (bc y a b)))=bc y d0 (bc q1 d1 (bc q2 d2 b)):=by cases y<;>rfl
@[simp] theorem bc_deep13 {α:Type} (y q1 q2 q3:Bool) (a b d0 d1 d2 d3:α):bc y (bc q1 (bc q2 (bc q3 (bc y a b) d3) d2) d1) d0=bc y (bc q1 (bc q2 (bc q3 a d3) d2) d1) d0:=by cases y<;>rfl
@[simp] theorem bc_deep14 {α:Type} (y q1 q2 q3:Bool) (a b d0 d1 d2 d3:α):bc y (bc q1 (bc q2 (bc q3 d3 (bc y a b)) d2) d1) d0=bc y (bc q1 (bc q2 (bc q3 d3 a) d2) d1) d0:=by cases y<;>rfl
@[simp] theorem bc_deep15 {α:Type} (y q1 q2 q3:Bool) (a b d0 d1 d2 d3:α):bc y (bc q1 (bc q2 d2 (bc q3 (bc y a b) d3)) d1) d0=bc y (bc q1 (bc q2 d2 (bc q3 a d3)) d1) d0:=by cases y<;>rfl
@[simp] theorem bc_deep16 {α:Type} (y q1 q2 q3:Bool) (a b d0 d1 d2 d3:α):bc y (bc q1 (bc q2 d2 (bc q3 d3 (bc y a b))) d1) d0=bc y (bc q1 (bc q2 d2 (bc q3 d3 a)) d1) d0:=by cases y<;>rfl
@[simp] theorem bc_deep17 {α:Type} (y q1 q2 q3:Bool) (a b d0 d1 d2 d3:α):bc y (bc q1 d1 (bc q2 (bc q3 (bc y a b) d3) d2)) d0=bc y (bc q1 d1 (bc q2 (bc q3 a d3) d2)) d0:=by cases y<;>rfl
@[simp] theorem bc_deep18 {α:Type} (y q1 q2 q3:Bool) (a b d0 d1 d2 d3:α):bc y (bc q1 d1 (bc q2 (bc q3 d3 (bc y a b)) d2)) d0=bc y (bc q1 d1 (bc q2 (bc q3 d3 a) d2)) d0:=by cases y<;>rfl
@[simp] theorem bc_deep19 {α:Type} (y q1 q2 q3:Bool) (a b d0 d1 d2 d3:α):bc y (bc q1 d1 (bc q2 d2 (bc q3 (bc y a b) d3))) d0=bc y (bc q1 d1 (bc q2 d2 (bc q3 a d3))) d0:=by cases y<;>rfl
@[simp] theorem bc_deep20 {α:Type} (y q1 q2 q3:Bool) (a b d0 d1 d2 d3:α):bc y (bc q1 d1 (bc q2 d2 (bc q3 d3 (bc y a b)))) d0=bc y (bc q1 d1 (bc q2 d2 (bc q3 d3 a))) d0:=by cases y<;>rfl
@[simp] theorem bc_deep21 {α:Type} (y q1 q2 q3:Bool) (a b d0 d1 d2 d3:α):bc y d0 (bc q1 (bc q2 (bc q3 (bc y a b) d3) d2) d1)=bc y d0 (bc q1 (bc q2 (bc q3 b d3) d2) d1):=by cases y<;>rfl
@[simp] theorem bc_deep22 {α:Type} (y q1 q2 q3:Bool) (a b d0 d1 d2 d3:α):bc y d0 (bc q1 (bc q2 (bc q3 d3 (bc y a b)) d2) d1)=bc y d0 (bc q1 (bc q2 (bc q3 d3 b) d2) d1):=by cases y<;>rfl
@[simp] theorem bc_deep23 {α:Type} (y q1 q2 q3:Bool) (a b d0 d1 d2 d3:α):bc y d0 (bc q1 (bc q2 d2 (bc q3 (bc y a b) d3)) d1)=bc y d0 (bc q1 (bc q2 d2 (bc q3 b d3)) d1):=by cases y<;>rfl
@[simp] theorem bc_deep24 {α:Type} (y q1 q2 q3:Bool) (a b d0 d1 d2 d3:α):bc y d0 (bc q1 (bc q2 d2 (bc q3 d3 (bc y a b))) d1)=bc y d0 (bc q1 (bc q2 d2 (bc q3 d3 b)) d1):=by cases y<;>rfl
@[simp] theorem bc_deep25 {α:Type} (y q1 q2 q3:Bool) (a b d0 d1 d2 d3:α):bc y d0 (bc q1 d1 (bc q2 (bc q3 (bc y a b) d3) d2))=bc y d0 (bc q1 d1 (bc q2 (bc q3 b d3) d2)):=by cases y<;>rfl
@[simp] theorem bc_deep26 {α:Type} (y q1 q2 q3:Bool) (a b d0 d1 d2 d3:α):bc y d0 (bc q1 d1 (bc q2 (bc q3 d3 (bc y a b)) d2))=bc y d0 (bc q1 d1 (bc q2 (bc q3 d3 b) d2)):=by cases y<;>rfl
@[simp] theorem bc_deep27 {α:Type} (y q1 q2 q3:Bool) (a b d0 d1 d2 d3:α):bc y d0 (bc q1 d1 (bc q2 d2 (bc q3 (bc y a b) d3)))=bc y d0 (bc q1 d1 (bc q2 d2 (bc q3 b d3))):=by cases y<;>rfl
@[simp] theorem bc_deep28 {α:Type} (y q1 q2 q3:Bool) (a b d0 d1 d2 d3:α):bc y d0 (bc q1 d1 (bc q2 d2 (bc q3 d3 (bc y a b))))=bc y d0 (bc q1 d1 (bc q2 d2 (bc q3 d3 b))):=by cases y<;>rfl
section
variable (P:Program) (C:Ctx) (hp:Hp) (nx:Nat) (t u:TypeId) (y:Bool) (a b:PV)
@[simp] theorem load_bc:jQ P hp t (bc y a b)=bc y (jQ P hp t a) (jQ P hp t b):=by cases y<;>rfl
@[simp] theorem bin_bc1 (o:BinOp) (x:PV):binA P o t (bc y a b) x=bc y (binA P o t a x) (binA P o t b x):=by cases y<;>rfl
@[simp] theorem bin_bc2 (o:BinOp) (x:PV):binA P o t x (bc y a b)=bc y (binA P o t x a) (binA P o t x b):=by cases y<;>rfl
@[simp] theorem binC_bc1 (c:Bool) (o:BinOp) (x:PV):binC c P o t (bc y a b) x=bc y (binC c P o t a x) (binC c P o t b x):=by cases y<;>rfl
@[simp] theorem binC_bc2 (c:Bool) (o:BinOp) (x:PV):binC c P o t x (bc y a b)=bc y (binC c P o t x a) (binC c P o t x b):=by cases y<;>rfl
@[simp] theorem un_bc (o:UnOp):unA o (bc y a b)=bc y (unA o a) (unA o b):=by cases y<;>rfl
@[simp] theorem conv_bc:convA P t u (bc y a b)=bc y (convA P t u a) (convA P t u b):=by cases y<;>rfl
@[simp] theorem fieldAddr_bc (f:Nat):qv P t f (bc y a b)=bc y (qv P t f a) (qv P t f b):=by cases y<;>rfl
@[simp] theorem fieldVal_bc (f:Nat):yC P t f (bc y a b)=bc y (yC P t f a) (yC P t f b):=by cases y<;>rfl
@[simp] theorem indexAddr_bc1 (x:PV):zK P hp t (bc y a b) x=bc y (zK P hp t a x) (zK P hp t b x):=by cases y<;>rfl
@[simp] theorem indexAddr_bc2 (x:PV):zK P hp t x (bc y a b)=bc y (zK P hp t x a) (zK P hp t x b):=by cases y<;>rfl
@[simp] theorem index_bc1 (x:PV):jU P t (bc y a b) x=bc y (jU P t a x) (jU P t b x):=by cases y<;>rfl
@[simp] theorem index_bc2 (x:PV):jU P t x (bc y a b)=bc y (jU P t x a) (jU P t x b):=by cases y<;>rfl
@[simp] theorem len_bc:lenA P t (bc y a b)=bc y (lenA P t a) (lenA P t b):=by cases y<;>rfl
@[simp] theorem slice_bc1 (lo hi:Option (Option PV)):wx P hp t (bc y a b) lo hi=bc y (wx P hp t a lo hi) (wx P hp t b lo hi):=by cases y<;>rfl
@[simp] theorem slice_bc2 (x:PV) (hi:Option (Option PV)):wx P hp t x (some (some (bc y a b))) hi=bc y (wx P hp t x (some (some a)) hi) (wx P hp t x (some (some b)) hi):=by cases y<;>rfl
@[simp] theorem slice_bc3 (x:PV) (lo:Option (Option PV)):wx P hp t x lo (some (some (bc y a b)))=bc y (wx P hp t x lo (some (some a))) (wx P hp t x lo (some (some b))):=by cases y<;>rfl
@[simp] theorem extract_bc (i:Nat):vQ i (bc y a b)=bc y (vQ i a) (vQ i b):=by cases y<;>rfl
@[simp] theorem pick_bc1 (p q:Option PV):xx (some (bc y a b)) p q=bc y (xx (some a) p q) (xx (some b) p q):=by cases y<;>rfl
@[simp low] theorem pick_bc2 (p q:Option PV):xx p (some (bc y a b)) q=bc y (xx p (some a) q) (xx p (some b) q):=by cases y<;>rfl
@[simp low] theorem pick_bc3 (p q:Option PV):xx p q (some (bc y a b))=bc y (xx p q (some a)) (xx p q (some b)):=by cases y<;>rfl
@[simp] theorem pure_bc1 (kill:Bool) (ns:List Nat) (F:List PV→Option PV) (l:List PV):zd kill ns F (bc y a b::l) hp nx=bc y (zd kill ns F (a::l) hp nx) (zd kill ns F (b::l) hp nx):=by cases y<;>rfl
@[simp] theorem pure_bc2 (kill:Bool) (ns:List Nat) (F:List PV→Option PV) (x:PV) (l:List PV):zd kill ns F (x::bc y a b::l) hp nx=bc y (zd kill ns F (x::a::l) hp nx) (zd kill ns F (x::b::l) hp nx):=by cases y<;>rfl
@[simp] theorem pure_bc3 (kill:Bool) (ns:List Nat) (F:List PV→Option PV) (x z:PV) (l:List PV):zd kill ns F (x::z::bc y a b::l) hp nx=bc y (zd kill ns F (x::z::a::l) hp nx) (zd kill ns F (x::z::b::l) hp nx):=by cases y<;>rfl
end
@[simp] theorem map_bc {α β:Type} (y:Bool) (f:α→β) (a b:Option α):(bc y a b).map f=bc y (a.map f) (b.map f):=by cases y<;>rfl
@[simp] theorem bind_bc {α β:Type} (y:Bool) (f:α→Option β) (a b:Option α):(bc y a b).bind f=bc y (a.bind f) (b.bind f):=by cases y<;>rfl
attribute [simp] valA
variable {dr:Prop}
def dynAt (k:Nat) (D:List (Tmp×Tmp)) (i:Nat):List (Tmp×Tmp):=if i=k then D else []
@[simp] theorem mkCtxD_dyn (P:Program) (l:Tab) (k:Nat) (D:List (Tmp×Tmp)) (i:Nat):(xW P l (dynAt k D)).dyn i=if i=k then D else []:=rfl
@[simp] theorem EvC_region_mkD (P:Program) (l:Tab) (k:Nat) (D:List (Tmp×Tmp)) (i:Nat) (ops:Array Oper) (d:Bool) (st:St) (K:Exit→St→Prop) (h:¬i=k):EvC (xW P l (dynAt k D)) (.region i ops d) st K=EvL (xW P l (dynAt k D)) ops ops.toList st (xS K):=jc _ i ops d st K (by simp[h]) rfl
theorem apartA_one {a b:Tmp} {st:St} {id i j id' i' j':Nat} {blk:Blk} (h1:st.σ a=.ref id i j) (h2:st.σ b=.ref id' i' j') (h3:id≠id') (h4:st.hp id'=some blk) (h5:blk.arr=false):xi [(a,b)] st:=by
 intro p hp
 obtain rfl:=List.mem_singleton.1 hp
 intro id0 i0 j0 e0
 rw[h1] at e0
 injection e0 with e0 _ _
 subst e0
 exact⟨id',i',j',blk,h2,h3,h4,h5⟩
theorem zip_lits {w:World} {S:Nat→Prop} {G:Nat→GI} {nx:Nat}:∀{us vs:List Value},(∀u∈us,lit u=true)→Zip (RepO w S G nx) (us.map PV.v) vs→vs=us
 | [],vs,_,h=>by
   have:=h.1
   simp at this
   exact List.length_eq_zero_iff.1 this.symm
 | u::us,vs,hl,h=>by
   obtain⟨v,vs',rfl,hv,hz⟩:=h.uncons
   rw[zip_lits (fun x hx=>hl x (by simp[hx])) hz]
   congr 1
   cases hv with
   | c hc=>exact hc.v_inv.1
theorem sound_scalar {P:Program} {g:FuncId} {F:List PV→Option PV} (hfn:∃fn,P.funcs[g]?=some fn∧(fn.name== "runtime.NumGoroutine")=false∧fn.body.isNone=false)
  (h:∀args r,F args=some r→∃us:List Value,args=us.map PV.v∧(∀u∈us,lit u=true)∧∃v,r=.v v∧lit v=true∧∀w,Calls P g us.toArray w fun e w'=>e=.returned v∧w'=w):ya dr P g (zd false [] F):=by
 refine⟨hfn,?_⟩
 intro args hp nx r hp' nx' hs w S G vs hi hz
 unfold zd at hs
 split at hs
 ·rename_i aZ hp1 hfr
  split at hs
  ·rename_i r0 hF
   obtain⟨us,e,hl,v,rfl,hv,hc⟩:=h _ _ hF
   have e':qr [] aZ=aZ:=by cases aZ<;>rfl
   rw[e'] at e
   subst e
   have hargs:args=us.map PV.v:=by
    have key:∀(args:List PV) (us:List Value) (hp1:Hp),zk hp args=some (us.map PV.v,hp1)→args=us.map PV.v:=by
     intro args
     induction args with
     | nil=>intro us hp1 hh;simp only[zk] at hh;injection hh with hh;injection hh with hh _
     | cons x l ih =>
       intro us hp1 hh
       simp only[zk] at hh
       split at hh
       ·rename_i y hp2 hy
        split at hh
        ·rename_i r2 hp3 hr2
         injection hh with hh
         injection hh with hh _
         cases us with
         | nil=>simp at hh
         | cons u us =>
           simp only[List.map_cons,List.cons.injEq] at hh
           obtain⟨rfl,rfl⟩:=hh
           have hx:x=.v u∧hp2=hp:=by
            unfold zC at hy
            split at hy
            ·split at hy
             ·injection hy with hy;injection hy with hy _;cases hy
             ·cases hy
            ·unfold zP at hy
             split at hy<;>first
              | (split at hy<;>first | (split at hy<;>first | (injection hy with hy;injection hy with hy _;cases hy;done) | cases hy) | cases hy)
              | (injection hy with hy;injection hy with h1 h2;first | (exact⟨by rw[←h1],h2.symm⟩) | cases h1)
              | cases hy
           obtain⟨rfl,rfl⟩:=hx
           rw[ih us hp3 hr2]
           rfl
        ·cases hh
       ·cases hh
    exact key args us hp1 hfr
   subst hargs
   simp only[PV.flat,true_or,if_true] at hs
   injection hs with hs
   injection hs with h1 h2
   injection h2 with h2 h3
   subst h1;subst h2;subst h3
   rw[zip_lits hl hz]
   refine (hc w).mono fun e w' hh=>?_
   obtain⟨rfl,rfl⟩:=hh
   exact⟨v,S,G,rfl,Stp.refl hi,.c (.v hv)⟩
  ·cases hs
 ·cases hs
theorem xy:∀(l cs:List PV) (off:Nat),off+l.length≤cs.length→qP cs off l=cs.take off++l++cs.drop (off+l.length)
 | [],cs,off,_=>by simp
 | x::l,cs,off,h=>by
   simp only[List.length_cons] at h
   rw[qP,xy l (cs.set off x) (off+1) (by simp;omega)]
   have e1:(cs.set off x).take (off+1)=cs.take off++[x]:=by
    rw[List.take_succ_eq_append_getElem (by simp;omega)]
    have e0:(cs.set off x).take off=cs.take off:=by
     apply List.ext_getElem?
     intro j
     simp only[List.getElem?_take,List.getElem?_set]
     by_cases hj:j<off
     ·simp[hj,show ¬off=j by omega]
     ·simp[hj]
    rw[e0]
    simp
   have e2:(cs.set off x).drop (off+1+l.length)=cs.drop (off+(x::l).length):=by
    rw[List.drop_set_of_lt (by omega)]
    simp only[List.length_cons]
    congr 1
    omega
   rw[e1,e2]
   simp
@[simp] theorem setCells_whole (z cs:List PV) (h:cs.length=z.length):qP z 0 cs=cs:=by
 rw[xy cs z 0 (by omega)]
 simp[h]
@[simp] theorem setCells_tail (x:PV) (z cs:List PV) (h:cs.length=z.length):qP (x::z) 1 cs=x::cs:=by
 rw[xy cs (x::z) 1 (by simp;omega)]
 simp[show 1+cs.length=z.length+1 by omega]
@[simp] theorem get_nilI (σ:Nat→PV):AM.get σ (.const .nilIface)=some (.v .nilIface):=rfl
section
variable (C:Ctx) (ρ:Operand→Option PV) (hp:Hp) (nx:Nat)
def nilCkA:PV→Option PV
 | .ref id i j=>some (.ref id i j)
 | .ptr cs=>some (.ptr cs)
 | _=>none
@[simp] theorem nilCkA_ref (id i j:Nat):nilCkA (.ref id i j)=some (.ref id i j):=rfl
@[simp] theorem nilCkA_ptr (cs:List PV):nilCkA (.ptr cs)=some (.ptr cs):=rfl
@[simp] theorem op_nilCheck (x:Operand):zB C ρ hp nx (.nilCheck x)=(do let p ←ρ x;let r ←nilCkA p;some (r,hp,nx)):=by
 simp only[zB]
 cases ρ x with
 | none=>rfl
 | some p=>cases p<;>rfl
end
theorem upd_id {α:Type} (f:Nat→α) (k:Nat) (x:α) (h:f k=x):upd f k x=f:=by
 funext i
 by_cases e:i=k
 ·subst e;simp[h]
 ·simp[e]
@[simp] theorem cells_mp (i:Nat):PV.cells (.mp i)=[.mp i]:=rfl
@[simp] theorem isCell_mp (i:Nat):PV.isCell (.mp i)=true:=rfl
end Go.AM
namespace Go.Proofs
open Go.Shelf
def Tryz.lays213_ren:Go.Shelf.Ren:=⟨fun | 213=>55 | 265=>84 | n=>n,fun | 9=>9 | 3=>3 | n=>n,fun | n=>n⟩
theorem Tryz.lays213:Go.Proofs.Lays.n213 prog Tryz.lays213_ren:={
 mixed:=by kernel_rfl
 f213:=func55.trans (congrArg some (by kernel_rfl))
 f265:=func84.trans (congrArg some (by kernel_rfl))
 t3:=underlying3
 a3:=isAgg3
 z3:=sizeOf3
 v3:=zeroValue3
 t9:=underlying9
 a9:=isAgg9
 z9:=sizeOf9
 v9:=zeroValue9 }
open Go.RowKit in
theorem Tryz.bytealg_CompareString (a b:ByteArray) (w:World) :
  Calls prog 55 #[.string a,.string b] w fun e w'=>e=.returned (.int .i64 (Lib.compareBytes a.data.toList b.data.toList))∧w'=w:=Any.bytealg_CompareString Tryz.lays213 a b w
end Go.Proofs
namespace Go.Proofs.YtglppmnehgjolaaGreatDoor
open Go.Proofs.Tryz
open Go.RowKit Go.AM
abbrev int (n:Int):PV:=.v (.int .i64 n)
abbrev boo (b:Bool):PV:=.v (.bool b)
abbrev lim:Nat:=2097152
theorem mixed:prog.follows .mixedOrders=true:=by kernel_rfl
noncomputable abbrev C0:Ctx:=zN prog []
theorem q7:AM.Good C0 (fun g=>([]:List Nat).contains g):=zr mixed trivial
def F3 (f:Int→Int→Int→Bool):List PV→Option PV
 | [.v (.int .i64 a),.v (.int .i64 b),.v (.int .i64 c)]=>some (.v (.bool (f a b c)))
 | _=>none
def F1b (f:Int→Bool):List PV→Option PV
 | [.v (.int .u8 a)]=>some (.v (.bool (f a)))
 | _=>none
def inB (n a b:Int):Bool:=decide (a≤n)&&decide (n≤b)
def wordB (n:Int):Bool:=decide (97≤n)&&decide (n≤122)||decide (48≤n)&&decide (n≤57)||n==45||n==95
@[simp] theorem F3_call (f:Int→Int→Int→Bool) (a b c:Int) (hp:Hp) (nx:Nat):zd false [] (F3 f) [.v (.int .i64 a),.v (.int .i64 b),.v (.int .i64 c)] hp nx=some (.v (.bool (f a b c)),hp,nx):=zJ rfl rfl (.inl rfl)
@[simp] theorem F1b_call (f:Int→Bool) (a:Int) (hp:Hp) (nx:Nat):zd false [] (F1b f) [.v (.int .u8 a)] hp nx=some (.v (.bool (f a)),hp,nx):=zJ rfl rfl (.inl rfl)
theorem F3_inv {f:Int→Int→Int→Bool} {args:List PV} {r:PV} (h:F3 f args=some r):∃a b c,args=[int a,int b,int c]∧r=boo (f a b c):=by
 unfold F3 at h
 split at h
 ·injection h with h;exact⟨_,_,_,rfl,h.symm⟩
 ·cases h
theorem F1b_inv {f:Int→Bool} {args:List PV} {r:PV} (h:F1b f args=some r):∃a,args=[.v (.int .u8 a)]∧r=boo (f a):=by
 unfold F1b at h
 split at h
 ·injection h with h;exact⟨_,rfl,h.symm⟩
 ·cases h
theorem jH:za prog 117 (zd false [] (F3 inB)) :=
 zZ (fn:=f117) q7 ⟨_,func117,by kernel_rfl,rfl,by kernel_rfl⟩ false [] _ fun args r h=>by
  obtain⟨a,b,c,rfl,rfl⟩:=F3_inv h
  exact⟨by simp[f117],_,ze rfl (by simp[f117,inB]),zY _⟩
theorem isWord_sound:za prog 118 (zd false [] (F1b wordB)) :=
 zZ (fn:=f118) q7 ⟨_,func118,by kernel_rfl,rfl,by kernel_rfl⟩ false [] _ fun args r h=>by
  obtain⟨a,rfl,rfl⟩:=F1b_inv h
  exact⟨by simp[f118],_,ze rfl (by simp[f118,wordB]),zY _⟩
noncomputable def FS (f:List UInt8→Bool):List PV→Option PV:=zM (α:=List UInt8) (fun l=>[str l]) (fun l=>l.length≤lim) (fun l=>boo (f l))
@[simp] theorem yJ (f:List UInt8→Bool) (l:List UInt8) (hp:Hp) (nx:Nat) (h:l.length≤lim):zd false [] (FS f) [str l] hp nx=some (boo (f l),hp,nx) :=
 zJ rfl (zq (enc:=fun l:List UInt8=>[str l]) (a:=l) (fun a b e=>by simp only[List.cons.injEq,and_true] at e;exact qa e) h) (.inl rfl)
def pr (a b:Nat) (c:UInt8):Bool:=decide (a≤c.toNat)&&decide (c.toNat≤b)
theorem pr_out (a b:Nat) (c:UInt8):(decide ((c.toNat:Int)<a)||decide ((b:Int)<c.toNat))=!pr a b c:=by
 rw[Bool.eq_iff_iff];simp[pr]
def qH (a b:Nat) (l:List UInt8):Bool:=l.all (pr a b)
def isKeyB (l:List UInt8):Bool:=qH 33 126 l&&inB l.length 1 100
def wordsB (l:List UInt8):Bool:=l.all fun c=>wordB c.toNat
def headB:List UInt8→Bool
 | []=>false
 | c::_=>decide ((97:Int)≤c.toNat)&&decide ((c.toNat:Int)≤(122:Int))
def wE (l:List UInt8):Bool:=inB l.length 1 40&&headB l&&wordsB l
noncomputable abbrev C1:Ctx:=zN prog [(117,zd false [] (F3 inB)),(118,zd false [] (F1b wordB))]
abbrev qRl1:List Nat:=[117,118]
theorem good1:AM.Good C1 (fun g=>qRl1.contains g):=zr mixed ⟨jH,fun _=>zf _ _,isWord_sound,fun _=>zf _ _,trivial⟩
theorem all_drop {l:List UInt8} {p:UInt8→Bool} {k:Nat} (h:k<l.length):(l.drop k).all p=(p l[k]&&(l.drop (k+1)).all p):=by rw[List.drop_eq_getElem_cons h,List.all_cons]
theorem vc {a b:Nat} {l:List UInt8} {k:Nat} (h:k<l.length):qH a b (l.drop k)=(pr a b l[k]&&qH a b (l.drop (k+1))):=all_drop h
theorem wordsB_drop {l:List UInt8} {k:Nat} (h:k<l.length):wordsB (l.drop k)=(wordB l[k].toNat&&wordsB (l.drop (k+1))):=all_drop h
@[simp] theorem bytesIn_nil (a b:Nat):qH a b []=true:=rfl
@[simp] theorem wordsB_nil:wordsB []=true:=rfl
theorem seen_eval (l:List UInt8) (hl:l.length≤lim):zl C1 f157 [str l]=some (boo (qH 32 126 l)):=by
 refine ze rfl ?_
 unfold lim at hl
 simp
 refine zD (fun k σ hp nx=>σ 0=str l∧σ 5=int l.length∧σ 6=int k∧qH 32 126 l=qH 32 126 (l.drop k)) l.length ⟨by simp,by simp,by simp,by simp⟩ ?_
 rintro k σ hp nx hk ⟨h0,h5,h6,he⟩
 by_cases hlt:k<l.length
 ·have hw:IntKind.i64.wrap ((k:Int)+1)=(k:Int)+1:=zi (by omega) (by omega)
  rw[vc hlt] at he
  have ho:=pr_out 32 126 l[k]
  simp only[Int.cast_ofNat_Int] at ho
  cases hc:pr 32 126 l[k]
  ·have he:qH 32 126 l=false:=by rw[he,hc];rfl
   simp[h0,h5,h6,hlt,he,ho,hc,f157]
  ·simp[h0,h5,h6,hlt,ho,hc,hw]
   exact⟨hlt,by rw[he,hc];rfl⟩
 ·obtain rfl:k=l.length:=by omega
  have he:qH 32 126 l=true:=by rw[he,List.drop_length];rfl
  simp[h0,h5,h6,he,f157]
theorem isKey_eval (l:List UInt8) (hl:l.length≤lim):zl C1 f129 [str l]=some (boo (isKeyB l)):=by
 refine ze rfl ?_
 unfold lim at hl
 simp
 refine zD (fun k σ hp nx=>σ 0=str l∧σ 5=int l.length∧σ 6=int k∧qH 33 126 l=qH 33 126 (l.drop k)) l.length ⟨by simp,by simp,by simp,by simp⟩ ?_
 rintro k σ hp nx hk ⟨h0,h5,h6,he⟩
 by_cases hlt:k<l.length
 ·have hw:IntKind.i64.wrap ((k:Int)+1)=(k:Int)+1:=zi (by omega) (by omega)
  rw[vc hlt] at he
  have ho:=pr_out 33 126 l[k]
  simp only[Int.cast_ofNat_Int] at ho
  cases hc:pr 33 126 l[k]
  ·have he:qH 33 126 l=false:=by rw[he,hc];rfl
   simp[h0,h5,h6,hlt,he,ho,hc,isKeyB,f129]
  ·simp[h0,h5,h6,hlt,ho,hc,hw]
   exact⟨hlt,by rw[he,hc];rfl⟩
 ·obtain rfl:k=l.length:=by omega
  have he:qH 33 126 l=true:=by rw[he,List.drop_length];rfl
  simp[h0,h5,h6,he,isKeyB,f129]
theorem isName_eval (l:List UInt8) (hl:l.length≤lim):zl C1 f93 [str l]=some (boo (wE l)):=by
 refine ze rfl ?_
 unfold lim at hl
 cases hn:inB l.length 1 40
 ·simp[hn,wE,f93]
 have hpos:0<l.length:=by simp[inB] at hn;omega
 have hh:headB l=(decide ((97:Int)≤l[0].toNat)&&decide ((l[0].toNat:Int)≤(122:Int))):=by
  cases l with
  | nil=>simp at hpos
  | cons c l=>rfl
 have hf:(decide ((l[0].toNat:Int)<(97:Int))||decide ((122:Int)<l[0].toNat))=!headB l:=by rw[hh,Bool.eq_iff_iff];simp
 cases hb:headB l
 ·simp[hn,hpos,hf,hb,wE,f93]
 simp[hn,hpos,hf,hb]
 refine zD (fun k σ hp nx=>σ 0=str l∧σ 19=int l.length∧σ 20=int k∧wordsB l=wordsB (l.drop k)) l.length ⟨by simp,by simp,by simp,by simp⟩ ?_
 rintro k σ hp nx hk ⟨h0,h5,h6,he⟩
 by_cases hlt:k<l.length
 ·have hw:IntKind.i64.wrap ((k:Int)+1)=(k:Int)+1:=zi (by omega) (by omega)
  rw[wordsB_drop hlt] at he
  cases hc:wordB l[k].toNat
  ·have he:wordsB l=false:=by rw[he,hc];rfl
   simp[h0,h5,h6,hlt,he,hc,wE,f93]
  ·simp[h0,h5,h6,hlt,hc,hw]
   exact⟨hlt,by rw[he,hc];rfl⟩
 ·obtain rfl:k=l.length:=by omega
  have he:wordsB l=true:=by rw[he,List.drop_length];rfl
  simp[h0,h5,h6,he,hn,hb,wE,f93]
theorem seen_sound:za prog 157 (zd false [] (FS (qH 32 126))) :=
 zZ (fn:=f157) good1 ⟨_,func157,by kernel_rfl,rfl,by kernel_rfl⟩ false [] _ fun args r h=>by
  obtain⟨l,rfl,hp,rfl⟩:=zg h
  exact⟨by simp[f157],_,seen_eval l hp,zY _⟩
theorem isKey_sound:za prog 129 (zd false [] (FS isKeyB)) :=
 zZ (fn:=f129) good1 ⟨_,func129,by kernel_rfl,rfl,by kernel_rfl⟩ false [] _ fun args r h=>by
  obtain⟨l,rfl,hp,rfl⟩:=zg h
  exact⟨by simp[f129],_,isKey_eval l hp,zY _⟩
theorem vd:za prog 93 (zd false [] (FS wE)) :=
 zZ (fn:=f93) good1 ⟨_,func93,by kernel_rfl,rfl,by kernel_rfl⟩ false [] _ fun args r h=>by
  obtain⟨l,rfl,hp,rfl⟩:=zg h
  exact⟨by simp[f93],_,isName_eval l hp,zY _⟩
inductive Val where
 | mk (kind n:Int) (s:List UInt8) (items:List Val) (fields:List (List UInt8×Val))
namespace Val
def kind:Val→Int | .mk k _ _ _ _=>k
def n:Val→Int | .mk _ n _ _ _=>n
def s:Val→List UInt8 | .mk _ _ s _ _=>s
def items:Val→List Val | .mk _ _ _ l _=>l
def fields:Val→List (List UInt8×Val) | .mk _ _ _ _ l=>l
end Val
theorem Val.ind {P:Val→Prop} (h:∀k n s is fs,(∀x∈is,P x)→(∀f∈fs,P f.2)→P (.mk k n s is fs)) (v:Val):P v :=
 Val.rec (motive_1:=P) (motive_2:=fun l=>∀x∈l,P x) (motive_3:=fun l=>∀f∈l,P f.2) (motive_4:=fun f=>P f.2) (fun k n s is fs h1 h2=>h k n s is fs h1 h2)
  (by simp) (fun x l hx hl y hy=>by rcases List.mem_cons.1 hy with rfl | hy;(first | exact hx | exact hl y hy);(first | exact hx | exact hl y hy)) (by simp) (fun x l hx hl y hy=>by rcases List.mem_cons.1 hy with rfl | hy;(first | exact hx | exact hl y hy);(first | exact hx | exact hl y hy)) (fun a v hv=>hv) v
mutual
def Val.enc:Val→List PV
 | .mk k n s is fs=>[int k,int n,str s,.sl 5 (encVs is),.sl 6 (encFs fs)]
def encVs:List Val→List (List PV)
 | []=>[]
 | v::l=>v.enc::encVs l
def encFs:List (List UInt8×Val)→List (List PV)
 | []=>[]
 | (a,v)::l=>(str a::v.enc)::encFs l
end
abbrev encF (f:List UInt8×Val):List PV:=str f.1::f.2.enc
theorem encVs_map:∀l:List Val,encVs l=l.map Val.enc
 | []=>rfl
 | v::l=>by simp[encVs,encVs_map l]
theorem encFs_map:∀l:List (List UInt8×Val),encFs l=l.map encF
 | []=>rfl
 | (a,v)::l=>by simp[encFs,encFs_map l]
theorem jI (v:Val):v.enc=[int v.kind,int v.n,str v.s,.sl 5 (v.items.map Val.enc),.sl 6 (v.fields.map encF)]:=by
 cases v with
 | mk k n s is fs=>simp[Val.enc,encVs_map,encFs_map,Val.kind,Val.n,Val.s,Val.items,Val.fields]
@[simp] theorem enc_length (v:Val):v.enc.length=5:=by rw[jI];rfl
@[simp] theorem enc_cells (v:Val):v.enc.all PV.isCell=true:=by rw[jI];rfl
@[simp] theorem enc_cells' (v:Val):(∀x,x∈v.enc→PV.isCell x=true)=True:=by
 have:=enc_cells v
 rw[List.all_eq_true] at this
 exact eq_true this
@[simp] theorem enc_take (v:Val):v.enc.take 5=v.enc:=List.take_of_length_le (by simp)
@[simp] theorem enc_0 (v:Val) (h:0<v.enc.length):v.enc[0]=int v.kind:=by simp[jI v]
@[simp] theorem enc_1 (v:Val) (h:1<v.enc.length):v.enc[1]=int v.n:=by simp[jI v]
@[simp] theorem enc_2 (v:Val) (h:2<v.enc.length):v.enc[2]=str v.s:=by simp[jI v]
@[simp] theorem enc_3 (v:Val) (h:3<v.enc.length):v.enc[3]=.sl 5 (v.items.map Val.enc):=by simp[jI v]
@[simp] theorem enc_4 (v:Val) (h:4<v.enc.length):v.enc[4]=.sl 6 (v.fields.map encF):=by simp[jI v]
theorem vR {α β:Type} {f:α→β}:∀{xs ys:List α},(∀x∈xs,∀y,f x=f y→x=y)→xs.map f=ys.map f→xs=ys
 | [],[],_,_=>rfl
 | [],y::ys,_,e=>by simp at e
 | x::xs,[],_,e=>by simp at e
 | x::xs,y::ys,h,e=>by
   simp only[List.map_cons,List.cons.injEq] at e
   rw[h x (by simp) y e.1,vR (fun z hz=>h z (by simp[hz])) e.2]
theorem ve:∀{a b:Val},a.enc=b.enc→a=b:=by
 intro a
 induction a using Val.ind with
 | h k n s is fs h1 h2 =>
   intro b e
   cases b with
   | mk k' n' s' is' fs' =>
     simp only[jI,Val.kind,Val.n,Val.s,Val.items,Val.fields,List.cons.injEq,and_true] at e
     obtain⟨e1,e2,e3,e4,e5⟩:=e
     obtain rfl:=zG e1
     obtain rfl:=zG e2
     obtain rfl:=qa e3
     injection e4 with _ e4
     injection e5 with _ e5
     obtain rfl:=vR (fun x hx y=>h1 x hx) e4
     obtain rfl:=vR (fun x hx y e=>by
      simp only[encF,List.cons.injEq] at e
      exact Prod.ext (qa e.1) (h2 x hx e.2)) e5
     rfl
mutual
def Val.vb:Val→Nat
 | .mk _ _ s is fs=>1+s.length+vbs is+fbs fs
def vbs:List Val→Nat
 | []=>0
 | v::l=>v.vb+vbs l
def fbs:List (List UInt8×Val)→Nat
 | []=>0
 | (a,v)::l=>a.length+v.vb+fbs l
end
theorem vb_eq (v:Val):v.vb=1+v.s.length+vbs v.items+fbs v.fields:=by cases v;rfl
theorem vb_pos (v:Val):0<v.vb:=by rw[vb_eq];omega
theorem jm:∀{l:List Val} {x:Val},x∈l→x.vb≤vbs l
 | y::l,x,h=>by
   simp only[vbs]
   rcases List.mem_cons.1 h with rfl | h
   ·omega
   ·have:=jm h;omega
theorem vf:∀{l:List (List UInt8×Val)} {x:List UInt8×Val},x∈l→x.1.length+x.2.vb≤fbs l
 | (a,y)::l,x,h=>by
   simp only[fbs]
   rcases List.mem_cons.1 h with rfl | h
   ·simp only;omega
   ·have:=vf h;omega
theorem wC:∀l:List Val,l.length≤vbs l
 | []=>by simp[vbs]
 | v::l=>by have:=wC l;have:=vb_pos v;simp only[vbs,List.length_cons];omega
theorem yd:∀l:List (List UInt8×Val),l.length≤fbs l
 | []=>by simp[fbs]
 | (a,v)::l=>by have:=yd l;have:=vb_pos v;simp only[fbs,List.length_cons];omega
noncomputable def FV (out:Val→PV) (n:Nat):List PV→Option PV:=zM (α:=Val) (fun v=>[.agg v.enc]) (fun v=>v.vb≤lim∧v.vb≤n) out
theorem FV_eq (out:Val→PV) (n:Nat) (v:Val) (h:v.vb≤lim∧v.vb≤n):FV out n [.agg v.enc]=some (out v) :=
 zq (enc:=fun v:Val=>[.agg v.enc]) (a:=v) (fun a b e=>by simp only[List.cons.injEq,and_true,PV.agg.injEq] at e;exact ve e) h
@[simp] theorem freezeCells_enc (hp:Hp) (v:Val):zE hp v.enc=some (v.enc,hp):=by rw[jI];simp
theorem j6 (hp:Hp) (v:Val):zC hp (.agg v.enc)=some (.agg v.enc,hp):=by
 rw[jI]
 simp
theorem noOwn_enc (v:Val):PV.noOwn (.agg v.enc)=true:=by
 rw[jI]
 simp
theorem xz (out:Val→PV) (n:Nat) (v:Val) (hp:Hp) (nx:Nat) (h:v.vb≤lim∧v.vb≤n):zd false [] (FV out n) [.agg v.enc] hp nx=some (out v,hp,nx) :=
 zJ (hp1:=hp) (show zk hp [.agg v.enc]=some ([.agg v.enc],hp) by simp only[zk,j6]) (FV_eq out n v h) (.inr (by simp only[List.all_cons,noOwn_enc,List.all_nil,Bool.and_self]))
mutual
def Val.parts:Val→Nat
 | .mk _ _ _ is fs=>1+partsV is+partsF fs
def partsV:List Val→Nat
 | []=>0
 | v::l=>v.parts+partsV l
def partsF:List (List UInt8×Val)→Nat
 | []=>0
 | (_,v)::l=>v.parts+partsF l
end
mutual
def Val.levels:Val→Nat
 | .mk _ _ _ is fs=>max (levelsV is) (levelsF fs)+1
def levelsV:List Val→Nat
 | []=>0
 | v::l=>max v.levels (levelsV l)
def levelsF:List (List UInt8×Val)→Nat
 | []=>0
 | (_,v)::l=>max v.levels (levelsF l)
end
theorem parts_eq (v:Val):v.parts=1+partsV v.items+partsF v.fields:=by cases v;rfl
theorem levels_eq (v:Val):v.levels=max (levelsV v.items) (levelsF v.fields)+1:=by cases v;rfl
theorem parts_le (v:Val):v.parts≤v.vb:=by
 induction v using Val.ind with
 | h k n s is fs h1 h2 =>
   have a:∀l:List Val,(∀x∈l,x.parts≤x.vb)→partsV l≤vbs l:=by
    intro l
    induction l with
    | nil=>simp[partsV]
    | cons v l ih=>intro h;have:=h v (by simp);have:=ih fun x hx=>h x (by simp[hx]);simp only[partsV,vbs];omega
   have b:∀l:List (List UInt8×Val),(∀x∈l,x.2.parts≤x.2.vb)→partsF l≤fbs l:=by
    intro l
    induction l with
    | nil=>simp[partsF]
    | cons v l ih=>intro h;have:=h v (by simp);have:=ih fun x hx=>h x (by simp[hx]);obtain⟨a,v⟩:=v;simp only[partsF,fbs];simp only at *;omega
   have:=a is h1
   have:=b fs h2
   simp only[Val.parts,Val.vb]
   omega
theorem levels_le (v:Val):v.levels≤v.parts:=by
 induction v using Val.ind with
 | h k n s is fs h1 h2 =>
   have a:∀l:List Val,(∀x∈l,x.levels≤x.parts)→levelsV l≤partsV l:=by
    intro l
    induction l with
    | nil=>simp[levelsV]
    | cons v l ih=>intro h;have:=h v (by simp);have:=ih fun x hx=>h x (by simp[hx]);simp only[levelsV,partsV];omega
   have b:∀l:List (List UInt8×Val),(∀x∈l,x.2.levels≤x.2.parts)→levelsF l≤partsF l:=by
    intro l
    induction l with
    | nil=>simp[levelsF]
    | cons v l ih=>intro h;have:=h v (by simp);have:=ih fun x hx=>h x (by simp[hx]);obtain⟨a,v⟩:=v;simp only[levelsF,partsF];simp only at *;omega
   have:=a is h1
   have:=b fs h2
   simp only[Val.parts,Val.levels]
   omega
noncomputable abbrev Cc (n:Nat):Ctx:=xW prog [(141,zd false [] (FV (fun v=>.tup [int v.parts,int v.levels]) n))] (dynAt 2 [(2,1)])
theorem wu {C:Ctx} {fn:Func} {code:Code} {args:List PV} {hp:Hp} {nx:Nat} {x:PV} {hp':Hp} {nx':Nat} (hb:fn.body=some code)
  (h:EvC C code ⟨yD args,hp,nx⟩ (retK C.P fn (fun y h m=>y=x∧h=hp'∧m=nx'))):qq C fn args hp nx=some (x,hp',nx'):=by
 obtain⟨y,h1,n1,he,rfl,rfl,rfl⟩:=zn hb h
 exact he
theorem count1_run (n:Nat) (v:Val) (h:v.vb≤lim∧v.vb≤n) (hp:Hp) (nx i j:Nat) (hi:i<nx) (hj:j<nx) (hij:i≠j) (p q:Nat) (hpi:hp i=some ⟨3,1,false,[[int p]]⟩) (hpj:hp j=some ⟨3,1,false,[[int q]]⟩) (hpb:p≤lim) :
  hRun (Cc n) f155 [.agg v.enc,.ref i 0 0,.ref j 0 0] hp nx =
   some (.tup [],upd (upd (upd hp nx (some ⟨128,5,false,[v.enc]⟩)) i (some ⟨3,1,false,[[int ((p+v.parts:Nat):Int)]]⟩)) j (some ⟨3,1,false,[[int ((max q v.levels:Nat):Int)]]⟩),nx+1):=by
 have hpl:=parts_le v
 have hll:=levels_le v
 unfold lim at *
 have w1:IntKind.i64.wrap ((p:Int)+v.parts)=(p:Int)+v.parts:=zi (by omega) (by omega)
 unfold hRun
 rw[if_pos (by simp[f155])]
 refine wu rfl ?_
 have hcall:=fun hp nx=>xz (fun v=>.tup [int v.parts,int v.levels]) n v hp nx h
 have e1:¬i=nx:=by omega
 have e2:¬j=nx:=by omega
 have e3:¬j=i:=by omega
 have e4:(if q<v.levels then (v.levels:Int) else q)=((max q v.levels:Nat):Int):=by split<;>omega
 simp[hcall]
 rw[yq _ _ _ _ _ _ (apartA_one (blk:=⟨3,1,false,[[int p]]⟩) (id:=j) (i:=0) (j:=0) (id':=i) (i':=0) (j':=0) (by simp) (by simp) (Ne.symm hij) (by simp[e1,hpi]) rfl) (fun _ h=>by cases h)]
 simp[hpi,hpj,e1,e2,e3,hij,w1,e4,f155]
theorem xZ (a b:List Val):partsV (a++b)=partsV a+partsV b:=by
 induction a with
 | nil=>simp[partsV]
 | cons v a ih=>simp only[List.cons_append,partsV,ih];omega
theorem levelsV_append (a b:List Val):levelsV (a++b)=max (levelsV a) (levelsV b):=by
 induction a with
 | nil=>simp[levelsV]
 | cons v a ih=>simp only[List.cons_append,levelsV,ih];omega
theorem x0 (a b:List (List UInt8×Val)):partsF (a++b)=partsF a+partsF b:=by
 induction a with
 | nil=>simp[partsF]
 | cons v a ih=>obtain⟨x,v⟩:=v;simp only[List.cons_append,partsF,ih];omega
theorem levelsF_append (a b:List (List UInt8×Val)):levelsF (a++b)=max (levelsF a) (levelsF b):=by
 induction a with
 | nil=>simp[levelsF]
 | cons v a ih=>obtain⟨x,v⟩:=v;simp only[List.cons_append,levelsF,ih];omega
theorem takeV {l:List Val} {k:Nat} (h:k<l.length):partsV (l.take (k+1))=partsV (l.take k)+l[k].parts∧levelsV (l.take (k+1))=max (levelsV (l.take k)) l[k].levels:=by
 rw[List.take_succ_eq_append_getElem h,xZ,levelsV_append]
 simp[partsV,levelsV]
theorem takeF {l:List (List UInt8×Val)} {k:Nat} (h:k<l.length):partsF (l.take (k+1))=partsF (l.take k)+l[k].2.parts∧levelsF (l.take (k+1))=max (levelsF (l.take k)) l[k].2.levels:=by
 rw[List.take_succ_eq_append_getElem h,x0,levelsF_append]
 simp[partsF,levelsF]
theorem partsV_le (l:List Val) (k:Nat):partsV (l.take k)≤partsV l:=by
 have:=xZ (l.take k) (l.drop k)
 rw[List.take_append_drop] at this
 omega
theorem partsF_le (l:List (List UInt8×Val)) (k:Nat):partsF (l.take k)≤partsF l:=by
 have:=x0 (l.take k) (l.drop k)
 rw[List.take_append_drop] at this
 omega
noncomputable abbrev Cd (n:Nat):Ctx:=xW prog [(155,hRun (Cc n) f155)] (dynAt 13 [(3,2)])
theorem count_eval (n:Nat) (v:Val) (h:v.vb≤lim∧v.vb≤n+1):zl (Cd n) f141 [.agg v.enc]=some (.tup [int v.parts,int v.levels]):=by
 have hpl:=parts_le v
 have hpe:=parts_eq v
 have hvb:=vb_eq v
 have hle:=levels_eq v
 have hl1:=wC v.items
 have hl2:=yd v.fields
 obtain⟨ha,hb⟩:=h
 unfold lim at ha
 refine ze rfl ?_
 simp
 refine zD (fun k σ hp nx=>σ 1=.ref 0 0 0∧σ 2=.ref 1 0 0∧σ 3=.ref 2 0 0∧σ 4=.fn (.func 155) [] [.ref 1 0 0,.ref 2 0 0]∧σ 11=.sl 5 (v.items.map Val.enc)∧σ 12=int v.items.length∧σ 13=int k∧3≤nx∧hp 0=some ⟨128,5,false,[v.enc]⟩ ∧
   hp 1=some ⟨3,1,false,[[int ((1+partsV (v.items.take k):Nat):Int)]]⟩∧hp 2=some ⟨3,1,false,[[int (levelsV (v.items.take k))]]⟩) v.items.length
  ⟨by simp,by simp,by simp,by simp,by simp,by simp,by simp,by simp,by simp,by simp[partsV],by simp[levelsV]⟩ ?_
 rintro k σ hp nx hk ⟨h1,h2,h3,h4,h11,h12,h13,hnx,b0,b1,b2⟩
 by_cases hlt:k<v.items.length
 ·obtain⟨t1,t2⟩:=takeV hlt
  have hm:=jm (List.getElem_mem hlt)
  have hw:IntKind.i64.wrap ((k:Int)+1)=(k:Int)+1:=zi (by omega) (by omega)
  have hple:=partsV_le v.items k
  have hrun:=count1_run n v.items[k] ⟨by unfold lim;omega,by omega⟩ (upd hp nx (some ⟨128,5,false,[v.items[k].enc]⟩)) (nx+1) 1 2 (by omega) (by omega) (by omega) _ _ (by rw[zc _ _ _ _ (by omega)];exact b1) (by rw[zc _ _ _ _ (by omega)];exact b2) (by unfold lim;omega)
  simp[h1,h2,h3,h4,h11,h12,h13,hlt,hrun,hw]
  refine⟨hlt,by omega,?_,?_,?_⟩
  ·simp[b0,show ¬0=nx by omega,show ¬0=nx+1 by omega]
  ·rw[t1];omega
  ·rw[t2]
 ·obtain rfl:k=v.items.length:=by omega
  rw[List.take_length] at b1 b2
  simp[h1,h2,h3,h4,h11,h12,h13,b0]
  refine zD (fun k σ hp nx=>σ 1=.ref 0 0 0∧σ 2=.ref 1 0 0∧σ 3=.ref 2 0 0∧σ 4=.fn (.func 155) [] [.ref 1 0 0,.ref 2 0 0]∧σ 22=.sl 6 (v.fields.map encF)∧σ 23=int v.fields.length∧σ 24=int k∧3≤nx ∧
    hp 1=some ⟨3,1,false,[[int ((1+partsV v.items+partsF (v.fields.take k):Nat):Int)]]⟩∧hp 2=some ⟨3,1,false,[[int ((max (levelsV v.items) (levelsF (v.fields.take k)):Nat):Int)]]⟩) v.fields.length
   ⟨by simp[h1],by simp[h2],by simp[h3],by simp[h4],by simp,by simp,by simp,hnx,by simp[b1,partsF],by simp[b2,levelsF]⟩ ?_
  clear h1 h2 h3 h4 h11 h12 h13 hnx b0 b1 b2 hlt hk nx hp σ
  rintro k σ hp nx hk ⟨h1,h2,h3,h4,h11,h12,h13,hnx,b1,b2⟩
  by_cases hlt:k<v.fields.length
  ·obtain⟨t1,t2⟩:=takeF hlt
   have hm:=vf (List.getElem_mem hlt)
   have hw:IntKind.i64.wrap ((k:Int)+1)=(k:Int)+1:=zi (by omega) (by omega)
   have hple:=partsF_le v.fields k
   have hrun:=count1_run n v.fields[k].2 ⟨by unfold lim;omega,by omega⟩ (upd hp nx (some ⟨158,6,false,[encF v.fields[k]]⟩)) (nx+1) 1 2 (by omega) (by omega) (by omega) _ _ (by rw[zc _ _ _ _ (by omega)];exact b1) (by rw[zc _ _ _ _ (by omega)];exact b2) (by unfold lim;omega)
   simp[encF] at hrun
   simp[h1,h2,h3,h4,h11,h12,h13,hlt,hw,hrun]
   refine⟨hlt,by omega,?_,?_⟩
   ·rw[t1];omega
   ·rw[t2]
  ·obtain rfl:k=v.fields.length:=by omega
   rw[List.take_length] at b1 b2
   have hll:=levels_le v
   have hw:IntKind.i64.wrap (((max (levelsV v.items) (levelsF v.fields):Nat):Int)+1)=(v.levels:Int):=by rw[zi (by omega) (by omega),hle];omega
   simp[h1,h2,h3,h4,h11,h12,h13]
   rw[yq _ _ _ _ _ _ (apartA_one (id:=2) (i:=0) (j:=0) (id':=1) (i':=0) (j':=0) (by simp[h3]) (by simp[h2]) (by omega) (by exact b1) rfl) (fun _ h=>by cases h)]
   simp[h1,h2,h3,b1,b2,hw,f141,qC]
   omega
theorem FV_inv {out:Val→PV} {n:Nat} {args:List PV} {r:PV} (h:FV out n args=some r):∃v:Val,args=[.agg v.enc]∧(v.vb≤lim∧v.vb≤n)∧r=out v:=zg h
theorem FV_none {out:Val→PV}:∀args r,FV out 0 args=some r→False:=fun args r h=>by
 obtain⟨v,rfl,hv,rfl⟩:=FV_inv h
 have:=vb_pos v
 omega
theorem FV_zero {out:Val→PV} {f:FuncId} (hfn:∃fn,prog.funcs[f]?=some fn∧(fn.name== "runtime.NumGoroutine")=false∧fn.body.isNone=false):za prog f (zd false [] (FV out 0)):=by
 refine⟨hfn,fun args hp nx r hp' nx' h=>?_⟩
 unfold zd at h
 split at h
 ·split at h
  ·rename_i r0 hF
   exact (FV_none _ _ hF).elim
  ·cases h
 ·cases h
set_option maxRecDepth 100000 in
theorem count_sound:∀n,za prog 141 (zd false [] (FV (fun v=>.tup [int v.parts,int v.levels]) n)):=by
 intro n
 induction n with
 | zero=>exact FV_zero ⟨_,func141,by kernel_rfl,by kernel_rfl⟩
 | succ n ih =>
   have hc:AM.Good (Cc n) (fun g=>([]:List Nat).contains g):=good_ofD _ mixed ⟨ih,by simp,trivial⟩
   have h1:za prog 155 (hRun (Cc n) f155):=zS (code:=_) hc ⟨func155,by kernel_rfl,rfl,by kernel_rfl⟩
   have hd:AM.Good (Cd n) (fun g=>([]:List Nat).contains g):=good_ofD _ mixed ⟨h1,by simp,trivial⟩
   exact zZ (fn:=f141) hd ⟨_,func141,by kernel_rfl,rfl,by kernel_rfl⟩ false [] _ fun args r h=>by
    obtain⟨v,rfl,hv,rfl⟩:=FV_inv h
    exact⟨Nat.le_trans (Nat.le_refl 1) (by decide),_,count_eval n v hv,zY _⟩
noncomputable abbrev GV (out:Val→PV):AM.Spec:=zd false [] (FV out lim)
theorem GV_call (out:Val→PV) (v:Val) (hp:Hp) (nx:Nat) (h:v.vb≤lim):GV out [.agg v.enc] hp nx=some (out v,hp,nx):=xz out lim v hp nx ⟨h,h⟩
end Go.Proofs.YtglppmnehgjolaaGreatDoor
