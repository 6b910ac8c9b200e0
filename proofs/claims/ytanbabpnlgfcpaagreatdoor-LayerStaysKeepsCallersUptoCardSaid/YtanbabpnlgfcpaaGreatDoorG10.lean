/-
The abstract machine, part 23: guarded operations whose guard is not known: both outcomes in one state.
The abstract machine, part 25: functions that ask whether a slice is nil.
The abstract machine: nil slices within arguments and results taken for slices without elements; contracts on texts beside package-level variables.
The library's comparison of strings, off the kit's shelf, at this program (written after what the kit's tool prints).
Names, keys and texts: what the program's and the reference's functions on bytes compute.
-/
import Derived.Test.YtanbabpnlgfcpaaGreatDoorG9
import Derived.Shelf.Small.Strs
import Derived.Shelf.Strconv.Itoa0
import Derived.Ground.Names2Prog
import Derived.Test.YtanbabpnlgfcpaaGreatDoorProg
import Derived.Test.YtanbabpnlgfcpaaGreatDoorG11
set_option maxRecDepth 8000
namespace Go.AM
open Go.RowKit
variable {dr:Prop}
def pureOp:Op→Bool
 | .move _ | .assign _ | .pick _ _ _ | .load _ _ | .binOp _ _ _ _ _ | .unOp _ _ _ | .convert _ _ _ | .fieldAddr _ _ _ | .field _ _ _ | .indexAddr _ _ _ | .index _ _ _ | .extract _ _=>true
 | .slice _ _ _ _ none=>true
 | .call c=>match c.callee with
   | .builtin .len=>true
   | .builtin .min=>true
   | .builtin .max=>true
   | _=>false
 | _=>false
def valA (C:Ctx) (st:St) (op:Op):Option PV:=(zr C (get st.σ) st.hp st.nx op).map (·.1)
theorem xM {o:Option PV} {hp:Hp} {nx:Nat}:(o.map fun y=>(y,hp,nx))=((o.map fun y=>(y,hp,nx)).map (·.1)).map fun x=>(x,hp,nx):=by cases o<;>rfl
theorem wx {o:Option PV} {hp:Hp} {nx:Nat}:(o.bind fun y=>some (y,hp,nx))=((o.bind fun y=>some (y,hp,nx)).map (·.1)).map fun x=>(x,hp,nx):=by cases o<;>rfl
theorem pureOp_eq {C:Ctx} {st:St} {op:Op} (h:pureOp op=true):zr C (get st.σ) st.hp st.nx op=(valA C st op).map fun x=>(x,st.hp,st.nx):=by
 unfold valA
 generalize get st.σ=ρ
 cases op with
 | move x=>simp only[op_move];exact xM
 | assign x=>simp only[op_assign];exact xM
 | pick c a b=>simp only[op_pick];exact xM
 | load t a=>simp only[op_load];cases ρ a<;>(try rfl);exact wx
 | binOp op t x y t2=>simp only[op_bin];cases ρ x<;>cases ρ y<;>(try rfl);exact wx
 | unOp op t x=>simp only[op_un];cases ρ x<;>(try rfl);exact wx
 | convert s d x=>simp only[op_conv];cases ρ x<;>(try rfl);exact wx
 | fieldAddr t x f=>simp only[op_fieldAddr];cases ρ x<;>(try rfl);exact wx
 | field t x f=>simp only[op_field];cases ρ x<;>(try rfl);exact wx
 | indexAddr t x i=>simp only[op_indexAddr];cases ρ x<;>cases ρ i<;>(try rfl);exact wx
 | index t x i=>simp only[op_index];cases ρ x<;>cases ρ i<;>(try rfl);exact wx
 | extract x i=>simp only[op_extract];cases ρ x<;>(try rfl);exact wx
 | slice t x lo hi mx =>
   cases mx with
   | none=>simp only[op_slice];cases ρ x<;>(try rfl);exact wx
   | some m=>simp[pureOp] at h
 | call c =>
   obtain⟨callee,args,ts⟩:=c
   cases callee with
   | builtin b =>
     simp only[op_builtin]
     cases qe (args.toList.map ρ) with
     | none=>rfl
     | some xs =>
       simp only[Option.bind_eq_bind,Option.bind_some]
       cases b<;>(try (simp[pureOp] at h;done))
       case len =>
        cases xs with
        | nil=>rfl
        | cons x l =>
          cases l with
          | nil =>
            simp only[blt_len]
            cases ts[0]?<;>(try rfl)
            exact wx
          | cons _ _=>rfl
       case min=>simp only[blt_min];exact xM
       case max=>simp only[blt_max];exact xM
   | _=>simp[pureOp] at h
 | _=>simp[pureOp] at h
def wy (C:Ctx) (g:FuncId):Prop:=∀spec,C.Γ g=some spec→kM spec
def wM (C:Ctx) (op:Op):Prop:=∀st:St,zr C (get st.σ) st.hp st.nx op=(valA C st op).map fun x=>(x,st.hp,st.nx)
theorem qF {C:Ctx} {op:Op} (h:pureOp op=true):wM C op:=fun _=>pureOp_eq h
@[simp] theorem pu_call (C:Ctx) (g:FuncId) (a:Array Operand) (ts:Array TypeId) (h:wy C g):wM C (.call ⟨.value (.func g),a,ts⟩):=by
 intro st
 unfold valA
 simp only[op_call,get_func]
 cases qe (a.toList.map (get st.σ)) with
 | none=>rfl
 | some xs =>
   simp only[Option.bind_eq_bind,Option.bind_some]
   cases hs:C.Γ g with
   | none=>simp[qN,hs]
   | some spec =>
     rw[callVal_fn C st.hp st.nx g [] [] xs spec hs]
     cases hr:spec ([]++xs++[]) st.hp st.nx with
     | none=>rfl
     | some r =>
       obtain⟨x,hp',nx'⟩:=r
       obtain⟨⟨rfl,rfl⟩,_⟩:=h spec hs _ _ _ _ _ _ hr
       rfl
theorem qr {P:Program} {l:Tab} {g:Nat} {spec:AM.Spec} (h:lookup l g=some spec) (hq:kM spec):wy (zA P l) g:=fun s hs=>by
 have:lookup l g=some s:=hs
 rw[h] at this
 injection this with this
 exact this ▸ hq
@[simp] theorem pu_move (C:Ctx) (x:Operand):wM C (.move x):=qF rfl
@[simp] theorem pu_assign (C:Ctx) (x:Operand):wM C (.assign x):=qF rfl
@[simp] theorem pu_pick (C:Ctx) (c a b:Operand):wM C (.pick c a b):=qF rfl
@[simp] theorem pu_load (C:Ctx) (t:TypeId) (x:Operand):wM C (.load t x):=qF rfl
@[simp] theorem pu_bin (C:Ctx) (o:BinOp) (t t2:TypeId) (x y:Operand):wM C (.binOp o t x y t2):=qF rfl
@[simp] theorem pu_un (C:Ctx) (o:UnOp) (t:TypeId) (x:Operand):wM C (.unOp o t x):=qF rfl
@[simp] theorem pu_conv (C:Ctx) (t u:TypeId) (x:Operand):wM C (.convert t u x):=qF rfl
@[simp] theorem pu_fa (C:Ctx) (t:TypeId) (x:Operand) (f:Nat):wM C (.fieldAddr t x f):=qF rfl
@[simp] theorem pu_fi (C:Ctx) (t:TypeId) (x:Operand) (f:Nat):wM C (.field t x f):=qF rfl
@[simp] theorem pu_ia (C:Ctx) (t:TypeId) (x i:Operand):wM C (.indexAddr t x i):=qF rfl
@[simp] theorem pu_ix (C:Ctx) (t:TypeId) (x i:Operand):wM C (.index t x i):=qF rfl
@[simp] theorem pu_ex (C:Ctx) (x:Operand) (i:Nat):wM C (.extract x i):=qF rfl
@[simp] theorem pu_sl (C:Ctx) (t:TypeId) (x:Operand) (lo hi:Option Operand):wM C (.slice t x lo hi none):=qF rfl
@[simp] theorem pu_len (C:Ctx) (a:Array Operand) (ts:Array TypeId):wM C (.call ⟨.builtin .len,a,ts⟩):=qF rfl
@[simp] theorem pu_min (C:Ctx) (a:Array Operand) (ts:Array TypeId):wM C (.call ⟨.builtin .min,a,ts⟩):=qF rfl
@[simp] theorem pu_max (C:Ctx) (a:Array Operand) (ts:Array TypeId):wM C (.call ⟨.builtin .max,a,ts⟩):=qF rfl
def bc {α:Type} (y:Bool) (a b:α):α:=match y with
 | true=>a
 | false=>b
@[simp] theorem bc_true {α:Type} (a b:α):bc true a b=a:=rfl
@[simp] theorem bc_false {α:Type} (a b:α):bc false a b=b:=rfl
@[simp] theorem bc_not {α:Type} (y:Bool) (a b:α):bc (!y) a b=bc y b a:=by cases y<;>rfl
@[simp] theorem bc_same {α:Type} (y:Bool) (a:α):bc y a a=a:=by cases y<;>rfl
def bx (y:Bool):Bool:=y
@[simp] theorem bx_true:bx true=true:=rfl
@[simp] theorem bx_false:bx false=false:=rfl
@[simp] theorem bc_bc1 {α:Type} (y:Bool) (a b c:α):bc y (bc y a b) c=bc y a c:=by cases y<;>rfl
@[simp] theorem bc_bc2 {α:Type} (y:Bool) (a b c:α):bc y a (bc y b c)=bc y a c:=by cases y<;>rfl
def gval (C:Ctx) (st:St) (op:Op) (y:Option Bool) (b:Bool):Option PV:=if y=some b then valA C st op else some (.tup [])
section
variable (C:Ctx) (d:Option Tmp) (op:Op) (st:St)
theorem guard_gval (y:Option Bool) (b:Bool) (h:wM C op):yP C d op st y b=(gval C st op y b).map fun x=>⟨put st.σ d x,st.hp,st.nx⟩:=by
 unfold yP gval
 rw[h st]
 split
 ·cases valA C st op<;>rfl
 ·rfl
@[simp low] theorem guard_lazy (y b:Bool) (h:wM C op):yP C d op st (some y) b=(gval C st op (some y) b).map fun x=>⟨put st.σ d x,st.hp,st.nx⟩:=guard_gval C d op st _ b h
@[simp] theorem guard_bc (y:Bool) (p q:Option Bool) (b:Bool) (h:wM C op):yP C d op st (bc y p q) b=(gval C st op (bc y p q) b).map fun x=>⟨put st.σ d x,st.hp,st.nx⟩:=guard_gval C d op st _ b h
@[simp] theorem gval_bc (y:Bool) (p q:Option Bool) (b:Bool):gval C st op (bc y p q) b=bc y (gval C st op p b) (gval C st op q b):=by cases y<;>rfl
@[simp] theorem gval_none (b:Bool):gval C st op none b=some (.tup []):=rfl
@[simp] theorem gval_t (y:Bool):gval C st op (some y) true=bc (bx y) (valA C st op) (some (.tup [])):=by cases y<;>rfl
@[simp] theorem gval_f (y:Bool):gval C st op (some y) false=bc (bx y) (some (.tup [])) (valA C st op):=by cases y<;>rfl
end
@[simp] theorem boolOf_bc (y:Bool) (a b:PV):boolOf (bc y a b)=bc y (boolOf a) (boolOf b):=by cases y<;>rfl
@[simp] theorem bc_some {α:Type} (y:Bool) (a b:α):bc y (some a) (some b)=some (bc y a b):=by cases y<;>rfl
@[simp] theorem pick_and (y z:Bool) (w:PV):xl (some (.v (.bool y))) (some (bc (bx y) (.v (.bool z)) w)) (some (.v (.bool false)))=some (.v (.bool (y&&z))):=by cases y<;>rfl
@[simp] theorem pick_or (y z:Bool) (w:PV):xl (some (.v (.bool y))) (some (.v (.bool true))) (some (bc (bx y) w (.v (.bool z))))=some (.v (.bool (y||z))):=by cases y<;>rfl
@[simp] theorem bc_deep1 {α:Type} (y q1:Bool) (a b d0 d1:α):bc y (bc q1 (bc y a b) d1) d0=bc y (bc q1 a d1) d0:=by cases y<;>rfl
@[simp] theorem bc_deep2 {α:Type} (y q1:Bool) (a b d0 d1:α):bc y (bc q1 d1 (bc y a b)) d0=bc y (bc q1 d1 a) d0:=by cases y<;>rfl
@[simp] theorem bc_deep3 {α:Type} (y q1:Bool) (a b d0 d1:α):bc y d0 (bc q1 (bc y a b) d1)=bc y d0 (bc q1 b d1):=by cases y<;>rfl
@[simp] theorem bc_deep4 {α:Type} (y q1:Bool) (a b d0 d1:α):bc y d0 (bc q1 d1 (bc y a b))=bc y d0 (bc q1 d1 b):=by cases y<;>rfl
@[simp] theorem bc_deep5 {α:Type} (y q1 q2:Bool) (a b d0 d1 d2:α):bc y (bc q1 (bc q2 (bc y a b) d2) d1) d0=bc y (bc q1 (bc q2 a d2) d1) d0:=by cases y<;>rfl
@[simp] theorem bc_deep6 {α:Type} (y q1 q2:Bool) (a b d0 d1 d2:α):bc y (bc q1 (bc q2 d2 (bc y a b)) d1) d0=bc y (bc q1 (bc q2 d2 a) d1) d0:=by cases y<;>rfl
@[simp] theorem bc_deep7 {α:Type} (y q1 q2:Bool) (a b d0 d1 d2:α):bc y (bc q1 d1 (bc q2 (bc y a b) d2)) d0=bc y (bc q1 d1 (bc q2 a d2)) d0:=by cases y<;>rfl
@[simp] theorem bc_deep8 {α:Type} (y q1 q2:Bool) (a b d0 d1 d2:α):bc y (bc q1 d1 (bc q2 d2 (bc y a b))) d0=bc y (bc q1 d1 (bc q2 d2 a)) d0:=by cases y<;>rfl
@[simp] theorem bc_deep9 {α:Type} (y q1 q2:Bool) (a b d0 d1 d2:α):bc y d0 (bc q1 (bc q2 (bc y a b) d2) d1)=bc y d0 (bc q1 (bc q2 b d2) d1):=by cases y<;>rfl
@[simp] theorem bc_deep10 {α:Type} (y q1 q2:Bool) (a b d0 d1 d2:α):bc y d0 (bc q1 (bc q2 d2 (bc y a b)) d1)=bc y d0 (bc q1 (bc q2 d2 b) d1):=by cases y<;>rfl
@[simp] theorem bc_deep11 {α:Type} (y q1 q2:Bool) (a b d0 d1 d2:α):bc y d0 (bc q1 d1 (bc q2 (bc y a b) d2))=bc y d0 (bc q1 d1 (bc q2 b d2)):=by cases y<;>rfl
@[simp] theorem bc_deep12 {α:Type} (y q1 q2:Bool) (a b d0 d1 d2:α):bc y d0 (bc q1 d1 (bc q2 d2 (bc y a b)))=bc y d0 (bc q1 d1 (bc q2 d2 b)):=by cases y<;>rfl
@[simp] theorem bc_deep13 {α:Type} (y q1 q2 q3:Bool) (a b d0 d1 d2 d3:α):bc y (bc q1 (bc q2 (bc q3 (bc y a b) d3) d2) d1) d0=bc y (bc q1 (bc q2 (bc q3 a d3) d2) d1) d0:=by cases y<;>rfl
@[simp] theorem bc_deep14 {α:Type} (y q1 q2 q3:Bool) (a b d0 d1 d2 d3:α):bc y (bc q1 (bc q2 (bc q3 d3 (bc y a b)) d2) d1) d0=bc y (bc q1 (bc q2 (bc q3 d3 a) d2) d1) d0:=by cases y<;>rfl
@[simp] theorem bc_deep15 {α:Type} (y q1 q2 q3:Bool) (a b d0 d1 d2 d3:α):bc y (bc q1 (bc q2 d2 (bc q3 (bc y a b) d3)) d1) d0=bc y (bc q1 (bc q2 d2 (bc q3 a d3)) d1) d0:=by cases y<;>rfl
@[simp] theorem bc_deep16 {α:Type} (y q1 q2 q3:Bool) (a b d0 d1 d2 d3:α):bc y (bc q1 (bc q2 d2 (bc q3 d3 (bc y a b))) d1) d0=bc y (bc q1 (bc q2 d2 (bc q3 d3 a)) d1) d0:=by cases y<;>rfl
@[simp] theorem bc_deep17 {α:Type} (y q1 q2 q3:Bool) (a b d0 d1 d2 d3:α):bc y (bc q1 d1 (bc q2 (bc q3 (bc y a b) d3) d2)) d0=bc y (bc q1 d1 (bc q2 (bc q3 a d3) d2)) d0:=by cases y<;>rfl
@[simp] theorem bc_deep18 {α:Type} (y q1 q2 q3:Bool) (a b d0 d1 d2 d3:α):bc y (bc q1 d1 (bc q2 (bc q3 d3 (bc y a b)) d2)) d0=bc y (bc q1 d1 (bc q2 (bc q3 d3 a) d2)) d0:=by cases y<;>rfl
@[simp] theorem bc_deep19 {α:Type} (y q1 q2 q3:Bool) (a b d0 d1 d2 d3:α):bc y (bc q1 d1 (bc q2 d2 (bc q3 (bc y a b) d3))) d0=bc y (bc q1 d1 (bc q2 d2 (bc q3 a d3))) d0:=by cases y<;>rfl
@[simp] theorem bc_deep20 {α:Type} (y q1 q2 q3:Bool) (a b d0 d1 d2 d3:α):bc y (bc q1 d1 (bc q2 d2 (bc q3 d3 (bc y a b)))) d0=bc y (bc q1 d1 (bc q2 d2 (bc q3 d3 a))) d0:=by cases y<;>rfl
@[simp] theorem bc_deep21 {α:Type} (y q1 q2 q3:Bool) (a b d0 d1 d2 d3:α):bc y d0 (bc q1 (bc q2 (bc q3 (bc y a b) d3) d2) d1)=bc y d0 (bc q1 (bc q2 (bc q3 b d3) d2) d1):=by cases y<;>rfl
@[simp] theorem bc_deep22 {α:Type} (y q1 q2 q3:Bool) (a b d0 d1 d2 d3:α):bc y d0 (bc q1 (bc q2 (bc q3 d3 (bc y a b)) d2) d1)=bc y d0 (bc q1 (bc q2 (bc q3 d3 b) d2) d1):=by cases y<;>rfl
@[simp] theorem bc_deep23 {α:Type} (y q1 q2 q3:Bool) (a b d0 d1 d2 d3:α):bc y d0 (bc q1 (bc q2 d2 (bc q3 (bc y a b) d3)) d1)=bc y d0 (bc q1 (bc q2 d2 (bc q3 b d3)) d1):=by cases y<;>rfl
@[simp] theorem bc_deep24 {α:Type} (y q1 q2 q3:Bool) (a b d0 d1 d2 d3:α):bc y d0 (bc q1 (bc q2 d2 (bc q3 d3 (bc y a b))) d1)=bc y d0 (bc q1 (bc q2 d2 (bc q3 d3 b)) d1):=by cases y<;>rfl
@[simp] theorem bc_deep25 {α:Type} (y q1 q2 q3:Bool) (a b d0 d1 d2 d3:α):bc y d0 (bc q1 d1 (bc q2 (bc q3 (bc y a b) d3) d2))=bc y d0 (bc q1 d1 (bc q2 (bc q3 b d3) d2)):=by cases y<;>rfl
@[simp] theorem bc_deep26 {α:Type} (y q1 q2 q3:Bool) (a b d0 d1 d2 d3:α):bc y d0 (bc q1 d1 (bc q2 (bc q3 d3 (bc y a b)) d2))=bc y d0 (bc q1 d1 (bc q2 (bc q3 d3 b) d2)):=by cases y<;>rfl
@[simp] theorem bc_deep27 {α:Type} (y q1 q2 q3:Bool) (a b d0 d1 d2 d3:α):bc y d0 (bc q1 d1 (bc q2 d2 (bc q3 (bc y a b) d3)))=bc y d0 (bc q1 d1 (bc q2 d2 (bc q3 b d3))):=by cases y<;>rfl
@[simp] theorem bc_deep28 {α:Type} (y q1 q2 q3:Bool) (a b d0 d1 d2 d3:α):bc y d0 (bc q1 d1 (bc q2 d2 (bc q3 d3 (bc y a b))))=bc y d0 (bc q1 d1 (bc q2 d2 (bc q3 d3 b))):=by cases y<;>rfl
section
variable (P:Program) (C:Ctx) (hp:Hp) (nx:Nat) (t u:TypeId) (y:Bool) (a b:PV)
@[simp] theorem load_bc:yV P hp t (bc y a b)=bc y (yV P hp t a) (yV P hp t b):=by cases y<;>rfl
@[simp] theorem bin_bc1 (o:BinOp) (x:PV):binA P o t (bc y a b) x=bc y (binA P o t a x) (binA P o t b x):=by cases y<;>rfl
@[simp] theorem bin_bc2 (o:BinOp) (x:PV):binA P o t x (bc y a b)=bc y (binA P o t x a) (binA P o t x b):=by cases y<;>rfl
@[simp] theorem binC_bc1 (c:Bool) (o:BinOp) (x:PV):binC c P o t (bc y a b) x=bc y (binC c P o t a x) (binC c P o t b x):=by cases y<;>rfl
@[simp] theorem binC_bc2 (c:Bool) (o:BinOp) (x:PV):binC c P o t x (bc y a b)=bc y (binC c P o t x a) (binC c P o t x b):=by cases y<;>rfl
@[simp] theorem un_bc (o:UnOp):unA o (bc y a b)=bc y (unA o a) (unA o b):=by cases y<;>rfl
@[simp] theorem conv_bc:convA P t u (bc y a b)=bc y (convA P t u a) (convA P t u b):=by cases y<;>rfl
@[simp] theorem fieldAddr_bc (f:Nat):qm P t f (bc y a b)=bc y (qm P t f a) (qm P t f b):=by cases y<;>rfl
@[simp] theorem fieldVal_bc (f:Nat):yx P t f (bc y a b)=bc y (yx P t f a) (yx P t f b):=by cases y<;>rfl
@[simp] theorem indexAddr_bc1 (x:PV):zE P hp t (bc y a b) x=bc y (zE P hp t a x) (zE P hp t b x):=by cases y<;>rfl
@[simp] theorem indexAddr_bc2 (x:PV):zE P hp t x (bc y a b)=bc y (zE P hp t x a) (zE P hp t x b):=by cases y<;>rfl
@[simp] theorem index_bc1 (x:PV):jG P t (bc y a b) x=bc y (jG P t a x) (jG P t b x):=by cases y<;>rfl
@[simp] theorem index_bc2 (x:PV):jG P t x (bc y a b)=bc y (jG P t x a) (jG P t x b):=by cases y<;>rfl
@[simp] theorem len_bc:lenA P t (bc y a b)=bc y (lenA P t a) (lenA P t b):=by cases y<;>rfl
@[simp] theorem slice_bc1 (lo hi:Option (Option PV)):wo P hp t (bc y a b) lo hi=bc y (wo P hp t a lo hi) (wo P hp t b lo hi):=by cases y<;>rfl
@[simp] theorem slice_bc2 (x:PV) (hi:Option (Option PV)):wo P hp t x (some (some (bc y a b))) hi=bc y (wo P hp t x (some (some a)) hi) (wo P hp t x (some (some b)) hi):=by cases y<;>rfl
@[simp] theorem slice_bc3 (x:PV) (lo:Option (Option PV)):wo P hp t x lo (some (some (bc y a b)))=bc y (wo P hp t x lo (some (some a))) (wo P hp t x lo (some (some b))):=by cases y<;>rfl
@[simp] theorem extract_bc (i:Nat):vA i (bc y a b)=bc y (vA i a) (vA i b):=by cases y<;>rfl
@[simp] theorem pick_bc1 (p q:Option PV):xl (some (bc y a b)) p q=bc y (xl (some a) p q) (xl (some b) p q):=by cases y<;>rfl
@[simp low] theorem pick_bc2 (p q:Option PV):xl p (some (bc y a b)) q=bc y (xl p (some a) q) (xl p (some b) q):=by cases y<;>rfl
@[simp low] theorem pick_bc3 (p q:Option PV):xl p q (some (bc y a b))=bc y (xl p q (some a)) (xl p q (some b)):=by cases y<;>rfl
@[simp] theorem pure_bc1 (kill:Bool) (ns:List Nat) (F:List PV→Option PV) (l:List PV):zc kill ns F (bc y a b::l) hp nx=bc y (zc kill ns F (a::l) hp nx) (zc kill ns F (b::l) hp nx):=by cases y<;>rfl
@[simp] theorem pure_bc2 (kill:Bool) (ns:List Nat) (F:List PV→Option PV) (x:PV) (l:List PV):zc kill ns F (x::bc y a b::l) hp nx=bc y (zc kill ns F (x::a::l) hp nx) (zc kill ns F (x::b::l) hp nx):=by cases y<;>rfl
@[simp] theorem pure_bc3 (kill:Bool) (ns:List Nat) (F:List PV→Option PV) (x z:PV) (l:List PV):zc kill ns F (x::z::bc y a b::l) hp nx=bc y (zc kill ns F (x::z::a::l) hp nx) (zc kill ns F (x::z::b::l) hp nx):=by cases y<;>rfl
end
@[simp] theorem map_bc {α β:Type} (y:Bool) (f:α→β) (a b:Option α):(bc y a b).map f=bc y (a.map f) (b.map f):=by cases y<;>rfl
@[simp] theorem bind_bc {α β:Type} (y:Bool) (f:α→Option β) (a b:Option α):(bc y a b).bind f=bc y (a.bind f) (b.bind f):=by cases y<;>rfl
attribute [simp] valA
variable {dr:Prop}
def dynAt (k:Nat) (D:List (Tmp×Tmp)) (i:Nat):List (Tmp×Tmp):=if i=k then D else []
@[simp] theorem mkCtxD_dyn (P:Program) (l:Tab) (k:Nat) (D:List (Tmp×Tmp)) (i:Nat):(xK P l (dynAt k D)).dyn i=if i=k then D else []:=rfl
@[simp] theorem EvC_region_mkD (P:Program) (l:Tab) (k:Nat) (D:List (Tmp×Tmp)) (i:Nat) (ops:Array Oper) (d:Bool) (st:St) (K:Exit→St→Prop) (h:¬i=k):EvC (xK P l (dynAt k D)) (.region i ops d) st K=EvL (xK P l (dynAt k D)) ops ops.toList st (normK K):=jN _ i ops d st K (by simp[h]) rfl
theorem apartA_one {a b:Tmp} {st:St} {id i j id' i' j':Nat} {blk:Blk} (h1:st.σ a=.ref id i j) (h2:st.σ b=.ref id' i' j') (h3:id≠id') (h4:st.hp id'=some blk) (h5:blk.arr=false):kx [(a,b)] st:=by
 intro p hp
 obtain rfl:=List.mem_singleton.1 hp
 intro id0 i0 j0 e0
 rw[h1] at e0
 injection e0 with e0 _ _
 subst e0
 exact⟨id',i',j',blk,h2,h3,h4,h5⟩
theorem zip_lits {w:World} {S:Nat→Prop} {G:Nat→GI} {nx:Nat}:∀{us vs:List Value},(∀u∈us,lit u=true)→Zip (RepO w S G nx) (us.map PV.v) vs→vs=us
 | [],vs,_,h=>by
   have:=h.1
   simp at this
   exact List.length_eq_zero_iff.1 this.symm
 | u::us,vs,hl,h=>by
   obtain⟨v,vs',rfl,hv,hz⟩:=h.uncons
   rw[zip_lits (fun x hx=>hl x (by simp[hx])) hz]
   congr 1
   cases hv with
   | c hc=>exact hc.v_inv.1
theorem sound_scalar {P:Program} {g:FuncId} {F:List PV→Option PV} (hfn:∃fn,P.funcs[g]?=some fn∧(fn.name== "runtime.NumGoroutine")=false∧fn.body.isNone=false)
  (h:∀args r,F args=some r→∃us:List Value,args=us.map PV.v∧(∀u∈us,lit u=true)∧∃v,r=.v v∧lit v=true∧∀w,Calls P g us.toArray w fun e w'=>e=.returned v∧w'=w):jL dr P g (zc false [] F):=by
 refine⟨hfn,?_⟩
 intro args hp nx r hp' nx' hs w S G vs hi hz
 unfold zc at hs
 split at hs
 ·rename_i aZ hp1 hfr
  split at hs
  ·rename_i r0 hF
   obtain⟨us,e,hl,v,rfl,hv,hc⟩:=h _ _ hF
   have e':qG [] aZ=aZ:=by cases aZ<;>rfl
   rw[e'] at e
   subst e
   have hargs:args=us.map PV.v:=by
    have key:∀(args:List PV) (us:List Value) (hp1:Hp),zh hp args=some (us.map PV.v,hp1)→args=us.map PV.v:=by
     intro args
     induction args with
     | nil=>intro us hp1 hh;simp only[zh] at hh;injection hh with hh;injection hh with hh _
     | cons x l ih =>
       intro us hp1 hh
       simp only[zh] at hh
       split at hh
       ·rename_i y hp2 hy
        split at hh
        ·rename_i r2 hp3 hr2
         injection hh with hh
         injection hh with hh _
         cases us with
         | nil=>simp at hh
         | cons u us =>
           simp only[List.map_cons,List.cons.injEq] at hh
           obtain⟨rfl,rfl⟩:=hh
           have hx:x=.v u∧hp2=hp:=by
            unfold zF at hy
            split at hy
            ·split at hy
             ·injection hy with hy;injection hy with hy _;cases hy
             ·cases hy
            ·unfold zX at hy
             split at hy<;>first
              | (split at hy<;>first | (split at hy<;>first | (injection hy with hy;injection hy with hy _;cases hy;done) | cases hy) | cases hy)
              | (injection hy with hy;injection hy with h1 h2;first | (exact⟨by rw[←h1],h2.symm⟩) | cases h1)
              | cases hy
           obtain⟨rfl,rfl⟩:=hx
           rw[ih us hp3 hr2]
           rfl
        ·cases hh
       ·cases hh
    exact key args us hp1 hfr
   subst hargs
   simp only[PV.flat,true_or,if_true] at hs
   injection hs with hs
   injection hs with h1 h2
   injection h2 with h2 h3
   subst h1;subst h2;subst h3
   rw[zip_lits hl hz]
   refine (hc w).mono fun e w' hh=>?_
   obtain⟨rfl,rfl⟩:=hh
   exact⟨v,S,G,rfl,Stp.refl hi,.c (.v hv)⟩
  ·cases hs
 ·cases hs
theorem xm:∀(l cs:List PV) (off:Nat),off+l.length≤cs.length→qz cs off l=cs.take off++l++cs.drop (off+l.length)
 | [],cs,off,_=>by simp
 | x::l,cs,off,h=>by
   simp only[List.length_cons] at h
   rw[qz,xm l (cs.set off x) (off+1) (by simp;omega)]
   have e1:(cs.set off x).take (off+1)=cs.take off++[x]:=by
    rw[List.take_succ_eq_append_getElem (by simp;omega)]
    have e0:(cs.set off x).take off=cs.take off:=by
     apply List.ext_getElem?
     intro j
     simp only[List.getElem?_take,List.getElem?_set]
     by_cases hj:j<off
     ·simp[hj,show ¬off=j by omega]
     ·simp[hj]
    rw[e0]
    simp
   have e2:(cs.set off x).drop (off+1+l.length)=cs.drop (off+(x::l).length):=by
    rw[List.drop_set_of_lt (by omega)]
    simp only[List.length_cons]
    congr 1
    omega
   rw[e1,e2]
   simp
@[simp] theorem setCells_whole (z cs:List PV) (h:cs.length=z.length):qz z 0 cs=cs:=by
 rw[xm cs z 0 (by omega)]
 simp[h]
@[simp] theorem setCells_tail (x:PV) (z cs:List PV) (h:cs.length=z.length):qz (x::z) 1 cs=x::cs:=by
 rw[xm cs (x::z) 1 (by simp;omega)]
 simp[show 1+cs.length=z.length+1 by omega]
@[simp] theorem get_nilI (σ:Nat→PV):AM.get σ (.const .nilIface)=some (.v .nilIface):=rfl
section
variable (C:Ctx) (ρ:Operand→Option PV) (hp:Hp) (nx:Nat)
def nilCkA:PV→Option PV
 | .ref id i j=>some (.ref id i j)
 | .ptr cs=>some (.ptr cs)
 | _=>none
@[simp] theorem nilCkA_ref (id i j:Nat):nilCkA (.ref id i j)=some (.ref id i j):=rfl
@[simp] theorem nilCkA_ptr (cs:List PV):nilCkA (.ptr cs)=some (.ptr cs):=rfl
@[simp] theorem op_nilCheck (x:Operand):zr C ρ hp nx (.nilCheck x)=(do let p ←ρ x;let r ←nilCkA p;some (r,hp,nx)):=by
 simp only[zr]
 cases ρ x with
 | none=>rfl
 | some p=>cases p<;>rfl
end
theorem upd_id {α:Type} (f:Nat→α) (k:Nat) (x:α) (h:f k=x):upd f k x=f:=by
 funext i
 by_cases e:i=k
 ·subst e;simp[h]
 ·simp[e]
@[simp] theorem cells_mp (i:Nat):PV.cells (.mp i)=[.mp i]:=rfl
@[simp] theorem isCell_mp (i:Nat):PV.isCell (.mp i)=true:=rfl
variable {dr:Prop}
section
variable {C:Ctx} {pf:FuncId→Bool} {f:FuncId} {fn:Func} {code:Code}
theorem hPure_soundG (hg:GoodD dr C pf) (hk:Known C pf f fn code) (kill:Bool) (ns:List Nat) (F:List PV→Option PV)
  (hF:∀args r,F args=some r→∀(w:World) (S:Nat→Prop) (vs:List Value),Zip (RepC w S) args vs→∃args' r0,Zip (RepC w S) args' vs∧args'.length≤fn.ntmps∧zi C fn args'=some r0∧∀(w:World) (S:Nat→Prop) (u:Value),RepC w S r0 u→RepC w S r u):jL dr C.P f (zc kill ns F):=by
 refine⟨⟨fn,hk.func,hk.name,by rw[hk.body];rfl⟩,?_⟩
 intro args hp nx r hp' nx' h w S G vs hi hz
 unfold zc at h
 split at h
 ·rename_i aZ hp1 hfr
  split at h
  ·rename_i r0 hF0
   obtain⟨S1,k1,hz1,hsn⟩:=qQ (dr:=dr) hi hfr hz
   obtain⟨args',rr,hz2,hn,hev,hup⟩:=hF _ r0 hF0 w S1 vs (ki hz1)
   unfold zi at hev
   split at hev
   ·rename_i x hpe nxe hef
    obtain⟨⟨r1,hpf1⟩,hfz,hr1⟩:=zp hev
    simp only at hr1
    subst hr1
    refine (ym hg hk hef hn k1.inv.st k1.inv.glo hz2).mono fun e w' hh=>?_
    obtain⟨v,S',G',he,fr,inv',hx,hs0,hs1,_⟩:=hh
    obtain⟨S2,k2,hc0⟩:=kG (dr:=dr) inv' hfz hx
    have hc:=hup _ _ _ hc0
    have hS2:∀b,S2 b→S1 b∨(w.heap.size≤b∧b<w'.heap.size):=by
     intro b hb
     have hlt:=k2.inv.st b hb
     rcases k2.from_ b hb with h1 | ⟨id,blk,h1,rfl⟩ | h1
     ·rcases hs1 b h1 with h2 | h2
      ·exact .inl h2
      ·exact .inr ⟨h2,hlt⟩
     ·rcases Nat.lt_or_ge (G' id).g w.heap.size with h3 | h3
      ·rename_i hown
       have:=hown id blk h1
       omega
      ·exact .inr ⟨h3,hlt⟩
     ·exact absurd h1 (by omega)
    split at h
    ·rename_i hflat
     injection h with h
     injection h with e1 h
     injection h with e2 e3
     subst e1;subst e2;subst e3
     refine⟨v,_,G,he,Stp.outer hi fr,.c ?_⟩
     rcases hflat with hfl | hno
     ·exact flat_any hc hfl
     ·have hno':=hsn hno
      exact hc.mono fun b hb=>⟨by rw[←hno'];exact hS2 b hb,rfl⟩
    ·split at h
     ·injection h with h
      injection h with e1 h
      injection h with e2 e3
      subst e1;subst e2;subst e3
      exact⟨v,_,G,he,k1.trans (Stp.outer k1.inv fr),.c (hc.mono fun b hb=>⟨hS2 b hb,rfl⟩)⟩
     ·cases h
   ·cases hev
  ·cases h
 ·cases h
inductive SlOf (s:Nat):List (List PV)→PV→Prop
 | nil:SlOf s [] .nil
 | em:SlOf s [] .em
 | sl {c:List PV} {es:List (List PV)}:SlOf s (c::es) (.sl s (c::es))
theorem rep_slOf {w:World} {S:Nat→Prop} {s:Nat} {es:List (List PV)} {u:Value} (h:RepC w S (.sl s es) u):∃y,SlOf s es y∧RepC w S y u:=by
 cases es with
 | cons c es=>exact⟨_,.sl,h⟩
 | nil =>
   cases h with
   | sl us h0 h1 h2 h3 h4 h5 =>
     rename_i A cap
     cases A with
     | none =>
       have:=h0 rfl
       subst this
       exact⟨.nil,.nil,.nil⟩
     | some ad=>exact⟨.em,.em,.em h2⟩
theorem vB {w:World} {S:Nat→Prop} {s:Nat} {es:List (List PV)} {y:PV} {u:Value} (h:SlOf s es y) (hr:RepC w S y u):RepC w S (.sl s es) u:=by
 cases h with
 | nil=>cases hr;exact .sl (es:=[]) (fun _ _=>undef) (by simp) (by simp) (by simp[maxLen]) (by simp) (by simp) (by simp)
 | em =>
   cases hr with
   | em hc=>exact .sl (es:=[]) (fun _ _=>undef) (by simp) (by simp) hc (by simp) (by simp) (by simp)
 | sl=>exact hr
theorem rep_agg_set {w:World} {S:Nat→Prop} {cs:List PV} {u:Value} (h:RepC w S (.agg cs) u) {j s:Nat} {es:List (List PV)} (hj:cs[j]?=some (.sl s es)):∃y,SlOf s es y∧RepC w S (.agg (cs.set j y)) u:=by
 cases h with
 | agg hl hr =>
   rename_i us
   have hjl:j<cs.length:=(List.getElem?_eq_some_iff.1 hj).1
   obtain⟨y,h1,h2⟩:=rep_slOf (hr j _ us[j] hj (by simp))
   refine⟨y,h1,.agg (by simpa using hl) fun k pv u hk hu=>?_⟩
   rw[List.getElem?_set] at hk
   split at hk
   ·rename_i e
    subst e
    injection hk with hk
    subst hk
    rw[Array.getElem?_eq_getElem (by omega)] at hu
    injection hu with hu
    subst hu
    exact h2
   ·exact hr k pv u hk hu
section
variable {P:Program} {hp:Hp} {nx:Nat} {t:TypeId} {s e:Nat} {es:List (List PV)} {y:PV}
theorem SlOf.len (h:SlOf s es y) (ht:qw P t=some e):lenA P t y=some (.v (.int .i64 es.length)):=by
 cases h<;>simp[lenA,ht]
theorem SlOf.view (h:SlOf s es y):AM.view hp s y=some es:=by cases h<;>simp[AM.view]
theorem SlOf.cell (h:SlOf s es y):y.isCell=true:=by cases h<;>rfl
theorem SlOf.frz (h:SlOf s es y):zF hp y=some (y,hp):=by cases h<;>rfl
theorem SlOf.noOwn (h:SlOf s es y):y.noOwn=true:=by cases h<;>rfl
theorem SlOf.up (h:SlOf s es y) (w:World) (S:Nat→Prop) (u:Value) (hr:RepC w S y u):RepC w S (.sl s es) u:=vB h hr
end
theorem OwnS.more {hp:Hp} {nx e s:Nat} {v:PV} {xs:List (List PV)} (h:OwnS hp nx e s v xs) (b:Option Blk):OwnS (upd hp nx b) (nx+1) e s v xs:=by
 rcases h with⟨rfl,rfl⟩ | ⟨id,h1,rfl,h2⟩
 ·exact .inl ⟨rfl,rfl⟩
 ·exact .inr ⟨id,by omega,rfl,by rw[ze _ _ _ _ (by omega)];exact h2⟩
theorem xN (hg:GoodD dr C pf) (hk:kz C pf f fn) (kill:Bool) (ns:List Nat) (F:List PV→Option PV)
  (hF:∀args r,F args=some r→∀(w:World) (S:Nat→Prop) (vs:List Value),Zip (RepC w S) args vs→∃args' r0,Zip (RepC w S) args' vs∧args'.length≤fn.ntmps∧zi C fn args'=some r0∧∀(w:World) (S:Nat→Prop) (u:Value),RepC w S r0 u→RepC w S r u):jL dr C.P f (zc kill ns F) :=
 let ⟨_,hk⟩:=hk
 hPure_soundG hg hk kill ns F hF
end
variable {dr:Prop}
def kV (P:Program) (l:Tab) (k:Nat) (L:List Tmp) (b:List Nat):Ctx:=⟨P,lookup l,fun _=>[],fun i=>if i=k then L else [],fun g=>b.contains g,fun _=>[],fun _=>none⟩
@[simp] theorem mkCtxL_P (P:Program) (l:Tab) (k:Nat) (L:List Tmp) (b:List Nat):(kV P l k L b).P=P:=rfl
@[simp] theorem call_mkL (P:Program) (l:Tab) (k:Nat) (L:List Tmp) (b:List Nat) (hp:Hp) (nx g:Nat) (x y xs:List PV):qN (kV P l k L b) hp nx (some (.fn (.func g) x y)) xs=(lookup l g).bind fun s=>s (x++xs++y) hp nx:=by
 unfold qN kV
 simp only
 cases lookup l g<;>rfl
@[simp] theorem EvC_region_mkL (P:Program) (l:Tab) (k:Nat) (L:List Tmp) (b:List Nat) (i:Nat) (ops:Array Oper) (d:Bool) (st:St) (K:Exit→St→Prop) (h:¬i=k):EvC (kV P l k L b) (.region i ops d) st K=EvL (kV P l k L b) ops ops.toList st (normK K) :=
 jN _ i ops d st K rfl (by simp[kV,h])
theorem EvC_region_here {P:Program} {l:Tab} {k:Nat} {L:List Tmp} {b:List Nat} {ops:Array Oper} {d:Bool} {st:St} {K:Exit→St→Prop} (h:j8 L st):EvC (kV P l k L b) (.region k ops d) st K=EvL (kV P l k L b) ops ops.toList st (normK K) :=
 jl _ k ops d st K (fun _ h=>by cases h) (by simpa[kV] using h)
def mkCtxF (P:Program) (l:Tab) (k:Nat) (t:Tmp):Ctx:=⟨P,lookup l,fun _=>[],fun _=>[],fun _=>false,fun i=>if i=k then [t] else [],fun _=>none⟩
@[simp] theorem mkCtxF_P (P:Program) (l:Tab) (k:Nat) (t:Tmp):(mkCtxF P l k t).P=P:=rfl
@[simp] theorem call_mkF (P:Program) (l:Tab) (k:Nat) (t:Tmp) (hp:Hp) (nx g:Nat) (x y xs:List PV):qN (mkCtxF P l k t) hp nx (some (.fn (.func g) x y)) xs=(lookup l g).bind fun s=>s (x++xs++y) hp nx:=by
 unfold qN mkCtxF
 simp only
 cases lookup l g<;>rfl
def AllBox (b:List Nat):Tab→Prop
 | []=>True
 | (g,s)::l=>(b.contains g=true→jB s)∧AllBox b l
theorem good_ofL {P:Program} {l:Tab} {q:List Nat} {k:Nat} {L:List Tmp} {b:List Nat} (hm:P.follows .mixedOrders=true) (h:AllD dr P q l) (hb:AllBox b l):GoodD dr (kV P l k L b) (fun g=>q.contains g):=by
 let g:=zk hm h
 refine⟨g.spec,g.quiet,g.mixed,?_,fun _ _ h=>by cases h⟩
 have key:∀l:Tab,AllBox b l→∀g s,b.contains g=true→lookup l g=some s→jB s:=by
  intro l
  induction l with
  | nil=>intro _ g s _ h;cases h
  | cons x l ih =>
    obtain⟨k,sp⟩:=x
    rintro⟨h1,h2⟩ g s hg hs
    simp only[lookup_cons] at hs
    split at hs
    ·rename_i e
     injection hs with hs
     subst hs;subst e
     exact h1 hg
    ·exact ih h2 g s hg hs
 exact fun g s hg hs=>key l hb g s hg hs
theorem v8:∀{xs ys:List PV} {hp hp1:Hp},zh hp xs=some (ys,hp1)→∀{id:Nat} {b:Blk},hp id=some b→b.arr=false→hp1 id=some b
 | [],ys,hp,hp1,h,id,b,hb,ha=>by
   simp only[zh] at h
   injection h with h;injection h with _ h;subst h;exact hb
 | x::l,ys,hp,hp1,h,id,b,hb,ha=>by
   simp only[zh] at h
   split at h
   ·rename_i y hp2 h1
    split at h
    ·rename_i r hp3 h2
     injection h with h;injection h with _ h;subst h
     exact v8 h2 (kg h1 hb ha) ha
    ·cases h
   ·cases h
def Stands (r0 r:PV):Prop:=∀(w:World) (S:Nat→Prop) (u:Value),RepC w S r0 u→RepC w S r u
def pureU (r:PV) (x:PV) (hp:Hp) (_:Nat):Prop:=∃r0,(AM.freeze hp x).map (·.1)=some r0∧Stands r0 r
theorem wS {C:Ctx} {fn:Func} {code:Code} {args:List PV} {r:PV} (hb:fn.body=some code)
  (h:EvC C code ⟨jv args,fun _=>none,0⟩ (retK C.P fn (pureU r))):∃r0,zi C fn args=some r0∧Stands r0 r:=by
 obtain⟨x,hp',nx',h1,r0,h2,h3⟩:=zu hb h
 exact⟨r0,by unfold zi;simp only[h1];exact h2,h3⟩
theorem nilOr_stands {w:World} {S:Nat→Prop} {s:Nat} {xs:List (List PV)} {y:PV} {u:Value} (h:y=.nil∧xs=[]∨y=.sl s xs) (hr:RepC w S y u):RepC w S (.sl s xs) u:=by
 rcases h with⟨rfl,rfl⟩ | rfl
 ·exact vB .nil hr
 ·exact hr
theorem Stands.refl (x:PV):Stands x x:=fun _ _ _ h=>h
theorem Stands.nilOr {s:Nat} {xs:List (List PV)} {y:PV} (h:y=.nil∧xs=[]∨y=.sl s xs):Stands y (.sl s xs):=fun _ _ _ hr=>nilOr_stands h hr
inductive StandsL:List PV→List PV→Prop
 | nil:StandsL [] []
 | cons {x y:PV} {xs ys:List PV}:Stands x y→StandsL xs ys→StandsL (x::xs) (y::ys)
theorem StandsL.length {xs ys:List PV} (h:StandsL xs ys):xs.length=ys.length:=by
 induction h with
 | nil=>rfl
 | cons _ _ ih=>simp[ih]
theorem StandsL.get {xs ys:List PV} (h:StandsL xs ys):∀{j:Nat} {x y:PV},xs[j]?=some x→ys[j]?=some y→Stands x y:=by
 induction h with
 | nil=>intro j x y h;cases h
 | cons h0 _ ih =>
   intro j x y h1 h2
   cases j with
   | zero=>simp at h1 h2;subst h1;subst h2;exact h0
   | succ j=>exact ih (by simpa using h1) (by simpa using h2)
theorem StandsL.agg {xs ys:List PV} (h:StandsL xs ys):Stands (.agg xs) (.agg ys):=by
 intro w S u hr
 cases hr with
 | agg hl hc =>
   refine .agg (by rw[←h.length];exact hl) fun j pv u hj hu=>?_
   have hjl:j<xs.length:=by rw[h.length];exact (List.getElem?_eq_some_iff.1 hj).1
   exact h.get (List.getElem?_eq_getElem hjl) hj _ _ _ (hc j _ u (List.getElem?_eq_getElem hjl) hu)
theorem StandsL.tup {xs ys:List PV} (h:StandsL xs ys):Stands (.tup xs) (.tup ys):=by
 intro w S u hr
 cases hr with
 | tup hl hc =>
   refine .tup (by rw[←h.length];exact hl) fun j pv u hj hu=>?_
   have hjl:j<xs.length:=by rw[h.length];exact (List.getElem?_eq_some_iff.1 hj).1
   exact h.get (List.getElem?_eq_getElem hjl) hj _ _ _ (hc j _ u (List.getElem?_eq_getElem hjl) hu)
theorem OwnS.at_ {hp:Hp} {nx e s:Nat} {v:PV} {xs:List (List PV)} (h:OwnS hp nx e s v xs) (hk:0<xs.length):∃id,id<nx∧v=.own id 0 xs.length∧hp id=some ⟨e,s,true,xs⟩:=by
 rcases h with⟨rfl,rfl⟩ | h
 ·simp at hk
 ·exact h
theorem OwnS.same {hp hp':Hp} {nx nx' e s:Nat} {v:PV} {xs:List (List PV)} (h:OwnS hp nx e s v xs) (hn:nx≤nx') (hh:∀id n,v=.own id 0 n→hp' id=hp id):OwnS hp' nx' e s v xs:=by
 rcases h with⟨rfl,rfl⟩ | ⟨id,h1,rfl,h2⟩
 ·exact .inl ⟨rfl,rfl⟩
 ·exact .inr ⟨id,by omega,rfl,by rw[hh id _ rfl];exact h2⟩
variable {dr:Prop}
def n1 (s:Nat):PV→PV
 | .nil=>.sl s []
 | .em=>.sl s []
 | x=>x
@[simp] theorem n1_nil (s:Nat):n1 s .nil=.sl s []:=rfl
@[simp] theorem n1_em (s:Nat):n1 s .em=.sl s []:=rfl
@[simp] theorem n1_sl (s t:Nat) (es:List (List PV)):n1 s (.sl t es)=.sl t es:=rfl
@[simp] theorem n1_v (s:Nat) (x:Value):n1 s (.v x)=.v x:=rfl
def fixC:List (Option Nat)→List PV→List PV
 | some s::l,x::xs=>n1 s x::fixC l xs
 | none::l,x::xs=>x::fixC l xs
 | _,xs=>xs
inductive Sh where
 | a
 | g (p:List (Option Nat))
 | s (n:Nat) (p:List (Option Nat))
def Sh.fix:Sh→PV→PV
 | .g p,.agg cs=>.agg (fixC p cs)
 | .s _ p,.sl m es=>.sl m (es.map (fixC p))
 | .s n _,x=>n1 n x
 | _,x=>x
@[simp] theorem Sh.fix_a (x:PV):Sh.fix .a x=x:=by cases x<;>rfl
@[simp] theorem Sh.fix_g (p:List (Option Nat)) (cs:List PV):Sh.fix (.g p) (.agg cs)=.agg (fixC p cs):=rfl
@[simp] theorem Sh.fix_s (n m:Nat) (p:List (Option Nat)) (es:List (List PV)):Sh.fix (.s n p) (.sl m es)=.sl m (es.map (fixC p)):=rfl
@[simp] theorem Sh.fix_nil (n:Nat) (p:List (Option Nat)):Sh.fix (.s n p) .nil=.sl n []:=rfl
@[simp] theorem Sh.fix_em (n:Nat) (p:List (Option Nat)):Sh.fix (.s n p) .em=.sl n []:=rfl
attribute [simp] fixC
def fixL:List Sh→List PV→List PV
 | h::l,x::xs=>h.fix x::fixL l xs
 | _,xs=>xs
attribute [simp] fixL
theorem n1_stands (s:Nat) (x:PV):Stands x (n1 s x):=by
 intro w S u h
 cases x with
 | nil=>exact vB .nil h
 | em=>exact vB .em h
 | _=>exact h
theorem wz:∀(p:List (Option Nat)) (cs:List PV),(fixC p cs).length=cs.length
 | [],cs=>by cases cs<;>rfl
 | none::p,[]=>rfl
 | some s::p,[]=>rfl
 | none::p,x::cs=>by simp[wz p cs]
 | some s::p,x::cs=>by simp[wz p cs]
theorem wT:∀(p:List (Option Nat)) (cs:List PV),StandsL cs (fixC p cs)
 | [],[]=>.nil
 | [],x::cs=>by
   have:=wT [] cs
   rw[show fixC [] cs=cs by cases cs<;>rfl] at this
   exact .cons (Stands.refl x) this
 | none::p,[]=>.nil
 | some s::p,[]=>.nil
 | none::p,x::cs=>.cons (Stands.refl x) (wT p cs)
 | some s::p,x::cs=>.cons (n1_stands s x) (wT p cs)
theorem fix_stands (h:Sh) (x:PV):Stands x (h.fix x):=by
 intro w S u hr
 cases h with
 | a=>simpa using hr
 | g p =>
   cases x with
   | agg cs=>exact (wT p cs).agg w S u hr
   | _=>exact hr
 | s n p =>
   cases x with
   | sl m es =>
     cases hr with
     | sl us h0 h1 h2 h3 h4 h5 =>
       rename_i A cap
       have:=RepC.sl (w:=w) (S:=S) (es:=es.map (fixC p)) (A:=A) (cap:=cap) (s:=m) us h0 (by simpa using h1) h2 (fun c hc=>by
        obtain⟨c',hc',rfl⟩:=List.mem_map.1 hc
        rw[wz];exact h3 c' hc') (fun i j c pv hi hj=>by
        rw[List.getElem?_map] at hi
        obtain⟨c',hc',rfl⟩:∃c',es[i]?=some c'∧fixC p c'=c:=by
         cases hh:es[i]? with
         | none=>rw[hh] at hi;cases hi
         | some c'=>rw[hh] at hi;injection hi with hi;exact⟨c',rfl,hi⟩
        have hjl:j<c'.length:=by
         have:=(List.getElem?_eq_some_iff.1 hj).1
         rwa [wz] at this
        exact h4 i j c' _ hc' (List.getElem?_eq_getElem hjl)) (fun i j c pv hi hj=>by
        rw[List.getElem?_map] at hi
        obtain⟨c',hc',rfl⟩:∃c',es[i]?=some c'∧fixC p c'=c:=by
         cases hh:es[i]? with
         | none=>rw[hh] at hi;cases hi
         | some c'=>rw[hh] at hi;injection hi with hi;exact⟨c',rfl,hi⟩
        have hjl:j<c'.length:=by
         have:=(List.getElem?_eq_some_iff.1 hj).1
         rwa [wz] at this
        exact (wT p c').get (List.getElem?_eq_getElem hjl) hj _ _ _ (h5 i j c' _ hc' (List.getElem?_eq_getElem hjl)))
       rw[List.length_map] at this
       exact this
   | nil=>exact vB .nil hr
   | em=>exact vB .em hr
   | _=>exact hr
theorem vC {w:World} {S:Nat→Prop}:∀{hs:List Sh} {xs:List PV} {us:List Value},Zip (RepC w S) xs us→Zip (RepC w S) (fixL hs xs) us
 | [],xs,us,h=>by cases xs<;>exact h
 | s::hs,[],us,h=>h
 | s::hs,x::xs,us,h=>by
   obtain⟨u,us',rfl,hu,hz⟩:=h.uncons
   exact .cons (fix_stands s x w S u hu) (vC hz)
def zR (shs:List Sh) (F:List PV→Option PV):AM.Spec:=zc false [] fun args=>F (fixL shs args)
theorem wU (shs:List Sh) (F:List PV→Option PV):kM (zR shs F):=zg _ _
theorem qB {C:Ctx} {pf:FuncId→Bool} {f:FuncId} {fn:Func} (hg:GoodD dr C pf) (hk:kz C pf f fn) (shs:List Sh) (F:List PV→Option PV)
  (hF:∀args r,F args=some r→args.length≤fn.ntmps∧∃r0,zi C fn args=some r0∧Stands r0 r):jL dr C.P f (zR shs F) :=
 xN hg hk false [] _ fun args r h w S vs hz=>by
  obtain⟨h1,r0,h2,h3⟩:=hF _ _ h
  exact⟨fixL shs args,r0,vC hz,h1,h2,h3⟩
theorem w9 {shs:List Sh} {F:List PV→Option PV} {args:List PV} {hp:Hp} {nx:Nat} {aZ:List PV} {r:PV} (h1:zh hp args=some (aZ,hp)) (h2:F (fixL shs aZ)=some r) (h3:r.flat=true∨args.all PV.noOwn=true) :
  zR shs F args hp nx=some (r,hp,nx):=by
 have hn:qG [] aZ=aZ:=by cases aZ<;>rfl
 exact zt h1 (by rw[hn];exact h2) h3
def pureF (sh:Sh) (r:PV) (x:PV) (hp:Hp) (_:Nat):Prop:=∃r0,(AM.freeze hp x).map (·.1)=some r0∧sh.fix r0=r
theorem kW {C:Ctx} {fn:Func} {code:Code} {args:List PV} {sh:Sh} {r:PV} (hb:fn.body=some code)
  (h:EvC C code ⟨jv args,fun _=>none,0⟩ (retK C.P fn (pureF sh r))):∃r0,zi C fn args=some r0∧Stands r0 r:=by
 obtain⟨x,hp',nx',h1,r0,h2,h3⟩:=zu hb h
 exact⟨r0,by unfold zi;simp only[h1];exact h2,h3 ▸ fix_stands sh r0⟩
def z7 (sh:Sh) (r:PV) (x:PV) (hp:Hp) (_:Nat):Prop:=∃r0 y,(AM.freeze hp x).map (·.1)=some (.tup [r0,y])∧.tup [sh.fix r0,y]=r
theorem wC {C:Ctx} {fn:Func} {code:Code} {args:List PV} {sh:Sh} {r:PV} (hb:fn.body=some code)
  (h:EvC C code ⟨jv args,fun _=>none,0⟩ (retK C.P fn (z7 sh r))):∃r0,zi C fn args=some r0∧Stands r0 r:=by
 obtain⟨x,hp',nx',h1,r0,y,h2,h3⟩:=zu hb h
 exact⟨.tup [r0,y],by unfold zi;simp only[h1];exact h2,h3 ▸ (StandsL.cons (fix_stands sh r0) (.cons (Stands.refl y) .nil)).tup⟩
theorem wD {P:Program} {g:FuncId} {F:List PV→Option PV} (hfn:∃fn,P.funcs[g]?=some fn∧(fn.name== "runtime.NumGoroutine")=false∧fn.body.isNone=false)
  (h:∀args r,F args=some r→∃us:List Value,args=us.map PV.v∧(∀u∈us,lit u=true)∧r.flat=true∧∃v,(∀w S,RepC w S r v)∧∀w S,Glo P w S→Calls P g us.toArray w fun e w'=>e=.returned v∧Fr dr w (fun _=>False) w'):jL dr P g (zc false [] F):=by
 refine⟨hfn,?_⟩
 intro args hp nx r hp' nx' hs w S G vs hi hz
 unfold zc at hs
 split at hs
 ·rename_i aZ hp1 hfr
  split at hs
  ·rename_i r0 hF
   obtain⟨us,e,hl,hfl,v,hv,hc⟩:=h _ _ hF
   have e':qG [] aZ=aZ:=by cases aZ<;>rfl
   rw[e'] at e
   subst e
   have hargs:args=us.map PV.v:=by
    have key:∀(args:List PV) (us:List Value) (hp1:Hp),zh hp args=some (us.map PV.v,hp1)→args=us.map PV.v:=by
     intro args
     induction args with
     | nil=>intro us hp1 hh;simp only[zh] at hh;injection hh with hh;injection hh with hh _
     | cons x l ih =>
       intro us hp1 hh
       simp only[zh] at hh
       split at hh
       ·rename_i y hp2 hy
        split at hh
        ·rename_i r2 hp3 hr2
         injection hh with hh
         injection hh with hh _
         cases us with
         | nil=>simp at hh
         | cons u us =>
           simp only[List.map_cons,List.cons.injEq] at hh
           obtain⟨rfl,rfl⟩:=hh
           have hx:x=.v u∧hp2=hp:=by
            unfold zF at hy
            split at hy
            ·split at hy
             ·injection hy with hy;injection hy with hy _;cases hy
             ·cases hy
            ·unfold zX at hy
             split at hy<;>first
              | (split at hy<;>first | (split at hy<;>first | (injection hy with hy;injection hy with hy _;cases hy;done) | cases hy) | cases hy)
              | (injection hy with hy;injection hy with h1 h2;first | (exact⟨by rw[←h1],h2.symm⟩) | cases h1)
              | cases hy
           obtain⟨rfl,rfl⟩:=hx
           rw[ih us hp3 hr2]
           rfl
        ·cases hh
       ·cases hh
    exact key args us hp1 hfr
   subst hargs
   simp only[hfl,true_or,if_true] at hs
   injection hs with hs
   injection hs with h1 h2
   injection h2 with h2 h3
   subst h1;subst h2;subst h3
   rw[zip_lits hl hz]
   refine (hc w S hi.glo).mono fun e w' hh=>?_
   obtain⟨rfl,fr⟩:=hh
   exact⟨v,_,G,rfl,Stp.outer hi fr,.c (hv _ _)⟩
  ·cases hs
 ·cases hs
end Go.AM
namespace Go.Proofs
open Go.Shelf
def Tryz.lays213_ren:Go.Shelf.Ren:=⟨fun | 213=>102 | 265=>124 | n=>n,fun | 9=>9 | 3=>3 | n=>n,fun | n=>n⟩
theorem Tryz.lays213:Go.Proofs.Lays.n213 prog Tryz.lays213_ren:={
 mixed:=by kernel_rfl
 f213:=func102.trans (congrArg some (by kernel_rfl))
 f265:=func124.trans (congrArg some (by kernel_rfl))
 t3:=underlying3
 a3:=isAgg3
 z3:=sizeOf3
 v3:=zeroValue3
 t9:=underlying9
 a9:=isAgg9
 z9:=sizeOf9
 v9:=zeroValue9 }
open Go.RowKit in
theorem Tryz.bytealg_CompareString (a b:ByteArray) (w:World) :
  Calls prog 102 #[.string a,.string b] w fun e w'=>e=.returned (.int .i64 (Lib.compareBytes a.data.toList b.data.toList))∧w'=w:=Any.bytealg_CompareString Tryz.lays213 a b w
end Go.Proofs
namespace Go.Proofs.YtanbabpnlgfcpaaGreatDoor
open Go.Proofs.Tryz
open Go.RowKit Go.AM
abbrev int (n:Int):PV:=.v (.int .i64 n)
abbrev boo (b:Bool):PV:=.v (.bool b)
abbrev lim:Nat:=2097152
theorem mixed:prog.follows .mixedOrders=true:=by kernel_rfl
noncomputable abbrev C0:Ctx:=zA prog []
theorem wA:AM.Good C0 (fun g=>([]:List Nat).contains g):=zk mixed trivial
def F3 (f:Int→Int→Int→Bool):List PV→Option PV
 | [.v (.int .i64 a),.v (.int .i64 b),.v (.int .i64 c)]=>some (.v (.bool (f a b c)))
 | _=>none
def F1b (f:Int→Bool):List PV→Option PV
 | [.v (.int .u8 a)]=>some (.v (.bool (f a)))
 | _=>none
def inB (n a b:Int):Bool:=decide (a≤n)&&decide (n≤b)
def wordB (n:Int):Bool:=decide (97≤n)&&decide (n≤122)||decide (48≤n)&&decide (n≤57)||n==45||n==95
@[simp] theorem F3_call (f:Int→Int→Int→Bool) (a b c:Int) (hp:Hp) (nx:Nat):zc false [] (F3 f) [.v (.int .i64 a),.v (.int .i64 b),.v (.int .i64 c)] hp nx=some (.v (.bool (f a b c)),hp,nx):=zt rfl rfl (.inl rfl)
@[simp] theorem F1b_call (f:Int→Bool) (a:Int) (hp:Hp) (nx:Nat):zc false [] (F1b f) [.v (.int .u8 a)] hp nx=some (.v (.bool (f a)),hp,nx):=zt rfl rfl (.inl rfl)
theorem F3_inv {f:Int→Int→Int→Bool} {args:List PV} {r:PV} (h:F3 f args=some r):∃a b c,args=[int a,int b,int c]∧r=boo (f a b c):=by
 unfold F3 at h
 split at h
 ·injection h with h;exact⟨_,_,_,rfl,h.symm⟩
 ·cases h
theorem F1b_inv {f:Int→Bool} {args:List PV} {r:PV} (h:F1b f args=some r):∃a,args=[.v (.int .u8 a)]∧r=boo (f a):=by
 unfold F1b at h
 split at h
 ·injection h with h;exact⟨_,rfl,h.symm⟩
 ·cases h
theorem jx:za prog 42 (zc false [] (F3 inB)) :=
 zJ (fn:=f42) wA ⟨_,func42,by kernel_rfl,rfl,by kernel_rfl⟩ false [] _ fun args r h=>by
  obtain⟨a,b,c,rfl,rfl⟩:=F3_inv h
  exact⟨by simp[f42],_,zb rfl (by simp[f42,inB]),zI _⟩
theorem isWord_sound:za prog 52 (zc false [] (F1b wordB)) :=
 zJ (fn:=f52) wA ⟨_,func52,by kernel_rfl,rfl,by kernel_rfl⟩ false [] _ fun args r h=>by
  obtain⟨a,rfl,rfl⟩:=F1b_inv h
  exact⟨by simp[f52],_,zb rfl (by simp[f52,wordB]),zI _⟩
noncomputable def FS (f:List UInt8→Bool):List PV→Option PV:=zG (α:=List UInt8) (fun l=>[str l]) (fun l=>l.length≤lim) (fun l=>boo (f l))
@[simp] theorem yM (f:List UInt8→Bool) (l:List UInt8) (hp:Hp) (nx:Nat) (h:l.length≤lim):zc false [] (FS f) [str l] hp nx=some (boo (f l),hp,nx) :=
 zt rfl (zn (enc:=fun l:List UInt8=>[str l]) (a:=l) (fun a b e=>by simp only[List.cons.injEq,and_true] at e;exact zM e) h) (.inl rfl)
def pr (a b:Nat) (c:UInt8):Bool:=decide (a≤c.toNat)&&decide (c.toNat≤b)
theorem pr_out (a b:Nat) (c:UInt8):(decide ((c.toNat:Int)<a)||decide ((b:Int)<c.toNat))=!pr a b c:=by
 rw[Bool.eq_iff_iff];simp[pr]
def qC (a b:Nat) (l:List UInt8):Bool:=l.all (pr a b)
def yA (l:List UInt8):Bool:=qC 33 126 l&&inB l.length 1 100
def wordsB (l:List UInt8):Bool:=l.all fun c=>wordB c.toNat
def headB:List UInt8→Bool
 | []=>false
 | c::_=>decide ((97:Int)≤c.toNat)&&decide ((c.toNat:Int)≤(122:Int))
def qh (l:List UInt8):Bool:=inB l.length 1 40&&headB l&&wordsB l
noncomputable abbrev C1:Ctx:=zA prog [(42,zc false [] (F3 inB)),(52,zc false [] (F1b wordB))]
abbrev qRl1:List Nat:=[42,52]
theorem good1:AM.Good C1 (fun g=>qRl1.contains g):=zk mixed ⟨jx,fun _=>zg _ _,isWord_sound,fun _=>zg _ _,trivial⟩
theorem all_drop {l:List UInt8} {p:UInt8→Bool} {k:Nat} (h:k<l.length):(l.drop k).all p=(p l[k]&&(l.drop (k+1)).all p):=by rw[List.drop_eq_getElem_cons h,List.all_cons]
theorem kX {a b:Nat} {l:List UInt8} {k:Nat} (h:k<l.length):qC a b (l.drop k)=(pr a b l[k]&&qC a b (l.drop (k+1))):=all_drop h
theorem wordsB_drop {l:List UInt8} {k:Nat} (h:k<l.length):wordsB (l.drop k)=(wordB l[k].toNat&&wordsB (l.drop (k+1))):=all_drop h
@[simp] theorem bytesIn_nil (a b:Nat):qC a b []=true:=rfl
@[simp] theorem wordsB_nil:wordsB []=true:=rfl
theorem seen_eval (l:List UInt8) (hl:l.length≤lim):zi C1 f89 [str l]=some (boo (qC 32 126 l)):=by
 refine zb rfl ?_
 unfold lim at hl
 simp
 refine zC (fun k σ hp nx=>σ 0=str l∧σ 5=int l.length∧σ 6=int k∧qC 32 126 l=qC 32 126 (l.drop k)) l.length ⟨by simp,by simp,by simp,by simp⟩ ?_
 rintro k σ hp nx hk ⟨h0,h5,h6,he⟩
 by_cases hlt:k<l.length
 ·have hw:IntKind.i64.wrap ((k:Int)+1)=(k:Int)+1:=zd (by omega) (by omega)
  rw[kX hlt] at he
  have ho:=pr_out 32 126 l[k]
  simp only[Int.cast_ofNat_Int] at ho
  cases hc:pr 32 126 l[k]
  ·have he:qC 32 126 l=false:=by rw[he,hc];rfl
   simp[h0,h5,h6,hlt,he,ho,hc,f89]
  ·simp[h0,h5,h6,hlt,ho,hc,hw]
   exact⟨hlt,by rw[he,hc];rfl⟩
 ·obtain rfl:k=l.length:=by omega
  have he:qC 32 126 l=true:=by rw[he,List.drop_length];rfl
  simp[h0,h5,h6,he,f89]
theorem isKey_eval (l:List UInt8) (hl:l.length≤lim):zi C1 f19 [str l]=some (boo (yA l)):=by
 refine zb rfl ?_
 unfold lim at hl
 simp
 refine zC (fun k σ hp nx=>σ 0=str l∧σ 5=int l.length∧σ 6=int k∧qC 33 126 l=qC 33 126 (l.drop k)) l.length ⟨by simp,by simp,by simp,by simp⟩ ?_
 rintro k σ hp nx hk ⟨h0,h5,h6,he⟩
 by_cases hlt:k<l.length
 ·have hw:IntKind.i64.wrap ((k:Int)+1)=(k:Int)+1:=zd (by omega) (by omega)
  rw[kX hlt] at he
  have ho:=pr_out 33 126 l[k]
  simp only[Int.cast_ofNat_Int] at ho
  cases hc:pr 33 126 l[k]
  ·have he:qC 33 126 l=false:=by rw[he,hc];rfl
   simp[h0,h5,h6,hlt,he,ho,hc,yA,f19]
  ·simp[h0,h5,h6,hlt,ho,hc,hw]
   exact⟨hlt,by rw[he,hc];rfl⟩
 ·obtain rfl:k=l.length:=by omega
  have he:qC 33 126 l=true:=by rw[he,List.drop_length];rfl
  simp[h0,h5,h6,he,yA,f19]
theorem isName_eval (l:List UInt8) (hl:l.length≤lim):zi C1 f33 [str l]=some (boo (qh l)):=by
 refine zb rfl ?_
 unfold lim at hl
 cases hn:inB l.length 1 40
 ·simp[hn,qh,f33]
 have hpos:0<l.length:=by simp[inB] at hn;omega
 have hh:headB l=(decide ((97:Int)≤l[0].toNat)&&decide ((l[0].toNat:Int)≤(122:Int))):=by
  cases l with
  | nil=>simp at hpos
  | cons c l=>rfl
 have hf:(decide ((l[0].toNat:Int)<(97:Int))||decide ((122:Int)<l[0].toNat))=!headB l:=by rw[hh,Bool.eq_iff_iff];simp
 cases hb:headB l
 ·simp[hn,hpos,hf,hb,qh,f33]
 simp[hn,hpos,hf,hb]
 refine zC (fun k σ hp nx=>σ 0=str l∧σ 19=int l.length∧σ 20=int k∧wordsB l=wordsB (l.drop k)) l.length ⟨by simp,by simp,by simp,by simp⟩ ?_
 rintro k σ hp nx hk ⟨h0,h5,h6,he⟩
 by_cases hlt:k<l.length
 ·have hw:IntKind.i64.wrap ((k:Int)+1)=(k:Int)+1:=zd (by omega) (by omega)
  rw[wordsB_drop hlt] at he
  cases hc:wordB l[k].toNat
  ·have he:wordsB l=false:=by rw[he,hc];rfl
   simp[h0,h5,h6,hlt,he,hc,qh,f33]
  ·simp[h0,h5,h6,hlt,hc,hw]
   exact⟨hlt,by rw[he,hc];rfl⟩
 ·obtain rfl:k=l.length:=by omega
  have he:wordsB l=true:=by rw[he,List.drop_length];rfl
  simp[h0,h5,h6,he,hn,hb,qh,f33]
theorem seen_sound:za prog 89 (zc false [] (FS (qC 32 126))) :=
 zJ (fn:=f89) good1 ⟨_,func89,by kernel_rfl,rfl,by kernel_rfl⟩ false [] _ fun args r h=>by
  obtain⟨l,rfl,hp,rfl⟩:=zf h
  exact⟨by simp[f89],_,seen_eval l hp,zI _⟩
theorem kj:za prog 19 (zc false [] (FS yA)) :=
 zJ (fn:=f19) good1 ⟨_,func19,by kernel_rfl,rfl,by kernel_rfl⟩ false [] _ fun args r h=>by
  obtain⟨l,rfl,hp,rfl⟩:=zf h
  exact⟨by simp[f19],_,isKey_eval l hp,zI _⟩
theorem wV:za prog 33 (zc false [] (FS qh)) :=
 zJ (fn:=f33) good1 ⟨_,func33,by kernel_rfl,rfl,by kernel_rfl⟩ false [] _ fun args r h=>by
  obtain⟨l,rfl,hp,rfl⟩:=zf h
  exact⟨by simp[f33],_,isName_eval l hp,zI _⟩
end Go.Proofs.YtanbabpnlgfcpaaGreatDoor
