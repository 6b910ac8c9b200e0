/-
The abstract machine, part 23: guarded operations whose guard is not known: both outcomes in one state.
The library's comparison of strings, off the kit's shelf, at this program (written after what the kit's tool prints).
Names, keys and texts: what the program's and the reference's functions on bytes compute.
Values as data: their cells, their bulk, how a reading gives one.
-/
import Derived.Test.YtdkfdoeijcfbhaaGreatDoorG9
import Derived.Shelf.Small.Strs
import Derived.Shelf.Strconv.Itoa0
import Derived.Ground.Names2Prog
import Derived.Test.YtdkfdoeijcfbhaaGreatDoorProg
import Derived.Test.YtdkfdoeijcfbhaaGreatDoorG11
set_option maxRecDepth 8000
namespace Go.AM
open Go.RowKit
def Kj:Op→Bool
 | .move _ | .assign _ | .pick _ _ _ | .load _ _ | .binOp _ _ _ _ _ | .unOp _ _ _ | .convert _ _ _ | .fieldAddr _ _ _ | .field _ _ _ | .indexAddr _ _ _ | .index _ _ _ | .extract _ _=>true
 | .slice _ _ _ _ none=>true
 | .call c=>match c.callee with
   | .builtin .len=>true
   | .builtin .min=>true
   | .builtin .max=>true
   | _=>false
 | _=>false
def valA (C:Ctx) (st:St) (op:Op):Option PV:=(zC C (get st.σ) st.hp st.nx op).map (·.1)
theorem Qq {o:Option PV} {hp:Hp} {nx:Nat}:(o.map fun y=>(y,hp,nx))=((o.map fun y=>(y,hp,nx)).map (·.1)).map fun x=>(x,hp,nx):=by cases o<;>rfl
theorem w9 {o:Option PV} {hp:Hp} {nx:Nat}:(o.bind fun y=>some (y,hp,nx))=((o.bind fun y=>some (y,hp,nx)).map (·.1)).map fun x=>(x,hp,nx):=by cases o<;>rfl
theorem pureOp_eq {C:Ctx} {st:St} {op:Op} (h:Kj op=true):zC C (get st.σ) st.hp st.nx op=(valA C st op).map fun x=>(x,st.hp,st.nx):=by
 unfold valA
 generalize get st.σ=ρ
 cases op with
 | move x=>simp only[op_move];exact Qq
 | assign x=>simp only[op_assign];exact Qq
 | pick c a b=>simp only[op_pick];exact Qq
 | load t a=>simp only[op_load];cases ρ a<;>(try rfl);exact w9
 | binOp op t x y t2=>simp only[op_bin];cases ρ x<;>cases ρ y<;>(try rfl);exact w9
 | unOp op t x=>simp only[op_un];cases ρ x<;>(try rfl);exact w9
 | convert s d x=>simp only[op_conv];cases ρ x<;>(try rfl);exact w9
 | fieldAddr t x f=>simp only[op_fieldAddr];cases ρ x<;>(try rfl);exact w9
 | field t x f=>simp only[op_field];cases ρ x<;>(try rfl);exact w9
 | indexAddr t x i=>simp only[op_indexAddr];cases ρ x<;>cases ρ i<;>(try rfl);exact w9
 | index t x i=>simp only[op_index];cases ρ x<;>cases ρ i<;>(try rfl);exact w9
 | extract x i=>simp only[op_extract];cases ρ x<;>(try rfl);exact w9
 | slice t x lo hi mx =>
   cases mx with
   | none=>simp only[op_slice];cases ρ x<;>(try rfl);exact w9
   | some m=>simp[Kj] at h
 | call c =>
   obtain⟨callee,args,ts⟩:=c
   cases callee with
   | builtin b =>
     simp only[op_builtin]
     cases qy (args.toList.map ρ) with
     | none=>rfl
     | some xs =>
       simp only[Option.bind_eq_bind,Option.bind_some]
       cases b<;>(try (simp[Kj] at h;done))
       case len =>
        cases xs with
        | nil=>rfl
        | cons x l =>
          cases l with
          | nil =>
            simp only[blt_len]
            cases ts[0]?<;>(try rfl)
            exact w9
          | cons _ _=>rfl
       case min=>simp only[blt_min];exact Qq
       case max=>simp only[blt_max];exact Qq
   | _=>simp[Kj] at h
 | _=>simp[Kj] at h
def wn (C:Ctx) (g:FuncId):Prop:=∀spec,C.Γ g=some spec→Wk spec
def yv (C:Ctx) (op:Op):Prop:=∀st:St,zC C (get st.σ) st.hp st.nx op=(valA C st op).map fun x=>(x,st.hp,st.nx)
theorem qN {C:Ctx} {op:Op} (h:Kj op=true):yv C op:=fun _=>pureOp_eq h
@[simp] theorem pu_call (C:Ctx) (g:FuncId) (a:Array Operand) (ts:Array TypeId) (h:wn C g):yv C (.call ⟨.value (.func g),a,ts⟩):=by
 intro st
 unfold valA
 simp only[op_call,get_func]
 cases qy (a.toList.map (get st.σ)) with
 | none=>rfl
 | some xs =>
   simp only[Option.bind_eq_bind,Option.bind_some]
   cases hs:C.Γ g with
   | none=>simp[wu,hs]
   | some spec =>
     rw[callVal_fn C st.hp st.nx g [] [] xs spec hs]
     cases hr:spec ([]++xs++[]) st.hp st.nx with
     | none=>rfl
     | some r =>
       obtain⟨x,hp',nx'⟩:=r
       obtain⟨rfl,rfl⟩:=h spec hs _ _ _ _ _ _ hr
       rfl
theorem qm {P:Program} {l:Tab} {g:Nat} {spec:AM.Spec} (h:lookup l g=some spec) (hq:Wk spec):wn (zF P l) g:=fun s hs=>by
 have:lookup l g=some s:=hs
 rw[h] at this
 injection this with this
 exact this ▸ hq
@[simp] theorem pu_move (C:Ctx) (x:Operand):yv C (.move x):=qN rfl
@[simp] theorem pu_assign (C:Ctx) (x:Operand):yv C (.assign x):=qN rfl
@[simp] theorem pu_pick (C:Ctx) (c a b:Operand):yv C (.pick c a b):=qN rfl
@[simp] theorem pu_load (C:Ctx) (t:TypeId) (x:Operand):yv C (.load t x):=qN rfl
@[simp] theorem pu_bin (C:Ctx) (o:BinOp) (t t2:TypeId) (x y:Operand):yv C (.binOp o t x y t2):=qN rfl
@[simp] theorem pu_un (C:Ctx) (o:UnOp) (t:TypeId) (x:Operand):yv C (.unOp o t x):=qN rfl
@[simp] theorem pu_conv (C:Ctx) (t u:TypeId) (x:Operand):yv C (.convert t u x):=qN rfl
@[simp] theorem pu_fa (C:Ctx) (t:TypeId) (x:Operand) (f:Nat):yv C (.fieldAddr t x f):=qN rfl
@[simp] theorem pu_fi (C:Ctx) (t:TypeId) (x:Operand) (f:Nat):yv C (.field t x f):=qN rfl
@[simp] theorem pu_ia (C:Ctx) (t:TypeId) (x i:Operand):yv C (.indexAddr t x i):=qN rfl
@[simp] theorem pu_ix (C:Ctx) (t:TypeId) (x i:Operand):yv C (.index t x i):=qN rfl
@[simp] theorem pu_ex (C:Ctx) (x:Operand) (i:Nat):yv C (.extract x i):=qN rfl
@[simp] theorem pu_sl (C:Ctx) (t:TypeId) (x:Operand) (lo hi:Option Operand):yv C (.slice t x lo hi none):=qN rfl
@[simp] theorem pu_len (C:Ctx) (a:Array Operand) (ts:Array TypeId):yv C (.call ⟨.builtin .len,a,ts⟩):=qN rfl
@[simp] theorem pu_min (C:Ctx) (a:Array Operand) (ts:Array TypeId):yv C (.call ⟨.builtin .min,a,ts⟩):=qN rfl
@[simp] theorem pu_max (C:Ctx) (a:Array Operand) (ts:Array TypeId):yv C (.call ⟨.builtin .max,a,ts⟩):=qN rfl
def bc {α:Type} (y:Bool) (a b:α):α:=match y with
 | true=>a
 | false=>b
@[simp] theorem bc_true {α:Type} (a b:α):bc true a b=a:=rfl
@[simp] theorem bc_false {α:Type} (a b:α):bc false a b=b:=rfl
@[simp] theorem bc_not {α:Type} (y:Bool) (a b:α):bc (!y) a b=bc y b a:=by cases y<;>rfl
@[simp] theorem bc_same {α:Type} (y:Bool) (a:α):bc y a a=a:=by cases y<;>rfl
def bx (y:Bool):Bool:=y
@[simp] theorem bx_true:bx true=true:=rfl
@[simp] theorem bx_false:bx false=false:=rfl
@[simp] theorem bc_bc1 {α:Type} (y:Bool) (a b c:α):bc y (bc y a b) c=bc y a c:=by cases y<;>rfl
@[simp] theorem bc_bc2 {α:Type} (y:Bool) (a b c:α):bc y a (bc y b c)=bc y a c:=by cases y<;>rfl
def gval (C:Ctx) (st:St) (op:Op) (y:Option Bool) (b:Bool):Option PV:=if y=some b then valA C st op else some (.tup [])
section
variable (C:Ctx) (d:Option Tmp) (op:Op) (st:St)
theorem Kk (y:Option Bool) (b:Bool) (h:yv C op):jE C d op st y b=(gval C st op y b).map fun x=>⟨put st.σ d x,st.hp,st.nx⟩:=by
 unfold jE gval
 rw[h st]
 split
 ·cases valA C st op<;>rfl
 ·rfl
@[simp low] theorem guard_lazy (y b:Bool) (h:yv C op):jE C d op st (some y) b=(gval C st op (some y) b).map fun x=>⟨put st.σ d x,st.hp,st.nx⟩:=Kk C d op st _ b h
@[simp] theorem guard_bc (y:Bool) (p q:Option Bool) (b:Bool) (h:yv C op):jE C d op st (bc y p q) b=(gval C st op (bc y p q) b).map fun x=>⟨put st.σ d x,st.hp,st.nx⟩:=Kk C d op st _ b h
@[simp] theorem gval_bc (y:Bool) (p q:Option Bool) (b:Bool):gval C st op (bc y p q) b=bc y (gval C st op p b) (gval C st op q b):=by cases y<;>rfl
@[simp] theorem gval_none (b:Bool):gval C st op none b=some (.tup []):=rfl
@[simp] theorem gval_t (y:Bool):gval C st op (some y) true=bc (bx y) (valA C st op) (some (.tup [])):=by cases y<;>rfl
@[simp] theorem gval_f (y:Bool):gval C st op (some y) false=bc (bx y) (some (.tup [])) (valA C st op):=by cases y<;>rfl
end
@[simp] theorem boolOf_bc (y:Bool) (a b:PV):WT (bc y a b)=bc y (WT a) (WT b):=by cases y<;>rfl
@[simp] theorem bc_some {α:Type} (y:Bool) (a b:α):bc y (some a) (some b)=some (bc y a b):=by cases y<;>rfl
@[simp] theorem pick_and (y z:Bool) (w:PV):ZU (some (.v (.bool y))) (some (bc (bx y) (.v (.bool z)) w)) (some (.v (.bool false)))=some (.v (.bool (y&&z))):=by cases y<;>rfl
@[simp] theorem pick_or (y z:Bool) (w:PV):ZU (some (.v (.bool y))) (some (.v (.bool true))) (some (bc (bx y) w (.v (.bool z))))=some (.v (.bool (y||z))):=by cases y<;>rfl
@[simp] theorem bc_deep1 {α:Type} (y q1:Bool) (a b d0 d1:α):bc y (bc q1 (bc y a b) d1) d0=bc y (bc q1 a d1) d0:=by cases y<;>rfl
@[simp] theorem bc_deep2 {α:Type} (y q1:Bool) (a b d0 d1:α):bc y (bc q1 d1 (bc y a b)) d0=bc y (bc q1 d1 a) d0:=by cases y<;>rfl
@[simp] theorem bc_deep3 {α:Type} (y q1:Bool) (a b d0 d1:α):bc y d0 (bc q1 (bc y a b) d1)=bc y d0 (bc q1 b d1):=by cases y<;>rfl
@[simp] theorem bc_deep4 {α:Type} (y q1:Bool) (a b d0 d1:α):bc y d0 (bc q1 d1 (bc y a b))=bc y d0 (bc q1 d1 b):=by cases y<;>rfl
@[simp] theorem bc_deep5 {α:Type} (y q1 q2:Bool) (a b d0 d1 d2:α):bc y (bc q1 (bc q2 (bc y a b) d2) d1) d0=bc y (bc q1 (bc q2 a d2) d1) d0:=by cases y<;>rfl
@[simp] theorem bc_deep6 {α:Type} (y q1 q2:Bool) (a b d0 d1 d2:α):bc y (bc q1 (bc q2 d2 (bc y a b)) d1) d0=bc y (bc q1 (bc q2 d2 a) d1) d0:=by cases y<;>rfl
@[simp] theorem bc_deep7 {α:Type} (y q1 q2:Bool) (a b d0 d1 d2:α):bc y (bc q1 d1 (bc q2 (bc y a b) d2)) d0=bc y (bc q1 d1 (bc q2 a d2)) d0:=by cases y<;>rfl
@[simp] theorem bc_deep8 {α:Type} (y q1 q2:Bool) (a b d0 d1 d2:α):bc y (bc q1 d1 (bc q2 d2 (bc y a b))) d0=bc y (bc q1 d1 (bc q2 d2 a)) d0:=by cases y<;>rfl
@[simp] theorem bc_deep9 {α:Type} (y q1 q2:Bool) (a b d0 d1 d2:α):bc y d0 (bc q1 (bc q2 (bc y a b) d2) d1)=bc y d0 (bc q1 (bc q2 b d2) d1):=by cases y<;>rfl
@[simp] theorem bc_deep10 {α:Type} (y q1 q2:Bool) (a b d0 d1 d2:α):bc y d0 (bc q1 (bc q2 d2 (bc y a b)) d1)=bc y d0 (bc q1 (bc q2 d2 b) d1):=by cases y<;>rfl
@[simp] theorem bc_deep11 {α:Type} (y q1 q2:Bool) (a b d0 d1 d2:α):bc y d0 (bc q1 d1 (bc q2 (bc y a b) d2))=bc y d0 (bc q1 d1 (bc q2 b d2)):=by cases y<;>rfl
@[simp] theorem bc_deep12 {α:Type} (y q1 q2:Bool) (a b d0 d1 d2:α):bc y d0 (bc q1 d1 (bc q2 d2 (bc y a b)))=bc y d0 (bc q1 d1 (bc q2 d2 b)):=by cases y<;>rfl
@[simp] theorem bc_deep13 {α:Type} (y q1 q2 q3:Bool) (a b d0 d1 d2 d3:α):bc y (bc q1 (bc q2 (bc q3 (bc y a b) d3) d2) d1) d0=bc y (bc q1 (bc q2 (bc q3 a d3) d2) d1) d0:=by cases y<;>rfl
@[simp] theorem bc_deep14 {α:Type} (y q1 q2 q3:Bool) (a b d0 d1 d2 d3:α):bc y (bc q1 (bc q2 (bc q3 d3 (bc y a b)) d2) d1) d0=bc y (bc q1 (bc q2 (bc q3 d3 a) d2) d1) d0:=by cases y<;>rfl
@[simp] theorem bc_deep15 {α:Type} (y q1 q2 q3:Bool) (a b d0 d1 d2 d3:α):bc y (bc q1 (bc q2 d2 (bc q3 (bc y a b) d3)) d1) d0=bc y (bc q1 (bc q2 d2 (bc q3 a d3)) d1) d0:=by cases y<;>rfl
@[simp] theorem bc_deep16 {α:Type} (y q1 q2 q3:Bool) (a b d0 d1 d2 d3:α):bc y (bc q1 (bc q2 d2 (bc q3 d3 (bc y a b))) d1) d0=bc y (bc q1 (bc q2 d2 (bc q3 d3 a)) d1) d0:=by cases y<;>rfl
@[simp] theorem bc_deep17 {α:Type} (y q1 q2 q3:Bool) (a b d0 d1 d2 d3:α):bc y (bc q1 d1 (bc q2 (bc q3 (bc y a b) d3) d2)) d0=bc y (bc q1 d1 (bc q2 (bc q3 a d3) d2)) d0:=by cases y<;>rfl
@[simp] theorem bc_deep18 {α:Type} (y q1 q2 q3:Bool) (a b d0 d1 d2 d3:α):bc y (bc q1 d1 (bc q2 (bc q3 d3 (bc y a b)) d2)) d0=bc y (bc q1 d1 (bc q2 (bc q3 d3 a) d2)) d0:=by cases y<;>rfl
@[simp] theorem bc_deep19 {α:Type} (y q1 q2 q3:Bool) (a b d0 d1 d2 d3:α):bc y (bc q1 d1 (bc q2 d2 (bc q3 (bc y a b) d3))) d0=bc y (bc q1 d1 (bc q2 d2 (bc q3 a d3))) d0:=by cases y<;>rfl
@[simp] theorem bc_deep20 {α:Type} (y q1 q2 q3:Bool) (a b d0 d1 d2 d3:α):bc y (bc q1 d1 (bc q2 d2 (bc q3 d3 (bc y a b)))) d0=bc y (bc q1 d1 (bc q2 d2 (bc q3 d3 a))) d0:=by cases y<;>rfl
@[simp] theorem bc_deep21 {α:Type} (y q1 q2 q3:Bool) (a b d0 d1 d2 d3:α):bc y d0 (bc q1 (bc q2 (bc q3 (bc y a b) d3) d2) d1)=bc y d0 (bc q1 (bc q2 (bc q3 b d3) d2) d1):=by cases y<;>rfl
@[simp] theorem bc_deep22 {α:Type} (y q1 q2 q3:Bool) (a b d0 d1 d2 d3:α):bc y d0 (bc q1 (bc q2 (bc q3 d3 (bc y a b)) d2) d1)=bc y d0 (bc q1 (bc q2 (bc q3 d3 b) d2) d1):=by cases y<;>rfl
@[simp] theorem bc_deep23 {α:Type} (y q1 q2 q3:Bool) (a b d0 d1 d2 d3:α):bc y d0 (bc q1 (bc q2 d2 (bc q3 (bc y a b) d3)) d1)=bc y d0 (bc q1 (bc q2 d2 (bc q3 b d3)) d1):=by cases y<;>rfl
@[simp] theorem bc_deep24 {α:Type} (y q1 q2 q3:Bool) (a b d0 d1 d2 d3:α):bc y d0 (bc q1 (bc q2 d2 (bc q3 d3 (bc y a b))) d1)=bc y d0 (bc q1 (bc q2 d2 (bc q3 d3 b)) d1):=by cases y<;>rfl
@[simp] theorem bc_deep25 {α:Type} (y q1 q2 q3:Bool) (a b d0 d1 d2 d3:α):bc y d0 (bc q1 d1 (bc q2 (bc q3 (bc y a b) d3) d2))=bc y d0 (bc q1 d1 (bc q2 (bc q3 b d3) d2)):=by cases y<;>rfl
@[simp] theorem bc_deep26 {α:Type} (y q1 q2 q3:Bool) (a b d0 d1 d2 d3:α):bc y d0 (bc q1 d1 (bc q2 (bc q3 d3 (bc y a b)) d2))=bc y d0 (bc q1 d1 (bc q2 (bc q3 d3 b) d2)):=by cases y<;>rfl
@[simp] theorem bc_deep27 {α:Type} (y q1 q2 q3:Bool) (a b d0 d1 d2 d3:α):bc y d0 (bc q1 d1 (bc q2 d2 (bc q3 (bc y a b) d3)))=bc y d0 (bc q1 d1 (bc q2 d2 (bc q3 b d3))):=by cases y<;>rfl
@[simp] theorem bc_deep28 {α:Type} (y q1 q2 q3:Bool) (a b d0 d1 d2 d3:α):bc y d0 (bc q1 d1 (bc q2 d2 (bc q3 d3 (bc y a b))))=bc y d0 (bc q1 d1 (bc q2 d2 (bc q3 d3 b))):=by cases y<;>rfl
section
variable (P:Program) (C:Ctx) (hp:Hp) (nx:Nat) (t u:TypeId) (y:Bool) (a b:PV)
@[simp] theorem load_bc:kP P hp t (bc y a b)=bc y (kP P hp t a) (kP P hp t b):=by cases y<;>rfl
@[simp] theorem bin_bc1 (o:BinOp) (x:PV):binA P o t (bc y a b) x=bc y (binA P o t a x) (binA P o t b x):=by cases y<;>rfl
@[simp] theorem bin_bc2 (o:BinOp) (x:PV):binA P o t x (bc y a b)=bc y (binA P o t x a) (binA P o t x b):=by cases y<;>rfl
@[simp] theorem binC_bc1 (c:Bool) (o:BinOp) (x:PV):binC c P o t (bc y a b) x=bc y (binC c P o t a x) (binC c P o t b x):=by cases y<;>rfl
@[simp] theorem binC_bc2 (c:Bool) (o:BinOp) (x:PV):binC c P o t x (bc y a b)=bc y (binC c P o t x a) (binC c P o t x b):=by cases y<;>rfl
@[simp] theorem un_bc (o:UnOp):unA o (bc y a b)=bc y (unA o a) (unA o b):=by cases y<;>rfl
@[simp] theorem conv_bc:JZ P t u (bc y a b)=bc y (JZ P t u a) (JZ P t u b):=by cases y<;>rfl
@[simp] theorem fieldAddr_bc (f:Nat):qD P t f (bc y a b)=bc y (qD P t f a) (qD P t f b):=by cases y<;>rfl
@[simp] theorem fieldVal_bc (f:Nat):jo P t f (bc y a b)=bc y (jo P t f a) (jo P t f b):=by cases y<;>rfl
@[simp] theorem indexAddr_bc1 (x:PV):zL P hp t (bc y a b) x=bc y (zL P hp t a x) (zL P hp t b x):=by cases y<;>rfl
@[simp] theorem indexAddr_bc2 (x:PV):zL P hp t x (bc y a b)=bc y (zL P hp t x a) (zL P hp t x b):=by cases y<;>rfl
@[simp] theorem index_bc1 (x:PV):vd P t (bc y a b) x=bc y (vd P t a x) (vd P t b x):=by cases y<;>rfl
@[simp] theorem index_bc2 (x:PV):vd P t x (bc y a b)=bc y (vd P t x a) (vd P t x b):=by cases y<;>rfl
@[simp] theorem len_bc:lenA P t (bc y a b)=bc y (lenA P t a) (lenA P t b):=by cases y<;>rfl
@[simp] theorem slice_bc1 (lo hi:Option (Option PV)):qS P hp t (bc y a b) lo hi=bc y (qS P hp t a lo hi) (qS P hp t b lo hi):=by cases y<;>rfl
@[simp] theorem slice_bc2 (x:PV) (hi:Option (Option PV)):qS P hp t x (some (some (bc y a b))) hi=bc y (qS P hp t x (some (some a)) hi) (qS P hp t x (some (some b)) hi):=by cases y<;>rfl
@[simp] theorem slice_bc3 (x:PV) (lo:Option (Option PV)):qS P hp t x lo (some (some (bc y a b)))=bc y (qS P hp t x lo (some (some a))) (qS P hp t x lo (some (some b))):=by cases y<;>rfl
@[simp] theorem extract_bc (i:Nat):xZ i (bc y a b)=bc y (xZ i a) (xZ i b):=by cases y<;>rfl
@[simp] theorem pick_bc1 (p q:Option PV):ZU (some (bc y a b)) p q=bc y (ZU (some a) p q) (ZU (some b) p q):=by cases y<;>rfl
@[simp low] theorem pick_bc2 (p q:Option PV):ZU p (some (bc y a b)) q=bc y (ZU p (some a) q) (ZU p (some b) q):=by cases y<;>rfl
@[simp low] theorem pick_bc3 (p q:Option PV):ZU p q (some (bc y a b))=bc y (ZU p q (some a)) (ZU p q (some b)):=by cases y<;>rfl
@[simp] theorem pure_bc1 (kill:Bool) (ns:List Nat) (F:List PV→Option PV) (l:List PV):zd kill ns F (bc y a b::l) hp nx=bc y (zd kill ns F (a::l) hp nx) (zd kill ns F (b::l) hp nx):=by cases y<;>rfl
@[simp] theorem pure_bc2 (kill:Bool) (ns:List Nat) (F:List PV→Option PV) (x:PV) (l:List PV):zd kill ns F (x::bc y a b::l) hp nx=bc y (zd kill ns F (x::a::l) hp nx) (zd kill ns F (x::b::l) hp nx):=by cases y<;>rfl
@[simp] theorem pure_bc3 (kill:Bool) (ns:List Nat) (F:List PV→Option PV) (x z:PV) (l:List PV):zd kill ns F (x::z::bc y a b::l) hp nx=bc y (zd kill ns F (x::z::a::l) hp nx) (zd kill ns F (x::z::b::l) hp nx):=by cases y<;>rfl
end
@[simp] theorem map_bc {α β:Type} (y:Bool) (f:α→β) (a b:Option α):(bc y a b).map f=bc y (a.map f) (b.map f):=by cases y<;>rfl
@[simp] theorem bind_bc {α β:Type} (y:Bool) (f:α→Option β) (a b:Option α):(bc y a b).bind f=bc y (a.bind f) (b.bind f):=by cases y<;>rfl
attribute [simp] valA
def zcL (k:Nat) (D:List (Tmp×Tmp)) (i:Nat):List (Tmp×Tmp):=if i=k then D else []
@[simp] theorem mkCtxD_dyn (P:Program) (l:Tab) (k:Nat) (D:List (Tmp×Tmp)) (i:Nat):(Qo P l (zcL k D)).dyn i=if i=k then D else []:=rfl
@[simp] theorem EvC_region_mkD (P:Program) (l:Tab) (k:Nat) (D:List (Tmp×Tmp)) (i:Nat) (ops:Array Oper) (d:Bool) (st:St) (K:Exit→St→Prop) (h:¬i=k):EvC (Qo P l (zcL k D)) (.region i ops d) st K=EvL (Qo P l (zcL k D)) ops ops.toList st (Yi K):=vk _ i ops d st K (by simp[h]) rfl
theorem Kl {a b:Tmp} {st:St} {id i j id' i' j':Nat} {blk:Blk} (h1:st.σ a=.ref id i j) (h2:st.σ b=.ref id' i' j') (h3:id≠id') (h4:st.hp id'=some blk) (h5:blk.arr=false):ZI [(a,b)] st:=by
 intro p hp
 obtain rfl:=List.mem_singleton.1 hp
 intro id0 i0 j0 e0
 rw[h1] at e0
 injection e0 with e0 _ _
 subst e0
 exact⟨id',i',j',blk,h2,h3,h4,h5⟩
theorem Vc {w:World} {S:Nat→Prop} {G:Nat→GI} {nx:Nat}:∀{us vs:List Value},(∀u∈us,lit u=true)→Zip (RepO w S G nx) (us.map PV.v) vs→vs=us
 | [],vs,_,h=>by
   have:=h.1
   simp at this
   exact List.length_eq_zero_iff.1 this.symm
 | u::us,vs,hl,h=>by
   obtain⟨v,vs',rfl,hv,hz⟩:=h.uncons
   rw[Vc (fun x hx=>hl x (by simp[hx])) hz]
   congr 1
   cases hv with
   | c hc=>exact hc.v_inv.1
theorem sound_scalar {P:Program} {g:FuncId} {F:List PV→Option PV} (hfn:∃fn,P.funcs[g]?=some fn∧(fn.name== "runtime.NumGoroutine")=false∧fn.body.isNone=false)
  (h:∀args r,F args=some r→∃us:List Value,args=us.map PV.v∧(∀u∈us,lit u=true)∧∃v,r=.v v∧lit v=true∧∀w,Calls P g us.toArray w fun e w'=>e=.returned v∧w'=w):za P g (zd false [] F):=by
 refine⟨hfn,?_⟩
 intro args hp nx r hp' nx' hs w S G vs hi hz
 unfold zd at hs
 split at hs
 ·rename_i aZ hp1 hfr
  split at hs
  ·rename_i r0 hF
   obtain⟨us,e,hl,v,rfl,hv,hc⟩:=h _ _ hF
   have e':qc [] aZ=aZ:=by cases aZ<;>rfl
   rw[e'] at e
   subst e
   have hargs:args=us.map PV.v:=by
    have key:∀(args:List PV) (us:List Value) (hp1:Hp),zj hp args=some (us.map PV.v,hp1)→args=us.map PV.v:=by
     intro args
     induction args with
     | nil=>intro us hp1 hh;simp only[zj] at hh;injection hh with hh;injection hh with hh _
     | cons x l ih =>
       intro us hp1 hh
       simp only[zj] at hh
       split at hh
       ·rename_i y hp2 hy
        split at hh
        ·rename_i r2 hp3 hr2
         injection hh with hh
         injection hh with hh _
         cases us with
         | nil=>simp at hh
         | cons u us =>
           simp only[List.map_cons,List.cons.injEq] at hh
           obtain⟨rfl,rfl⟩:=hh
           have hx:x=.v u∧hp2=hp:=by
            unfold zK at hy
            split at hy
            ·split at hy
             ·injection hy with hy;injection hy with hy _;cases hy
             ·cases hy
            ·unfold qM at hy
             split at hy<;>first
              | (split at hy<;>first | (split at hy<;>first | (injection hy with hy;injection hy with hy _;cases hy;done) | cases hy) | cases hy)
              | (injection hy with hy;injection hy with h1 h2;first | (exact⟨by rw[←h1],h2.symm⟩) | cases h1)
              | cases hy
           obtain⟨rfl,rfl⟩:=hx
           rw[ih us hp3 hr2]
           rfl
        ·cases hh
       ·cases hh
    exact key args us hp1 hfr
   subst hargs
   simp only[PV.flat,true_or,if_true] at hs
   injection hs with hs
   injection hs with h1 h2
   injection h2 with h2 h3
   subst h1;subst h2;subst h3
   rw[Vc hl hz]
   refine (hc w).mono fun e w' hh=>?_
   obtain⟨rfl,rfl⟩:=hh
   exact⟨v,S,G,rfl,Stp.refl hi,.c (.v hv)⟩
  ·cases hs
 ·cases hs
theorem ZV:∀(l cs:List PV) (off:Nat),off+l.length≤cs.length→qO cs off l=cs.take off++l++cs.drop (off+l.length)
 | [],cs,off,_=>by simp
 | x::l,cs,off,h=>by
   simp only[List.length_cons] at h
   rw[qO,ZV l (cs.set off x) (off+1) (by simp;omega)]
   have e1:(cs.set off x).take (off+1)=cs.take off++[x]:=by
    rw[List.take_succ_eq_append_getElem (by simp;omega)]
    have e0:(cs.set off x).take off=cs.take off:=by
     apply List.ext_getElem?
     intro j
     simp only[List.getElem?_take,List.getElem?_set]
     by_cases hj:j<off
     ·simp[hj,show ¬off=j by omega]
     ·simp[hj]
    rw[e0]
    simp
   have e2:(cs.set off x).drop (off+1+l.length)=cs.drop (off+(x::l).length):=by
    rw[List.drop_set_of_lt (by omega)]
    simp only[List.length_cons]
    congr 1
    omega
   rw[e1,e2]
   simp
@[simp] theorem setCells_whole (z cs:List PV) (h:cs.length=z.length):qO z 0 cs=cs:=by
 rw[ZV cs z 0 (by omega)]
 simp[h]
@[simp] theorem setCells_tail (x:PV) (z cs:List PV) (h:cs.length=z.length):qO (x::z) 1 cs=x::cs:=by
 rw[ZV cs (x::z) 1 (by simp;omega)]
 simp[show 1+cs.length=z.length+1 by omega]
end Go.AM
namespace Go.Proofs
open Go.Shelf
def Tryz.lays213_ren:Go.Shelf.Ren:=⟨fun | 213=>154 | 265=>224 | n=>n,fun | 9=>9 | 3=>3 | n=>n,fun | n=>n⟩
theorem Tryz.lays213:Go.Proofs.Lays.n213 prog Tryz.lays213_ren:={
 mixed:=by kernel_rfl
 f213:=func154.trans (congrArg some (by kernel_rfl))
 f265:=func224.trans (congrArg some (by kernel_rfl))
 t3:=underlying3
 a3:=isAgg3
 z3:=sizeOf3
 v3:=zeroValue3
 t9:=underlying9
 a9:=isAgg9
 z9:=sizeOf9
 v9:=zeroValue9 }
open Go.RowKit in
theorem Tryz.bytealg_CompareString (a b:ByteArray) (w:World) :
  Calls prog 154 #[.string a,.string b] w fun e w'=>e=.returned (.int .i64 (Lib.compareBytes a.data.toList b.data.toList))∧w'=w:=Any.bytealg_CompareString Tryz.lays213 a b w
end Go.Proofs
namespace Go.Proofs.YtdkfdoeijcfbhaaGreatDoor
open Go.Proofs.Tryz
open Go.RowKit Go.AM
abbrev int (n:Int):PV:=.v (.int .i64 n)
abbrev boo (b:Bool):PV:=.v (.bool b)
abbrev byte (c:UInt8):PV:=.v (.int .u8 c.toNat)
abbrev lim:Nat:=1048576
theorem mixed:prog.follows .mixedOrders=true:=by kernel_rfl
noncomputable abbrev C0:Ctx:=zF prog []
theorem qA:AM.Good C0 (fun g=>([]:List Nat).contains g):=zk mixed trivial
def F3 (f:Int→Int→Int→Bool):List PV→Option PV
 | [.v (.int .i64 a),.v (.int .i64 b),.v (.int .i64 c)]=>some (.v (.bool (f a b c)))
 | _=>none
def F1b (f:Int→Bool):List PV→Option PV
 | [.v (.int .u8 a)]=>some (.v (.bool (f a)))
 | _=>none
def inB (n a b:Int):Bool:=decide (a≤n)&&decide (n≤b)
def J6 (n:Int):Bool:=decide (97≤n)&&decide (n≤122)||decide (48≤n)&&decide (n≤57)||n==45||n==95
@[simp] theorem F3_call (f:Int→Int→Int→Bool) (a b c:Int) (hp:Hp) (nx:Nat):zd false [] (F3 f) [.v (.int .i64 a),.v (.int .i64 b),.v (.int .i64 c)] hp nx=some (.v (.bool (f a b c)),hp,nx):=zy rfl rfl (.inl rfl)
@[simp] theorem F1b_call (f:Int→Bool) (a:Int) (hp:Hp) (nx:Nat):zd false [] (F1b f) [.v (.int .u8 a)] hp nx=some (.v (.bool (f a)),hp,nx):=zy rfl rfl (.inl rfl)
theorem Xj {f:Int→Int→Int→Bool} {args:List PV} {r:PV} (h:F3 f args=some r):∃a b c,args=[int a,int b,int c]∧r=boo (f a b c):=by
 unfold F3 at h
 split at h
 ·injection h with h;exact⟨_,_,_,rfl,h.symm⟩
 ·cases h
theorem zar {f:Int→Bool} {args:List PV} {r:PV} (h:F1b f args=some r):∃a,args=[.v (.int .u8 a)]∧r=boo (f a):=by
 unfold F1b at h
 split at h
 ·injection h with h;exact⟨_,rfl,h.symm⟩
 ·cases h
theorem jr:za prog 49 (zd false [] (F3 inB)) :=
 zI (fn:=f49) qA ⟨_,func49,by kernel_rfl,rfl,by kernel_rfl⟩ false [] _ fun args r h=>by
  obtain⟨a,b,c,rfl,rfl⟩:=Xj h
  exact⟨by simp[f49],_,zb rfl (by simp[f49,inB]),zG _⟩
theorem yN:za prog 202 (zd false [] (F3 inB)) :=
 zI (fn:=f202) qA ⟨_,func202,by kernel_rfl,rfl,by kernel_rfl⟩ false [] _ fun args r h=>by
  obtain⟨a,b,c,rfl,rfl⟩:=Xj h
  exact⟨by simp[f202],_,zb rfl (by simp[f202,inB]),zG _⟩
theorem isWord_sound:za prog 84 (zd false [] (F1b J6)) :=
 zI (fn:=f84) qA ⟨_,func84,by kernel_rfl,rfl,by kernel_rfl⟩ false [] _ fun args r h=>by
  obtain⟨a,rfl,rfl⟩:=zar h
  exact⟨by simp[f84],_,zb rfl (by simp[f84,J6]),zG _⟩
theorem wordByte_sound:za prog 143 (zd false [] (F1b J6)) :=
 zI (fn:=f143) qA ⟨_,func143,by kernel_rfl,rfl,by kernel_rfl⟩ false [] _ fun args r h=>by
  obtain⟨a,rfl,rfl⟩:=zar h
  exact⟨by simp[f143],_,zb rfl (by simp[f143,J6]),zG _⟩
noncomputable def FS (f:List UInt8→Bool):List PV→Option PV:=zH (α:=List UInt8) (fun l=>[str l]) (fun l=>l.length≤lim) (fun l=>boo (f l))
@[simp] theorem wV (f:List UInt8→Bool) (l:List UInt8) (hp:Hp) (nx:Nat) (h:l.length≤lim):zd false [] (FS f) [str l] hp nx=some (boo (f l),hp,nx) :=
 zy rfl (zm (enc:=fun l:List UInt8=>[str l]) (a:=l) (fun a b e=>by simp only[List.cons.injEq,and_true] at e;exact zV e) h) (.inl rfl)
def pr (a b:Nat) (c:UInt8):Bool:=decide (a≤c.toNat)&&decide (c.toNat≤b)
theorem WV (a b:Nat) (c:UInt8):(decide ((c.toNat:Int)<a)||decide ((b:Int)<c.toNat))=!pr a b c:=by
 rw[Bool.eq_iff_iff];simp[pr]
def zS (a b:Nat) (l:List UInt8):Bool:=l.all (pr a b)
def WW (l:List UInt8):Bool:=zS 33 126 l&&inB l.length 1 100
def kF (l:List UInt8):Bool:=l.all fun c=>J6 c.toNat
def xv (l:List UInt8):Bool:=kF l&&!(l==[])
def zcs:List UInt8→Bool
 | []=>false
 | c::_=>decide ((97:Int)≤c.toNat)&&decide ((c.toNat:Int)≤(122:Int))
def qj (l:List UInt8):Bool:=inB l.length 1 40&&zcs l&&kF l
noncomputable abbrev C1:Ctx:=zF prog [(49,zd false [] (F3 inB)),(84,zd false [] (F1b J6)),(202,zd false [] (F3 inB)),(143,zd false [] (F1b J6))]
abbrev q1:List Nat:=[49,84,202,143]
theorem zcO:AM.Good C1 (fun g=>q1.contains g):=zk mixed ⟨jr,fun _=>zh _ _,isWord_sound,fun _=>zh _ _,yN,fun _=>zh _ _,wordByte_sound,fun _=>zh _ _,trivial⟩
theorem Yn {l:List UInt8} {p:UInt8→Bool} {k:Nat} (h:k<l.length):(l.drop k).all p=(p l[k]&&(l.drop (k+1)).all p):=by rw[List.drop_eq_getElem_cons h,List.all_cons]
theorem yF {a b:Nat} {l:List UInt8} {k:Nat} (h:k<l.length):zS a b (l.drop k)=(pr a b l[k]&&zS a b (l.drop (k+1))):=Yn h
theorem YU {l:List UInt8} {k:Nat} (h:k<l.length):kF (l.drop k)=(J6 l[k].toNat&&kF (l.drop (k+1))):=Yn h
@[simp] theorem bytesIn_nil (a b:Nat):zS a b []=true:=rfl
@[simp] theorem wordsB_nil:kF []=true:=rfl
theorem seen_eval (l:List UInt8) (hl:l.length≤lim):zi C1 f182 [str l]=some (boo (zS 32 126 l)):=by
 refine zb rfl ?_
 unfold lim at hl
 simp
 refine zq (fun k σ hp nx=>σ 0=str l∧σ 5=int l.length∧σ 6=int k∧zS 32 126 l=zS 32 126 (l.drop k)) l.length ⟨by simp,by simp,by simp,by simp⟩ ?_
 rintro k σ hp nx hk ⟨h0,h5,h6,he⟩
 by_cases hlt:k<l.length
 ·have hw:IntKind.i64.wrap ((k:Int)+1)=(k:Int)+1:=zc (by omega) (by omega)
  rw[yF hlt] at he
  have ho:=WV 32 126 l[k]
  simp only[Int.cast_ofNat_Int] at ho
  cases hc:pr 32 126 l[k]
  ·have he:zS 32 126 l=false:=by rw[he,hc];rfl
   simp[h0,h5,h6,hlt,he,ho,hc,f182]
  ·simp[h0,h5,h6,hlt,ho,hc,hw]
   exact⟨hlt,by rw[he,hc];rfl⟩
 ·obtain rfl:k=l.length:=by omega
  have he:zS 32 126 l=true:=by rw[he,List.drop_length];rfl
  simp[h0,h5,h6,he,f182]
theorem printable_eval (l:List UInt8) (hl:l.length≤lim):zi C1 f203 [str l]=some (boo (zS 32 126 l)):=by
 refine zb rfl ?_
 unfold lim at hl
 simp
 refine zq (fun k σ hp nx=>σ 0=str l∧σ 5=int l.length∧σ 6=int k∧zS 32 126 l=zS 32 126 (l.drop k)) l.length ⟨by simp,by simp,by simp,by simp⟩ ?_
 rintro k σ hp nx hk ⟨h0,h5,h6,he⟩
 by_cases hlt:k<l.length
 ·have hw:IntKind.i64.wrap ((k:Int)+1)=(k:Int)+1:=zc (by omega) (by omega)
  rw[yF hlt] at he
  have ho:=WV 32 126 l[k]
  simp only[Int.cast_ofNat_Int] at ho
  cases hc:pr 32 126 l[k]
  ·have he:zS 32 126 l=false:=by rw[he,hc];rfl
   simp[h0,h5,h6,hlt,he,ho,hc,f203]
  ·simp[h0,h5,h6,hlt,ho,hc,hw]
   exact⟨hlt,by rw[he,hc];rfl⟩
 ·obtain rfl:k=l.length:=by omega
  have he:zS 32 126 l=true:=by rw[he,List.drop_length];rfl
  simp[h0,h5,h6,he,f203]
theorem isKey_eval (l:List UInt8) (hl:l.length≤lim):zi C1 f322 [str l]=some (boo (WW l)):=by
 refine zb rfl ?_
 unfold lim at hl
 simp
 refine zq (fun k σ hp nx=>σ 0=str l∧σ 5=int l.length∧σ 6=int k∧zS 33 126 l=zS 33 126 (l.drop k)) l.length ⟨by simp,by simp,by simp,by simp⟩ ?_
 rintro k σ hp nx hk ⟨h0,h5,h6,he⟩
 by_cases hlt:k<l.length
 ·have hw:IntKind.i64.wrap ((k:Int)+1)=(k:Int)+1:=zc (by omega) (by omega)
  rw[yF hlt] at he
  have ho:=WV 33 126 l[k]
  simp only[Int.cast_ofNat_Int] at ho
  cases hc:pr 33 126 l[k]
  ·have he:zS 33 126 l=false:=by rw[he,hc];rfl
   simp[h0,h5,h6,hlt,he,ho,hc,WW,f322]
  ·simp[h0,h5,h6,hlt,ho,hc,hw]
   exact⟨hlt,by rw[he,hc];rfl⟩
 ·obtain rfl:k=l.length:=by omega
  have he:zS 33 126 l=true:=by rw[he,List.drop_length];rfl
  simp[h0,h5,h6,he,WW,f322]
theorem rIsWord_eval (l:List UInt8) (hl:l.length≤lim):zi C1 f90 [str l]=some (boo (xv l)):=by
 refine zb rfl ?_
 unfold lim at hl
 simp
 refine zq (fun k σ hp nx=>σ 0=str l∧σ 5=int l.length∧σ 6=int k∧kF l=kF (l.drop k)) l.length ⟨by simp,by simp,by simp,by simp⟩ ?_
 rintro k σ hp nx hk ⟨h0,h5,h6,he⟩
 by_cases hlt:k<l.length
 ·have hw:IntKind.i64.wrap ((k:Int)+1)=(k:Int)+1:=zc (by omega) (by omega)
  rw[YU hlt] at he
  cases hc:J6 l[k].toNat
  ·have he:kF l=false:=by rw[he,hc];rfl
   simp[h0,h5,h6,hlt,he,hc,xv,f90]
  ·simp[h0,h5,h6,hlt,hc,hw]
   exact⟨hlt,by rw[he,hc];rfl⟩
 ·obtain rfl:k=l.length:=by omega
  have he:kF l=true:=by rw[he,List.drop_length];rfl
  simp[h0,h5,h6,he,xv,f90]
theorem isName_eval (l:List UInt8) (hl:l.length≤lim):zi C1 f51 [str l]=some (boo (qj l)):=by
 refine zb rfl ?_
 unfold lim at hl
 cases hn:inB l.length 1 40
 ·simp[hn,qj,f51]
 have hpos:0<l.length:=by simp[inB] at hn;omega
 have hh:zcs l=(decide ((97:Int)≤l[0].toNat)&&decide ((l[0].toNat:Int)≤(122:Int))):=by
  cases l with
  | nil=>simp at hpos
  | cons c l=>rfl
 have hf:(decide ((l[0].toNat:Int)<(97:Int))||decide ((122:Int)<l[0].toNat))=!zcs l:=by rw[hh,Bool.eq_iff_iff];simp
 cases hb:zcs l
 ·simp[hn,hpos,hf,hb,qj,f51]
 simp[hn,hpos,hf,hb]
 refine zq (fun k σ hp nx=>σ 0=str l∧σ 19=int l.length∧σ 20=int k∧kF l=kF (l.drop k)) l.length ⟨by simp,by simp,by simp,by simp⟩ ?_
 rintro k σ hp nx hk ⟨h0,h5,h6,he⟩
 by_cases hlt:k<l.length
 ·have hw:IntKind.i64.wrap ((k:Int)+1)=(k:Int)+1:=zc (by omega) (by omega)
  rw[YU hlt] at he
  cases hc:J6 l[k].toNat
  ·have he:kF l=false:=by rw[he,hc];rfl
   simp[h0,h5,h6,hlt,he,hc,qj,f51]
  ·simp[h0,h5,h6,hlt,hc,hw]
   exact⟨hlt,by rw[he,hc];rfl⟩
 ·obtain rfl:k=l.length:=by omega
  have he:kF l=true:=by rw[he,List.drop_length];rfl
  simp[h0,h5,h6,he,hn,hb,qj,f51]
theorem Km:za prog 182 (zd false [] (FS (zS 32 126))) :=
 zI (fn:=f182) zcO ⟨_,func182,by kernel_rfl,rfl,by kernel_rfl⟩ false [] _ fun args r h=>by
  obtain⟨l,rfl,hp,rfl⟩:=ze h
  exact⟨by simp[f182],_,seen_eval l hp,zG _⟩
theorem kh:za prog 203 (zd false [] (FS (zS 32 126))) :=
 zI (fn:=f203) zcO ⟨_,func203,by kernel_rfl,rfl,by kernel_rfl⟩ false [] _ fun args r h=>by
  obtain⟨l,rfl,hp,rfl⟩:=ze h
  exact⟨by simp[f203],_,printable_eval l hp,zG _⟩
theorem YV:za prog 322 (zd false [] (FS WW)) :=
 zI (fn:=f322) zcO ⟨_,func322,by kernel_rfl,rfl,by kernel_rfl⟩ false [] _ fun args r h=>by
  obtain⟨l,rfl,hp,rfl⟩:=ze h
  exact⟨by simp[f322],_,isKey_eval l hp,zG _⟩
theorem rIsWord_sound:za prog 90 (zd false [] (FS xv)) :=
 zI (fn:=f90) zcO ⟨_,func90,by kernel_rfl,rfl,by kernel_rfl⟩ false [] _ fun args r h=>by
  obtain⟨l,rfl,hp,rfl⟩:=ze h
  exact⟨by simp[f90],_,rIsWord_eval l hp,zG _⟩
theorem kG:za prog 51 (zd false [] (FS qj)) :=
 zI (fn:=f51) zcO ⟨_,func51,by kernel_rfl,rfl,by kernel_rfl⟩ false [] _ fun args r h=>by
  obtain⟨l,rfl,hp,rfl⟩:=ze h
  exact⟨by simp[f51],_,isName_eval l hp,zG _⟩
noncomputable abbrev C2:Ctx:=zF prog [(182,zd false [] (FS (zS 32 126))),(203,zd false [] (FS (zS 32 126))),(322,zd false [] (FS WW)),(90,zd false [] (FS xv)),(51,zd false [] (FS qj)),(49,zd false [] (F3 inB)),(202,zd false [] (F3 inB))]
abbrev q2:List Nat:=[182,203,322,90,51,49,202]
theorem good2:AM.Good C2 (fun g=>q2.contains g):=zk mixed ⟨Km,fun _=>zh _ _,kh,fun _=>zh _ _,YV,fun _=>zh _ _,rIsWord_sound,fun _=>zh _ _,kG,fun _=>zh _ _,jr,fun _=>zh _ _,yN,fun _=>zh _ _,trivial⟩
theorem wordsB1_name (l:List UInt8) (h:0<l.length):(xv l&&decide ((l.length:Int)≤40)&&decide ((97:Int)≤l[0].toNat)&&decide ((l[0].toNat:Int)≤(122:Int)))=qj l:=by
 cases l with
 | nil=>simp at h
 | cons c l =>
   unfold xv qj
   generalize kF (c::l)=w
   rw[Bool.eq_iff_iff]
   cases w<;>simp[inB,zcs]<;>omega
theorem rIsName_eval (l:List UInt8) (hl:l.length≤lim):zi C2 f57 [str l]=some (boo (qj l)):=by
 refine zb rfl ?_
 cases l with
 | nil=>simp[f57,xv,qj,zcs]
 | cons c l =>
   have hpos:0<(c::l).length:=by simp
   have:=wordsB1_name (c::l) hpos
   generalize hm:c::l=m at *
   simp[hl,hpos,f57,this]
theorem vO:za prog 57 (zd false [] (FS qj)) :=
 zI (fn:=f57) good2 ⟨_,func57,by kernel_rfl,rfl,by kernel_rfl⟩ false [] _ fun args r h=>by
  obtain⟨l,rfl,hp,rfl⟩:=ze h
  exact⟨by simp[f57],_,rIsName_eval l hp,zG _⟩
inductive Val where
 | mk (kind n:Int) (s:List UInt8) (items:List Val) (fields:List (List UInt8×Val))
namespace Val
def kind:Val→Int | .mk k _ _ _ _=>k
def n:Val→Int | .mk _ n _ _ _=>n
def s:Val→List UInt8 | .mk _ _ s _ _=>s
def items:Val→List Val | .mk _ _ _ l _=>l
def fields:Val→List (List UInt8×Val) | .mk _ _ _ _ l=>l
end Val
theorem Val.ind {P:Val→Prop} (h:∀k n s is fs,(∀x∈is,P x)→(∀f∈fs,P f.2)→P (.mk k n s is fs)) (v:Val):P v :=
 Val.rec (motive_1:=P) (motive_2:=fun l=>∀x∈l,P x) (motive_3:=fun l=>∀f∈l,P f.2) (motive_4:=fun f=>P f.2) (fun k n s is fs h1 h2=>h k n s is fs h1 h2)
  (by simp) (fun x l hx hl y hy=>by rcases List.mem_cons.1 hy with rfl | hy;(first | exact hx | exact hl y hy);(first | exact hx | exact hl y hy)) (by simp) (fun x l hx hl y hy=>by rcases List.mem_cons.1 hy with rfl | hy;(first | exact hx | exact hl y hy);(first | exact hx | exact hl y hy)) (fun a v hv=>hv) v
mutual
def Val.enc:Val→List PV
 | .mk k n s is fs=>[int k,int n,str s,.sl 5 (encVs is),.sl 6 (encFs fs)]
def encVs:List Val→List (List PV)
 | []=>[]
 | v::l=>v.enc::encVs l
def encFs:List (List UInt8×Val)→List (List PV)
 | []=>[]
 | (a,v)::l=>(str a::v.enc)::encFs l
end
abbrev encF (f:List UInt8×Val):List PV:=str f.1::f.2.enc
theorem Xk:∀l:List Val,encVs l=l.map Val.enc
 | []=>rfl
 | v::l=>by simp[encVs,Xk l]
theorem Xl:∀l:List (List UInt8×Val),encFs l=l.map encF
 | []=>rfl
 | (a,v)::l=>by simp[encFs,Xl l]
theorem vo (v:Val):v.enc=[int v.kind,int v.n,str v.s,.sl 5 (v.items.map Val.enc),.sl 6 (v.fields.map encF)]:=by
 cases v with
 | mk k n s is fs=>simp[Val.enc,Xk,Xl,Val.kind,Val.n,Val.s,Val.items,Val.fields]
@[simp] theorem enc_length (v:Val):v.enc.length=5:=by rw[vo];rfl
@[simp] theorem enc_cells (v:Val):v.enc.all PV.isCell=true:=by rw[vo];rfl
@[simp] theorem enc_cells' (v:Val):(∀x,x∈v.enc→PV.isCell x=true)=True:=by
 have:=enc_cells v
 rw[List.all_eq_true] at this
 exact eq_true this
@[simp] theorem enc_take (v:Val):v.enc.take 5=v.enc:=List.take_of_length_le (by simp)
@[simp] theorem enc_0 (v:Val) (h:0<v.enc.length):v.enc[0]=int v.kind:=by simp[vo v]
@[simp] theorem enc_1 (v:Val) (h:1<v.enc.length):v.enc[1]=int v.n:=by simp[vo v]
@[simp] theorem enc_2 (v:Val) (h:2<v.enc.length):v.enc[2]=str v.s:=by simp[vo v]
@[simp] theorem enc_3 (v:Val) (h:3<v.enc.length):v.enc[3]=.sl 5 (v.items.map Val.enc):=by simp[vo v]
@[simp] theorem enc_4 (v:Val) (h:4<v.enc.length):v.enc[4]=.sl 6 (v.fields.map encF):=by simp[vo v]
theorem x0 {α β:Type} {f:α→β}:∀{xs ys:List α},(∀x∈xs,∀y,f x=f y→x=y)→xs.map f=ys.map f→xs=ys
 | [],[],_,_=>rfl
 | [],y::ys,_,e=>by simp at e
 | x::xs,[],_,e=>by simp at e
 | x::xs,y::ys,h,e=>by
   simp only[List.map_cons,List.cons.injEq] at e
   rw[h x (by simp) y e.1,x0 (fun z hz=>h z (by simp[hz])) e.2]
theorem ZW:∀{a b:Val},a.enc=b.enc→a=b:=by
 intro a
 induction a using Val.ind with
 | h k n s is fs h1 h2 =>
   intro b e
   cases b with
   | mk k' n' s' is' fs' =>
     simp only[vo,Val.kind,Val.n,Val.s,Val.items,Val.fields,List.cons.injEq,and_true] at e
     obtain⟨e1,e2,e3,e4,e5⟩:=e
     obtain rfl:=zB e1
     obtain rfl:=zB e2
     obtain rfl:=zV e3
     injection e4 with _ e4
     injection e5 with _ e5
     obtain rfl:=x0 (fun x hx y=>h1 x hx) e4
     obtain rfl:=x0 (fun x hx y e=>by
      simp only[encF,List.cons.injEq] at e
      exact Prod.ext (zV e.1) (h2 x hx e.2)) e5
     rfl
mutual
def Val.vb:Val→Nat
 | .mk _ _ s is fs=>1+s.length+vbs is+fbs fs
def vbs:List Val→Nat
 | []=>0
 | v::l=>v.vb+vbs l
def fbs:List (List UInt8×Val)→Nat
 | []=>0
 | (a,v)::l=>a.length+v.vb+fbs l
end
theorem ZX (v:Val):v.vb=1+v.s.length+vbs v.items+fbs v.fields:=by cases v;rfl
theorem WX (v:Val):0<v.vb:=by rw[ZX];omega
theorem yA:∀{l:List Val} {x:Val},x∈l→x.vb≤vbs l
 | y::l,x,h=>by
   simp only[vbs]
   rcases List.mem_cons.1 h with rfl | h
   ·omega
   ·have:=yA h;omega
theorem ki:∀{l:List (List UInt8×Val)} {x:List UInt8×Val},x∈l→x.1.length+x.2.vb≤fbs l
 | (a,y)::l,x,h=>by
   simp only[fbs]
   rcases List.mem_cons.1 h with rfl | h
   ·simp only;omega
   ·have:=ki h;omega
theorem wp:∀l:List Val,l.length≤vbs l
 | []=>by simp[vbs]
 | v::l=>by have:=wp l;have:=WX v;simp only[vbs,List.length_cons];omega
theorem wT:∀l:List (List UInt8×Val),l.length≤fbs l
 | []=>by simp[fbs]
 | (a,v)::l=>by have:=wT l;have:=WX v;simp only[fbs,List.length_cons];omega
noncomputable def FV (out:Val→PV) (n:Nat):List PV→Option PV:=zH (α:=Val) (fun v=>[.agg v.enc]) (fun v=>v.vb≤lim∧v.vb≤n) out
theorem FV_eq (out:Val→PV) (n:Nat) (v:Val) (h:v.vb≤lim∧v.vb≤n):FV out n [.agg v.enc]=some (out v) :=
 zm (enc:=fun v:Val=>[.agg v.enc]) (a:=v) (fun a b e=>by simp only[List.cons.injEq,and_true,PV.agg.injEq] at e;exact ZW e) h
@[simp] theorem freezeCells_enc (hp:Hp) (v:Val):qB hp v.enc=some (v.enc,hp):=by rw[vo];simp
theorem Za (hp:Hp) (v:Val):zK hp (.agg v.enc)=some (.agg v.enc,hp):=by
 rw[vo]
 simp
theorem Xm (v:Val):PV.noOwn (.agg v.enc)=true:=by
 rw[vo]
 simp
theorem Wo (out:Val→PV) (n:Nat) (v:Val) (hp:Hp) (nx:Nat) (h:v.vb≤lim∧v.vb≤n):zd false [] (FV out n) [.agg v.enc] hp nx=some (out v,hp,nx) :=
 zy (hp1:=hp) (show zj hp [.agg v.enc]=some ([.agg v.enc],hp) by simp only[zj,Za]) (FV_eq out n v h) (.inr (by simp only[List.all_cons,Xm,List.all_nil,Bool.and_self]))
mutual
def Val.parts:Val→Nat
 | .mk _ _ _ is fs=>1+partsV is+partsF fs
def partsV:List Val→Nat
 | []=>0
 | v::l=>v.parts+partsV l
def partsF:List (List UInt8×Val)→Nat
 | []=>0
 | (_,v)::l=>v.parts+partsF l
end
mutual
def Val.levels:Val→Nat
 | .mk _ _ _ is fs=>max (levelsV is) (levelsF fs)+1
def levelsV:List Val→Nat
 | []=>0
 | v::l=>max v.levels (levelsV l)
def levelsF:List (List UInt8×Val)→Nat
 | []=>0
 | (_,v)::l=>max v.levels (levelsF l)
end
theorem za5 (v:Val):v.parts=1+partsV v.items+partsF v.fields:=by cases v;rfl
theorem Xn (v:Val):v.levels=max (levelsV v.items) (levelsF v.fields)+1:=by cases v;rfl
theorem Ve (v:Val):v.parts≤v.vb:=by
 induction v using Val.ind with
 | h k n s is fs h1 h2 =>
   have a:∀l:List Val,(∀x∈l,x.parts≤x.vb)→partsV l≤vbs l:=by
    intro l
    induction l with
    | nil=>simp[partsV]
    | cons v l ih=>intro h;have:=h v (by simp);have:=ih fun x hx=>h x (by simp[hx]);simp only[partsV,vbs];omega
   have b:∀l:List (List UInt8×Val),(∀x∈l,x.2.parts≤x.2.vb)→partsF l≤fbs l:=by
    intro l
    induction l with
    | nil=>simp[partsF]
    | cons v l ih=>intro h;have:=h v (by simp);have:=ih fun x hx=>h x (by simp[hx]);obtain⟨a,v⟩:=v;simp only[partsF,fbs];simp only at *;omega
   have:=a is h1
   have:=b fs h2
   simp only[Val.parts,Val.vb]
   omega
theorem Xo (v:Val):v.levels≤v.parts:=by
 induction v using Val.ind with
 | h k n s is fs h1 h2 =>
   have a:∀l:List Val,(∀x∈l,x.levels≤x.parts)→levelsV l≤partsV l:=by
    intro l
    induction l with
    | nil=>simp[levelsV]
    | cons v l ih=>intro h;have:=h v (by simp);have:=ih fun x hx=>h x (by simp[hx]);simp only[levelsV,partsV];omega
   have b:∀l:List (List UInt8×Val),(∀x∈l,x.2.levels≤x.2.parts)→levelsF l≤partsF l:=by
    intro l
    induction l with
    | nil=>simp[levelsF]
    | cons v l ih=>intro h;have:=h v (by simp);have:=ih fun x hx=>h x (by simp[hx]);obtain⟨a,v⟩:=v;simp only[levelsF,partsF];simp only at *;omega
   have:=a is h1
   have:=b fs h2
   simp only[Val.parts,Val.levels]
   omega
noncomputable abbrev Cc (n:Nat):Ctx:=Qo prog [(129,zd false [] (FV (fun v=>.tup [int v.parts,int v.levels]) n))] (zcL 2 [(2,1)])
theorem wK {C:Ctx} {fn:Func} {code:Code} {args:List PV} {hp:Hp} {nx:Nat} {x:PV} {hp':Hp} {nx':Nat} (hb:fn.body=some code)
  (h:EvC C code ⟨yE args,hp,nx⟩ (retK C.P fn (fun y h m=>y=x∧h=hp'∧m=nx'))):qH C fn args hp nx=some (x,hp',nx'):=by
 obtain⟨y,h1,n1,he,rfl,rfl,rfl⟩:=zD hb h
 exact he
theorem Kn (n:Nat) (v:Val) (h:v.vb≤lim∧v.vb≤n) (hp:Hp) (nx i j:Nat) (hi:i<nx) (hj:j<nx) (hij:i≠j) (p q:Nat) (hpi:hp i=some ⟨3,1,false,[[int p]]⟩) (hpj:hp j=some ⟨3,1,false,[[int q]]⟩) (hpb:p≤lim) :
  hRun (Cc n) f180 [.agg v.enc,.ref i 0 0,.ref j 0 0] hp nx =
   some (.tup [],upd (upd (upd hp nx (some ⟨117,5,false,[v.enc]⟩)) i (some ⟨3,1,false,[[int ((p+v.parts:Nat):Int)]]⟩)) j (some ⟨3,1,false,[[int ((max q v.levels:Nat):Int)]]⟩),nx+1):=by
 have hpl:=Ve v
 have hll:=Xo v
 unfold lim at *
 have w1:IntKind.i64.wrap ((p:Int)+v.parts)=(p:Int)+v.parts:=zc (by omega) (by omega)
 unfold hRun
 rw[if_pos (by simp[f180])]
 refine wK rfl ?_
 have hcall:=fun hp nx=>Wo (fun v=>.tup [int v.parts,int v.levels]) n v hp nx h
 have e1:¬i=nx:=by omega
 have e2:¬j=nx:=by omega
 have e3:¬j=i:=by omega
 have e4:(if q<v.levels then (v.levels:Int) else q)=((max q v.levels:Nat):Int):=by split<;>omega
 simp[hcall]
 rw[ke _ _ _ _ _ _ (Kl (blk:=⟨3,1,false,[[int p]]⟩) (id:=j) (i:=0) (j:=0) (id':=i) (i':=0) (j':=0) (by simp) (by simp) (Ne.symm hij) (by simp[e1,hpi]) rfl) (fun _ h=>by cases h)]
 simp[hpi,hpj,e1,e2,e3,hij,w1,e4,f180]
theorem Qr (a b:List Val):partsV (a++b)=partsV a+partsV b:=by
 induction a with
 | nil=>simp[partsV]
 | cons v a ih=>simp only[List.cons_append,partsV,ih];omega
theorem levelsV_append (a b:List Val):levelsV (a++b)=max (levelsV a) (levelsV b):=by
 induction a with
 | nil=>simp[levelsV]
 | cons v a ih=>simp only[List.cons_append,levelsV,ih];omega
theorem Qs (a b:List (List UInt8×Val)):partsF (a++b)=partsF a+partsF b:=by
 induction a with
 | nil=>simp[partsF]
 | cons v a ih=>obtain⟨x,v⟩:=v;simp only[List.cons_append,partsF,ih];omega
theorem levelsF_append (a b:List (List UInt8×Val)):levelsF (a++b)=max (levelsF a) (levelsF b):=by
 induction a with
 | nil=>simp[levelsF]
 | cons v a ih=>obtain⟨x,v⟩:=v;simp only[List.cons_append,levelsF,ih];omega
theorem takeV {l:List Val} {k:Nat} (h:k<l.length):partsV (l.take (k+1))=partsV (l.take k)+l[k].parts∧levelsV (l.take (k+1))=max (levelsV (l.take k)) l[k].levels:=by
 rw[List.take_succ_eq_append_getElem h,Qr,levelsV_append]
 simp[partsV,levelsV]
theorem takeF {l:List (List UInt8×Val)} {k:Nat} (h:k<l.length):partsF (l.take (k+1))=partsF (l.take k)+l[k].2.parts∧levelsF (l.take (k+1))=max (levelsF (l.take k)) l[k].2.levels:=by
 rw[List.take_succ_eq_append_getElem h,Qs,levelsF_append]
 simp[partsF,levelsF]
theorem partsV_le (l:List Val) (k:Nat):partsV (l.take k)≤partsV l:=by
 have:=Qr (l.take k) (l.drop k)
 rw[List.take_append_drop] at this
 omega
theorem partsF_le (l:List (List UInt8×Val)) (k:Nat):partsF (l.take k)≤partsF l:=by
 have:=Qs (l.take k) (l.drop k)
 rw[List.take_append_drop] at this
 omega
noncomputable abbrev Cd (n:Nat):Ctx:=Qo prog [(180,hRun (Cc n) f180)] (zcL 13 [(3,2)])
theorem count_eval (n:Nat) (v:Val) (h:v.vb≤lim∧v.vb≤n+1):zi (Cd n) f129 [.agg v.enc]=some (.tup [int v.parts,int v.levels]):=by
 have hpl:=Ve v
 have hpe:=za5 v
 have hvb:=ZX v
 have hle:=Xn v
 have hl1:=wp v.items
 have hl2:=wT v.fields
 obtain⟨ha,hb⟩:=h
 unfold lim at ha
 refine zb rfl ?_
 simp
 refine zq (fun k σ hp nx=>σ 1=.ref 0 0 0∧σ 2=.ref 1 0 0∧σ 3=.ref 2 0 0∧σ 4=.fn (.func 180) [] [.ref 1 0 0,.ref 2 0 0]∧σ 11=.sl 5 (v.items.map Val.enc)∧σ 12=int v.items.length∧σ 13=int k∧3≤nx∧hp 0=some ⟨117,5,false,[v.enc]⟩ ∧
   hp 1=some ⟨3,1,false,[[int ((1+partsV (v.items.take k):Nat):Int)]]⟩∧hp 2=some ⟨3,1,false,[[int (levelsV (v.items.take k))]]⟩) v.items.length
  ⟨by simp,by simp,by simp,by simp,by simp,by simp,by simp,by simp,by simp,by simp[partsV],by simp[levelsV]⟩ ?_
 rintro k σ hp nx hk ⟨h1,h2,h3,h4,h11,h12,h13,hnx,b0,b1,b2⟩
 by_cases hlt:k<v.items.length
 ·obtain⟨t1,t2⟩:=takeV hlt
  have hm:=yA (List.getElem_mem hlt)
  have hw:IntKind.i64.wrap ((k:Int)+1)=(k:Int)+1:=zc (by omega) (by omega)
  have hple:=partsV_le v.items k
  have hrun:=Kn n v.items[k] ⟨by unfold lim;omega,by omega⟩ (upd hp nx (some ⟨117,5,false,[v.items[k].enc]⟩)) (nx+1) 1 2 (by omega) (by omega) (by omega) _ _ (by rw[zl _ _ _ _ (by omega)];exact b1) (by rw[zl _ _ _ _ (by omega)];exact b2) (by unfold lim;omega)
  simp[h1,h2,h3,h4,h11,h12,h13,hlt,hrun,hw]
  refine⟨hlt,by omega,?_,?_,?_⟩
  ·simp[b0,show ¬0=nx by omega,show ¬0=nx+1 by omega]
  ·rw[t1];omega
  ·rw[t2]
 ·obtain rfl:k=v.items.length:=by omega
  rw[List.take_length] at b1 b2
  simp[h1,h2,h3,h4,h11,h12,h13,b0]
  refine zq (fun k σ hp nx=>σ 1=.ref 0 0 0∧σ 2=.ref 1 0 0∧σ 3=.ref 2 0 0∧σ 4=.fn (.func 180) [] [.ref 1 0 0,.ref 2 0 0]∧σ 22=.sl 6 (v.fields.map encF)∧σ 23=int v.fields.length∧σ 24=int k∧3≤nx ∧
    hp 1=some ⟨3,1,false,[[int ((1+partsV v.items+partsF (v.fields.take k):Nat):Int)]]⟩∧hp 2=some ⟨3,1,false,[[int ((max (levelsV v.items) (levelsF (v.fields.take k)):Nat):Int)]]⟩) v.fields.length
   ⟨by simp[h1],by simp[h2],by simp[h3],by simp[h4],by simp,by simp,by simp,hnx,by simp[b1,partsF],by simp[b2,levelsF]⟩ ?_
  clear h1 h2 h3 h4 h11 h12 h13 hnx b0 b1 b2 hlt hk nx hp σ
  rintro k σ hp nx hk ⟨h1,h2,h3,h4,h11,h12,h13,hnx,b1,b2⟩
  by_cases hlt:k<v.fields.length
  ·obtain⟨t1,t2⟩:=takeF hlt
   have hm:=ki (List.getElem_mem hlt)
   have hw:IntKind.i64.wrap ((k:Int)+1)=(k:Int)+1:=zc (by omega) (by omega)
   have hple:=partsF_le v.fields k
   have hrun:=Kn n v.fields[k].2 ⟨by unfold lim;omega,by omega⟩ (upd hp nx (some ⟨163,6,false,[encF v.fields[k]]⟩)) (nx+1) 1 2 (by omega) (by omega) (by omega) _ _ (by rw[zl _ _ _ _ (by omega)];exact b1) (by rw[zl _ _ _ _ (by omega)];exact b2) (by unfold lim;omega)
   simp[encF] at hrun
   simp[h1,h2,h3,h4,h11,h12,h13,hlt,hw,hrun]
   refine⟨hlt,by omega,?_,?_⟩
   ·rw[t1];omega
   ·rw[t2]
  ·obtain rfl:k=v.fields.length:=by omega
   rw[List.take_length] at b1 b2
   have hll:=Xo v
   have hw:IntKind.i64.wrap (((max (levelsV v.items) (levelsF v.fields):Nat):Int)+1)=(v.levels:Int):=by rw[zc (by omega) (by omega),hle];omega
   simp[h1,h2,h3,h4,h11,h12,h13]
   rw[ke _ _ _ _ _ _ (Kl (id:=2) (i:=0) (j:=0) (id':=1) (i':=0) (j':=0) (by simp[h3]) (by simp[h2]) (by omega) (by exact b1) rfl) (fun _ h=>by cases h)]
   simp[h1,h2,h3,b1,b2,hw,f129,qi]
   omega
theorem Qt {out:Val→PV} {n:Nat} {args:List PV} {r:PV} (h:FV out n args=some r):∃v:Val,args=[.agg v.enc]∧(v.vb≤lim∧v.vb≤n)∧r=out v:=ze h
theorem FV_none {out:Val→PV}:∀args r,FV out 0 args=some r→False:=fun args r h=>by
 obtain⟨v,rfl,hv,rfl⟩:=Qt h
 have:=WX v
 omega
theorem zas {out:Val→PV} {f:FuncId} (hfn:∃fn,prog.funcs[f]?=some fn∧(fn.name== "runtime.NumGoroutine")=false∧fn.body.isNone=false):za prog f (zd false [] (FV out 0)):=by
 refine⟨hfn,fun args hp nx r hp' nx' h=>?_⟩
 unfold zd at h
 split at h
 ·split at h
  ·rename_i r0 hF
   exact (FV_none _ _ hF).elim
  ·cases h
 ·cases h
set_option maxRecDepth 100000 in
theorem count_sound:∀n,za prog 129 (zd false [] (FV (fun v=>.tup [int v.parts,int v.levels]) n)):=by
 intro n
 induction n with
 | zero=>exact zas ⟨_,func129,by kernel_rfl,by kernel_rfl⟩
 | succ n ih =>
   have hc:AM.Good (Cc n) (fun g=>([]:List Nat).contains g):=za4 _ mixed ⟨ih,by simp,trivial⟩
   have h1:za prog 180 (hRun (Cc n) f180):=ql (code:=_) hc ⟨func180,by kernel_rfl,rfl,by kernel_rfl⟩
   have hd:AM.Good (Cd n) (fun g=>([]:List Nat).contains g):=za4 _ mixed ⟨h1,by simp,trivial⟩
   exact zI (fn:=f129) hd ⟨_,func129,by kernel_rfl,rfl,by kernel_rfl⟩ false [] _ fun args r h=>by
    obtain⟨v,rfl,hv,rfl⟩:=Qt h
    exact⟨Nat.le_trans (Nat.le_refl 1) (by decide),_,count_eval n v hv,zG _⟩
noncomputable abbrev GV (out:Val→PV):AM.Spec:=zd false [] (FV out lim)
theorem xw (out:Val→PV) (v:Val) (hp:Hp) (nx:Nat) (h:v.vb≤lim):GV out [.agg v.enc] hp nx=some (out v,hp,nx):=Wo out lim v hp nx ⟨h,h⟩
end Go.Proofs.YtdkfdoeijcfbhaaGreatDoor
