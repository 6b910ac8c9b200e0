/-
The abstract machine, part 23: guarded operations whose guard is not known: both outcomes in one state.
-/
import Derived.Test.YtjcofiomfmebkaaGreatDoorG9
import Derived.Shelf.Small.Strs
import Derived.Shelf.Strconv.Itoa0
import Derived.Ground.Names2Prog
import Derived.Test.YtjcofiomfmebkaaGreatDoorProg
set_option maxRecDepth 8000
namespace Go.AM
open Go.RowKit
variable {dr:Prop}
def XX:Op→Bool
 | .move _ | .assign _ | .pick _ _ _ | .load _ _ | .binOp _ _ _ _ _ | .unOp _ _ _ | .convert _ _ _ | .fieldAddr _ _ _ | .field _ _ _ | .indexAddr _ _ _ | .index _ _ _ | .extract _ _=>true
 | .slice _ _ _ _ none=>true
 | .call c=>match c.callee with
   | .builtin .len=>true
   | .builtin .min=>true
   | .builtin .max=>true
   | _=>false
 | _=>false
def zn7 (C:Ctx) (st:St) (op:Op):Option PV:=(zw C (get st.σ) st.hp st.nx op).map (·.1)
theorem Wc {o:Option PV} {hp:Hp} {nx:Nat}:(o.map fun y=>(y,hp,nx))=((o.map fun y=>(y,hp,nx)).map (·.1)).map fun x=>(x,hp,nx):=by cases o<;>rfl
theorem yi {o:Option PV} {hp:Hp} {nx:Nat}:(o.bind fun y=>some (y,hp,nx))=((o.bind fun y=>some (y,hp,nx)).map (·.1)).map fun x=>(x,hp,nx):=by cases o<;>rfl
theorem zkY {C:Ctx} {st:St} {op:Op} (h:XX op=true):zw C (get st.σ) st.hp st.nx op=(zn7 C st op).map fun x=>(x,st.hp,st.nx):=by
 unfold zn7
 generalize get st.σ=ρ
 cases op with
 | move x=>simp only[zqG];exact Wc
 | assign x=>simp only[zkX];exact Wc
 | pick c a b=>simp only[zqH];exact Wc
 | load t a=>simp only[zqJ];cases ρ a<;>(try rfl);exact yi
 | binOp op t x y t2=>simp only[zs2];cases ρ x<;>cases ρ y<;>(try rfl);exact yi
 | unOp op t x=>simp only[zuW];cases ρ x<;>(try rfl);exact yi
 | convert s d x=>simp only[zqI];cases ρ x<;>(try rfl);exact yi
 | fieldAddr t x f=>simp only[zcQ];cases ρ x<;>(try rfl);exact yi
 | field t x f=>simp only[zn2];cases ρ x<;>(try rfl);exact yi
 | indexAddr t x i=>simp only[zcR];cases ρ x<;>cases ρ i<;>(try rfl);exact yi
 | index t x i=>simp only[zn3];cases ρ x<;>cases ρ i<;>(try rfl);exact yi
 | extract x i=>simp only[ziF];cases ρ x<;>(try rfl);exact yi
 | slice t x lo hi mx =>
   cases mx with
   | none=>simp only[zn4];cases ρ x<;>(try rfl);exact yi
   | some m=>simp[XX] at h
 | call c =>
   obtain⟨callee,args,ts⟩:=c
   cases callee with
   | builtin b =>
     simp only[ziG]
     cases qu (args.toList.map ρ) with
     | none=>rfl
     | some xs =>
       simp only[Option.bind_eq_bind,Option.bind_some]
       cases b<;>(try (simp[XX] at h;done))
       case len =>
        cases xs with
        | nil=>rfl
        | cons x l =>
          cases l with
          | nil =>
            simp only[zqL]
            cases ts[0]?<;>(try rfl)
            exact yi
          | cons _ _=>rfl
       case min=>simp only[zqM];exact Wc
       case max=>simp only[zqN];exact Wc
   | _=>simp[XX] at h
 | _=>simp[XX] at h
def yj (C:Ctx) (g:FuncId):Prop:=∀spec,C.Γ g=some spec→Zg spec
def yI (C:Ctx) (op:Op):Prop:=∀st:St,zw C (get st.σ) st.hp st.nx op=(zn7 C st op).map fun x=>(x,st.hp,st.nx)
theorem qU {C:Ctx} {op:Op} (h:XX op=true):yI C op:=fun _=>zkY h
@[simp] theorem pu_call (C:Ctx) (g:FuncId) (a:Array Operand) (ts:Array TypeId) (h:yj C g):yI C (.call ⟨.value (.func g),a,ts⟩):=by
 intro st
 unfold zn7
 simp only[zqK,zn1]
 cases qu (a.toList.map (get st.σ)) with
 | none=>rfl
 | some xs =>
   simp only[Option.bind_eq_bind,Option.bind_some]
   cases hs:C.Γ g with
   | none=>simp[wg,hs]
   | some spec =>
     rw[ziH C st.hp st.nx g [] [] xs spec hs]
     cases hr:spec ([]++xs++[]) st.hp st.nx with
     | none=>rfl
     | some r =>
       obtain⟨x,hp',nx'⟩:=r
       obtain⟨⟨rfl,rfl⟩,_⟩:=h spec hs _ _ _ _ _ _ hr
       rfl
theorem qN {P:Program} {l:Tab} {g:Nat} {spec:AM.Spec} (h:lookup l g=some spec) (hq:Zg spec):yj (zC P l) g:=fun s hs=>by
 have:lookup l g=some s:=hs
 rw[h] at this
 injection this with this
 exact this ▸ hq
@[simp] theorem pu_move (C:Ctx) (x:Operand):yI C (.move x):=qU rfl
@[simp] theorem pu_assign (C:Ctx) (x:Operand):yI C (.assign x):=qU rfl
@[simp] theorem pu_pick (C:Ctx) (c a b:Operand):yI C (.pick c a b):=qU rfl
@[simp] theorem pu_load (C:Ctx) (t:TypeId) (x:Operand):yI C (.load t x):=qU rfl
@[simp] theorem pu_bin (C:Ctx) (o:BinOp) (t t2:TypeId) (x y:Operand):yI C (.binOp o t x y t2):=qU rfl
@[simp] theorem pu_un (C:Ctx) (o:UnOp) (t:TypeId) (x:Operand):yI C (.unOp o t x):=qU rfl
@[simp] theorem pu_conv (C:Ctx) (t u:TypeId) (x:Operand):yI C (.convert t u x):=qU rfl
@[simp] theorem pu_fa (C:Ctx) (t:TypeId) (x:Operand) (f:Nat):yI C (.fieldAddr t x f):=qU rfl
@[simp] theorem pu_fi (C:Ctx) (t:TypeId) (x:Operand) (f:Nat):yI C (.field t x f):=qU rfl
@[simp] theorem pu_ia (C:Ctx) (t:TypeId) (x i:Operand):yI C (.indexAddr t x i):=qU rfl
@[simp] theorem pu_ix (C:Ctx) (t:TypeId) (x i:Operand):yI C (.index t x i):=qU rfl
@[simp] theorem pu_ex (C:Ctx) (x:Operand) (i:Nat):yI C (.extract x i):=qU rfl
@[simp] theorem pu_sl (C:Ctx) (t:TypeId) (x:Operand) (lo hi:Option Operand):yI C (.slice t x lo hi none):=qU rfl
@[simp] theorem pu_len (C:Ctx) (a:Array Operand) (ts:Array TypeId):yI C (.call ⟨.builtin .len,a,ts⟩):=qU rfl
@[simp] theorem pu_min (C:Ctx) (a:Array Operand) (ts:Array TypeId):yI C (.call ⟨.builtin .min,a,ts⟩):=qU rfl
@[simp] theorem pu_max (C:Ctx) (a:Array Operand) (ts:Array TypeId):yI C (.call ⟨.builtin .max,a,ts⟩):=qU rfl
def bc {α:Type} (y:Bool) (a b:α):α:=match y with
 | true=>a
 | false=>b
@[simp] theorem bc_true {α:Type} (a b:α):bc true a b=a:=rfl
@[simp] theorem bc_false {α:Type} (a b:α):bc false a b=b:=rfl
@[simp] theorem bc_not {α:Type} (y:Bool) (a b:α):bc (!y) a b=bc y b a:=by cases y<;>rfl
@[simp] theorem bc_same {α:Type} (y:Bool) (a:α):bc y a a=a:=by cases y<;>rfl
def bx (y:Bool):Bool:=y
@[simp] theorem bx_true:bx true=true:=rfl
@[simp] theorem bx_false:bx false=false:=rfl
@[simp] theorem bc_bc1 {α:Type} (y:Bool) (a b c:α):bc y (bc y a b) c=bc y a c:=by cases y<;>rfl
@[simp] theorem bc_bc2 {α:Type} (y:Bool) (a b c:α):bc y a (bc y b c)=bc y a c:=by cases y<;>rfl
def zno (C:Ctx) (st:St) (op:Op) (y:Option Bool) (b:Bool):Option PV:=if y=some b then zn7 C st op else some (.tup [])
section
variable (C:Ctx) (d:Option Tmp) (op:Op) (st:St)
theorem XY (y:Option Bool) (b:Bool) (h:yI C op):jU C d op st y b=(zno C st op y b).map fun x=>⟨put st.σ d x,st.hp,st.nx⟩:=by
 unfold jU zno
 rw[h st]
 split
 ·cases zn7 C st op<;>rfl
 ·rfl
@[simp low] theorem guard_lazy (y b:Bool) (h:yI C op):jU C d op st (some y) b=(zno C st op (some y) b).map fun x=>⟨put st.σ d x,st.hp,st.nx⟩:=XY C d op st _ b h
@[simp] theorem guard_bc (y:Bool) (p q:Option Bool) (b:Bool) (h:yI C op):jU C d op st (bc y p q) b=(zno C st op (bc y p q) b).map fun x=>⟨put st.σ d x,st.hp,st.nx⟩:=XY C d op st _ b h
@[simp] theorem gval_bc (y:Bool) (p q:Option Bool) (b:Bool):zno C st op (bc y p q) b=bc y (zno C st op p b) (zno C st op q b):=by cases y<;>rfl
@[simp] theorem gval_none (b:Bool):zno C st op none b=some (.tup []):=rfl
@[simp] theorem gval_t (y:Bool):zno C st op (some y) true=bc (bx y) (zn7 C st op) (some (.tup [])):=by cases y<;>rfl
@[simp] theorem gval_f (y:Bool):zno C st op (some y) false=bc (bx y) (some (.tup [])) (zn7 C st op):=by cases y<;>rfl
end
@[simp] theorem boolOf_bc (y:Bool) (a b:PV):Y4 (bc y a b)=bc y (Y4 a) (Y4 b):=by cases y<;>rfl
@[simp] theorem bc_some {α:Type} (y:Bool) (a b:α):bc y (some a) (some b)=some (bc y a b):=by cases y<;>rfl
@[simp] theorem pick_and (y z:Bool) (w:PV):QB (some (.v (.bool y))) (some (bc (bx y) (.v (.bool z)) w)) (some (.v (.bool false)))=some (.v (.bool (y&&z))):=by cases y<;>rfl
@[simp] theorem pick_or (y z:Bool) (w:PV):QB (some (.v (.bool y))) (some (.v (.bool true))) (some (bc (bx y) w (.v (.bool z))))=some (.v (.bool (y||z))):=by cases y<;>rfl
@[simp] theorem bc_deep1 {α:Type} (y q1:Bool) (a b d0 d1:α):bc y (bc q1 (bc y a b) d1) d0=bc y (bc q1 a d1) d0:=by cases y<;>rfl
@[simp] theorem bc_deep2 {α:Type} (y q1:Bool) (a b d0 d1:α):bc y (bc q1 d1 (bc y a b)) d0=bc y (bc q1 d1 a) d0:=by cases y<;>rfl
@[simp] theorem bc_deep3 {α:Type} (y q1:Bool) (a b d0 d1:α):bc y d0 (bc q1 (bc y a b) d1)=bc y d0 (bc q1 b d1):=by cases y<;>rfl
@[simp] theorem bc_deep4 {α:Type} (y q1:Bool) (a b d0 d1:α):bc y d0 (bc q1 d1 (bc y a b))=bc y d0 (bc q1 d1 b):=by cases y<;>rfl
@[simp] theorem bc_deep5 {α:Type} (y q1 q2:Bool) (a b d0 d1 d2:α):bc y (bc q1 (bc q2 (bc y a b) d2) d1) d0=bc y (bc q1 (bc q2 a d2) d1) d0:=by cases y<;>rfl
@[simp] theorem bc_deep6 {α:Type} (y q1 q2:Bool) (a b d0 d1 d2:α):bc y (bc q1 (bc q2 d2 (bc y a b)) d1) d0=bc y (bc q1 (bc q2 d2 a) d1) d0:=by cases y<;>rfl
@[simp] theorem bc_deep7 {α:Type} (y q1 q2:Bool) (a b d0 d1 d2:α):bc y (bc q1 d1 (bc q2 (bc y a b) d2)) d0=bc y (bc q1 d1 (bc q2 a d2)) d0:=by cases y<;>rfl
@[simp] theorem bc_deep8 {α:Type} (y q1 q2:Bool) (a b d0 d1 d2:α):bc y (bc q1 d1 (bc q2 d2 (bc y a b))) d0=bc y (bc q1 d1 (bc q2 d2 a)) d0:=by cases y<;>rfl
@[simp] theorem bc_deep9 {α:Type} (y q1 q2:Bool) (a b d0 d1 d2:α):bc y d0 (bc q1 (bc q2 (bc y a b) d2) d1)=bc y d0 (bc q1 (bc q2 b d2) d1):=by cases y<;>rfl
@[simp] theorem bc_deep10 {α:Type} (y q1 q2:Bool) (a b d0 d1 d2:α):bc y d0 (bc q1 (bc q2 d2 (bc y a b)) d1)=bc y d0 (bc q1 (bc q2 d2 b) d1):=by cases y<;>rfl
@[simp] theorem bc_deep11 {α:Type} (y q1 q2:Bool) (a b d0 d1 d2:α):bc y d0 (bc q1 d1 (bc q2 (bc y a b) d2))=bc y d0 (bc q1 d1 (bc q2 b d2)):=by cases y<;>rfl
@[simp] theorem bc_deep12 {α:Type} (y q1 q2:Bool) (a b d0 d1 d2:α):bc y d0 (bc q1 d1 (bc q2 d2 (bc y a b)))=bc y d0 (bc q1 d1 (bc q2 d2 b)):=by cases y<;>rfl
@[simp] theorem bc_deep13 {α:Type} (y q1 q2 q3:Bool) (a b d0 d1 d2 d3:α):bc y (bc q1 (bc q2 (bc q3 (bc y a b) d3) d2) d1) d0=bc y (bc q1 (bc q2 (bc q3 a d3) d2) d1) d0:=by cases y<;>rfl
@[simp] theorem bc_deep14 {α:Type} (y q1 q2 q3:Bool) (a b d0 d1 d2 d3:α):bc y (bc q1 (bc q2 (bc q3 d3 (bc y a b)) d2) d1) d0=bc y (bc q1 (bc q2 (bc q3 d3 a) d2) d1) d0:=by cases y<;>rfl
@[simp] theorem bc_deep15 {α:Type} (y q1 q2 q3:Bool) (a b d0 d1 d2 d3:α):bc y (bc q1 (bc q2 d2 (bc q3 (bc y a b) d3)) d1) d0=bc y (bc q1 (bc q2 d2 (bc q3 a d3)) d1) d0:=by cases y<;>rfl
@[simp] theorem bc_deep16 {α:Type} (y q1 q2 q3:Bool) (a b d0 d1 d2 d3:α):bc y (bc q1 (bc q2 d2 (bc q3 d3 (bc y a b))) d1) d0=bc y (bc q1 (bc q2 d2 (bc q3 d3 a)) d1) d0:=by cases y<;>rfl
@[simp] theorem bc_deep17 {α:Type} (y q1 q2 q3:Bool) (a b d0 d1 d2 d3:α):bc y (bc q1 d1 (bc q2 (bc q3 (bc y a b) d3) d2)) d0=bc y (bc q1 d1 (bc q2 (bc q3 a d3) d2)) d0:=by cases y<;>rfl
@[simp] theorem bc_deep18 {α:Type} (y q1 q2 q3:Bool) (a b d0 d1 d2 d3:α):bc y (bc q1 d1 (bc q2 (bc q3 d3 (bc y a b)) d2)) d0=bc y (bc q1 d1 (bc q2 (bc q3 d3 a) d2)) d0:=by cases y<;>rfl
@[simp] theorem bc_deep19 {α:Type} (y q1 q2 q3:Bool) (a b d0 d1 d2 d3:α):bc y (bc q1 d1 (bc q2 d2 (bc q3 (bc y a b) d3))) d0=bc y (bc q1 d1 (bc q2 d2 (bc q3 a d3))) d0:=by cases y<;>rfl
@[simp] theorem bc_deep20 {α:Type} (y q1 q2 q3:Bool) (a b d0 d1 d2 d3:α):bc y (bc q1 d1 (bc q2 d2 (bc q3 d3 (bc y a b)))) d0=bc y (bc q1 d1 (bc q2 d2 (bc q3 d3 a))) d0:=by cases y<;>rfl
@[simp] theorem bc_deep21 {α:Type} (y q1 q2 q3:Bool) (a b d0 d1 d2 d3:α):bc y d0 (bc q1 (bc q2 (bc q3 (bc y a b) d3) d2) d1)=bc y d0 (bc q1 (bc q2 (bc q3 b d3) d2) d1):=by cases y<;>rfl
@[simp] theorem bc_deep22 {α:Type} (y q1 q2 q3:Bool) (a b d0 d1 d2 d3:α):bc y d0 (bc q1 (bc q2 (bc q3 d3 (bc y a b)) d2) d1)=bc y d0 (bc q1 (bc q2 (bc q3 d3 b) d2) d1):=by cases y<;>rfl
@[simp] theorem bc_deep23 {α:Type} (y q1 q2 q3:Bool) (a b d0 d1 d2 d3:α):bc y d0 (bc q1 (bc q2 d2 (bc q3 (bc y a b) d3)) d1)=bc y d0 (bc q1 (bc q2 d2 (bc q3 b d3)) d1):=by cases y<;>rfl
@[simp] theorem bc_deep24 {α:Type} (y q1 q2 q3:Bool) (a b d0 d1 d2 d3:α):bc y d0 (bc q1 (bc q2 d2 (bc q3 d3 (bc y a b))) d1)=bc y d0 (bc q1 (bc q2 d2 (bc q3 d3 b)) d1):=by cases y<;>rfl
@[simp] theorem bc_deep25 {α:Type} (y q1 q2 q3:Bool) (a b d0 d1 d2 d3:α):bc y d0 (bc q1 d1 (bc q2 (bc q3 (bc y a b) d3) d2))=bc y d0 (bc q1 d1 (bc q2 (bc q3 b d3) d2)):=by cases y<;>rfl
@[simp] theorem bc_deep26 {α:Type} (y q1 q2 q3:Bool) (a b d0 d1 d2 d3:α):bc y d0 (bc q1 d1 (bc q2 (bc q3 d3 (bc y a b)) d2))=bc y d0 (bc q1 d1 (bc q2 (bc q3 d3 b) d2)):=by cases y<;>rfl
@[simp] theorem bc_deep27 {α:Type} (y q1 q2 q3:Bool) (a b d0 d1 d2 d3:α):bc y d0 (bc q1 d1 (bc q2 d2 (bc q3 (bc y a b) d3)))=bc y d0 (bc q1 d1 (bc q2 d2 (bc q3 b d3))):=by cases y<;>rfl
@[simp] theorem bc_deep28 {α:Type} (y q1 q2 q3:Bool) (a b d0 d1 d2 d3:α):bc y d0 (bc q1 d1 (bc q2 d2 (bc q3 d3 (bc y a b))))=bc y d0 (bc q1 d1 (bc q2 d2 (bc q3 d3 b))):=by cases y<;>rfl
section
variable (P:Program) (C:Ctx) (hp:Hp) (nx:Nat) (t u:TypeId) (y:Bool) (a b:PV)
@[simp] theorem load_bc:jZ P hp t (bc y a b)=bc y (jZ P hp t a) (jZ P hp t b):=by cases y<;>rfl
@[simp] theorem bin_bc1 (o:BinOp) (x:PV):QZ P o t (bc y a b) x=bc y (QZ P o t a x) (QZ P o t b x):=by cases y<;>rfl
@[simp] theorem bin_bc2 (o:BinOp) (x:PV):QZ P o t x (bc y a b)=bc y (QZ P o t x a) (QZ P o t x b):=by cases y<;>rfl
@[simp] theorem binC_bc1 (c:Bool) (o:BinOp) (x:PV):zco c P o t (bc y a b) x=bc y (zco c P o t a x) (zco c P o t b x):=by cases y<;>rfl
@[simp] theorem binC_bc2 (c:Bool) (o:BinOp) (x:PV):zco c P o t x (bc y a b)=bc y (zco c P o t x a) (zco c P o t x b):=by cases y<;>rfl
@[simp] theorem un_bc (o:UnOp):unA o (bc y a b)=bc y (unA o a) (unA o b):=by cases y<;>rfl
@[simp] theorem conv_bc:VV P t u (bc y a b)=bc y (VV P t u a) (VV P t u b):=by cases y<;>rfl
@[simp] theorem fieldAddr_bc (f:Nat):qC P t f (bc y a b)=bc y (qC P t f a) (qC P t f b):=by cases y<;>rfl
@[simp] theorem fieldVal_bc (f:Nat):jF P t f (bc y a b)=bc y (jF P t f a) (jF P t f b):=by cases y<;>rfl
@[simp] theorem indexAddr_bc1 (x:PV):zI P hp t (bc y a b) x=bc y (zI P hp t a x) (zI P hp t b x):=by cases y<;>rfl
@[simp] theorem indexAddr_bc2 (x:PV):zI P hp t x (bc y a b)=bc y (zI P hp t x a) (zI P hp t x b):=by cases y<;>rfl
@[simp] theorem index_bc1 (x:PV):vI P t (bc y a b) x=bc y (vI P t a x) (vI P t b x):=by cases y<;>rfl
@[simp] theorem index_bc2 (x:PV):vI P t x (bc y a b)=bc y (vI P t x a) (vI P t x b):=by cases y<;>rfl
@[simp] theorem len_bc:VW P t (bc y a b)=bc y (VW P t a) (VW P t b):=by cases y<;>rfl
@[simp] theorem slice_bc1 (lo hi:Option (Option PV)):wB P hp t (bc y a b) lo hi=bc y (wB P hp t a lo hi) (wB P hp t b lo hi):=by cases y<;>rfl
@[simp] theorem slice_bc2 (x:PV) (hi:Option (Option PV)):wB P hp t x (some (some (bc y a b))) hi=bc y (wB P hp t x (some (some a)) hi) (wB P hp t x (some (some b)) hi):=by cases y<;>rfl
@[simp] theorem slice_bc3 (x:PV) (lo:Option (Option PV)):wB P hp t x lo (some (some (bc y a b)))=bc y (wB P hp t x lo (some (some a))) (wB P hp t x lo (some (some b))):=by cases y<;>rfl
@[simp] theorem extract_bc (i:Nat):ZR i (bc y a b)=bc y (ZR i a) (ZR i b):=by cases y<;>rfl
@[simp] theorem pick_bc1 (p q:Option PV):QB (some (bc y a b)) p q=bc y (QB (some a) p q) (QB (some b) p q):=by cases y<;>rfl
@[simp low] theorem pick_bc2 (p q:Option PV):QB p (some (bc y a b)) q=bc y (QB p (some a) q) (QB p (some b) q):=by cases y<;>rfl
@[simp low] theorem pick_bc3 (p q:Option PV):QB p q (some (bc y a b))=bc y (QB p q (some a)) (QB p q (some b)):=by cases y<;>rfl
@[simp] theorem pure_bc1 (kill:Bool) (ns:List Nat) (F:List PV→Option PV) (l:List PV):zd kill ns F (bc y a b::l) hp nx=bc y (zd kill ns F (a::l) hp nx) (zd kill ns F (b::l) hp nx):=by cases y<;>rfl
@[simp] theorem pure_bc2 (kill:Bool) (ns:List Nat) (F:List PV→Option PV) (x:PV) (l:List PV):zd kill ns F (x::bc y a b::l) hp nx=bc y (zd kill ns F (x::a::l) hp nx) (zd kill ns F (x::b::l) hp nx):=by cases y<;>rfl
@[simp] theorem pure_bc3 (kill:Bool) (ns:List Nat) (F:List PV→Option PV) (x z:PV) (l:List PV):zd kill ns F (x::z::bc y a b::l) hp nx=bc y (zd kill ns F (x::z::a::l) hp nx) (zd kill ns F (x::z::b::l) hp nx):=by cases y<;>rfl
end
@[simp] theorem map_bc {α β:Type} (y:Bool) (f:α→β) (a b:Option α):(bc y a b).map f=bc y (a.map f) (b.map f):=by cases y<;>rfl
@[simp] theorem bind_bc {α β:Type} (y:Bool) (f:α→Option β) (a b:Option α):(bc y a b).bind f=bc y (a.bind f) (b.bind f):=by cases y<;>rfl
attribute [simp] zn7
variable {dr:Prop}
def zkZ (k:Nat) (D:List (Tmp×Tmp)) (i:Nat):List (Tmp×Tmp):=if i=k then D else []
@[simp] theorem mkCtxD_dyn (P:Program) (l:Tab) (k:Nat) (D:List (Tmp×Tmp)) (i:Nat):(Wa P l (zkZ k D)).dyn i=if i=k then D else []:=rfl
@[simp] theorem EvC_region_mkD (P:Program) (l:Tab) (k:Nat) (D:List (Tmp×Tmp)) (i:Nat) (ops:Array Oper) (d:Bool) (st:St) (K:Exit→St→Prop) (h:¬i=k):EvC (Wa P l (zkZ k D)) (.region i ops d) st K=EvL (Wa P l (zkZ k D)) ops ops.toList st (Yk K):=vP _ i ops d st K (by simp[h]) rfl
theorem XZ {a b:Tmp} {st:St} {id i j id' i' j':Nat} {blk:Blk} (h1:st.σ a=.ref id i j) (h2:st.σ b=.ref id' i' j') (h3:id≠id') (h4:st.hp id'=some blk) (h5:blk.arr=false):xM [(a,b)] st:=by
 intro p hp
 obtain rfl:=List.mem_singleton.1 hp
 intro id0 i0 j0 e0
 rw[h1] at e0
 injection e0 with e0 _ _
 subst e0
 exact⟨id',i',j',blk,h2,h3,h4,h5⟩
theorem zaR {w:World} {S:Nat→Prop} {G:Nat→GI} {nx:Nat}:∀{us vs:List Value},(∀u∈us,lit u=true)→Zip (RepO w S G nx) (us.map PV.v) vs→vs=us
 | [],vs,_,h=>by
   have:=h.1
   simp at this
   exact List.length_eq_zero_iff.1 this.symm
 | u::us,vs,hl,h=>by
   obtain⟨v,vs',rfl,hv,hz⟩:=h.uncons
   rw[zaR (fun x hx=>hl x (by simp[hx])) hz]
   congr 1
   cases hv with
   | c hc=>exact hc.v_inv.1
theorem zcT {P:Program} {g:FuncId} {F:List PV→Option PV} (hfn:∃fn,P.funcs[g]?=some fn∧(fn.name== "runtime.NumGoroutine")=false∧fn.body.isNone=false)
  (h:∀args r,F args=some r→∃us:List Value,args=us.map PV.v∧(∀u∈us,lit u=true)∧∃v,r=.v v∧lit v=true∧∀w,Calls P g us.toArray w fun e w'=>e=.returned v∧w'=w):jt dr P g (zd false [] F):=by
 refine⟨hfn,?_⟩
 intro args hp nx r hp' nx' hs w S G vs hi hz
 unfold zd at hs
 split at hs
 ·rename_i aZ hp1 hfr
  split at hs
  ·rename_i r0 hF
   obtain⟨us,e,hl,v,rfl,hv,hc⟩:=h _ _ hF
   have e':qw [] aZ=aZ:=by cases aZ<;>rfl
   rw[e'] at e
   subst e
   have hargs:args=us.map PV.v:=by
    have key:∀(args:List PV) (us:List Value) (hp1:Hp),zj hp args=some (us.map PV.v,hp1)→args=us.map PV.v:=by
     intro args
     induction args with
     | nil=>intro us hp1 hh;simp only[zj] at hh;injection hh with hh;injection hh with hh _
     | cons x l ih =>
       intro us hp1 hh
       simp only[zj] at hh
       split at hh
       ·rename_i y hp2 hy
        split at hh
        ·rename_i r2 hp3 hr2
         injection hh with hh
         injection hh with hh _
         cases us with
         | nil=>simp at hh
         | cons u us =>
           simp only[List.map_cons,List.cons.injEq] at hh
           obtain⟨rfl,rfl⟩:=hh
           have hx:x=.v u∧hp2=hp:=by
            unfold zE at hy
            split at hy
            ·split at hy
             ·injection hy with hy;injection hy with hy _;cases hy
             ·cases hy
            ·unfold qh at hy
             split at hy<;>first
              | (split at hy<;>first | (split at hy<;>first | (injection hy with hy;injection hy with hy _;cases hy;done) | cases hy) | cases hy)
              | (injection hy with hy;injection hy with h1 h2;first | (exact⟨by rw[←h1],h2.symm⟩) | cases h1)
              | cases hy
           obtain⟨rfl,rfl⟩:=hx
           rw[ih us hp3 hr2]
           rfl
        ·cases hh
       ·cases hh
    exact key args us hp1 hfr
   subst hargs
   simp only[PV.flat,true_or,if_true] at hs
   injection hs with hs
   injection hs with h1 h2
   injection h2 with h2 h3
   subst h1;subst h2;subst h3
   rw[zaR hl hz]
   refine (hc w).mono fun e w' hh=>?_
   obtain⟨rfl,rfl⟩:=hh
   exact⟨v,S,G,rfl,Stp.refl hi,.c (.v hv)⟩
  ·cases hs
 ·cases hs
theorem QD:∀(l cs:List PV) (off:Nat),off+l.length≤cs.length→qO cs off l=cs.take off++l++cs.drop (off+l.length)
 | [],cs,off,_=>by simp
 | x::l,cs,off,h=>by
   simp only[List.length_cons] at h
   rw[qO,QD l (cs.set off x) (off+1) (by simp;omega)]
   have e1:(cs.set off x).take (off+1)=cs.take off++[x]:=by
    rw[List.take_succ_eq_append_getElem (by simp;omega)]
    have e0:(cs.set off x).take off=cs.take off:=by
     apply List.ext_getElem?
     intro j
     simp only[List.getElem?_take,List.getElem?_set]
     by_cases hj:j<off
     ·simp[hj,show ¬off=j by omega]
     ·simp[hj]
    rw[e0]
    simp
   have e2:(cs.set off x).drop (off+1+l.length)=cs.drop (off+(x::l).length):=by
    rw[List.drop_set_of_lt (by omega)]
    simp only[List.length_cons]
    congr 1
    omega
   rw[e1,e2]
   simp
@[simp] theorem setCells_whole (z cs:List PV) (h:cs.length=z.length):qO z 0 cs=cs:=by
 rw[QD cs z 0 (by omega)]
 simp[h]
@[simp] theorem setCells_tail (x:PV) (z cs:List PV) (h:cs.length=z.length):qO (x::z) 1 cs=x::cs:=by
 rw[QD cs (x::z) 1 (by simp;omega)]
 simp[show 1+cs.length=z.length+1 by omega]
@[simp] theorem get_nilI (σ:Nat→PV):AM.get σ (.const .nilIface)=some (.v .nilIface):=rfl
section
variable (C:Ctx) (ρ:Operand→Option PV) (hp:Hp) (nx:Nat)
def zk0:PV→Option PV
 | .ref id i j=>some (.ref id i j)
 | .ptr cs=>some (.ptr cs)
 | _=>none
@[simp] theorem nilCkA_ref (id i j:Nat):zk0 (.ref id i j)=some (.ref id i j):=rfl
@[simp] theorem nilCkA_ptr (cs:List PV):zk0 (.ptr cs)=some (.ptr cs):=rfl
@[simp] theorem op_nilCheck (x:Operand):zw C ρ hp nx (.nilCheck x)=(do let p ←ρ x;let r ←zk0 p;some (r,hp,nx)):=by
 simp only[zw]
 cases ρ x with
 | none=>rfl
 | some p=>cases p<;>rfl
end
@[simp] theorem cells_mp (i:Nat):PV.cells (.mp i)=[.mp i]:=rfl
@[simp] theorem isCell_mp (i:Nat):PV.isCell (.mp i)=true:=rfl
variable {dr:Prop}
section
variable {C:Ctx} {pf:FuncId→Bool} {f:FuncId} {fn:Func} {code:Code}
theorem zcU (hg:GoodD dr C pf) (hk:Known C pf f fn code) (kill:Bool) (ns:List Nat) (F:List PV→Option PV)
  (hF:∀args r,F args=some r→∀(w:World) (S:Nat→Prop) (vs:List Value),Zip (RepC w S) args vs→∃args' r0,Zip (RepC w S) args' vs∧args'.length≤fn.ntmps∧zg C fn args'=some r0∧∀(w:World) (S:Nat→Prop) (u:Value),RepC w S r0 u→RepC w S r u):jt dr C.P f (zd kill ns F):=by
 refine⟨⟨fn,hk.func,hk.name,by rw[hk.body];rfl⟩,?_⟩
 intro args hp nx r hp' nx' h w S G vs hi hz
 unfold zd at h
 split at h
 ·rename_i aZ hp1 hfr
  split at h
  ·rename_i r0 hF0
   obtain⟨S1,k1,hz1,hsn⟩:=qR (dr:=dr) hi hfr hz
   obtain⟨args',rr,hz2,hn,hev,hup⟩:=hF _ r0 hF0 w S1 vs (kY hz1)
   unfold zg at hev
   split at hev
   ·rename_i x hpe nxe hef
    obtain⟨⟨r1,hpf1⟩,hfz,hr1⟩:=zp hev
    simp only at hr1
    subst hr1
    refine (ju hg hk hef hn k1.inv.st k1.inv.glo hz2).mono fun e w' hh=>?_
    obtain⟨v,S',G',he,fr,inv',hx,hs0,hs1,_⟩:=hh
    obtain⟨S2,k2,hc0⟩:=kV (dr:=dr) inv' hfz hx
    have hc:=hup _ _ _ hc0
    have hS2:∀b,S2 b→S1 b∨(w.heap.size≤b∧b<w'.heap.size):=by
     intro b hb
     have hlt:=k2.inv.st b hb
     rcases k2.from_ b hb with h1 | ⟨id,blk,h1,rfl⟩ | h1
     ·rcases hs1 b h1 with h2 | h2
      ·exact .inl h2
      ·exact .inr ⟨h2,hlt⟩
     ·rcases Nat.lt_or_ge (G' id).g w.heap.size with h3 | h3
      ·rename_i hown
       have:=hown id blk h1
       omega
      ·exact .inr ⟨h3,hlt⟩
     ·exact absurd h1 (by omega)
    split at h
    ·rename_i hflat
     injection h with h
     injection h with e1 h
     injection h with e2 e3
     subst e1;subst e2;subst e3
     refine⟨v,_,G,he,Stp.outer hi fr,.c ?_⟩
     rcases hflat with hfl | hno
     ·exact zaO hc hfl
     ·have hno':=hsn hno
      exact hc.mono fun b hb=>⟨by rw[←hno'];exact hS2 b hb,rfl⟩
    ·split at h
     ·injection h with h
      injection h with e1 h
      injection h with e2 e3
      subst e1;subst e2;subst e3
      exact⟨v,_,G,he,k1.trans (Stp.outer k1.inv fr),.c (hc.mono fun b hb=>⟨hS2 b hb,rfl⟩)⟩
     ·cases h
   ·cases hev
  ·cases h
 ·cases h
inductive SlOf (s:Nat):List (List PV)→PV→Prop
 | nil:SlOf s [] .nil
 | em:SlOf s [] .em
 | sl {c:List PV} {es:List (List PV)}:SlOf s (c::es) (.sl s (c::es))
theorem zg9 {w:World} {S:Nat→Prop} {s:Nat} {es:List (List PV)} {u:Value} (h:RepC w S (.sl s es) u):∃y,SlOf s es y∧RepC w S y u:=by
 cases es with
 | cons c es=>exact⟨_,.sl,h⟩
 | nil =>
   cases h with
   | sl us h0 h1 h2 h3 h4 h5 =>
     rename_i A cap
     cases A with
     | none =>
       have:=h0 rfl
       subst this
       exact⟨.nil,.nil,.nil⟩
     | some ad=>exact⟨.em,.em,.em h2⟩
theorem ZS {w:World} {S:Nat→Prop} {s:Nat} {es:List (List PV)} {y:PV} {u:Value} (h:SlOf s es y) (hr:RepC w S y u):RepC w S (.sl s es) u:=by
 cases h with
 | nil=>cases hr;exact .sl (es:=[]) (fun _ _=>undef) (by simp) (by simp) (by simp[maxLen]) (by simp) (by simp) (by simp)
 | em =>
   cases hr with
   | em hc=>exact .sl (es:=[]) (fun _ _=>undef) (by simp) (by simp) hc (by simp) (by simp) (by simp)
 | sl=>exact hr
theorem Kp {w:World} {S:Nat→Prop} {cs:List PV} {u:Value} (h:RepC w S (.agg cs) u) {j s:Nat} {es:List (List PV)} (hj:cs[j]?=some (.sl s es)):∃y,SlOf s es y∧RepC w S (.agg (cs.set j y)) u:=by
 cases h with
 | agg hl hr =>
   rename_i us
   have hjl:j<cs.length:=(List.getElem?_eq_some_iff.1 hj).1
   obtain⟨y,h1,h2⟩:=zg9 (hr j _ us[j] hj (by simp))
   refine⟨y,h1,.agg (by simpa using hl) fun k pv u hk hu=>?_⟩
   rw[List.getElem?_set] at hk
   split at hk
   ·rename_i e
    subst e
    injection hk with hk
    subst hk
    rw[Array.getElem?_eq_getElem (by omega)] at hu
    injection hu with hu
    subst hu
    exact h2
   ·exact hr k pv u hk hu
section
variable {P:Program} {hp:Hp} {nx:Nat} {t:TypeId} {s e:Nat} {es:List (List PV)} {y:PV}
theorem SlOf.len (h:SlOf s es y) (ht:qG P t=some e):VW P t y=some (.v (.int .i64 es.length)):=by
 cases h<;>simp[VW,ht]
theorem SlOf.view (h:SlOf s es y):AM.view hp s y=some es:=by cases h<;>simp[AM.view]
theorem SlOf.cell (h:SlOf s es y):y.isCell=true:=by cases h<;>rfl
theorem SlOf.frz (h:SlOf s es y):zE hp y=some (y,hp):=by cases h<;>rfl
theorem SlOf.noOwn (h:SlOf s es y):y.noOwn=true:=by cases h<;>rfl
theorem SlOf.up (h:SlOf s es y) (w:World) (S:Nat→Prop) (u:Value) (hr:RepC w S y u):RepC w S (.sl s es) u:=ZS h hr
end
theorem OwnS.more {hp:Hp} {nx e s:Nat} {v:PV} {xs:List (List PV)} (h:OwnS hp nx e s v xs) (b:Option Blk):OwnS (upd hp nx b) (nx+1) e s v xs:=by
 rcases h with⟨rfl,rfl⟩ | ⟨id,h1,rfl,h2⟩
 ·exact .inl ⟨rfl,rfl⟩
 ·exact .inr ⟨id,by omega,rfl,by rw[zq _ _ _ _ (by omega)];exact h2⟩
theorem xw (hg:GoodD dr C pf) (hk:xP C pf f fn) (kill:Bool) (ns:List Nat) (F:List PV→Option PV)
  (hF:∀args r,F args=some r→∀(w:World) (S:Nat→Prop) (vs:List Value),Zip (RepC w S) args vs→∃args' r0,Zip (RepC w S) args' vs∧args'.length≤fn.ntmps∧zg C fn args'=some r0∧∀(w:World) (S:Nat→Prop) (u:Value),RepC w S r0 u→RepC w S r u):jt dr C.P f (zd kill ns F) :=
 let ⟨_,hk⟩:=hk
 zcU hg hk kill ns F hF
end
variable {dr:Prop}
def Zq (P:Program) (l:Tab) (k:Nat) (L:List Tmp) (b:List Nat):Ctx:=⟨P,lookup l,fun _=>[],fun i=>if i=k then L else [],fun g=>b.contains g,fun _=>[],fun _=>none⟩
@[simp] theorem mkCtxL_P (P:Program) (l:Tab) (k:Nat) (L:List Tmp) (b:List Nat):(Zq P l k L b).P=P:=rfl
@[simp] theorem call_mkL (P:Program) (l:Tab) (k:Nat) (L:List Tmp) (b:List Nat) (hp:Hp) (nx g:Nat) (x y xs:List PV):wg (Zq P l k L b) hp nx (some (.fn (.func g) x y)) xs=(lookup l g).bind fun s=>s (x++xs++y) hp nx:=by
 unfold wg Zq
 simp only
 cases lookup l g<;>rfl
@[simp] theorem EvC_region_mkL (P:Program) (l:Tab) (k:Nat) (L:List Tmp) (b:List Nat) (i:Nat) (ops:Array Oper) (d:Bool) (st:St) (K:Exit→St→Prop) (h:¬i=k):EvC (Zq P l k L b) (.region i ops d) st K=EvL (Zq P l k L b) ops ops.toList st (Yk K) :=
 vP _ i ops d st K rfl (by simp[Zq,h])
theorem Kq {P:Program} {l:Tab} {k:Nat} {L:List Tmp} {b:List Nat} {ops:Array Oper} {d:Bool} {st:St} {K:Exit→St→Prop} (h:xi L st):EvC (Zq P l k L b) (.region k ops d) st K=EvL (Zq P l k L b) ops ops.toList st (Yk K) :=
 kB _ k ops d st K (fun _ h=>by cases h) (by simpa[Zq] using h)
def zk1 (P:Program) (l:Tab) (k:Nat) (t:Tmp):Ctx:=⟨P,lookup l,fun _=>[],fun _=>[],fun _=>false,fun i=>if i=k then [t] else [],fun _=>none⟩
@[simp] theorem mkCtxF_P (P:Program) (l:Tab) (k:Nat) (t:Tmp):(zk1 P l k t).P=P:=rfl
@[simp] theorem call_mkF (P:Program) (l:Tab) (k:Nat) (t:Tmp) (hp:Hp) (nx g:Nat) (x y xs:List PV):wg (zk1 P l k t) hp nx (some (.fn (.func g) x y)) xs=(lookup l g).bind fun s=>s (x++xs++y) hp nx:=by
 unfold wg zk1
 simp only
 cases lookup l g<;>rfl
def zcV (b:List Nat):Tab→Prop
 | []=>True
 | (g,s)::l=>(b.contains g=true→vr s)∧zcV b l
theorem zha {P:Program} {l:Tab} {q:List Nat} {k:Nat} {L:List Tmp} {b:List Nat} (hm:P.follows .mixedOrders=true) (h:ziI dr P q l) (hb:zcV b l):GoodD dr (Zq P l k L b) (fun g=>q.contains g):=by
 let g:=zk hm h
 refine⟨g.spec,g.quiet,g.mixed,?_,fun _ _ h=>by cases h⟩
 have key:∀l:Tab,zcV b l→∀g s,b.contains g=true→lookup l g=some s→vr s:=by
  intro l
  induction l with
  | nil=>intro _ g s _ h;cases h
  | cons x l ih =>
    obtain⟨k,sp⟩:=x
    rintro⟨h1,h2⟩ g s hg hs
    simp only[Ko] at hs
    split at hs
    ·rename_i e
     injection hs with hs
     subst hs;subst e
     exact h1 hg
    ·exact ih h2 g s hg hs
 exact fun g s hg hs=>key l hb g s hg hs
theorem Qp:∀{xs ys:List PV} {hp hp1:Hp},zj hp xs=some (ys,hp1)→∀{id:Nat} {b:Blk},hp id=some b→b.arr=false→hp1 id=some b
 | [],ys,hp,hp1,h,id,b,hb,ha=>by
   simp only[zj] at h
   injection h with h;injection h with _ h;subst h;exact hb
 | x::l,ys,hp,hp1,h,id,b,hb,ha=>by
   simp only[zj] at h
   split at h
   ·rename_i y hp2 h1
    split at h
    ·rename_i r hp3 h2
     injection h with h;injection h with _ h;subst h
     exact Qp h2 (xr h1 hb ha) ha
    ·cases h
   ·cases h
def Stands (r0 r:PV):Prop:=∀(w:World) (S:Nat→Prop) (u:Value),RepC w S r0 u→RepC w S r u
def zu0 (r:PV) (x:PV) (hp:Hp) (_:Nat):Prop:=∃r0,(AM.freeze hp x).map (·.1)=some r0∧Stands r0 r
theorem kZ {C:Ctx} {fn:Func} {code:Code} {args:List PV} {r:PV} (hb:fn.body=some code)
  (h:EvC C code ⟨yF args,fun _=>none,0⟩ (zcL C.P fn (zu0 r))):∃r0,zg C fn args=some r0∧Stands r0 r:=by
 obtain⟨x,hp',nx',h1,r0,h2,h3⟩:=zM hb h
 exact⟨r0,by unfold zg;simp only[h1];exact h2,h3⟩
theorem zcW {w:World} {S:Nat→Prop} {s:Nat} {xs:List (List PV)} {y:PV} {u:Value} (h:y=.nil∧xs=[]∨y=.sl s xs) (hr:RepC w S y u):RepC w S (.sl s xs) u:=by
 rcases h with⟨rfl,rfl⟩ | rfl
 ·exact ZS .nil hr
 ·exact hr
theorem Stands.refl (x:PV):Stands x x:=fun _ _ _ h=>h
theorem Stands.nilOr {s:Nat} {xs:List (List PV)} {y:PV} (h:y=.nil∧xs=[]∨y=.sl s xs):Stands y (.sl s xs):=fun _ _ _ hr=>zcW h hr
inductive StandsL:List PV→List PV→Prop
 | nil:StandsL [] []
 | cons {x y:PV} {xs ys:List PV}:Stands x y→StandsL xs ys→StandsL (x::xs) (y::ys)
theorem StandsL.length {xs ys:List PV} (h:StandsL xs ys):xs.length=ys.length:=by
 induction h with
 | nil=>rfl
 | cons _ _ ih=>simp[ih]
theorem StandsL.get {xs ys:List PV} (h:StandsL xs ys):∀{j:Nat} {x y:PV},xs[j]?=some x→ys[j]?=some y→Stands x y:=by
 induction h with
 | nil=>intro j x y h;cases h
 | cons h0 _ ih =>
   intro j x y h1 h2
   cases j with
   | zero=>simp at h1 h2;subst h1;subst h2;exact h0
   | succ j=>exact ih (by simpa using h1) (by simpa using h2)
theorem StandsL.agg {xs ys:List PV} (h:StandsL xs ys):Stands (.agg xs) (.agg ys):=by
 intro w S u hr
 cases hr with
 | agg hl hc =>
   refine .agg (by rw[←h.length];exact hl) fun j pv u hj hu=>?_
   have hjl:j<xs.length:=by rw[h.length];exact (List.getElem?_eq_some_iff.1 hj).1
   exact h.get (List.getElem?_eq_getElem hjl) hj _ _ _ (hc j _ u (List.getElem?_eq_getElem hjl) hu)
theorem StandsL.tup {xs ys:List PV} (h:StandsL xs ys):Stands (.tup xs) (.tup ys):=by
 intro w S u hr
 cases hr with
 | tup hl hc =>
   refine .tup (by rw[←h.length];exact hl) fun j pv u hj hu=>?_
   have hjl:j<xs.length:=by rw[h.length];exact (List.getElem?_eq_some_iff.1 hj).1
   exact h.get (List.getElem?_eq_getElem hjl) hj _ _ _ (hc j _ u (List.getElem?_eq_getElem hjl) hu)
theorem OwnS.at_ {hp:Hp} {nx e s:Nat} {v:PV} {xs:List (List PV)} (h:OwnS hp nx e s v xs) (hk:0<xs.length):∃id,id<nx∧v=.own id 0 xs.length∧hp id=some ⟨e,s,true,xs⟩:=by
 rcases h with⟨rfl,rfl⟩ | h
 ·simp at hk
 ·exact h
theorem OwnS.same {hp hp':Hp} {nx nx' e s:Nat} {v:PV} {xs:List (List PV)} (h:OwnS hp nx e s v xs) (hn:nx≤nx') (hh:∀id n,v=.own id 0 n→hp' id=hp id):OwnS hp' nx' e s v xs:=by
 rcases h with⟨rfl,rfl⟩ | ⟨id,h1,rfl,h2⟩
 ·exact .inl ⟨rfl,rfl⟩
 ·exact .inr ⟨id,by omega,rfl,by rw[hh id _ rfl];exact h2⟩
variable {dr:Prop}
def n1 (s:Nat):PV→PV
 | .nil=>.sl s []
 | .em=>.sl s []
 | x=>x
@[simp] theorem n1_nil (s:Nat):n1 s .nil=.sl s []:=rfl
@[simp] theorem n1_em (s:Nat):n1 s .em=.sl s []:=rfl
@[simp] theorem n1_sl (s t:Nat) (es:List (List PV)):n1 s (.sl t es)=.sl t es:=rfl
@[simp] theorem n1_v (s:Nat) (x:Value):n1 s (.v x)=.v x:=rfl
def Yc:List (Option Nat)→List PV→List PV
 | some s::l,x::xs=>n1 s x::Yc l xs
 | none::l,x::xs=>x::Yc l xs
 | _,xs=>xs
inductive Sh where
 | a
 | g (p:List (Option Nat))
 | s (n:Nat) (p:List (Option Nat))
def Sh.fix:Sh→PV→PV
 | .g p,.agg cs=>.agg (Yc p cs)
 | .s _ p,.sl m es=>.sl m (es.map (Yc p))
 | .s n _,x=>n1 n x
 | _,x=>x
@[simp] theorem Sh.fix_a (x:PV):Sh.fix .a x=x:=by cases x<;>rfl
@[simp] theorem Sh.fix_g (p:List (Option Nat)) (cs:List PV):Sh.fix (.g p) (.agg cs)=.agg (Yc p cs):=rfl
@[simp] theorem Sh.fix_s (n m:Nat) (p:List (Option Nat)) (es:List (List PV)):Sh.fix (.s n p) (.sl m es)=.sl m (es.map (Yc p)):=rfl
@[simp] theorem Sh.fix_nil (n:Nat) (p:List (Option Nat)):Sh.fix (.s n p) .nil=.sl n []:=rfl
@[simp] theorem Sh.fix_em (n:Nat) (p:List (Option Nat)):Sh.fix (.s n p) .em=.sl n []:=rfl
attribute [simp] Yc
def zhb:List Sh→List PV→List PV
 | h::l,x::xs=>h.fix x::zhb l xs
 | _,xs=>xs
attribute [simp] zhb
theorem zk2 (s:Nat) (x:PV):Stands x (n1 s x):=by
 intro w S u h
 cases x with
 | nil=>exact ZS .nil h
 | em=>exact ZS .em h
 | _=>exact h
theorem yk:∀(p:List (Option Nat)) (cs:List PV),(Yc p cs).length=cs.length
 | [],cs=>by cases cs<;>rfl
 | none::p,[]=>rfl
 | some s::p,[]=>rfl
 | none::p,x::cs=>by simp[yk p cs]
 | some s::p,x::cs=>by simp[yk p cs]
theorem yW:∀(p:List (Option Nat)) (cs:List PV),StandsL cs (Yc p cs)
 | [],[]=>.nil
 | [],x::cs=>by
   have:=yW [] cs
   rw[show Yc [] cs=cs by cases cs<;>rfl] at this
   exact .cons (Stands.refl x) this
 | none::p,[]=>.nil
 | some s::p,[]=>.nil
 | none::p,x::cs=>.cons (Stands.refl x) (yW p cs)
 | some s::p,x::cs=>.cons (zk2 s x) (yW p cs)
theorem ZT (h:Sh) (x:PV):Stands x (h.fix x):=by
 intro w S u hr
 cases h with
 | a=>simpa using hr
 | g p =>
   cases x with
   | agg cs=>exact (yW p cs).agg w S u hr
   | _=>exact hr
 | s n p =>
   cases x with
   | sl m es =>
     cases hr with
     | sl us h0 h1 h2 h3 h4 h5 =>
       rename_i A cap
       have:=RepC.sl (w:=w) (S:=S) (es:=es.map (Yc p)) (A:=A) (cap:=cap) (s:=m) us h0 (by simpa using h1) h2 (fun c hc=>by
        obtain⟨c',hc',rfl⟩:=List.mem_map.1 hc
        rw[yk];exact h3 c' hc') (fun i j c pv hi hj=>by
        rw[List.getElem?_map] at hi
        obtain⟨c',hc',rfl⟩:∃c',es[i]?=some c'∧Yc p c'=c:=by
         cases hh:es[i]? with
         | none=>rw[hh] at hi;cases hi
         | some c'=>rw[hh] at hi;injection hi with hi;exact⟨c',rfl,hi⟩
        have hjl:j<c'.length:=by
         have:=(List.getElem?_eq_some_iff.1 hj).1
         rwa [yk] at this
        exact h4 i j c' _ hc' (List.getElem?_eq_getElem hjl)) (fun i j c pv hi hj=>by
        rw[List.getElem?_map] at hi
        obtain⟨c',hc',rfl⟩:∃c',es[i]?=some c'∧Yc p c'=c:=by
         cases hh:es[i]? with
         | none=>rw[hh] at hi;cases hi
         | some c'=>rw[hh] at hi;injection hi with hi;exact⟨c',rfl,hi⟩
        have hjl:j<c'.length:=by
         have:=(List.getElem?_eq_some_iff.1 hj).1
         rwa [yk] at this
        exact (yW p c').get (List.getElem?_eq_getElem hjl) hj _ _ _ (h5 i j c' _ hc' (List.getElem?_eq_getElem hjl)))
       rw[List.length_map] at this
       exact this
   | nil=>exact ZS .nil hr
   | em=>exact ZS .em hr
   | _=>exact hr
theorem ZU {w:World} {S:Nat→Prop}:∀{hs:List Sh} {xs:List PV} {us:List Value},Zip (RepC w S) xs us→Zip (RepC w S) (zhb hs xs) us
 | [],xs,us,h=>by cases xs<;>exact h
 | s::hs,[],us,h=>h
 | s::hs,x::xs,us,h=>by
   obtain⟨u,us',rfl,hu,hz⟩:=h.uncons
   exact .cons (ZT s x w S u hu) (ZU hz)
def zG (shs:List Sh) (F:List PV→Option PV):AM.Spec:=zd false [] fun args=>F (zhb shs args)
theorem qv (shs:List Sh) (F:List PV→Option PV):Zg (zG shs F):=zi _ _
theorem zZ {C:Ctx} {pf:FuncId→Bool} {f:FuncId} {fn:Func} (hg:GoodD dr C pf) (hk:xP C pf f fn) (shs:List Sh) (F:List PV→Option PV)
  (hF:∀args r,F args=some r→args.length≤fn.ntmps∧∃r0,zg C fn args=some r0∧Stands r0 r):jt dr C.P f (zG shs F) :=
 xw hg hk false [] _ fun args r h w S vs hz=>by
  obtain⟨h1,r0,h2,h3⟩:=hF _ _ h
  exact⟨zhb shs args,r0,ZU hz,h1,h2,h3⟩
theorem yp {shs:List Sh} {F:List PV→Option PV} {args:List PV} {hp:Hp} {nx:Nat} {aZ:List PV} {r:PV} (h1:zj hp args=some (aZ,hp)) (h2:F (zhb shs aZ)=some r) (h3:r.flat=true∨args.all PV.noOwn=true) :
  zG shs F args hp nx=some (r,hp,nx):=by
 have hn:qw [] aZ=aZ:=by cases aZ<;>rfl
 exact zH h1 (by rw[hn];exact h2) h3
def zaS (sh:Sh) (r:PV) (x:PV) (hp:Hp) (_:Nat):Prop:=∃r0,(AM.freeze hp x).map (·.1)=some r0∧sh.fix r0=r
theorem vd {C:Ctx} {fn:Func} {code:Code} {args:List PV} {sh:Sh} {r:PV} (hb:fn.body=some code)
  (h:EvC C code ⟨yF args,fun _=>none,0⟩ (zcL C.P fn (zaS sh r))):∃r0,zg C fn args=some r0∧Stands r0 r:=by
 obtain⟨x,hp',nx',h1,r0,h2,h3⟩:=zM hb h
 exact⟨r0,by unfold zg;simp only[h1];exact h2,h3 ▸ ZT sh r0⟩
def zF (sh:Sh) (r:PV) (x:PV) (hp:Hp) (_:Nat):Prop:=∃r0 y,(AM.freeze hp x).map (·.1)=some (.tup [r0,y])∧.tup [sh.fix r0,y]=r
theorem qt {C:Ctx} {fn:Func} {code:Code} {args:List PV} {sh:Sh} {r:PV} (hb:fn.body=some code)
  (h:EvC C code ⟨yF args,fun _=>none,0⟩ (zcL C.P fn (zF sh r))):∃r0,zg C fn args=some r0∧Stands r0 r:=by
 obtain⟨x,hp',nx',h1,r0,y,h2,h3⟩:=zM hb h
 exact⟨.tup [r0,y],by unfold zg;simp only[h1];exact h2,h3 ▸ (StandsL.cons (ZT sh r0) (.cons (Stands.refl y) .nil)).tup⟩
theorem yq {P:Program} {g:FuncId} {F:List PV→Option PV} (hfn:∃fn,P.funcs[g]?=some fn∧(fn.name== "runtime.NumGoroutine")=false∧fn.body.isNone=false)
  (h:∀args r,F args=some r→∃us:List Value,args=us.map PV.v∧(∀u∈us,lit u=true)∧r.flat=true∧∃v,(∀w S,RepC w S r v)∧∀w S,Glo P w S→Calls P g us.toArray w fun e w'=>e=.returned v∧Fr dr w (fun _=>False) w'):jt dr P g (zd false [] F):=by
 refine⟨hfn,?_⟩
 intro args hp nx r hp' nx' hs w S G vs hi hz
 unfold zd at hs
 split at hs
 ·rename_i aZ hp1 hfr
  split at hs
  ·rename_i r0 hF
   obtain⟨us,e,hl,hfl,v,hv,hc⟩:=h _ _ hF
   have e':qw [] aZ=aZ:=by cases aZ<;>rfl
   rw[e'] at e
   subst e
   have hargs:args=us.map PV.v:=by
    have key:∀(args:List PV) (us:List Value) (hp1:Hp),zj hp args=some (us.map PV.v,hp1)→args=us.map PV.v:=by
     intro args
     induction args with
     | nil=>intro us hp1 hh;simp only[zj] at hh;injection hh with hh;injection hh with hh _
     | cons x l ih =>
       intro us hp1 hh
       simp only[zj] at hh
       split at hh
       ·rename_i y hp2 hy
        split at hh
        ·rename_i r2 hp3 hr2
         injection hh with hh
         injection hh with hh _
         cases us with
         | nil=>simp at hh
         | cons u us =>
           simp only[List.map_cons,List.cons.injEq] at hh
           obtain⟨rfl,rfl⟩:=hh
           have hx:x=.v u∧hp2=hp:=by
            unfold zE at hy
            split at hy
            ·split at hy
             ·injection hy with hy;injection hy with hy _;cases hy
             ·cases hy
            ·unfold qh at hy
             split at hy<;>first
              | (split at hy<;>first | (split at hy<;>first | (injection hy with hy;injection hy with hy _;cases hy;done) | cases hy) | cases hy)
              | (injection hy with hy;injection hy with h1 h2;first | (exact⟨by rw[←h1],h2.symm⟩) | cases h1)
              | cases hy
           obtain⟨rfl,rfl⟩:=hx
           rw[ih us hp3 hr2]
           rfl
        ·cases hh
       ·cases hh
    exact key args us hp1 hfr
   subst hargs
   simp only[hfl,true_or,if_true] at hs
   injection hs with hs
   injection hs with h1 h2
   injection h2 with h2 h3
   subst h1;subst h2;subst h3
   rw[zaR hl hz]
   refine (hc w S hi.glo).mono fun e w' hh=>?_
   obtain⟨rfl,fr⟩:=hh
   exact⟨v,_,G,rfl,Stp.outer hi fr,.c (hv _ _)⟩
  ·cases hs
 ·cases hs
end Go.AM
namespace Go.Proofs
open Go.Shelf
def Tryz.lays213_ren:Go.Shelf.Ren:=⟨fun | 213=>48 | 265=>69 | n=>n,fun | 9=>9 | 3=>3 | n=>n,fun | n=>n⟩
theorem Tryz.lays213:Go.Proofs.Lays.n213 prog Tryz.lays213_ren:={
 mixed:=by kernel_rfl
 f213:=func48.trans (congrArg some (by kernel_rfl))
 f265:=func69.trans (congrArg some (by kernel_rfl))
 t3:=underlying3
 a3:=isAgg3
 z3:=sizeOf3
 v3:=zeroValue3
 t9:=underlying9
 a9:=isAgg9
 z9:=sizeOf9
 v9:=zeroValue9 }
open Go.RowKit in
theorem Tryz.bytealg_CompareString (a b:ByteArray) (w:World) :
  Calls prog 48 #[.string a,.string b] w fun e w'=>e=.returned (.int .i64 (Lib.compareBytes a.data.toList b.data.toList))∧w'=w:=Any.bytealg_CompareString Tryz.lays213 a b w
end Go.Proofs
