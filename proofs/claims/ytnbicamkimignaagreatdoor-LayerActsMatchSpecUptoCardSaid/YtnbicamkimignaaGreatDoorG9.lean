/- Lemmas. -/
import Derived.Lib.Strings
import Derived.Carry
import Derived.ChangeSame
import Derived.OpenShut
import Derived.Shelf.Small.Strs
import Derived.Shelf.Strconv.Itoa0
import Derived.Ground.Names2Prog
import Derived.Test.YtnbicamkimignaaGreatDoorProg
import Derived.Test.YtnbicamkimignaaGreatDoorG10
set_option maxRecDepth 100000
open Go Proofs Proofs.YtnbicamkimignaaGreatDoor Proofs.Tryz RowKit AM SpanLaw Q Zz
open Go.IntKind renaming i64→i6
namespace Go.AM
variable{dr:Prop}
abbrev str(l:za):O:=.v (.string ⟨l.toArray⟩)
@[simp]theorem zgF(l:za):(ByteArray.mk l.toArray).size=l.length:=by simp[ByteArray.size]
@[simp]theorem bget(l:za)(i:Nat):(ByteArray.mk l.toArray)[i]?=l[i]?:=by
 by_cases h:i<l.length
 ·rw[getElem?_pos (ByteArray.mk l.toArray) i (by simpa using h),zu h];rfl
 ·rw[getElem?_neg (ByteArray.mk l.toArray) i (by simpa using h),Jj (by omega)]
@[simp]theorem O4(l:za)(a b:Nat):(ByteArray.mk l.toArray).extract a b=⟨((l.drop a).take (b-a)).toArray⟩:=by have h:=Lib.extract_data (ByteArray.mk l.toArray) a b;rw[ByteArray.ext_iff];apply Array.toList_inj.1;rw[h]
theorem wx{a b:za}(h:str a=str b):a=b:=by injection h with h;injection h with h;injection h with h;simpa using zD Array.toList h
@[simp]theorem zfp(P:Program)(t:TypeId)(l:za)(k:IntKind)(i:Int)(h:P.underlying t=some .string):Q3 P t (.v (.string ⟨l.toArray⟩)) (.v (.int k i)) =
  if 0≤i then(l[i.toNat]?).map fun b=>.v (.int .u8 b.toNat)else none:=by
 simp only[Q3,h,bget];split
 ·cases l[i.toNat]?<;>rfl
 ·rfl
@[simp]theorem zfq(P:Program)(Y:Hp)(t:TypeId)(l:za)(lo c:Option (Option O))(h:P.underlying t=some .string):js P Y t (.v (.string ⟨l.toArray⟩)) lo c =
  (vq 0 lo).bind fun a=>(vq l.length c).bind fun b=>if a≤b∧b≤l.length then some (str ((l.drop a).take (b-a)))else none:=by
 simp only[js,h,zgF,O4];cases vq 0 lo<;>(try rfl);cases vq l.length c<;>rfl
attribute [simp] vq
@[simp]theorem UF(P:Program)(t:TypeId)(a b:Bool)(h:P.underlying t=some .bool):jP P .eql t (.v (.bool a)) (.v (.bool b))=some (.v (.bool (a==b))):=by simp[jP,h]
@[simp]theorem UG(P:Program)(t:TypeId)(a b:Bool)(h:P.underlying t=some .bool):jP P .neq t (.v (.bool a)) (.v (.bool b))=some (.v (.bool (!(a==b)))):=by simp[jP,h]
@[simp]theorem zgG(P:Program)(s d:TypeId)(k:IntKind)(n:Int):a7 P s d (.v (.int k n))=(P.underlying s).bind fun _=>(P.underlying d).bind fun u=>match u with|.int a=>some (.v (.int a (a.wrap n)))|_=>none:=by simp only[a7];cases P.underlying s<;>(try rfl);cases P.underlying d<;>(try rfl);rename_i u;cases u<;>rfl
theorem qe{F:zc→Option O}{b:List Nat}{a:Bool}{args c:zc}{Y Y1:Hp}{Z:Nat}{r:O}(d:zA Y args=some (c,Y1))(e:F (yf b c)=some r)(f:r.flat=true∨args.all O.noOwn=true) :
  zi a b F args Y Z=some (r,Y,Z):=by
 unfold zi;simp only[d,e,f,wi]
theorem qn{k:IntKind}{a b:Int}(h:O.v (.int k a)=.v (.int k b)):a=b:=by injection h with h;injection h
theorem Q7{a b:Bool}(h:O.v (.bool a)=.v (.bool b)):a=b:=by injection h with h;injection h
def zgH{α a:Type}(f:α→a)(K:a→Prop)(x:α):Prop:=K (f x)
def zgI{α a:Type}(f:α→Option a)(K:a→Prop)(x:α):Prop:=Xi (f x) K
@[simp]theorem zfr{α a:Type}(f:α→a)(K:a→Prop)(x:α):zgH f K x=K (f x):=rfl
@[simp]theorem zfs{α a:Type}(f:α→Option a)(K:a→Prop)(x:α):zgI f K x=Xi (f x) K:=rfl
def Xk(C:Ctx)(a:FuncId→Bool)(f:FuncId)(fn:Func):Prop:=∃code,iF C a f fn code
theorem qq{C:Ctx}{c:FuncId→Bool}{f:FuncId}{fn:Func}(g:Yj dr C c)(b:Xk C c f fn)(a:Bool)(d:List Nat)(F:zc→Option O)(h:∀args r,F args=some r→args.length≤fn.ntmps∧∃e,zz C fn args=some e∧gH e r):km dr C.P f (zi a d F):=
 let⟨_,b⟩:=b
 Cq g b a d F h
noncomputable def wP (C:Ctx) (fn:Func):AM.Spec:=fun args Y Z=>if args.length≤fn.ntmps then yr C fn args Y Z else none
theorem wZ{C:Ctx}{c:FuncId→Bool}{f:FuncId}{fn:Func}{code:Code}(b:Yj dr C c)(a:iF C c f fn code):km dr C.P f (wP C fn):=by
 refine⟨⟨fn,a.func,a.name,by rw[a.body];rfl⟩,?_⟩;intro args Y Z r Y' i h w S G vs d e;unfold wP at h;split at h
 ·rename_i g;exact K8 b.spec b.quiet b.box b.iter b.mixed a.func a.body a.ok h d e g
 ·cases h
end Go.AM
namespace Go.AM
open Go.RowKit Go.WideShapes Go.ChangeShapes
variable{dr:Prop}
section
variable{H:Type}{V:TypeId×Value→H}{P:Program}
theorem bj(f:laidOutB P=true){W g:World}(i:Below W.heap.size W g){j:Nat→Bool}:∀{ts:List TypeId} {vs:List Value} {ds:List (DataW H)} {ps:List MemPlace},(∀t∈ts,P.readableRec t=true∧t<P.types.size) →
  DataW.TrodAll V P W 0 (fun _=>true) true ts vs ds ps→(∀p∈ps,p.block<W.heap.size)→(∀p∈ps,j p.block=true)→DataW.TrodAll V P g 0 j true ts vs ds ps
 |[],vs,ds,ps,_,h,_,_=>by obtain⟨rfl,rfl,rfl⟩:=trodAll_nil h;exact trodAll_mk0
 |t::ts,vs,ds,ps,e,h,b,c=>by
  obtain⟨v,k,d,l,p,q,rfl,rfl,rfl,m,n⟩:=trodAll_cons h;exact trodAll_cons_mk (WideElems.Trod_stays f (e t (by simp)).1 (e t (by simp)).2 m (fun x a=>i.same (b x (by simp[a]))) (fun x a=>c x (by simp[a])))
   (bj f i (fun u o=>e u (by simp[o])) n (fun x a=>b x (by simp[a])) (fun x a=>c x (by simp[a])))
theorem O5{f:Func}{s:ChangeSpec}{a i c j:Bool}{W m:World}{args:Array Value}{ds D:List (DataW H)}{before:List MemPlace}(E:laidOutB P=true)(F:∀t∈f.params.toList,P.readableRec t=true∧t<P.types.size)
  (A:s.vars=[]) (v:DataW.Whole V P f.params.toList s.vars a W args.toList ds D before) (k:s.fn H ds={results:=[.lit (.bool true)],args:=ds}) {tb:TypeId} (B:f.resultTypes=#[tb]) (n:P.underlying tb=some .bool) (w:Below W.heap.size W m) :
  s.post V P f a i c j W args (.bool true) m:=by
 have l:∀p∈before,p.block<W.heap.size:=fun p Y=>v.lt p Y
 have x:=v;obtain⟨p,q,G,C,o,I,J⟩:=v;rw[A]at C;obtain⟨rfl,rfl⟩:=trodVars_none C;simp only[yh]at o;subst o;have y:DataW.TrodAll V P W 0 (fun _=>true) true f.params.toList args.toList ds before:=G;have d:∀g:Nat→Bool,(∀p∈before,g p.block=true)→DataW.TrodAll V P m 0 g true f.params.toList args.toList ds before:=fun g z=>bj E w F y l z
 have r:∀p∈before,(fun b=>decide (b<W.heap.size)) p.block=true:=fun p Y=>by simpa using l p Y
 have h:∀(b:Nat) (g:Nat→Bool) (hd:Bool),DataW.TrodAll V P m b g hd f.resultTypes.toList ((Value.bool true).resultList f.resultTypes.size) [.lit (.bool true)] []:=fun b g hd=>by rw[B];exact trodAll_cons_mk (shut_bool n _) trodAll_mk0
 have e:∀g,DataW.TrodVars V P m g s.vars [] []:=fun g=>by rw[A];rfl
 refine⟨ds,[],before,[],before,[],by simpa using x,?_,?_,?_,World.keptBut_mono (fun p Y=>⟨Y,.inr (.inl Y)⟩) (w.frame (·∈before)),fun _=>?_⟩
 ·rw[yh,k];exact h _ _ _
 ·rw[yh,k];exact d _ r
 ·rw[yh,k];exact e _
 ·refine⟨ok_one B rfl (okWide_bool_mk n _),_,_,([]++before)++[],⟨[]++before,[],trodAll_append (d _ (fun _ _=>rfl)) (h _ _ _),e _,rfl,?_,?_⟩,?_⟩
  ·intro b off Y;have u:MemPlace.cell b off∈before:=by simpa using Y
   rw[w.frozen (l _ u)];exact I b off (by simpa using u)
  ·intro K;have:=J K;simpa using this
  ·intro p Y _;simpa using Y
end
end Go.AM
namespace Go.AM
variable{dr:Prop}
def fe:Op→Bool
 | .move _|.assign _|.pick _ _ _|.load _ _|.binOp _ _ _ _ _|.unOp _ _ _|.convert _ _ _|.fieldAddr _ _ _|.field _ _ _|.indexAddr _ _ _|.index _ _ _|.extract _ _=>true
 | .slice _ _ _ _ none=>true
 | .call c=>match c.callee with
  | .builtin .len=>true
  | .builtin .min=>true
  | .builtin .max=>true
  |_=>false
 |_=>false
def uJ(C:Ctx)(st:St)(op:Op):Option O:=(qt C (get st.σ) st.Y st.Z op).map (·.1)
theorem Xl{o:Option O}{Y:Hp}{Z:Nat}:(o.map fun y=>(y,Y,Z))=((o.map fun y=>(y,Y,Z)).map (·.1)).map fun x=>(x,Y,Z):=by cases o<;>rfl
theorem xe{o:Option O}{Y:Hp}{Z:Nat}:(o.bind fun y=>some (y,Y,Z))=((o.bind fun y=>some (y,Y,Z)).map (·.1)).map fun x=>(x,Y,Z):=by cases o<;>rfl
theorem LZ{C:Ctx}{st:St}{op:Op}(h:fe op=true):qt C (get st.σ) st.Y st.Z op=(uJ C st op).map fun x=>(x,st.Y,st.Z):=by
 unfold uJ;generalize get st.σ=ρ;cases op with
 |move x=>simp only[Up];exact Xl
 |assign x=>simp only[LY];exact Xl
 |pick c a b=>simp only[Uq];exact Xl
 |load t a=>simp only[Us];cases ρ a<;>(try rfl);exact xe
 |binOp op t x y j=>simp only[zdo];cases ρ x<;>cases ρ y<;>(try rfl);exact xe
 |unOp op t x=>simp only[zgo];cases ρ x<;>(try rfl);exact xe
 |convert s d x=>simp only[Ur];cases ρ x<;>(try rfl);exact xe
 |fieldAddr t x f=>simp only[uH];cases ρ x<;>(try rfl);exact xe
 |field t x f=>simp only[O1];cases ρ x<;>(try rfl);exact xe
 |indexAddr t x i=>simp only[uI];cases ρ x<;>cases ρ i<;>(try rfl);exact xe
 |index t x i=>simp only[O2];cases ρ x<;>cases ρ i<;>(try rfl);exact xe
 |extract x i=>simp only[Gc];cases ρ x<;>(try rfl);exact xe
 |slice t x lo k g=>
  cases g with
  |none=>simp only[O3];cases ρ x<;>(try rfl);exact xe
  |some m=>simp[fe]at h
 |call c=>
  obtain⟨e,args,ts⟩:=c;cases e with
  |builtin b=>
   simp only[Gd];cases yS (args.toList.map ρ)with
   |none=>rfl
   |some xs=>
    simp only[Option.bind_eq_bind,zS];cases b<;>(try (simp[fe]at h;done))
    case len=>
     cases xs with
     |nil=>rfl
     |cons x l=>
      cases l with
      |nil=>simp only[Ux];cases ts[0]?<;>(try rfl);exact xe
      |cons _ _=>rfl
    case min=>simp only[Uy];exact Xl
    case max=>simp only[Uz];exact Xl
  |_=>simp[fe]at h
 |_=>simp[fe]at h
def yB(C:Ctx)(g:FuncId):Prop:=∀a,C.Γ g=some a→W9 a
def vO(C:Ctx)(op:Op):Prop:=∀st:St,qt C (get st.σ) st.Y st.Z op=(uJ C st op).map fun x=>(x,st.Y,st.Z)
theorem jV{C:Ctx}{op:Op}(h:fe op=true):vO C op:=fun _=>LZ h
@[simp]theorem ziy(C:Ctx)(g:FuncId)(a:Array Operand)(ts:Array TypeId)(h:yB C g):vO C (.call ⟨.value (.func g),a,ts⟩):=by
 intro st;unfold uJ;simp only[Uv,O0];cases yS (a.toList.map (get st.σ))with
 |none=>rfl
 |some xs=>
  simp only[Option.bind_eq_bind,zS];cases hs:C.Γ g with
  |none=>simp[jQ,hs]
  |some b=>
   rw[Ge C st.Y st.Z g [] [] xs b hs];cases c:b ([]++xs++[]) st.Y st.Z with
   |none=>rfl
   |some r=>obtain⟨x,Y',d⟩:=r;obtain⟨rfl,rfl⟩:=h b hs _ _ _ _ _ _ c;rfl
theorem wC{P:Program}{l:Jg}{g:Nat}{a:AM.Spec}(h:lookup l g=some a)(b:W9 a):yB (qb P l) g:=fun s hs=>by
 have:lookup l g=some s:=hs;rw[h]at this;injection this with this
 exact this ▸ b
@[simp]theorem ziz(C:Ctx)(x:Operand):vO C (.move x):=jV rfl
@[simp]theorem zft(C:Ctx)(x:Operand):vO C (.assign x):=jV rfl
@[simp]theorem ziA(C:Ctx)(c a b:Operand):vO C (.pick c a b):=jV rfl
@[simp]theorem ziB(C:Ctx)(t:TypeId)(x:Operand):vO C (.load t x):=jV rfl
@[simp]theorem zjp(C:Ctx)(o:BinOp)(t a:TypeId)(x y:Operand):vO C (.binOp o t x y a):=jV rfl
@[simp]theorem zkp(C:Ctx)(o:UnOp)(t:TypeId)(x:Operand):vO C (.unOp o t x):=jV rfl
@[simp]theorem ziC(C:Ctx)(t u:TypeId)(x:Operand):vO C (.convert t u x):=jV rfl
@[simp]theorem zkq(C:Ctx)(t:TypeId)(x:Operand)(f:Nat):vO C (.fieldAddr t x f):=jV rfl
@[simp]theorem zkr(C:Ctx)(t:TypeId)(x:Operand)(f:Nat):vO C (.field t x f):=jV rfl
@[simp]theorem zks(C:Ctx)(t:TypeId)(x i:Operand):vO C (.indexAddr t x i):=jV rfl
@[simp]theorem zkt(C:Ctx)(t:TypeId)(x i:Operand):vO C (.index t x i):=jV rfl
@[simp]theorem zku(C:Ctx)(x:Operand)(i:Nat):vO C (.extract x i):=jV rfl
@[simp]theorem zkv(C:Ctx)(t:TypeId)(x:Operand)(lo a:Option Operand):vO C (.slice t x lo a none):=jV rfl
@[simp]theorem zjq(C:Ctx)(a:Array Operand)(ts:Array TypeId):vO C (.call ⟨.builtin .len,a,ts⟩):=jV rfl
@[simp]theorem zjr(C:Ctx)(a:Array Operand)(ts:Array TypeId):vO C (.call ⟨.builtin .min,a,ts⟩):=jV rfl
@[simp]theorem zjs(C:Ctx)(a:Array Operand)(ts:Array TypeId):vO C (.call ⟨.builtin .max,a,ts⟩):=jV rfl
def bc{α:Type}(y:Bool)(a b:α):α:=match y with
 |true=>a
 |false=>b
@[simp]theorem ziD{α:Type}(a b:α):bc true a b=a:=rfl
@[simp]theorem zgJ{α:Type}(a b:α):bc false a b=b:=rfl
@[simp]theorem zjt{α:Type}(y:Bool)(a b:α):bc (!y) a b=bc y b a:=by cases y<;>rfl
@[simp]theorem ziE{α:Type}(y:Bool)(a:α):bc y a a=a:=by cases y<;>rfl
def bx(y:Bool):Bool:=y
@[simp]theorem ziF:bx true=true:=rfl
@[simp]theorem zgK:bx false=false:=rfl
@[simp]theorem zju{α:Type}(y:Bool)(a b c:α):bc y (bc y a b) c=bc y a c:=by cases y<;>rfl
@[simp]theorem zjv{α:Type}(y:Bool)(a b c:α):bc y a (bc y b c)=bc y a c:=by cases y<;>rfl
def pM(C:Ctx)(st:St)(op:Op)(y:Option Bool)(b:Bool):Option O:=if y=some b then uJ C st op else some (.yb [])
section
variable(C:Ctx)(d:Option Tmp)(op:Op)(st:St)
theorem mA(y:Option Bool)(b:Bool)(h:vO C op):ZF C d op st y b=(pM C st op y b).map fun x=>⟨put st.σ d x,st.Y,st.Z⟩:=by
 unfold ZF pM;rw[h st];split
 ·cases uJ C st op<;>rfl
 ·rfl
@[simp low] theorem zdy(y b:Bool)(h:vO C op):ZF C d op st (some y) b=(pM C st op (some y) b).map fun x=>⟨put st.σ d x,st.Y,st.Z⟩:=mA C d op st _ b h
@[simp]theorem zgL(y:Bool)(p q:Option Bool)(b:Bool)(h:vO C op):ZF C d op st (bc y p q) b=(pM C st op (bc y p q) b).map fun x=>⟨put st.σ d x,st.Y,st.Z⟩:=mA C d op st _ b h
@[simp]theorem ziG(y:Bool)(p q:Option Bool)(b:Bool):pM C st op (bc y p q) b=bc y (pM C st op p b) (pM C st op q b):=by cases y<;>rfl
@[simp]theorem zfu(b:Bool):pM C st op none b=some (.yb []):=rfl
@[simp]theorem zjw(y:Bool):pM C st op (some y) true=bc (bx y) (uJ C st op) (some (.yb [])):=by cases y<;>rfl
@[simp]theorem zjx(y:Bool):pM C st op (some y) false=bc (bx y) (some (.yb [])) (uJ C st op):=by cases y<;>rfl
end
@[simp]theorem zfv(y:Bool)(a b:O):Xj (bc y a b)=bc y (Xj a) (Xj b):=by cases y<;>rfl
@[simp]theorem ziH{α:Type}(y:Bool)(a b:α):bc y (some a) (some b)=some (bc y a b):=by cases y<;>rfl
@[simp]theorem zgM(y z:Bool)(w:O):YP (some (.v (.bool y))) (some (bc (bx y) (.v (.bool z)) w)) (some (.v (.bool false)))=some (.v (.bool (y&&z))):=by cases y<;>rfl
@[simp]theorem ziI(y z:Bool)(w:O):YP (some (.v (.bool y))) (some (.v (.bool true))) (some (bc (bx y) w (.v (.bool z))))=some (.v (.bool (y||z))):=by cases y<;>rfl
@[simp]theorem zgN{α:Type}(y c:Bool)(a b d0 d:α):bc y (bc c (bc y a b) d) d0=bc y (bc c a d) d0:=by cases y<;>rfl
@[simp]theorem zgO{α:Type}(y c:Bool)(a b d0 d:α):bc y (bc c d (bc y a b)) d0=bc y (bc c d a) d0:=by cases y<;>rfl
@[simp]theorem zgP{α:Type}(y c:Bool)(a b d e:α):bc y d (bc c (bc y a b) e)=bc y d (bc c b e):=by cases y<;>rfl
@[simp]theorem zgQ{α:Type}(y c:Bool)(a b d e:α):bc y d (bc c e (bc y a b))=bc y d (bc c e b):=by cases y<;>rfl
@[simp]theorem zgR{α:Type}(y c d:Bool)(a b d0 e f:α):bc y (bc c (bc d (bc y a b) f) e) d0=bc y (bc c (bc d a f) e) d0:=by cases y<;>rfl
@[simp]theorem zgS{α:Type}(y c d:Bool)(a b d0 e f:α):bc y (bc c (bc d f (bc y a b)) e) d0=bc y (bc c (bc d f a) e) d0:=by cases y<;>rfl
@[simp]theorem zgT{α:Type}(y c d:Bool)(a b d0 e f:α):bc y (bc c e (bc d (bc y a b) f)) d0=bc y (bc c e (bc d a f)) d0:=by cases y<;>rfl
@[simp]theorem zgU{α:Type}(y c d:Bool)(a b d0 e f:α):bc y (bc c e (bc d f (bc y a b))) d0=bc y (bc c e (bc d f a)) d0:=by cases y<;>rfl
@[simp]theorem zgV{α:Type}(y c d:Bool)(a b e f g:α):bc y e (bc c (bc d (bc y a b) g) f)=bc y e (bc c (bc d b g) f):=by cases y<;>rfl
@[simp]theorem zfw{α:Type}(y c d:Bool)(a b e f g:α):bc y e (bc c (bc d g (bc y a b)) f)=bc y e (bc c (bc d g b) f):=by cases y<;>rfl
@[simp]theorem zfx{α:Type}(y c d:Bool)(a b e f g:α):bc y e (bc c f (bc d (bc y a b) g))=bc y e (bc c f (bc d b g)):=by cases y<;>rfl
@[simp]theorem zfy{α:Type}(y c d:Bool)(a b e f g:α):bc y e (bc c f (bc d g (bc y a b)))=bc y e (bc c f (bc d g b)):=by cases y<;>rfl
@[simp]theorem zfz{α:Type}(y c d e:Bool)(a b d0 f g h:α):bc y (bc c (bc d (bc e (bc y a b) h) g) f) d0=bc y (bc c (bc d (bc e a h) g) f) d0:=by cases y<;>rfl
@[simp]theorem zfA{α:Type}(y c d e:Bool)(a b d0 f g h:α):bc y (bc c (bc d (bc e h (bc y a b)) g) f) d0=bc y (bc c (bc d (bc e h a) g) f) d0:=by cases y<;>rfl
@[simp]theorem zfB{α:Type}(y c d e:Bool)(a b d0 f g h:α):bc y (bc c (bc d g (bc e (bc y a b) h)) f) d0=bc y (bc c (bc d g (bc e a h)) f) d0:=by cases y<;>rfl
@[simp]theorem zfC{α:Type}(y c d e:Bool)(a b d0 f g h:α):bc y (bc c (bc d g (bc e h (bc y a b))) f) d0=bc y (bc c (bc d g (bc e h a)) f) d0:=by cases y<;>rfl
@[simp]theorem zfD{α:Type}(y c d e:Bool)(a b d0 f g h:α):bc y (bc c f (bc d (bc e (bc y a b) h) g)) d0=bc y (bc c f (bc d (bc e a h) g)) d0:=by cases y<;>rfl
@[simp]theorem zfE{α:Type}(y c d e:Bool)(a b d0 f g h:α):bc y (bc c f (bc d (bc e h (bc y a b)) g)) d0=bc y (bc c f (bc d (bc e h a) g)) d0:=by cases y<;>rfl
@[simp]theorem zfF{α:Type}(y c d e:Bool)(a b d0 f g h:α):bc y (bc c f (bc d g (bc e (bc y a b) h))) d0=bc y (bc c f (bc d g (bc e a h))) d0:=by cases y<;>rfl
@[simp]theorem zfG{α:Type}(y c d e:Bool)(a b d0 f g h:α):bc y (bc c f (bc d g (bc e h (bc y a b)))) d0=bc y (bc c f (bc d g (bc e h a))) d0:=by cases y<;>rfl
@[simp]theorem zfH{α:Type}(y c d e:Bool)(a b f g h i:α):bc y f (bc c (bc d (bc e (bc y a b) i) h) g)=bc y f (bc c (bc d (bc e b i) h) g):=by cases y<;>rfl
@[simp]theorem zfI{α:Type}(y c d e:Bool)(a b f g h i:α):bc y f (bc c (bc d (bc e i (bc y a b)) h) g)=bc y f (bc c (bc d (bc e i b) h) g):=by cases y<;>rfl
@[simp]theorem zfJ{α:Type}(y c d e:Bool)(a b f g h i:α):bc y f (bc c (bc d h (bc e (bc y a b) i)) g)=bc y f (bc c (bc d h (bc e b i)) g):=by cases y<;>rfl
@[simp]theorem zfK{α:Type}(y c d e:Bool)(a b f g h i:α):bc y f (bc c (bc d h (bc e i (bc y a b))) g)=bc y f (bc c (bc d h (bc e i b)) g):=by cases y<;>rfl
@[simp]theorem zfL{α:Type}(y c d e:Bool)(a b f g h i:α):bc y f (bc c g (bc d (bc e (bc y a b) i) h))=bc y f (bc c g (bc d (bc e b i) h)):=by cases y<;>rfl
@[simp]theorem zfM{α:Type}(y c d e:Bool)(a b f g h i:α):bc y f (bc c g (bc d (bc e i (bc y a b)) h))=bc y f (bc c g (bc d (bc e i b) h)):=by cases y<;>rfl
@[simp]theorem zfN{α:Type}(y c d e:Bool)(a b f g h i:α):bc y f (bc c g (bc d h (bc e (bc y a b) i)))=bc y f (bc c g (bc d h (bc e b i))):=by cases y<;>rfl
@[simp]theorem zfO{α:Type}(y c d e:Bool)(a b f g h i:α):bc y f (bc c g (bc d h (bc e i (bc y a b))))=bc y f (bc c g (bc d h (bc e i b))):=by cases y<;>rfl
section
variable(P:Program)(C:Ctx)(Y:Hp)(Z:Nat)(t u:TypeId)(y:Bool)(a b:O)
@[simp]theorem ziJ:xU P Y t (bc y a b)=bc y (xU P Y t a) (xU P Y t b):=by cases y<;>rfl
@[simp]theorem ziK(o:BinOp)(x:O):jP P o t (bc y a b) x=bc y (jP P o t a x) (jP P o t b x):=by cases y<;>rfl
@[simp]theorem ziL(o:BinOp)(x:O):jP P o t x (bc y a b)=bc y (jP P o t x a) (jP P o t x b):=by cases y<;>rfl
@[simp]theorem zgW(c:Bool)(o:BinOp)(x:O):Xa c P o t (bc y a b) x=bc y (Xa c P o t a x) (Xa c P o t b x):=by cases y<;>rfl
@[simp]theorem zgX(c:Bool)(o:BinOp)(x:O):Xa c P o t x (bc y a b)=bc y (Xa c P o t x a) (Xa c P o t x b):=by cases y<;>rfl
@[simp]theorem zkw(o:UnOp):TV o (bc y a b)=bc y (TV o a) (TV o b):=by cases y<;>rfl
@[simp]theorem ziM:a7 P t u (bc y a b)=bc y (a7 P t u a) (a7 P t u b):=by cases y<;>rfl
@[simp]theorem UH(f:Nat):jj P t f (bc y a b)=bc y (jj P t f a) (jj P t f b):=by cases y<;>rfl
@[simp]theorem zcz(f:Nat):Qe P t f (bc y a b)=bc y (Qe P t f a) (Qe P t f b):=by cases y<;>rfl
@[simp]theorem T0(x:O):wb P Y t (bc y a b) x=bc y (wb P Y t a x) (wb P Y t b x):=by cases y<;>rfl
@[simp]theorem T1(x:O):wb P Y t x (bc y a b)=bc y (wb P Y t x a) (wb P Y t x b):=by cases y<;>rfl
@[simp]theorem zfP(x:O):Q3 P t (bc y a b) x=bc y (Q3 P t a x) (Q3 P t b x):=by cases y<;>rfl
@[simp]theorem zfQ(x:O):Q3 P t x (bc y a b)=bc y (Q3 P t x a) (Q3 P t x b):=by cases y<;>rfl
@[simp]theorem zjy:Qr P t (bc y a b)=bc y (Qr P t a) (Qr P t b):=by cases y<;>rfl
@[simp]theorem zfR(lo c:Option (Option O)):js P Y t (bc y a b) lo c=bc y (js P Y t a lo c) (js P Y t b lo c):=by cases y<;>rfl
@[simp]theorem zfS(x:O)(c:Option (Option O)):js P Y t x (some (some (bc y a b))) c=bc y (js P Y t x (some (some a)) c) (js P Y t x (some (some b)) c):=by cases y<;>rfl
@[simp]theorem zfT(x:O)(lo:Option (Option O)):js P Y t x lo (some (some (bc y a b)))=bc y (js P Y t x lo (some (some a))) (js P Y t x lo (some (some b))):=by cases y<;>rfl
@[simp]theorem zdz(i:Nat):Kh i (bc y a b)=bc y (Kh i a) (Kh i b):=by cases y<;>rfl
@[simp]theorem zgY(p q:Option O):YP (some (bc y a b)) p q=bc y (YP (some a) p q) (YP (some b) p q):=by cases y<;>rfl
@[simp low] theorem zgZ(p q:Option O):YP p (some (bc y a b)) q=bc y (YP p (some a) q) (YP p (some b) q):=by cases y<;>rfl
@[simp low] theorem zg0(p q:Option O):YP p q (some (bc y a b))=bc y (YP p q (some a)) (YP p q (some b)):=by cases y<;>rfl
@[simp]theorem zg1(c:Bool)(d:List Nat)(F:zc→Option O)(l:zc):zi c d F (bc y a b::l) Y Z=bc y (zi c d F (a::l) Y Z) (zi c d F (b::l) Y Z):=by cases y<;>rfl
@[simp]theorem zg2(c:Bool)(d:List Nat)(F:zc→Option O)(x:O)(l:zc):zi c d F (x::bc y a b::l) Y Z=bc y (zi c d F (x::a::l) Y Z) (zi c d F (x::b::l) Y Z):=by cases y<;>rfl
@[simp]theorem zg3(c:Bool)(d:List Nat)(F:zc→Option O)(x z:O)(l:zc):zi c d F (x::z::bc y a b::l) Y Z=bc y (zi c d F (x::z::a::l) Y Z) (zi c d F (x::z::b::l) Y Z):=by cases y<;>rfl
end
@[simp]theorem zjz{α c:Type}(y:Bool)(f:α→c)(a b:Option α):(bc y a b).map f=bc y (a.map f) (b.map f):=by cases y<;>rfl
@[simp]theorem ziN{α c:Type}(y:Bool)(f:α→Option c)(a b:Option α):(bc y a b).bind f=bc y (a.bind f) (b.bind f):=by cases y<;>rfl
attribute [simp] uJ
variable{dr:Prop}
def Cv(k:Nat)(D:List (Tmp×Tmp))(i:Nat):List (Tmp×Tmp):=if i=k then D else[]
@[simp]theorem zdA(P:Program)(l:Jg)(k:Nat)(D:List (Tmp×Tmp))(i:Nat):(K9 P l (Cv k D)).dyn i=if i=k then D else[]:=rfl
@[simp]theorem O6(P:Program)(l:Jg)(k:Nat)(D:List (Tmp×Tmp))(i:Nat)(a:Array Oper)(d:Bool)(st:St)(K:Exit→St→Prop)(h:¬i=k):Zf (K9 P l (Cv k D)) (.region i a d) st K=sq (K9 P l (Cv k D)) a a.toList st (Jr K):=Q6 _ i a d st K (by simp[h]) rfl
theorem mB{a b:Tmp}{st:St}{id i j id' i' j':Nat}{blk:jz}(d:st.σ a=.ref id i j)(e:st.σ b=.ref id' i' j')(f:id≠id')(g:st.Y id'=some blk)(h:blk.arr=false):WU [(a,b)] st:=by
 intro p Y;obtain rfl:=jy.1 Y;intro k l m c;rw[d]at c;injection c with c _ _
 subst c;exact⟨id',i',j',blk,e,f,g,h⟩
theorem mC{w:World}{S:Nat→Prop}{G:Nat→GI}{Z:Nat}:∀{us vs:List Value},(∀u∈us,lit u=true)→Zip (qK w S G Z) (us.map O.v) vs→vs=us
 |[],vs,_,h=>by have:=h.1;simp at this;exact qo.1 this.symm
 |u::us,vs,a,h=>by
  obtain⟨v,b,rfl,d,e⟩:=h.jl;rw[mC (fun x f=>a x (by simp[f])) e];congr 1;cases d with
  |c g=>exact g.yH.1
theorem uK{P:Program}{g:FuncId}{F:zc→Option O}(j:∃fn,P.funcs[g]?=some fn∧(fn.name== "runtime.NumGoroutine")=false∧fn.body.isNone=false)
  (h:∀args r,F args=some r→∃us:List Value,args=us.map O.v∧(∀u∈us,lit u=true)∧∃v,r=.v v∧lit v=true∧∀w,Calls P g us.toArray w fun e q=>e=.returned v∧q=w):km dr P g (zi false [] F):=by
 refine⟨j,?_⟩;intro args Y Z r Y' J hs w S G vs s t;unfold zi at hs;split at hs
 ·rename_i k Y1 m;split at hs
  ·rename_i K z;obtain⟨us,e,A,v,rfl,B,C⟩:=h _ _ z;have D:yf [] k=k:=by cases k<;>rfl
   rw[D]at e;subst e;have d:args=us.map O.v:=by
    have n:∀(args:zc) (us:List Value) (Y1:Hp),zA Y args=some (us.map O.v,Y1)→args=us.map O.v:=by
     intro args
     induction args with
     |nil=>intro us Y1 b;simp only[zA]at b;injection b with b;injection b with b _
     |cons x l E=>
      intro us Y1 b;simp only[zA]at b;split at b
      ·rename_i y Y2 a;split at b
       ·rename_i L o p;injection b with b
        injection b with b _;cases us with
        |nil=>simp at b
        |cons u us=>
         simp only[qF,zh]at b;obtain⟨rfl,rfl⟩:=b;have H:x=.v u∧Y2=Y:=by
          unfold qf at a;split at a
          ·split at a
           ·injection a with a;injection a with a _;cases a
           ·cases a
          ·unfold we at a;split at a<;>first
            |(split at a<;>first|(split at a<;>first|(injection a with a;injection a with a _;cases a;done)|cases a)|cases a)
            |(injection a with a;injection a with i f;first|(exact⟨by rw[←i],f.symm⟩)|cases i)
            |cases a
         obtain⟨rfl,rfl⟩:=H;rw[E us o p];rfl
       ·cases b
      ·cases b
    exact n args us Y1 m
   subst d;simp only[O.flat,true_or,wi]at hs;injection hs with hs
   injection hs with i f;injection f with f I;subst i;subst f;subst I;rw[mC A t];refine(C w).mono fun e q b=>?_
   obtain⟨rfl,rfl⟩:=b;exact⟨v,S,G,rfl,kJ.refl s,.c (.v B)⟩
  ·cases hs
 ·cases hs
theorem Xm:∀(l cs:zc) (off:Nat),off+l.length≤cs.length→jt cs off l=cs.take off++l++cs.drop (off+l.length)
 |[],cs,off,_=>by simp
 |x::l,cs,off,h=>by
  simp only[qa]at h;rw[jt,Xm l (cs.set off x) (off+1) (by simp;omega)];have b:(cs.set off x).take (off+1)=cs.take off++[x]:=by
   rw[qx (by simp;omega)];have c:(cs.set off x).take off=cs.take off:=by
    apply Lk;intro j;simp only[qG,eN];by_cases a:j<off
    ·simp[a,show¬off=j by omega]
    ·simp[a]
   rw[c];simp
  have d:(cs.set off x).drop (off+1+l.length)=cs.drop (off+(x::l).length):=by rw[List.drop_set_of_lt (by omega)];simp only[qa];congr 1;omega
  rw[b,d];simp
@[simp]theorem O7(z cs:zc)(h:cs.length=z.length):jt z 0 cs=cs:=by rw[Xm cs z 0 (by omega)];simp[h]
@[simp]theorem T2(x:O)(z cs:zc)(h:cs.length=z.length):jt (x::z) 1 cs=x::cs:=by rw[Xm cs (x::z) 1 (by simp;omega)];simp[show 1+cs.length=z.length+1 by omega]
@[simp]theorem Ts(a:Nat→O):AM.get a (.const .nilIface)=some (.v .nilIface):=rfl
section
variable(C:Ctx)(ρ:Operand→Option O)(Y:Hp)(Z:Nat)
def Gf:O→Option O
 | .ref id i j=>some (.ref id i j)
 | .ptr cs=>some (.ptr cs)
 |_=>none
@[simp]theorem zdB(id i j:Nat):Gf (.ref id i j)=some (.ref id i j):=rfl
@[simp]theorem zdC(cs:zc):Gf (.ptr cs)=some (.ptr cs):=rfl
@[simp]theorem zcA(x:Operand):qt C ρ Y Z (.nilCheck x)=(do let p ←ρ x;let r ←Gf p;some (r,Y,Z)):=by
 simp only[qt];cases ρ x with
 |none=>rfl
 |some p=>cases p<;>rfl
end
theorem O8{α:Type}(f:Nat→α)(k:Nat)(x:α)(h:f k=x):qZ f k x=f:=by
 funext i;by_cases e:i=k
 ·subst e;simp[h]
 ·simp[e]
@[simp]theorem zg4(i:Nat):O.cells (.mp i)=[.mp i]:=rfl
@[simp]theorem zfU(i:Nat):O.wY (.mp i)=true:=rfl
end Go.AM
namespace Go.Proofs
open Go.Shelf
def Tryz.Fv:Go.Shelf.Ren:=⟨fun|213=>69|265=>108|n=>n,fun|9=>9|3=>3|n=>n,fun|n=>n⟩
theorem Tryz.zcc:Go.Proofs.Lays.n213 prog Tryz.Fv:={
 mixed:=by kernel_rfl
 f213:=func69.trans (zD some (by kernel_rfl))
 f265:=func108.trans (zD some (by kernel_rfl))
 t3:=underlying3
 a3:=isAgg3
 z3:=sizeOf3
 v3:=zeroValue3
 t9:=underlying9
 a9:=isAgg9
 z9:=sizeOf9
 v9:=zeroValue9}
open Go.RowKit in
theorem Tryz.bytealg_CompareString(a b:ByteArray)(w:World) :
  Calls prog 69 #[.string a,.string b] w fun e c=>e=.returned (.int .i64 (Lib.compareBytes a.data.toList b.data.toList))∧c=w:=Any.bytealg_CompareString Tryz.zcc a b w
end Go.Proofs
namespace Go.Q
abbrev int(n:Int):O:=.v (.int .i64 n)
abbrev wq(b:Bool):O:=.v (.bool b)
abbrev Pb(c:UInt8):O:=.v (.int .u8 c.toNat)
abbrev zG:Nat:=2097152
theorem mixed:prog.follows .mixedOrders=true:=by kernel_rfl
noncomputable abbrev C0:Ctx:=qb prog []
theorem w8:AM.Good C0 (fun g=>([]:List Nat).contains g):=zI mixed trivial
def F3(f:Int→Int→Int→Bool):zc→Option O
 |[.v (.int .i64 a),.v (.int .i64 b),.v (.int .i64 c)]=>some (.v (.bool (f a b c)))
 |_=>none
def T3(f:Int→Bool):zc→Option O
 |[.v (.int .u8 a)]=>some (.v (.bool (f a)))
 |_=>none
def jg(n a b:Int):Bool:=decide (a≤n)&&decide (n≤b)
def bp(n:Int):Bool:=decide (97≤n)&&decide (n≤122)||decide (48≤n)&&decide (n≤57)||n==45||n==95
@[simp]theorem Ip(f:Int→Int→Int→Bool)(a b c:Int)(Y:Hp)(Z:Nat):zi false [] (F3 f) [.v (.int .i64 a),.v (.int .i64 b),.v (.int .i64 c)] Y Z=some (.v (.bool (f a b c)),Y,Z):=qe rfl rfl (.inl rfl)
@[simp]theorem zhi(f:Int→Bool)(a:Int)(Y:Hp)(Z:Nat):zi false [] (T3 f) [.v (.int .u8 a)] Y Z=some (.v (.bool (f a)),Y,Z):=qe rfl rfl (.inl rfl)
theorem mD{f:Int→Int→Int→Bool}{args:zc}{r:O}(h:F3 f args=some r):∃a b c,args=[int a,int b,int c]∧r=wq (f a b c):=by
 unfold F3 at h;split at h
 ·injection h with h;exact⟨_,_,_,rfl,h.symm⟩
 ·cases h
theorem uL{f:Int→Bool}{args:zc}{r:O}(h:T3 f args=some r):∃a,args=[.v (.int .u8 a)]∧r=wq (f a):=by
 unfold T3 at h;split at h
 ·injection h with h;exact⟨_,rfl,h.symm⟩
 ·cases h
theorem Qz:zg prog 159 (zi false [] (F3 jg)):=
 qq (fn:=f159) w8 ⟨_,func159,by kernel_rfl,rfl,by kernel_rfl⟩ false [] _ fun args r h=>by obtain⟨a,b,c,rfl,rfl⟩:=mD h;exact⟨by simp[f159],_,zo rfl (by simp[f159,jg]),qm _⟩
theorem ZL:zg prog 244 (zi false [] (F3 jg)):=
 qq (fn:=f244) w8 ⟨_,func244,by kernel_rfl,rfl,by kernel_rfl⟩ false [] _ fun args r h=>by obtain⟨a,b,c,rfl,rfl⟩:=mD h;exact⟨by simp[f244],_,zo rfl (by simp[f244,jg]),qm _⟩
theorem uM:zg prog 160 (zi false [] (T3 bp)):=
 qq (fn:=f160) w8 ⟨_,func160,by kernel_rfl,rfl,by kernel_rfl⟩ false [] _ fun args r h=>by obtain⟨a,rfl,rfl⟩:=uL h;exact⟨by simp[f160],_,zo rfl (by simp[f160,bp]),qm _⟩
theorem mE:zg prog 185 (zi false [] (T3 bp)):=
 qq (fn:=f185) w8 ⟨_,func185,by kernel_rfl,rfl,by kernel_rfl⟩ false [] _ fun args r h=>by obtain⟨a,rfl,rfl⟩:=uL h;exact⟨by simp[f185],_,zo rfl (by simp[f185,bp]),qm _⟩
noncomputable def FS (f:za→Bool):zc→Option O:=qv (α:=za) (fun l=>[str l]) (fun l=>l.length≤zG) (fun l=>wq (f l))
@[simp]theorem vn(f:za→Bool)(l:za)(Y:Hp)(Z:Nat)(h:l.length≤zG):zi false [] (FS f) [str l] Y Z=some (wq (f l),Y,Z):=
 qe rfl (zJ (V:=fun l:List UInt8=>[str l]) (a:=l) (fun a b e=>by simp only[zh,zK]at e;exact wx e) h) (.inl rfl)
def pr(a b:Nat)(c:UInt8):Bool:=decide (a≤c.toNat)&&decide (c.toNat≤b)
theorem Xn(a b:Nat)(c:UInt8):(decide ((c.toNat:Int)<a)||decide ((b:Int)<c.toNat))=!pr a b c:=by rw[qA];simp[pr]
def wG(a b:Nat)(l:za):Bool:=l.all (pr a b)
def Xo(l:za):Bool:=wG 33 126 l&&jg l.length 1 100
def QA(l:za):Bool:=l.all fun c=>bp c.toNat
def Js(l:za):Bool:=QA l&&!(l==[])
def sz:za→Bool
 |[]=>false
 |c::_=>decide ((97:Int)≤c.toNat)&&decide ((c.toNat:Int)≤(122:Int))
def yn(l:za):Bool:=jg l.length 1 40&&sz l&&QA l
noncomputable abbrev C1:Ctx:=qb prog [(159,zi false [] (F3 jg)),(160,zi false [] (T3 bp)),(244,zi false [] (F3 jg)),(185,zi false [] (T3 bp))]
abbrev qRl1:List Nat:=[159,160,244,185]
theorem Cy:AM.Good C1 (fun g=>qRl1.contains g):=zI mixed ⟨Qz,fun _=>zt _ _,uM,fun _=>zt _ _,ZL,fun _=>zt _ _,mE,fun _=>zt _ _,trivial⟩
theorem de{l:za}{p:UInt8→Bool}{k:Nat}(h:k<l.length):(l.drop k).all p=(p l[k]&&(l.drop (k+1)).all p):=by rw[zd h,qN]
theorem Zw{a b:Nat}{l:za}{k:Nat}(h:k<l.length):wG a b (l.drop k)=(pr a b l[k]&&wG a b (l.drop (k+1))):=de h
theorem gK{l:za}{k:Nat}(h:k<l.length):QA (l.drop k)=(bp l[k].toNat&&QA (l.drop (k+1))):=de h
@[simp]theorem zcE(a b:Nat):wG a b []=true:=rfl
@[simp]theorem zdD:QA []=true:=rfl
theorem L3(l:za)(i:l.length≤zG):zz C1 f224 [str l]=some (wq (wG 32 126 l)):=by
 refine zo rfl ?_;unfold zG at i;simp;refine zQ (fun k c Y Z=>c 0=str l∧c 5=int l.length∧c 6=int k∧wG 32 126 l=wG 32 126 (l.drop k)) l.length ⟨by simp,by simp,by simp,by simp⟩ ?_;rintro k c Y Z m ⟨e,f,g,b⟩;by_cases a:k<l.length
 ·have j:i6.wrap ((k:Int)+1)=(k:Int)+1:=zn (by omega) (by omega);rw[Zw a]at b;have h:=Xn 32 126 l[k];simp only[ZX]at h;cases d:pr 32 126 l[k]
  ·have b:wG 32 126 l=false:=by rw[b,d];rfl
   simp[e,f,g,a,b,h,d,f224]
  ·simp[e,f,g,a,h,d,j];exact⟨a,by rw[b,d];rfl⟩
 ·obtain rfl:k=l.length:=by omega
  have b:wG 32 126 l=true:=by rw[b,zl];rfl
  simp[e,f,g,b,f224]
theorem mF(l:za)(i:l.length≤zG):zz C1 f245 [str l]=some (wq (wG 32 126 l)):=by
 refine zo rfl ?_;unfold zG at i;simp;refine zQ (fun k c Y Z=>c 0=str l∧c 5=int l.length∧c 6=int k∧wG 32 126 l=wG 32 126 (l.drop k)) l.length ⟨by simp,by simp,by simp,by simp⟩ ?_;rintro k c Y Z m ⟨e,f,g,b⟩;by_cases a:k<l.length
 ·have j:i6.wrap ((k:Int)+1)=(k:Int)+1:=zn (by omega) (by omega);rw[Zw a]at b;have h:=Xn 32 126 l[k];simp only[ZX]at h;cases d:pr 32 126 l[k]
  ·have b:wG 32 126 l=false:=by rw[b,d];rfl
   simp[e,f,g,a,b,h,d,f245]
  ·simp[e,f,g,a,h,d,j];exact⟨a,by rw[b,d];rfl⟩
 ·obtain rfl:k=l.length:=by omega
  have b:wG 32 126 l=true:=by rw[b,zl];rfl
  simp[e,f,g,b,f245]
theorem Gg(l:za)(i:l.length≤zG):zz C1 f179 [str l]=some (wq (Xo l)):=by
 refine zo rfl ?_;unfold zG at i;simp;refine zQ (fun k c Y Z=>c 0=str l∧c 5=int l.length∧c 6=int k∧wG 33 126 l=wG 33 126 (l.drop k)) l.length ⟨by simp,by simp,by simp,by simp⟩ ?_;rintro k c Y Z m ⟨e,f,g,b⟩;by_cases a:k<l.length
 ·have j:i6.wrap ((k:Int)+1)=(k:Int)+1:=zn (by omega) (by omega);rw[Zw a]at b;have h:=Xn 33 126 l[k];simp only[ZX]at h;cases d:pr 33 126 l[k]
  ·have b:wG 33 126 l=false:=by rw[b,d];rfl
   simp[e,f,g,a,b,h,d,Xo,f179]
  ·simp[e,f,g,a,h,d,j];exact⟨a,by rw[b,d];rfl⟩
 ·obtain rfl:k=l.length:=by omega
  have b:wG 33 126 l=true:=by rw[b,zl];rfl
  simp[e,f,g,b,Xo,f179]
theorem uN(l:za)(h:l.length≤zG):zz C1 f171 [str l]=some (wq (Js l)):=by
 refine zo rfl ?_;unfold zG at h;simp;refine zQ (fun k c Y Z=>c 0=str l∧c 5=int l.length∧c 6=int k∧QA l=QA (l.drop k)) l.length ⟨by simp,by simp,by simp,by simp⟩ ?_;rintro k c Y Z j ⟨e,f,g,b⟩;by_cases a:k<l.length
 ·have i:i6.wrap ((k:Int)+1)=(k:Int)+1:=zn (by omega) (by omega);rw[gK a]at b;cases d:bp l[k].toNat
  ·have b:QA l=false:=by rw[b,d];rfl
   simp[e,f,g,a,b,d,Js,f171]
  ·simp[e,f,g,a,d,i];exact⟨a,by rw[b,d];rfl⟩
 ·obtain rfl:k=l.length:=by omega
  have b:QA l=true:=by rw[b,zl];rfl
  simp[e,f,g,b,Js,f171]
theorem Cz(l:za)(o:l.length≤zG):zz C1 f123 [str l]=some (wq (yn l)):=by
 refine zo rfl ?_;unfold zG at o;cases e:jg l.length 1 40
 ·simp[e,yn,f123]
 have a:0<l.length:=by simp[jg]at e;omega
 have p:sz l=(decide ((97:Int)≤l[0].toNat)&&decide ((l[0].toNat:Int)≤(122:Int))):=by
  cases l with
  |nil=>simp at a
  |cons c l=>rfl
 have n:(decide ((l[0].toNat:Int)<(97:Int))||decide ((122:Int)<l[0].toNat))=!sz l:=by rw[p,qA];simp
 cases h:sz l
 ·simp[e,a,n,h,yn,f123]
 simp[e,a,n,h];refine zQ (fun k f Y Z=>f 0=str l∧f 19=int l.length∧f 20=int k∧QA l=QA (l.drop k)) l.length ⟨by simp,by simp,by simp,by simp⟩ ?_;rintro k f Y Z r ⟨i,j,m,d⟩;by_cases b:k<l.length
 ·have q:i6.wrap ((k:Int)+1)=(k:Int)+1:=zn (by omega) (by omega);rw[gK b]at d;cases g:bp l[k].toNat
  ·have d:QA l=false:=by rw[d,g];rfl
   simp[i,j,m,b,d,g,yn,f123]
  ·simp[i,j,m,b,g,q];exact⟨b,by rw[d,g];rfl⟩
 ·obtain rfl:k=l.length:=by omega
  have d:QA l=true:=by rw[d,zl];rfl
  simp[i,j,m,d,e,h,yn,f123]
theorem mG:zg prog 224 (zi false [] (FS (wG 32 126))):=
 qq (fn:=f224) Cy ⟨_,func224,by kernel_rfl,rfl,by kernel_rfl⟩ false [] _ fun args r h=>by obtain⟨l,rfl,Y,rfl⟩:=zr h;exact⟨by simp[f224],_,L3 l Y,qm _⟩
theorem WW:zg prog 245 (zi false [] (FS (wG 32 126))):=
 qq (fn:=f245) Cy ⟨_,func245,by kernel_rfl,rfl,by kernel_rfl⟩ false [] _ fun args r h=>by obtain⟨l,rfl,Y,rfl⟩:=zr h;exact⟨by simp[f245],_,mF l Y,qm _⟩
theorem gL:zg prog 179 (zi false [] (FS Xo)):=
 qq (fn:=f179) Cy ⟨_,func179,by kernel_rfl,rfl,by kernel_rfl⟩ false [] _ fun args r h=>by obtain⟨l,rfl,Y,rfl⟩:=zr h;exact⟨by simp[f179],_,Gg l Y,qm _⟩
theorem pN:zg prog 171 (zi false [] (FS Js)):=
 qq (fn:=f171) Cy ⟨_,func171,by kernel_rfl,rfl,by kernel_rfl⟩ false [] _ fun args r h=>by obtain⟨l,rfl,Y,rfl⟩:=zr h;exact⟨by simp[f171],_,uN l Y,qm _⟩
theorem Yo:zg prog 123 (zi false [] (FS yn)):=
 qq (fn:=f123) Cy ⟨_,func123,by kernel_rfl,rfl,by kernel_rfl⟩ false [] _ fun args r h=>by obtain⟨l,rfl,Y,rfl⟩:=zr h;exact⟨by simp[f123],_,Cz l Y,qm _⟩
noncomputable abbrev CRw:Ctx:=qb prog [(224,zi false [] (FS (wG 32 126))),(245,zi false [] (FS (wG 32 126))),(179,zi false [] (FS Xo)),(171,zi false [] (FS Js)),(123,zi false [] (FS yn)),(159,zi false [] (F3 jg)),(244,zi false [] (F3 jg))]
abbrev qRw:List Nat:=[224,245,179,171,123,159,244]
theorem zdE:AM.Good CRw (fun g=>qRw.contains g):=zI mixed ⟨mG,fun _=>zt _ _,WW,fun _=>zt _ _,gL,fun _=>zt _ _,pN,fun _=>zt _ _,Yo,fun _=>zt _ _,Qz,fun _=>zt _ _,ZL,fun _=>zt _ _,trivial⟩
theorem uO(l:za)(h:0<l.length):(Js l&&decide ((l.length:Int)≤40)&&decide ((97:Int)≤l[0].toNat)&&decide ((l[0].toNat:Int)≤(122:Int)))=yn l:=by
 cases l with
 |nil=>simp at h
 |cons c l=>unfold Js yn;generalize QA (c::l)=w;rw[qA];cases w<;>simp[jg,sz]<;>omega
theorem uP(l:za)(b:l.length≤zG):zz CRw f140 [str l]=some (wq (yn l)):=by
 refine zo rfl ?_;cases l with
 |nil=>simp[f140,Js,yn,sz]
 |cons c l=>
  have a:0<(c::l).length:=by simp
  have:=uO (c::l) a;generalize d:c::l=m at *;simp[b,a,f140,this]
theorem JV:zg prog 140 (zi false [] (FS yn)):=
 qq (fn:=f140) zdE ⟨_,func140,by kernel_rfl,rfl,by kernel_rfl⟩ false [] _ fun args r h=>by obtain⟨l,rfl,Y,rfl⟩:=zr h;exact⟨by simp[f140],_,uP l Y,qm _⟩
inductive qE where
 |mk (kind n:Int) (s:List UInt8) (items:List qE) (fields:List (List UInt8×qE))
namespace qE
def kind:qE→Int|.mk k _ _ _ _=>k
def n:qE→Int|.mk _ n _ _ _=>n
def s:qE→za|.mk _ _ s _ _=>s
def items:qE→List qE|.mk _ _ _ l _=>l
def fields:qE→List (za×qE)|.mk _ _ _ _ l=>l
end qE
theorem qE.ind{P:qE→Prop}(h:∀k n s e g,(∀x∈e,P x)→(∀f∈g,P f.2)→P (.mk k n s e g))(v:qE):P v:=
 qE.rec (motive_1:=P) (motive_2:=fun l=>∀x∈l,P x) (motive_3:=fun l=>∀f∈l,P f.2) (motive_4:=fun f=>P f.2) (fun k n s e g i j=>h k n s e g i j)
  (by simp) (fun x l c d y b=>by rcases zL.1 b with rfl|b;(first|exact c|exact d y b);(first|exact c|exact d y b)) (by simp) (fun x l c d y b=>by rcases zL.1 b with rfl|b;(first|exact c|exact d y b);(first|exact c|exact d y b)) (fun a v m=>m) v
mutual
def qE.V:qE→zc
 | .mk k n s a b=>[int k,int n,str s,.sl 5 (Lq a),.sl 6 (Lr b)]
def Lq:List qE→List zc
 |[]=>[]
 |v::l=>v.V::Lq l
def Lr:List (za×qE)→List zc
 |[]=>[]
 |(a,v)::l=>(str a::v.V)::Lr l
end
abbrev yu(f:za×qE):zc:=str f.1::f.2.V
theorem sA:∀l:List qE,Lq l=l.map qE.V
 |[]=>rfl
 |v::l=>by simp[Lq,sA l]
theorem sB:∀l:List (za×qE),Lr l=l.map yu
 |[]=>rfl
 |(a,v)::l=>by simp[Lr,sB l]
theorem Z2(v:qE):v.V=[int v.kind,int v.n,str v.s,.sl 5 (v.items.map qE.V),.sl 6 (v.fields.map yu)]:=by
 cases v with
 |mk k n s a b=>simp[qE.V,sA,sB,qE.kind,qE.n,qE.s,qE.items,qE.fields]
@[simp]theorem zdF(v:qE):v.V.length=5:=by rw[Z2];rfl
@[simp]theorem L4(v:qE):v.V.all O.wY=true:=by rw[Z2];rfl
@[simp]theorem zdG(v:qE):(∀x,x∈v.V→O.wY x=true)=True:=by have:=L4 v;rw[qW]at this;exact eq_true this
@[simp]theorem zhj(v:qE):v.V.take 5=v.V:=qp (by simp)
@[simp]theorem zlu(v:qE)(h:0<v.V.length):v.V[0]=int v.kind:=by simp[Z2 v]
@[simp]theorem zlv(v:qE)(h:1<v.V.length):v.V[1]=int v.n:=by simp[Z2 v]
@[simp]theorem zlw(v:qE)(h:2<v.V.length):v.V[2]=str v.s:=by simp[Z2 v]
@[simp]theorem zlx(v:qE)(h:3<v.V.length):v.V[3]=.sl 5 (v.items.map qE.V):=by simp[Z2 v]
@[simp]theorem zly(v:qE)(h:4<v.V.length):v.V[4]=.sl 6 (v.fields.map yu):=by simp[Z2 v]
theorem Va{α a:Type}{f:α→a}:∀{xs ys:List α},(∀x∈xs,∀y,f x=f y→x=y)→xs.map f=ys.map f→xs=ys
 |[],[],_,_=>rfl
 |[],y::ys,_,e=>by simp at e
 |x::xs,[],_,e=>by simp at e
 |x::xs,y::ys,h,e=>by simp only[qF,zh]at e;rw[h x (by simp) y e.1,Va (fun z b=>h z (by simp[b])) e.2]
theorem Yp:∀{a b:qE},a.V=b.V→a=b:=by
 intro a
 induction a using qE.ind with
 |h k n s q r g i=>
  intro b e;cases b with
  |mk t u v j l=>
   simp only[Z2,qE.kind,qE.n,qE.s,qE.items,qE.fields,zh,zK]at e;obtain⟨m,o,p,c,d⟩:=e;obtain rfl:=qn m;obtain rfl:=qn o;obtain rfl:=wx p;injection c with _ c
   injection d with _ d;obtain rfl:=Va (fun x f y=>g x f) c;obtain rfl:=Va (fun x f y e=>by simp only[yu,zh]at e;exact Th (wx e.1) (i x f e.2)) d
   rfl
mutual
def qE.vb:qE→Nat
 | .mk _ _ s a b=>1+s.length+Jf a+KX b
def Jf:List qE→Nat
 |[]=>0
 |v::l=>v.vb+Jf l
def KX:List (za×qE)→Nat
 |[]=>0
 |(a,v)::l=>a.length+v.vb+KX l
end
theorem QW(v:qE):v.vb=1+v.s.length+Jf v.items+KX v.fields:=by cases v;rfl
theorem Vb(v:qE):0<v.vb:=by rw[QW];omega
theorem kP:∀{l:List qE} {x:qE},x∈l→x.vb≤Jf l
 |y::l,x,h=>by
  simp only[Jf];rcases zL.1 h with rfl|h
  ·omega
  ·have:=kP h;omega
theorem xV:∀{l:List (za×qE)} {x:za×qE},x∈l→x.1.length+x.2.vb≤KX l
 |(a,y)::l,x,h=>by
  simp only[KX];rcases zL.1 h with rfl|h
  ·simp only;omega
  ·have:=xV h;omega
theorem jk:∀l:List qE,l.length≤Jf l
 |[]=>by simp[Jf]
 |v::l=>by have:=jk l;have:=Vb v;simp only[Jf,qa];omega
theorem ke:∀l:List (za×qE),l.length≤KX l
 |[]=>by simp[KX]
 |(a,v)::l=>by have:=ke l;have:=Vb v;simp only[KX,qa];omega
noncomputable def FV (out:qE→O) (n:Nat):zc→Option O:=qv (α:=qE) (fun v=>[.agg v.V]) (fun v=>v.vb≤zG∧v.vb≤n) out
theorem zhk(out:qE→O)(n:Nat)(v:qE)(h:v.vb≤zG∧v.vb≤n):FV out n [.agg v.V]=some (out v):=
 zJ (V:=fun v:qE=>[.agg v.V]) (a:=v) (fun a b e=>by simp only[zh,zK,O.agg.injEq]at e;exact Yp e) h
@[simp]theorem Od(Y:Hp)(v:qE):qU Y v.V=some (v.V,Y):=by rw[Z2];simp
theorem Z3(Y:Hp)(v:qE):qf Y (.agg v.V)=some (.agg v.V,Y):=by rw[Z2];simp
theorem sC(v:qE):O.noOwn (.agg v.V)=true:=by rw[Z2];simp
theorem Yq(out:qE→O)(n:Nat)(v:qE)(Y:Hp)(Z:Nat)(h:v.vb≤zG∧v.vb≤n):zi false [] (FV out n) [.agg v.V] Y Z=some (out v,Y,Z):=
 qe (Y1:=Y) (show zA Y [.agg v.V]=some ([.agg v.V],Y) by simp only[zA,Z3]) (zhk out n v h) (.inr (by simp only[qN,sC,List.all_nil,Bool.and_self]))
mutual
def qE.parts:qE→Nat
 | .mk _ _ _ a b=>1+vm a+vv b
def vm:List qE→Nat
 |[]=>0
 |v::l=>v.parts+vm l
def vv:List (za×qE)→Nat
 |[]=>0
 |(_,v)::l=>v.parts+vv l
end
mutual
def qE.levels:qE→Nat
 | .mk _ _ _ a b=>max (kE a) (kT b)+1
def kE:List qE→Nat
 |[]=>0
 |v::l=>max v.levels (kE l)
def kT:List (za×qE)→Nat
 |[]=>0
 |(_,v)::l=>max v.levels (kT l)
end
theorem CA(v:qE):v.parts=1+vm v.items+vv v.fields:=by cases v;rfl
theorem sD(v:qE):v.levels=max (kE v.items) (kT v.fields)+1:=by cases v;rfl
theorem mH(v:qE):v.parts≤v.vb:=by
 induction v using qE.ind with
 |h k n s e f g i=>
  have a:∀l:List qE,(∀x∈l,x.parts≤x.vb)→vm l≤Jf l:=by
   intro l
   induction l with
   |nil=>simp[vm]
   |cons v l c=>intro h;have:=h v (by simp);have:=c fun x d=>h x (by simp[d]);simp only[vm,Jf];omega
  have b:∀l:List (za×qE),(∀x∈l,x.2.parts≤x.2.vb)→vv l≤KX l:=by
   intro l
   induction l with
   |nil=>simp[vv]
   |cons v l c=>intro h;have:=h v (by simp);have:=c fun x d=>h x (by simp[d]);obtain⟨a,v⟩:=v;simp only[vv,KX];simp only at *;omega
  have:=a e g;have:=b f i;simp only[qE.parts,qE.vb];omega
theorem sE(v:qE):v.levels≤v.parts:=by
 induction v using qE.ind with
 |h k n s e f g i=>
  have a:∀l:List qE,(∀x∈l,x.levels≤x.parts)→kE l≤vm l:=by
   intro l
   induction l with
   |nil=>simp[kE]
   |cons v l c=>intro h;have:=h v (by simp);have:=c fun x d=>h x (by simp[d]);simp only[kE,vm];omega
  have b:∀l:List (za×qE),(∀x∈l,x.2.levels≤x.2.parts)→kT l≤vv l:=by
   intro l
   induction l with
   |nil=>simp[kT]
   |cons v l c=>intro h;have:=h v (by simp);have:=c fun x d=>h x (by simp[d]);obtain⟨a,v⟩:=v;simp only[kT,vv];simp only at *;omega
  have:=a e g;have:=b f i;simp only[qE.parts,qE.levels];omega
noncomputable abbrev Cc (n:Nat):Ctx:=K9 prog [(202,zi false [] (FV (fun v=>.yb [int v.parts,int v.levels]) n))] (Cv 2 [(2,1)])
theorem kU{C:Ctx}{fn:Func}{code:Code}{args:zc}{Y:Hp}{Z:Nat}{x:O}{Y':Hp}{a:Nat}(b:fn.body=some code)
  (h:Zf C code ⟨ve args,Y,Z⟩ (JT C.P fn (fun y h m=>y=x∧h=Y'∧m=a))):yr C fn args Y Z=some (x,Y',a):=by
 obtain⟨y,d,n1,c,rfl,rfl,rfl⟩:=zT b h;exact c
theorem mI(n:Nat)(v:qE)(h:v.vb≤zG∧v.vb≤n)(Y:Hp)(Z i j:Nat)(s:i<Z)(t:j<Z)(b:i≠j)(p q:Nat)(c:Y i=some ⟨3,1,false,[[int p]]⟩)(d:Y j=some ⟨3,1,false,[[int q]]⟩)(f:p≤zG) :
  wP (Cc n) f222 [.agg v.V,.ref i 0 0,.ref j 0 0] Y Z =
   some (.yb [],qZ (qZ (qZ Y Z (some ⟨136,5,false,[v.V]⟩)) i (some ⟨3,1,false,[[int ((p+v.parts:Nat):Int)]]⟩)) j (some ⟨3,1,false,[[int ((max q v.levels:Nat):Int)]]⟩),Z+1):=by
 have g:=mH v;have k:=sE v;unfold zG at *;have l:i6.wrap ((p:Int)+v.parts)=(p:Int)+v.parts:=zn (by omega) (by omega);unfold wP;rw[zf (by simp[f222])];refine kU rfl ?_;have a:=fun Y Z=>Yq (fun v=>.yb [int v.parts,int v.levels]) n v Y Z h
 have e:¬i=Z:=by omega
 have m:¬j=Z:=by omega
 have o:¬j=i:=by omega
 have r:(if q<v.levels then(v.levels:Int)else q)=((max q v.levels:Nat):Int):=by split<;>omega
 simp[a];rw[Qf _ _ _ _ _ _ (mB (blk:=⟨3,1,false,[[int p]]⟩) (id:=j) (i:=0) (j:=0) (id':=i) (i':=0) (j':=0) (by simp) (by simp) (Ne.symm b) (by simp[e,c]) rfl) (fun _ h=>by cases h)];simp[c,d,e,m,o,b,l,r,f222]
theorem bq(a b:List qE):vm (a++b)=vm a+vm b:=by
 induction a with
 |nil=>simp[vm]
 |cons v a c=>simp only[q9,vm,c];omega
theorem mJ(a b:List qE):kE (a++b)=max (kE a) (kE b):=by
 induction a with
 |nil=>simp[kE]
 |cons v a c=>simp only[q9,kE,c];omega
theorem br(a b:List (za×qE)):vv (a++b)=vv a+vv b:=by
 induction a with
 |nil=>simp[vv]
 |cons v a c=>obtain⟨x,v⟩:=v;simp only[q9,vv,c];omega
theorem mK(a b:List (za×qE)):kT (a++b)=max (kT a) (kT b):=by
 induction a with
 |nil=>simp[kT]
 |cons v a c=>obtain⟨x,v⟩:=v;simp only[q9,kT,c];omega
theorem zhl{l:List qE}{k:Nat}(h:k<l.length):vm (l.take (k+1))=vm (l.take k)+l[k].parts∧kE (l.take (k+1))=max (kE (l.take k)) l[k].levels:=by rw[qx h,bq,mJ];simp[vm,kE]
theorem zhm{l:List (za×qE)}{k:Nat}(h:k<l.length):vv (l.take (k+1))=vv (l.take k)+l[k].2.parts∧kT (l.take (k+1))=max (kT (l.take k)) l[k].2.levels:=by rw[qx h,br,mK];simp[vv,kT]
theorem L5(l:List qE)(k:Nat):vm (l.take k)≤vm l:=by have:=bq (l.take k) (l.drop k);rw[iE]at this;omega
theorem L6(l:List (za×qE))(k:Nat):vv (l.take k)≤vv l:=by have:=br (l.take k) (l.drop k);rw[iE]at this;omega
noncomputable abbrev Cd (n:Nat):Ctx:=K9 prog [(222,wP (Cc n) f222)] (Cv 13 [(3,2)])
theorem Gh(n:Nat)(v:qE)(h:v.vb≤zG∧v.vb≤n+1):zz (Cd n) f202 [.agg v.V]=some (.yb [int v.parts,int v.levels]):=by
 have A:=mH v;have B:=CA v;have C:=QW v;have u:=sD v;have D:=jk v.items;have E:=ke v.fields;obtain⟨F,I⟩:=h;unfold zG at F;refine zo rfl ?_;simp;refine zQ (fun k b Y Z=>b 1=.ref 0 0 0∧b 2=.ref 1 0 0∧b 3=.ref 2 0 0∧b 4=.fn (.func 222) [] [.ref 1 0 0,.ref 2 0 0]∧b 11=.sl 5 (v.items.map qE.V)∧b 12=int v.items.length∧b 13=int k∧3≤Z∧Y 0=some ⟨136,5,false,[v.V]⟩ ∧
   Y 1=some ⟨3,1,false,[[int ((1+vm (v.items.take k):Nat):Int)]]⟩∧Y 2=some ⟨3,1,false,[[int (kE (v.items.take k))]]⟩) v.items.length
  ⟨by simp,by simp,by simp,by simp,by simp,by simp,by simp,by simp,by simp,by simp[vm],by simp[kE]⟩ ?_
 rintro k b Y Z z ⟨o,g,l,q,d,e,f,r,w,m,p⟩;by_cases a:k<v.items.length
 ·obtain⟨x,y⟩:=zhl a;have G:=kP (zm a);have s:i6.wrap ((k:Int)+1)=(k:Int)+1:=zn (by omega) (by omega);have t:=L5 v.items k;have c:=mI n v.items[k] ⟨by unfold zG;omega,by omega⟩ (qZ Y Z (some ⟨136,5,false,[v.items[k].V]⟩)) (Z+1) 1 2 (by omega) (by omega) (by omega) _ _ (by rw[zw _ _ _ _ (by omega)];exact m) (by rw[zw _ _ _ _ (by omega)];exact p) (by unfold zG;omega);simp[o,g,l,q,d,e,f,a,c,s];refine⟨a,by omega,?_,?_,?_⟩
  ·simp[w,show¬0=Z by omega,show¬0=Z+1 by omega]
  ·rw[x];omega
  ·rw[y]
 ·obtain rfl:k=v.items.length:=by omega
  rw[yk]at m p;simp[o,g,l,q,d,e,f,w];refine zQ (fun k b Y Z=>b 1=.ref 0 0 0∧b 2=.ref 1 0 0∧b 3=.ref 2 0 0∧b 4=.fn (.func 222) [] [.ref 1 0 0,.ref 2 0 0]∧b 22=.sl 6 (v.fields.map yu)∧b 23=int v.fields.length∧b 24=int k∧3≤Z ∧
    Y 1=some ⟨3,1,false,[[int ((1+vm v.items+vv (v.fields.take k):Nat):Int)]]⟩∧Y 2=some ⟨3,1,false,[[int ((max (kE v.items) (kT (v.fields.take k)):Nat):Int)]]⟩) v.fields.length
   ⟨by simp[o],by simp[g],by simp[l],by simp[q],by simp,by simp,by simp,r,by simp[m,vv],by simp[p,kT]⟩ ?_
  clear o g l q d e f r w m p a z Z Y b;rintro k b Y Z z ⟨o,g,l,q,d,e,f,r,m,p⟩;by_cases a:k<v.fields.length
  ·obtain⟨x,y⟩:=zhm a;have G:=xV (zm a);have s:i6.wrap ((k:Int)+1)=(k:Int)+1:=zn (by omega) (by omega);have t:=L6 v.fields k;have c:=mI n v.fields[k].2 ⟨by unfold zG;omega,by omega⟩ (qZ Y Z (some ⟨171,6,false,[yu v.fields[k]]⟩)) (Z+1) 1 2 (by omega) (by omega) (by omega) _ _ (by rw[zw _ _ _ _ (by omega)];exact m) (by rw[zw _ _ _ _ (by omega)];exact p) (by unfold zG;omega);simp[yu]at c;simp[o,g,l,q,d,e,f,a,s,c];refine⟨a,by omega,?_,?_⟩
   ·rw[x];omega
   ·rw[y]
  ·obtain rfl:k=v.fields.length:=by omega
   rw[yk]at m p;have H:=sE v;have s:i6.wrap (((max (kE v.items) (kT v.fields):Nat):Int)+1)=(v.levels:Int):=by rw[zn (by omega) (by omega),u];omega
   simp[o,g,l,q,d,e,f];rw[Qf _ _ _ _ _ _ (mB (id:=2) (i:=0) (j:=0) (id':=1) (i':=0) (j':=0) (by simp[l]) (by simp[g]) (by omega) (by exact m) rfl) (fun _ h=>by cases h)];simp[o,g,l,m,p,s,f202,wH];omega
theorem JW{out:qE→O}{n:Nat}{args:zc}{r:O}(h:FV out n args=some r):∃v:qE,args=[.agg v.V]∧(v.vb≤zG∧v.vb≤n)∧r=out v:=zr h
theorem UJ{out:qE→O}:∀args r,FV out 0 args=some r→False:=fun args r h=>by obtain⟨v,rfl,a,rfl⟩:=JW h;have:=Vb v;omega
theorem lD{out:qE→O}{f:FuncId}(a:∃fn,prog.funcs[f]?=some fn∧(fn.name== "runtime.NumGoroutine")=false∧fn.body.isNone=false):zg prog f (zi false [] (FV out 0)):=by
 refine⟨a,fun args Y Z r Y' c h=>?_⟩;unfold zi at h;split at h
 ·split at h
  ·rename_i d b;exact(UJ _ _ b).elim
  ·cases h
 ·cases h
theorem CB:∀n,zg prog 202 (zi false [] (FV (fun v=>.yb [int v.parts,int v.levels]) n)):=by
 intro n
 induction n with
 |zero=>exact lD ⟨_,func202,by kernel_rfl,by kernel_rfl⟩
 |succ n a=>
  have b:AM.Good (Cc n) (fun g=>([]:List Nat).contains g):=Cu _ mixed ⟨a,by simp,trivial⟩;have c:zg prog 222 (wP (Cc n) f222):=wZ (code:=_) b ⟨func222,by kernel_rfl,rfl,by kernel_rfl⟩;have hd:AM.Good (Cd n) (fun g=>([]:List Nat).contains g):=Cu _ mixed ⟨c,by simp,trivial⟩;exact qq (fn:=f202) hd ⟨_,func202,by kernel_rfl,rfl,by kernel_rfl⟩ false [] _ fun args r h=>by obtain⟨v,rfl,d,rfl⟩:=JW h;exact⟨zC (ze 1) (by decide),_,Gh n v d,qm _⟩
noncomputable abbrev GV (out:qE→O):AM.Spec:=zi false [] (FV out zG)
theorem Jt(out:qE→O)(v:qE)(Y:Hp)(Z:Nat)(h:v.vb≤zG):GV out [.agg v.V] Y Z=some (out v,Y,Z):=Yq out zG v Y Z ⟨h,h⟩
end Go.Q
