/- Lemmas. -/
import Derived.Test.YtcebnehlnlcckaaGreatDoorG16
set_option maxRecDepth 100000
open Go Proofs Proofs.YtcebnehlnlcckaaGreatDoor Proofs.Tryz RowKit AM SpanLaw Q Zz
namespace Go.Proofs.YtcebnehlnlcckaaGreatDoor
open Go.RowKit Go.AM Go.SpanLaw Go.ChangeShapes Go.WideShapes Go.ChangeAt
theorem zeb:ownKnob prog.godebug=none:=by kernel_rfl
theorem zec{W:World}(i:laidMetH prog Rows.flagNeedsMatchSpecUptoRow.laid W):∀t∈Jh,ud W (fun b=>b<W.heap.size) t:=by
 intro t j;obtain rfl:t=(5,.u64,Lib.pow10Tab):=by simpa[Jh]using j
 have c:=i.filter fun x=>x.1== "internal/strconv.uint64pow10"
 rw[MakeChecks.laidMetH_plain _ _ _ (by kernel_rfl)]at c;have k:(Rows.flagNeedsMatchSpecUptoRow.laid.filter fun x=>x.1== "internal/strconv.uint64pow10")=("internal/strconv.uint64pow10",Lib.tabData .u64 Lib.pow10Tab)::[]:=by kernel_rfl
 rw[k]at c;have a:Lib.TabIs prog W "internal/strconv.uint64pow10" .u64 Lib.pow10Tab:=Lib.tabIs_of_head (g:=5) (by kernel_rfl) (by kernel_rfl) (t:=313) (n:=20) (e:=130) zde zc5 (by kernel_rfl) (by kernel_rfl) c;have l:prog.globalNamed "internal/strconv.uint64pow10"=some 5:=by kernel_rfl
 unfold Lib.TabIs World.var? at a;rw[l,zZ]at a;have d:∃ty f,W.heap[(5:Nat)]?=some (.cells (Lib.pow10Tab.map fun z=>Value.int .u64 z).toArray ty f):=by
  split at a
  ·injection a with a;subst a;exact⟨_,_,by assumption⟩
  ·cases a
 obtain⟨ty,f,h⟩:=d;exact⟨(qh.1 h).1,ty,f,h⟩
def OY(k:IntKind):List (DataW Unit)->List Value
 | .lit (.int _ i)::l=>.int k i::OY k l
 |_=>[]
def OZ(k:IntKind):DataW Unit->Array Value
 | .agg l=>(OY k l).toArray
 |_=>#[]
def mI(vs:Array Value):Obj->Obj
 | .cells _ t frozen=>.cells vs t frozen
 |o=>o
noncomputable def Uw:Nat:=(World.holding prog default ⟨#[],#[],[]⟩).heap.size
def Ux:ByteArray:=⟨#[118,97,108,117,101,32,111,117,116,32,111,102,32,114,97,110,103,101]⟩
def Uy:ByteArray:=⟨#[105,110,118,97,108,105,100,32,115,121,110,116,97,120]⟩
def Cj:Array Value:=(([128,191,160,191,128,159,144,191,128,143,0,0,0,0,0,0,0,0,0,0,0,0,0,0,0,0,0,0,0,0,0,0]:List Nat).map fun(n:Nat)=>Value.int .u8 (n:Int)).toArray
def firstCells:Array Value:=(Go.Pinned.utf8FirstZ.map fun(n:Nat)=>Value.int .u8 (n:Int)).toArray
noncomputable def Uz (b:Nat):Array Value:=#[.iface 304 (.pointer (some ⟨b,0,none⟩))]
noncomputable def zbd (h:Array Obj):Array Obj:=
 ((((((h.modify 1 (mI firstCells)).modify 2 (mI Cj)).modify 5 (mI (OZ .u64 Rows.laid_internal_strconv_uint64pow10))).modify 6 (mI (OZ .u8 Rows.laid_math_bits_deBruijn32tab))).modify 7 (mI (OZ .u8 Rows.laid_math_bits_deBruijn64tab))).modify 4 (mI (Uz Uw))).modify 3 (mI (Uz (Uw+1)))
noncomputable def tN (a:Os):World:=
 {World.holding prog a ⟨#[.cells #[.string Ux] 306,.cells #[.string Uy] 306],#[],[]⟩with heap:=zbd (World.holding prog a ⟨#[.cells #[.string Ux] 306,.cells #[.string Uy] 306],#[],[]⟩).heap}
def tZ:Array Value:=#[.agg #[.slice none 0 0,.slice none 0 0],.string ⟨#[]⟩]
theorem zbe(a:Os):laidMet prog Rows.flagNeedsMatchSpecUptoRow.laid ((tN a).forCall (fun _ _=>0) ⟨#[],tZ,[]⟩).memory:=
 laidMet_of_run3 8 (by kernel_rfl) (by kernel_rfl) (by kernel_rfl)
theorem Tb(b:Os){H:Type}(V:TypeId×Value->H):∃a,DataW.whole V prog ((tN b).forCall (fun _ _=>0) ⟨#[],tZ,[]⟩).memory Tryz.f3.params.toList Rows.flagNeedsMatchSpecSpec.vars false tZ.toList 8=some ([.agg [.nil,.nil],.lit (.string [])],[],a):=
 ⟨[],by kernel_rfl⟩
theorem O0(e:Os)(a:e.Started)(H:Type)(V:TypeId×Value->H)(F:Stop.Interp) :
  ReturnsInHanded {} Tryz.checked e 3 .any ((Rows.OpenSpec.upto Rows.flagNeedsMatchSpecSpec).preRow V prog Tryz.f3 Rows.flagNeedsMatchSpecUptoRow.domain false Rows.flagNeedsMatchSpecUptoRow.laid) (((Rows.OpenSpec.upto Rows.flagNeedsMatchSpecSpec).at F).post V prog Tryz.f3 false true false false):=by
 obtain⟨g,i⟩:=Tb e V;refine returnsInHanded_of_row (C:=Tryz.checked) (s:=Rows.OpenSpec.upto Rows.flagNeedsMatchSpecSpec) zeb a (by kernel_rfl) func3
  (witness_row_at (enc:=V) (C:=Tryz.checked) false (tN e) tZ rfl (by kernel_rfl) (by kernel_rfl) (by kernel_rfl)
   (OpenSpec.preRow_of_cond 8 i (by kernel_rfl) (fun k j=>by cases j;kernel_rfl) (by kernel_rfl) (zbe e))) ?_
 intro W base args ds l b f m _ c _ d h _;exact E2 H V W base args ds l b f m (c _ rfl) h (zec d)
end Go.Proofs.YtcebnehlnlcckaaGreatDoor
