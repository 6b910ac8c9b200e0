/- Lemmas. -/
import Derived.Test.YtmdpcoooleipcaaGreatDoorG15
set_option maxRecDepth 100000
open Go Proofs Proofs.YtmdpcoooleipcaaGreatDoor Proofs.Tryz RowKit AM SpanLaw Q Zz
namespace Go.Proofs.YtmdpcoooleipcaaGreatDoor
open Go.RowKit Go.AM Go.SpanLaw Go.ChangeShapes Go.WideShapes Go.ChangeAt
theorem Sy:ownKnob prog.godebug=none:=by kernel_rfl
theorem Sz{W:World}(i:laidMetH prog Rows.ruleTextsComeBackUptoRow.laid W):∀t∈ZJ,lv W (fun b=>b<W.heap.size) t:=by
 intro t j;obtain rfl:t=(3,.u64,Lib.pow10Tab):=by simpa[ZJ]using j
 have c:=i.filter fun x=>x.1== "internal/strconv.uint64pow10"
 rw[MakeChecks.laidMetH_plain _ _ _ (by kernel_rfl)]at c;have k:(Rows.ruleTextsComeBackUptoRow.laid.filter fun x=>x.1== "internal/strconv.uint64pow10")=("internal/strconv.uint64pow10",Lib.tabData .u64 Lib.pow10Tab)::[]:=by kernel_rfl
 rw[k]at c;have a:Lib.TabIs prog W "internal/strconv.uint64pow10" .u64 Lib.pow10Tab:=Lib.tabIs_of_head (g:=3) (by kernel_rfl) (by kernel_rfl) (t:=240) (n:=20) (e:=162) Rh Rf (by kernel_rfl) (by kernel_rfl) c;have l:prog.globalNamed "internal/strconv.uint64pow10"=some 3:=by kernel_rfl
 unfold Lib.TabIs World.var? at a;rw[l,zH]at a;have d:∃ty f,W.heap[(3:Nat)]?=some (.cells (Lib.pow10Tab.map fun z=>Value.int .u64 z).toArray ty f):=by
  split at a
  ·injection a with a;subst a;exact⟨_,_,by assumption⟩
  ·cases a
 obtain⟨ty,f,h⟩:=d;exact⟨(qd.1 h).1,ty,f,h⟩
def Er(k:IntKind):List (DataW Unit)->List Value
 | .lit (.int _ i)::l=>.int k i::Er k l
 |_=>[]
def Es(k:IntKind):DataW Unit->Array Value
 | .agg l=>(Er k l).toArray
 |_=>#[]
def dZ(vs:Array Value):Obj->Obj
 | .cells _ t frozen=>.cells vs t frozen
 |o=>o
noncomputable def IV:Nat:=(World.holding prog default ⟨#[],#[],[]⟩).heap.size
def IW:ByteArray:=⟨#[118,97,108,117,101,32,111,117,116,32,111,102,32,114,97,110,103,101]⟩
def IX:ByteArray:=⟨#[105,110,118,97,108,105,100,32,115,121,110,116,97,120]⟩
def nY:Array Value:=(([128,191,160,191,128,159,144,191,128,143,0,0,0,0,0,0,0,0,0,0,0,0,0,0,0,0,0,0,0,0,0,0]:List Nat).map fun(n:Nat)=>Value.int .u8 (n:Int)).toArray
def firstCells:Array Value:=(Go.Pinned.utf8FirstZ.map fun(n:Nat)=>Value.int .u8 (n:Int)).toArray
noncomputable def IY (b:Nat):Array Value:=#[.iface 253 (.pointer (some ⟨b,0,none⟩))]
noncomputable def Ns (h:Array Obj):Array Obj:=
 ((((((h.modify 1 (dZ firstCells)).modify 2 (dZ nY)).modify 3 (dZ (Es .u64 Rows.laid_internal_strconv_uint64pow10))).modify 6 (dZ (Es .u8 Rows.laid_math_bits_deBruijn32tab))).modify 7 (dZ (Es .u8 Rows.laid_math_bits_deBruijn64tab))).modify 5 (dZ (IY IV))).modify 4 (dZ (IY (IV+1)))
noncomputable def iV (a:Os):World:=
 {World.holding prog a ⟨#[.cells #[.string IW] 255,.cells #[.string IX] 255],#[],[]⟩with heap:=Ns (World.holding prog a ⟨#[.cells #[.string IW] 255,.cells #[.string IX] 255],#[],[]⟩).heap}
def lj:Array Value:=#[.agg #[.int .i64 0,.string ⟨#[]⟩,.int .i64 0,.slice none 0 0,.string ⟨#[]⟩,.string ⟨#[]⟩,.slice none 0 0],.string ⟨#[]⟩]
theorem Nt(a:Os):laidMet prog Rows.ruleTextsComeBackUptoRow.laid ((iV a).forCall (fun _ _=>0) ⟨#[],lj,[]⟩).memory:=
 laidMet_of_run3 8 (by kernel_rfl) (by kernel_rfl) (by kernel_rfl)
theorem HA(b:Os){H:Type}(V:TypeId×Value->H):∃a,DataW.whole V prog ((iV b).forCall (fun _ _=>0) ⟨#[],lj,[]⟩).memory Tryz.f3.params.toList Rows.ruleTextsComeBackSpec.vars false lj.toList 8=some ([.agg [.lit (.int .i64 0),.lit (.string []),.lit (.int .i64 0),.nil,.lit (.string []),.lit (.string []),.nil],.lit (.string [])],[],a):=
 ⟨[],by kernel_rfl⟩
theorem Et(e:Os)(a:e.Started)(H:Type)(V:TypeId×Value->H)(F:Stop.Interp) :
  ReturnsInHanded {} Tryz.checked e 3 .any ((Rows.OpenSpec.upto Rows.ruleTextsComeBackSpec).preRow V prog Tryz.f3 Rows.ruleTextsComeBackUptoRow.domain false Rows.ruleTextsComeBackUptoRow.laid) (((Rows.OpenSpec.upto Rows.ruleTextsComeBackSpec).at F).post V prog Tryz.f3 false true false false):=by
 obtain⟨g,i⟩:=HA e V;refine returnsInHanded_of_row (C:=Tryz.checked) (s:=Rows.OpenSpec.upto Rows.ruleTextsComeBackSpec) Sy a (by kernel_rfl) func3
  (witness_row_at (enc:=V) (C:=Tryz.checked) false (iV e) lj rfl (by kernel_rfl) (by kernel_rfl) (by kernel_rfl)
   (OpenSpec.preRow_of_cond 8 i (by kernel_rfl) (fun k j=>by cases j;kernel_rfl) (by kernel_rfl) (Nt e))) ?_
 intro W base args ds l b f m _ c _ d h _;exact rW H V W base args ds l b f m (c _ rfl) h (Sz d)
end Go.Proofs.YtmdpcoooleipcaaGreatDoor
