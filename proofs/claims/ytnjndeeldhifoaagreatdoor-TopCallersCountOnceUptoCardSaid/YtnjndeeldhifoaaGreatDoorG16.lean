/- Lemmas. -/
import Derived.Test.YtnjndeeldhifoaaGreatDoorG15
set_option maxRecDepth 100000
open Go Proofs Proofs.YtnjndeeldhifoaaGreatDoor Proofs.Tryz RowKit AM SpanLaw Q Zz
namespace Go.Proofs.YtnjndeeldhifoaaGreatDoor
open Go.RowKit Go.AM Go.SpanLaw Go.ChangeShapes Go.WideShapes Go.ChangeAt
theorem zbt:ownKnob prog.godebug=none:=by kernel_rfl
theorem zbu{W:World}(i:laidMetH prog Rows.topCallersCountOnceUptoRow.laid W):∀t∈Wc,nd W (fun b=>b<W.heap.size) t:=by
 intro t j;obtain rfl:t=(5,.u64,Lib.pow10Tab):=by simpa[Wc]using j
 have c:=i.filter fun x=>x.1== "internal/strconv.uint64pow10"
 rw[MakeChecks.laidMetH_plain _ _ _ (by kernel_rfl)]at c;have k:(Rows.topCallersCountOnceUptoRow.laid.filter fun x=>x.1== "internal/strconv.uint64pow10")=("internal/strconv.uint64pow10",Lib.tabData .u64 Lib.pow10Tab)::[]:=by kernel_rfl
 rw[k]at c;have a:Lib.TabIs prog W "internal/strconv.uint64pow10" .u64 Lib.pow10Tab:=Lib.tabIs_of_head (g:=5) (by kernel_rfl) (by kernel_rfl) (t:=353) (n:=20) (e:=134) zaD zav (by kernel_rfl) (by kernel_rfl) c;have l:prog.globalNamed "internal/strconv.uint64pow10"=some 5:=by kernel_rfl
 unfold Lib.TabIs World.var? at a;rw[l,zV]at a;have d:∃ty f,W.heap[(5:Nat)]?=some (.cells (Lib.pow10Tab.map fun z=>Value.int .u64 z).toArray ty f):=by
  split at a
  ·injection a with a;subst a;exact⟨_,_,by assumption⟩
  ·cases a
 obtain⟨ty,f,h⟩:=d;exact⟨(qb.1 h).1,ty,f,h⟩
def It(k:IntKind):List (DataW Unit)->List Value
 | .lit (.int _ i)::l=>.int k i::It k l
 |_=>[]
def Iu(k:IntKind):DataW Unit->Array Value
 | .agg l=>(It k l).toArray
 |_=>#[]
def fg(vs:Array Value):Obj->Obj
 | .cells _ t frozen=>.cells vs t frozen
 |o=>o
noncomputable def OW:Nat:=(World.holding prog default ⟨#[],#[],[]⟩).heap.size
def OX:ByteArray:=⟨#[118,97,108,117,101,32,111,117,116,32,111,102,32,114,97,110,103,101]⟩
def OY:ByteArray:=⟨#[105,110,118,97,108,105,100,32,115,121,110,116,97,120]⟩
def rV:Array Value:=(([128,191,160,191,128,159,144,191,128,143,0,0,0,0,0,0,0,0,0,0,0,0,0,0,0,0,0,0,0,0,0,0]:List Nat).map fun(n:Nat)=>Value.int .u8 (n:Int)).toArray
def firstCells:Array Value:=(Go.Pinned.utf8FirstZ.map fun(n:Nat)=>Value.int .u8 (n:Int)).toArray
noncomputable def OZ (b:Nat):Array Value:=#[.iface 343 (.pointer (some ⟨b,0,none⟩))]
noncomputable def Sv (h:Array Obj):Array Obj:=
 ((((((h.modify 1 (fg firstCells)).modify 2 (fg rV)).modify 5 (fg (Iu .u64 Rows.laid_internal_strconv_uint64pow10))).modify 6 (fg (Iu .u8 Rows.laid_math_bits_deBruijn32tab))).modify 7 (fg (Iu .u8 Rows.laid_math_bits_deBruijn64tab))).modify 4 (fg (OZ OW))).modify 3 (fg (OZ (OW+1)))
noncomputable def mN (a:Os):World:=
 {World.holding prog a ⟨#[.cells #[.string OX] 345,.cells #[.string OY] 345],#[],[]⟩with heap:=Sv (World.holding prog a ⟨#[.cells #[.string OX] 345,.cells #[.string OY] 345],#[],[]⟩).heap}
def mY:Array Value:=#[.slice none 0 0,.agg #[.slice none 0 0,.slice none 0 0,.slice none 0 0],.slice none 0 0,.string ⟨#[]⟩,.int .i64 0,.int .i64 0]
theorem Sw(a:Os):laidMet prog Rows.topCallersCountOnceUptoRow.laid ((mN a).forCall (fun _ _=>0) ⟨#[],mY,[]⟩).memory:=
 laidMet_of_run3 8 (by kernel_rfl) (by kernel_rfl) (by kernel_rfl)
theorem NS(b:Os){H:Type}(V:TypeId×Value->H):∃a,DataW.whole V prog ((mN b).forCall (fun _ _=>0) ⟨#[],mY,[]⟩).memory Tryz.f3.params.toList Rows.topCallersCountOnceSpec.vars false mY.toList 8=some ([.nil,.agg [.nil,.nil,.nil],.nil,.lit (.string []),.lit (.int .i64 0),.lit (.int .i64 0)],[],a):=
 ⟨[],by kernel_rfl⟩
theorem Iv(e:Os)(a:e.Started)(H:Type)(V:TypeId×Value->H)(F:Stop.Interp) :
  ReturnsInHanded {} Tryz.checked e 3 .any ((Rows.OpenSpec.upto Rows.topCallersCountOnceSpec).preRow V prog Tryz.f3 Rows.topCallersCountOnceUptoRow.domain false Rows.topCallersCountOnceUptoRow.laid) (((Rows.OpenSpec.upto Rows.topCallersCountOnceSpec).at F).post V prog Tryz.f3 false true false false):=by
 obtain⟨g,i⟩:=NS e V;refine returnsInHanded_of_row (C:=Tryz.checked) (s:=Rows.OpenSpec.upto Rows.topCallersCountOnceSpec) zbt a (by kernel_rfl) func3
  (witness_row_at (enc:=V) (C:=Tryz.checked) false (mN e) mY rfl (by kernel_rfl) (by kernel_rfl) (by kernel_rfl)
   (OpenSpec.preRow_of_cond 8 i (by kernel_rfl) (fun k j=>by cases j;kernel_rfl) (by kernel_rfl) (Sw e))) ?_
 intro W base args ds l b f m _ c _ d h _;exact u9 H V W base args ds l b f m (c _ rfl) h (zbu d)
end Go.Proofs.YtnjndeeldhifoaaGreatDoor
