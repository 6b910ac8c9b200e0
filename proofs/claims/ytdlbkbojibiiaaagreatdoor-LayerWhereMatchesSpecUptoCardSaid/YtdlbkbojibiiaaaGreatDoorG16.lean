/- Lemmas. -/
import Derived.Test.YtdlbkbojibiiaaaGreatDoorG15
set_option maxRecDepth 100000
open Go Proofs Proofs.YtdlbkbojibiiaaaGreatDoor Proofs.Tryz RowKit AM SpanLaw Q Zz
namespace Go.Proofs.YtdlbkbojibiiaaaGreatDoor
open Go.RowKit Go.AM Go.SpanLaw Go.ChangeShapes Go.WideShapes Go.ChangeAt
theorem zkZ:ownKnob prog.godebug=none:=by kernel_rfl
theorem zk0{W:World}(i:laidMetH prog Rows.layerWhereMatchesSpecUptoRow.laid W):∀t∈K4,D7 W (fun b=>b<W.heap.size) t:=by
 intro t j;obtain rfl:t=(5,.u64,Lib.pow10Tab):=by simpa[K4]using j
 have c:=i.filter fun x=>x.1== "internal/strconv.uint64pow10"
 rw[MakeChecks.laidMetH_plain _ _ _ (by kernel_rfl)]at c;have k:(Rows.layerWhereMatchesSpecUptoRow.laid.filter fun x=>x.1== "internal/strconv.uint64pow10")=("internal/strconv.uint64pow10",Lib.tabData .u64 Lib.pow10Tab)::[]:=by kernel_rfl
 rw[k]at c;have a:Lib.TabIs prog W "internal/strconv.uint64pow10" .u64 Lib.pow10Tab:=Lib.tabIs_of_head (g:=5) (by kernel_rfl) (by kernel_rfl) (t:=367) (n:=20) (e:=111) zkf zj4 (by kernel_rfl) (by kernel_rfl) c;have l:prog.globalNamed "internal/strconv.uint64pow10"=some 5:=by kernel_rfl
 unfold Lib.TabIs World.var? at a;rw[l,qo]at a;have d:∃ty f,W.heap[(5:Nat)]?=some (.cells (Lib.pow10Tab.map fun z=>Value.int .u64 z).toArray ty f):=by
  split at a
  ·injection a with a;subst a;exact⟨_,_,by assumption⟩
  ·cases a
 obtain⟨ty,f,h⟩:=d;exact⟨(qE.1 h).1,ty,f,h⟩
def zbZ(k:IntKind):List (DataW Unit)->List Value
 | .lit (.int _ i)::l=>.int k i::zbZ k l
 |_=>[]
def zb0(k:IntKind):DataW Unit->Array Value
 | .agg l=>(zbZ k l).toArray
 |_=>#[]
def sL(vs:Array Value):Obj->Obj
 | .cells _ t frozen=>.cells vs t frozen
 |o=>o
noncomputable def zf6:Nat:=(World.holding prog default ⟨#[],#[],[]⟩).heap.size
def zf7:ByteArray:=⟨#[118,97,108,117,101,32,111,117,116,32,111,102,32,114,97,110,103,101]⟩
def zf8:ByteArray:=⟨#[105,110,118,97,108,105,100,32,115,121,110,116,97,120]⟩
def H3:Array Value:=(([128,191,160,191,128,159,144,191,128,143,0,0,0,0,0,0,0,0,0,0,0,0,0,0,0,0,0,0,0,0,0,0]:List Nat).map fun(n:Nat)=>Value.int .u8 (n:Int)).toArray
def firstCells:Array Value:=(Go.Pinned.utf8FirstZ.map fun(n:Nat)=>Value.int .u8 (n:Int)).toArray
noncomputable def zf9 (b:Nat):Array Value:=#[.iface 356 (.pointer (some ⟨b,0,none⟩))]
noncomputable def zhL (h:Array Obj):Array Obj:=
 ((((((h.modify 1 (sL firstCells)).modify 2 (sL H3)).modify 5 (sL (zb0 .u64 Rows.laid_internal_strconv_uint64pow10))).modify 6 (sL (zb0 .u8 Rows.laid_math_bits_deBruijn32tab))).modify 7 (sL (zb0 .u8 Rows.laid_math_bits_deBruijn64tab))).modify 4 (sL (zf9 zf6))).modify 3 (sL (zf9 (zf6+1)))
noncomputable def DS (a:Os):World:=
 {World.holding prog a ⟨#[.cells #[.string zf7] 358,.cells #[.string zf8] 358],#[],[]⟩with heap:=zhL (World.holding prog a ⟨#[.cells #[.string zf7] 358,.cells #[.string zf8] 358],#[],[]⟩).heap}
def D1:Array Value:=#[.slice none 0 0,.agg #[.slice none 0 0,.slice none 0 0,.slice none 0 0],.agg #[.string ⟨#[]⟩,.slice none 0 0],.string ⟨#[]⟩,.int .i64 0]
theorem zhM(a:Os):laidMet prog Rows.layerWhereMatchesSpecUptoRow.laid ((DS a).forCall (fun _ _=>0) ⟨#[],D1,[]⟩).memory:=
 laidMet_of_run3 8 (by kernel_rfl) (by kernel_rfl) (by kernel_rfl)
theorem zeK(b:Os){H:Type}(V:TypeId×Value->H):∃a,DataW.whole V prog ((DS b).forCall (fun _ _=>0) ⟨#[],D1,[]⟩).memory Tryz.f3.params.toList Rows.layerWhereMatchesSpecSpec.vars false D1.toList 8=some ([.nil,.agg [.nil,.nil,.nil],.agg [.lit (.string []),.nil],.lit (.string []),.lit (.int .i64 0)],[],a):=
 ⟨[],by kernel_rfl⟩
theorem zb1(e:Os)(a:e.Started)(H:Type)(V:TypeId×Value->H)(F:Stop.Interp) :
  ReturnsInHanded {} Tryz.checked e 3 .any ((Rows.OpenSpec.upto Rows.layerWhereMatchesSpecSpec).preRow V prog Tryz.f3 Rows.layerWhereMatchesSpecUptoRow.domain false Rows.layerWhereMatchesSpecUptoRow.laid) (((Rows.OpenSpec.upto Rows.layerWhereMatchesSpecSpec).at F).post V prog Tryz.f3 false true false false):=by
 obtain⟨g,i⟩:=zeK e V;refine returnsInHanded_of_row (C:=Tryz.checked) (s:=Rows.OpenSpec.upto Rows.layerWhereMatchesSpecSpec) zkZ a (by kernel_rfl) func3
  (witness_row_at (enc:=V) (C:=Tryz.checked) false (DS e) D1 rfl (by kernel_rfl) (by kernel_rfl) (by kernel_rfl)
   (OpenSpec.preRow_of_cond 8 i (by kernel_rfl) (fun k j=>by cases j;kernel_rfl) (by kernel_rfl) (zhM e))) ?_
 intro W base args ds gs b f l _ c _ d h _;exact Nf H V W base args ds gs b f l (c _ rfl) h (zk0 d)
end Go.Proofs.YtdlbkbojibiiaaaGreatDoor
