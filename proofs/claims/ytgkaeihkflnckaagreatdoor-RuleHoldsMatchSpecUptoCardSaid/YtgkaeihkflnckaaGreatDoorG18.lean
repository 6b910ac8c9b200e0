/- Lemmas. -/
import Derived.Test.YtgkaeihkflnckaaGreatDoorG17
set_option maxRecDepth 100000
open Go Proofs Proofs.YtgkaeihkflnckaaGreatDoor Proofs.Tryz RowKit AM SpanLaw Q Zz
namespace Go.Proofs.YtgkaeihkflnckaaGreatDoor
open Go.RowKit Go.AM Go.SpanLaw Go.ChangeShapes Go.WideShapes Go.ChangeAt
theorem zga:ownKnob prog.godebug=none:=by kernel_rfl
theorem zgb{W:World}(i:laidMetH prog Rows.ruleHoldsMatchSpecUptoRow.laid W):∀t∈JK,A5 W (fun b=>b<W.heap.size) t:=by
 intro t j;obtain rfl:t=(5,.u64,Lib.pow10Tab):=by simpa[JK]using j
 have c:=i.filter fun x=>x.1== "internal/strconv.uint64pow10"
 rw[MakeChecks.laidMetH_plain _ _ _ (by kernel_rfl)]at c;have k:(Rows.ruleHoldsMatchSpecUptoRow.laid.filter fun x=>x.1== "internal/strconv.uint64pow10")=("internal/strconv.uint64pow10",Lib.tabData .u64 Lib.pow10Tab)::[]:=by kernel_rfl
 rw[k]at c;have a:Lib.TabIs prog W "internal/strconv.uint64pow10" .u64 Lib.pow10Tab:=Lib.tabIs_of_head (g:=5) (by kernel_rfl) (by kernel_rfl) (t:=299) (n:=20) (e:=121) zfn zfe (by kernel_rfl) (by kernel_rfl) c;have l:prog.globalNamed "internal/strconv.uint64pow10"=some 5:=by kernel_rfl
 unfold Lib.TabIs World.var? at a;rw[l,z7]at a;have d:∃ty f,W.heap[(5:Nat)]?=some (.cells (Lib.pow10Tab.map fun z=>Value.int .u64 z).toArray ty f):=by
  split at a
  ·injection a with a;subst a;exact⟨_,_,by assumption⟩
  ·cases a
 obtain⟨ty,f,h⟩:=d;exact⟨(qg.1 h).1,ty,f,h⟩
def Sc(k:IntKind):List (DataW Unit)->List Value
 | .lit (.int _ i)::l=>.int k i::Sc k l
 |_=>[]
def Sd(k:IntKind):DataW Unit->Array Value
 | .agg l=>(Sc k l).toArray
 |_=>#[]
def oQ(vs:Array Value):Obj->Obj
 | .cells _ t frozen=>.cells vs t frozen
 |o=>o
noncomputable def zbE:Nat:=(World.holding prog default ⟨#[],#[],[]⟩).heap.size
def zbF:ByteArray:=⟨#[118,97,108,117,101,32,111,117,116,32,111,102,32,114,97,110,103,101]⟩
def zbG:ByteArray:=⟨#[105,110,118,97,108,105,100,32,115,121,110,116,97,120]⟩
def Ek:Array Value:=(([128,191,160,191,128,159,144,191,128,143,0,0,0,0,0,0,0,0,0,0,0,0,0,0,0,0,0,0,0,0,0,0]:List Nat).map fun(n:Nat)=>Value.int .u8 (n:Int)).toArray
def firstCells:Array Value:=(Go.Pinned.utf8FirstZ.map fun(n:Nat)=>Value.int .u8 (n:Int)).toArray
noncomputable def zbH (b:Nat):Array Value:=#[.iface 288 (.pointer (some ⟨b,0,none⟩))]
noncomputable def zde (h:Array Obj):Array Obj:=
 ((((((h.modify 1 (oQ firstCells)).modify 2 (oQ Ek)).modify 5 (oQ (Sd .u64 Rows.laid_internal_strconv_uint64pow10))).modify 6 (oQ (Sd .u8 Rows.laid_math_bits_deBruijn32tab))).modify 7 (oQ (Sd .u8 Rows.laid_math_bits_deBruijn64tab))).modify 4 (oQ (zbH zbE))).modify 3 (oQ (zbH (zbE+1)))
noncomputable def AN (a:Os):World:=
 {World.holding prog a ⟨#[.cells #[.string zbF] 290,.cells #[.string zbG] 290],#[],[]⟩with heap:=zde (World.holding prog a ⟨#[.cells #[.string zbF] 290,.cells #[.string zbG] 290],#[],[]⟩).heap}
def A1:Array Value:=#[.slice none 0 0,.agg #[.int .i64 0,.string ⟨#[]⟩,.int .i64 0,.slice none 0 0,.string ⟨#[]⟩,.string ⟨#[]⟩,.slice none 0 0],.agg #[.string ⟨#[]⟩,.slice none 0 0]]
theorem zdf(a:Os):laidMet prog Rows.ruleHoldsMatchSpecUptoRow.laid ((AN a).forCall (fun _ _=>0) ⟨#[],A1,[]⟩).memory:=
 laidMet_of_run3 8 (by kernel_rfl) (by kernel_rfl) (by kernel_rfl)
theorem zay(b:Os){H:Type}(V:TypeId×Value->H):∃a,DataW.whole V prog ((AN b).forCall (fun _ _=>0) ⟨#[],A1,[]⟩).memory Tryz.f3.params.toList Rows.ruleHoldsMatchSpecSpec.vars false A1.toList 8=some ([.nil,.agg [.lit (.int .i64 0),.lit (.string []),.lit (.int .i64 0),.nil,.lit (.string []),.lit (.string []),.nil],.agg [.lit (.string []),.nil]],[],a):=
 ⟨[],by kernel_rfl⟩
theorem Se(e:Os)(a:e.Started)(H:Type)(V:TypeId×Value->H)(F:Stop.Interp) :
  ReturnsInHanded {} Tryz.checked e 3 .any ((Rows.OpenSpec.upto Rows.ruleHoldsMatchSpecSpec).preRow V prog Tryz.f3 Rows.ruleHoldsMatchSpecUptoRow.domain false Rows.ruleHoldsMatchSpecUptoRow.laid) (((Rows.OpenSpec.upto Rows.ruleHoldsMatchSpecSpec).at F).post V prog Tryz.f3 false true false false):=by
 obtain⟨g,i⟩:=zay e V;refine returnsInHanded_of_row (C:=Tryz.checked) (s:=Rows.OpenSpec.upto Rows.ruleHoldsMatchSpecSpec) zga a (by kernel_rfl) func3
  (witness_row_at (enc:=V) (C:=Tryz.checked) false (AN e) A1 rfl (by kernel_rfl) (by kernel_rfl) (by kernel_rfl)
   (OpenSpec.preRow_of_cond 8 i (by kernel_rfl) (fun k j=>by cases j;kernel_rfl) (by kernel_rfl) (zdf e))) ?_
 intro W base args ds l b f m _ c _ d h _;exact Hn H V W base args ds l b f m (c _ rfl) h (zgb d)
end Go.Proofs.YtgkaeihkflnckaaGreatDoor
