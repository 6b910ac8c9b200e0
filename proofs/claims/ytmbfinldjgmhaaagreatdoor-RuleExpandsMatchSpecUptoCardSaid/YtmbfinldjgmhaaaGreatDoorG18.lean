/- Lemmas. -/
import Derived.Test.YtmbfinldjgmhaaaGreatDoorG17
set_option maxRecDepth 100000
open Go Proofs Proofs.YtmbfinldjgmhaaaGreatDoor Proofs.Tryz RowKit AM SpanLaw Q Zz
namespace Go.Proofs.YtmbfinldjgmhaaaGreatDoor
open Go.RowKit Go.AM Go.SpanLaw Go.ChangeShapes Go.WideShapes Go.ChangeAt
theorem zfz:ownKnob prog.godebug=none:=by kernel_rfl
theorem zfA{W:World}(i:laidMetH prog Rows.ruleExpandsMatchSpecUptoRow.laid W):∀t∈JK,AU W (fun b=>b<W.heap.size) t:=by
 intro t j;obtain rfl:t=(5,.u64,Lib.pow10Tab):=by simpa[JK]using j
 have c:=i.filter fun x=>x.1== "internal/strconv.uint64pow10"
 rw[MakeChecks.laidMetH_plain _ _ _ (by kernel_rfl)]at c;have k:(Rows.ruleExpandsMatchSpecUptoRow.laid.filter fun x=>x.1== "internal/strconv.uint64pow10")=("internal/strconv.uint64pow10",Lib.tabData .u64 Lib.pow10Tab)::[]:=by kernel_rfl
 rw[k]at c;have a:Lib.TabIs prog W "internal/strconv.uint64pow10" .u64 Lib.pow10Tab:=Lib.tabIs_of_head (g:=5) (by kernel_rfl) (by kernel_rfl) (t:=300) (n:=20) (e:=118) zeI zey (by kernel_rfl) (by kernel_rfl) c;have l:prog.globalNamed "internal/strconv.uint64pow10"=some 5:=by kernel_rfl
 unfold Lib.TabIs World.var? at a;rw[l,z8]at a;have d:∃ty f,W.heap[(5:Nat)]?=some (.cells (Lib.pow10Tab.map fun z=>Value.int .u64 z).toArray ty f):=by
  split at a
  ·injection a with a;subst a;exact⟨_,_,by assumption⟩
  ·cases a
 obtain⟨ty,f,h⟩:=d;exact⟨(zU.1 h).1,ty,f,h⟩
def Rh(k:IntKind):List (DataW Unit)->List Value
 | .lit (.int _ i)::l=>.int k i::Rh k l
 |_=>[]
def Ri(k:IntKind):DataW Unit->Array Value
 | .agg l=>(Rh k l).toArray
 |_=>#[]
def oE(vs:Array Value):Obj->Obj
 | .cells _ t frozen=>.cells vs t frozen
 |o=>o
noncomputable def zaY:Nat:=(World.holding prog default ⟨#[],#[],[]⟩).heap.size
def zaZ:ByteArray:=⟨#[118,97,108,117,101,32,111,117,116,32,111,102,32,114,97,110,103,101]⟩
def za0:ByteArray:=⟨#[105,110,118,97,108,105,100,32,115,121,110,116,97,120]⟩
def DT:Array Value:=(([128,191,160,191,128,159,144,191,128,143,0,0,0,0,0,0,0,0,0,0,0,0,0,0,0,0,0,0,0,0,0,0]:List Nat).map fun(n:Nat)=>Value.int .u8 (n:Int)).toArray
def firstCells:Array Value:=(Go.Pinned.utf8FirstZ.map fun(n:Nat)=>Value.int .u8 (n:Int)).toArray
noncomputable def za1 (b:Nat):Array Value:=#[.iface 291 (.pointer (some ⟨b,0,none⟩))]
noncomputable def zcz (h:Array Obj):Array Obj:=
 ((((((h.modify 1 (oE firstCells)).modify 2 (oE DT)).modify 5 (oE (Ri .u64 Rows.laid_internal_strconv_uint64pow10))).modify 6 (oE (Ri .u8 Rows.laid_math_bits_deBruijn32tab))).modify 7 (oE (Ri .u8 Rows.laid_math_bits_deBruijn64tab))).modify 4 (oE (za1 zaY))).modify 3 (oE (za1 (zaY+1)))
noncomputable def AA (a:Os):World:=
 {World.holding prog a ⟨#[.cells #[.string zaZ] 293,.cells #[.string za0] 293],#[],[]⟩with heap:=zcz (World.holding prog a ⟨#[.cells #[.string zaZ] 293,.cells #[.string za0] 293],#[],[]⟩).heap}
def AN:Array Value:=#[.slice none 0 0,.agg #[.int .i64 0,.string ⟨#[]⟩,.int .i64 0,.slice none 0 0,.string ⟨#[]⟩,.string ⟨#[]⟩,.slice none 0 0],.agg #[.string ⟨#[]⟩,.slice none 0 0]]
theorem zcA(a:Os):laidMet prog Rows.ruleExpandsMatchSpecUptoRow.laid ((AA a).forCall (fun _ _=>0) ⟨#[],AN,[]⟩).memory:=
 laidMet_of_run3 8 (by kernel_rfl) (by kernel_rfl) (by kernel_rfl)
theorem UI(b:Os){H:Type}(V:TypeId×Value->H):∃a,DataW.whole V prog ((AA b).forCall (fun _ _=>0) ⟨#[],AN,[]⟩).memory Tryz.f3.params.toList Rows.ruleExpandsMatchSpecSpec.vars false AN.toList 8=some ([.nil,.agg [.lit (.int .i64 0),.lit (.string []),.lit (.int .i64 0),.nil,.lit (.string []),.lit (.string []),.nil],.agg [.lit (.string []),.nil]],[],a):=
 ⟨[],by kernel_rfl⟩
theorem Rj(e:Os)(a:e.Started)(H:Type)(V:TypeId×Value->H)(F:Stop.Interp) :
  ReturnsInHanded {} Tryz.checked e 3 .any ((Rows.OpenSpec.upto Rows.ruleExpandsMatchSpecSpec).preRow V prog Tryz.f3 Rows.ruleExpandsMatchSpecUptoRow.domain false Rows.ruleExpandsMatchSpecUptoRow.laid) (((Rows.OpenSpec.upto Rows.ruleExpandsMatchSpecSpec).at F).post V prog Tryz.f3 false true false false):=by
 obtain⟨g,i⟩:=UI e V;refine returnsInHanded_of_row (C:=Tryz.checked) (s:=Rows.OpenSpec.upto Rows.ruleExpandsMatchSpecSpec) zfz a (by kernel_rfl) func3
  (witness_row_at (enc:=V) (C:=Tryz.checked) false (AA e) AN rfl (by kernel_rfl) (by kernel_rfl) (by kernel_rfl)
   (OpenSpec.preRow_of_cond 8 i (by kernel_rfl) (fun k j=>by cases j;kernel_rfl) (by kernel_rfl) (zcA e))) ?_
 intro W base args ds l b f m _ c _ d h _;exact Gv H V W base args ds l b f m (c _ rfl) h (zfA d)
end Go.Proofs.YtmbfinldjgmhaaaGreatDoor
