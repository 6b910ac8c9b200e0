/- Lemmas. -/
import Derived.Test.YtfanbcfchamfjaaGreatDoorG17
set_option maxRecDepth 100000
open Go Proofs Proofs.YtfanbcfchamfjaaGreatDoor Proofs.Tryz RowKit AM SpanLaw Q Zz
namespace Go.Proofs.YtfanbcfchamfjaaGreatDoor
open Go.RowKit Go.AM Go.SpanLaw Go.ChangeShapes Go.WideShapes Go.ChangeAt
theorem zgT:ownKnob prog.godebug=none:=by kernel_rfl
theorem zgU{W:World}(i:laidMetH prog Rows.layerTextsComeBackUptoRow.laid W):∀t∈WQ,tB W (fun b=>b<W.heap.size) t:=by
 intro t j;obtain rfl:t=(1,.u64,Lib.pow10Tab):=by simpa[WQ]using j
 have c:=i.filter fun x=>x.1== "internal/strconv.uint64pow10"
 rw[MakeChecks.laidMetH_plain _ _ _ (by kernel_rfl)]at c;have k:(Rows.layerTextsComeBackUptoRow.laid.filter fun x=>x.1== "internal/strconv.uint64pow10")=("internal/strconv.uint64pow10",Lib.tabData .u64 Lib.pow10Tab)::[]:=by kernel_rfl
 rw[k]at c;have a:Lib.TabIs prog W "internal/strconv.uint64pow10" .u64 Lib.pow10Tab:=Lib.tabIs_of_head (g:=1) (by kernel_rfl) (by kernel_rfl) (t:=160) (n:=20) (e:=129) zf3 zfZ (by kernel_rfl) (by kernel_rfl) c;have l:prog.globalNamed "internal/strconv.uint64pow10"=some 1:=by kernel_rfl
 unfold Lib.TabIs World.var? at a;rw[l,zW]at a;have d:∃ty f,W.heap[(1:Nat)]?=some (.cells (Lib.pow10Tab.map fun z=>Value.int .u64 z).toArray ty f):=by
  split at a
  ·injection a with a;subst a;exact⟨_,_,by assumption⟩
  ·cases a
 obtain⟨ty,f,h⟩:=d;exact⟨(zU.1 h).1,ty,f,h⟩
def PL(k:IntKind):List (DataW Unit)->List Value
 | .lit (.int _ i)::l=>.int k i::PL k l
 |_=>[]
def PM(k:IntKind):DataW Unit->Array Value
 | .agg l=>(PL k l).toArray
 |_=>#[]
def mX(vs:Array Value):Obj->Obj
 | .cells _ t frozen=>.cells vs t frozen
 |o=>o
noncomputable def zbq:Nat:=(World.holding prog default ⟨#[],#[],[]⟩).heap.size
def zbr:ByteArray:=⟨#[118,97,108,117,101,32,111,117,116,32,111,102,32,114,97,110,103,101]⟩
def zbs:ByteArray:=⟨#[105,110,118,97,108,105,100,32,115,121,110,116,97,120]⟩
def BI:Array Value:=(([128,191,160,191,128,159,144,191,128,143,0,0,0,0,0,0,0,0,0,0,0,0,0,0,0,0,0,0,0,0,0,0]:List Nat).map fun(n:Nat)=>Value.int .u8 (n:Int)).toArray
def firstCells:Array Value:=(Go.Pinned.utf8FirstZ.map fun(n:Nat)=>Value.int .u8 (n:Int)).toArray
noncomputable def zbt (b:Nat):Array Value:=#[.iface 325 (.pointer (some ⟨b,0,none⟩))]
noncomputable def zdD (h:Array Obj):Array Obj:=
 ((((((h.modify 4 (mX firstCells)).modify 5 (mX BI)).modify 1 (mX (PM .u64 Rows.laid_internal_strconv_uint64pow10))).modify 2 (mX (PM .u8 Rows.laid_math_bits_deBruijn32tab))).modify 3 (mX (PM .u8 Rows.laid_math_bits_deBruijn64tab))).modify 7 (mX (zbt zbq))).modify 6 (mX (zbt (zbq+1)))
noncomputable def sZ (a:Os):World:=
 {World.holding prog a ⟨#[.cells #[.string zbr] 327,.cells #[.string zbs] 327],#[],[]⟩with heap:=zdD (World.holding prog a ⟨#[.cells #[.string zbr] 327,.cells #[.string zbs] 327],#[],[]⟩).heap}
def tn:Array Value:=#[.agg #[.slice none 0 0,.slice none 0 0,.slice none 0 0]]
theorem zdE(a:Os):laidMet prog Rows.layerTextsComeBackUptoRow.laid ((sZ a).forCall (fun _ _=>0) ⟨#[],tn,[]⟩).memory:=
 laidMet_of_run3 8 (by kernel_rfl) (by kernel_rfl) (by kernel_rfl)
theorem zan(b:Os){H:Type}(V:TypeId×Value->H):∃a,DataW.whole V prog ((sZ b).forCall (fun _ _=>0) ⟨#[],tn,[]⟩).memory Tryz.f3.params.toList Rows.layerTextsComeBackSpec.vars false tn.toList 8=some ([.agg [.nil,.nil,.nil]],[],a):=
 ⟨[],by kernel_rfl⟩
theorem PN(e:Os)(a:e.Started)(H:Type)(V:TypeId×Value->H)(F:Stop.Interp) :
  ReturnsInHanded {} Tryz.checked e 3 .any ((Rows.OpenSpec.upto Rows.layerTextsComeBackSpec).preRow V prog Tryz.f3 Rows.layerTextsComeBackUptoRow.domain false Rows.layerTextsComeBackUptoRow.laid) (((Rows.OpenSpec.upto Rows.layerTextsComeBackSpec).at F).post V prog Tryz.f3 false true false false):=by
 obtain⟨g,i⟩:=zan e V;refine returnsInHanded_of_row (C:=Tryz.checked) (s:=Rows.OpenSpec.upto Rows.layerTextsComeBackSpec) zgT a (by kernel_rfl) func3
  (witness_row_at (enc:=V) (C:=Tryz.checked) false (sZ e) tn rfl (by kernel_rfl) (by kernel_rfl) (by kernel_rfl)
   (OpenSpec.preRow_of_cond 8 i (by kernel_rfl) (fun k j=>by cases j;kernel_rfl) (by kernel_rfl) (zdE e))) ?_
 intro W base args ds l b f m _ c _ d h _;exact EB H V W base args ds l b f m (c _ rfl) h (zgU d)
end Go.Proofs.YtfanbcfchamfjaaGreatDoor
