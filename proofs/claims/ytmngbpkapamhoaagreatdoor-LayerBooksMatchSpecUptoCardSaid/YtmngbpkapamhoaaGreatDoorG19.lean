/- Lemmas. -/
import Derived.Test.YtmngbpkapamhoaaGreatDoorG18
set_option maxRecDepth 100000
open Go Proofs Proofs.YtmngbpkapamhoaaGreatDoor Proofs.Tryz RowKit AM SpanLaw Q Zz
namespace Go.Proofs.YtmngbpkapamhoaaGreatDoor
open Go.RowKit Go.AM Go.SpanLaw Go.ChangeShapes Go.WideShapes Go.ChangeAt
theorem ziI:ownKnob prog.godebug=none:=by kernel_rfl
theorem ziJ{W:World}(i:laidMetH prog Rows.layerBooksMatchSpecUptoRow.laid W):∀t∈Jh,Dc W (fun b=>b<W.heap.size) t:=by
 intro t j;obtain rfl:t=(1,.u64,Lib.pow10Tab):=by simpa[Jh]using j
 have c:=i.filter fun x=>x.1== "internal/strconv.uint64pow10"
 rw[MakeChecks.laidMetH_plain _ _ _ (by kernel_rfl)]at c;have k:(Rows.layerBooksMatchSpecUptoRow.laid.filter fun x=>x.1== "internal/strconv.uint64pow10")=("internal/strconv.uint64pow10",Lib.tabData .u64 Lib.pow10Tab)::[]:=by kernel_rfl
 rw[k]at c;have a:Lib.TabIs prog W "internal/strconv.uint64pow10" .u64 Lib.pow10Tab:=Lib.tabIs_of_head (g:=1) (by kernel_rfl) (by kernel_rfl) (t:=162) (n:=20) (e:=133) zhS zhQ (by kernel_rfl) (by kernel_rfl) c;have l:prog.globalNamed "internal/strconv.uint64pow10"=some 1:=by kernel_rfl
 unfold Lib.TabIs World.var? at a;rw[l,qc]at a;have d:∃ty f,W.heap[(1:Nat)]?=some (.cells (Lib.pow10Tab.map fun z=>Value.int .u64 z).toArray ty f):=by
  split at a
  ·injection a with a;subst a;exact⟨_,_,by assumption⟩
  ·cases a
 obtain⟨ty,f,h⟩:=d;exact⟨(zM.1 h).1,ty,f,h⟩
def UZ(k:IntKind):List (DataW Unit)->List Value
 | .lit (.int _ i)::l=>.int k i::UZ k l
 |_=>[]
def U0(k:IntKind):DataW Unit->Array Value
 | .agg l=>(UZ k l).toArray
 |_=>#[]
def rV(vs:Array Value):Obj->Obj
 | .cells _ t frozen=>.cells vs t frozen
 |o=>o
noncomputable def zdU:Nat:=(World.holding prog default ⟨#[],#[],[]⟩).heap.size
def zdV:ByteArray:=⟨#[118,97,108,117,101,32,111,117,116,32,111,102,32,114,97,110,103,101]⟩
def zdW:ByteArray:=⟨#[105,110,118,97,108,105,100,32,115,121,110,116,97,120]⟩
def Gp:Array Value:=(([128,191,160,191,128,159,144,191,128,143,0,0,0,0,0,0,0,0,0,0,0,0,0,0,0,0,0,0,0,0,0,0]:List Nat).map fun(n:Nat)=>Value.int .u8 (n:Int)).toArray
def firstCells:Array Value:=(Go.Pinned.utf8FirstZ.map fun(n:Nat)=>Value.int .u8 (n:Int)).toArray
noncomputable def zdX (b:Nat):Array Value:=#[.iface 341 (.pointer (some ⟨b,0,none⟩))]
noncomputable def zfF (h:Array Obj):Array Obj:=
 ((((((h.modify 4 (rV firstCells)).modify 5 (rV Gp)).modify 1 (rV (U0 .u64 Rows.laid_internal_strconv_uint64pow10))).modify 2 (rV (U0 .u8 Rows.laid_math_bits_deBruijn32tab))).modify 3 (rV (U0 .u8 Rows.laid_math_bits_deBruijn64tab))).modify 7 (rV (zdX zdU))).modify 6 (rV (zdX (zdU+1)))
noncomputable def CR (a:Os):World:=
 {World.holding prog a ⟨#[.cells #[.string zdV] 343,.cells #[.string zdW] 343],#[],[]⟩with heap:=zfF (World.holding prog a ⟨#[.cells #[.string zdV] 343,.cells #[.string zdW] 343],#[],[]⟩).heap}
def C8:Array Value:=#[.slice none 0 0,.agg #[.slice none 0 0,.slice none 0 0,.slice none 0 0]]
theorem zfG(a:Os):laidMet prog Rows.layerBooksMatchSpecUptoRow.laid ((CR a).forCall (fun _ _=>0) ⟨#[],C8,[]⟩).memory:=
 laidMet_of_run3 8 (by kernel_rfl) (by kernel_rfl) (by kernel_rfl)
theorem zcM(b:Os){H:Type}(V:TypeId×Value->H):∃a,DataW.whole V prog ((CR b).forCall (fun _ _=>0) ⟨#[],C8,[]⟩).memory Tryz.f3.params.toList Rows.layerBooksMatchSpecSpec.vars false C8.toList 8=some ([.nil,.agg [.nil,.nil,.nil]],[],a):=
 ⟨[],by kernel_rfl⟩
theorem U1(e:Os)(a:e.Started)(H:Type)(V:TypeId×Value->H)(F:Stop.Interp) :
  ReturnsInHanded {} Tryz.checked e 3 .any ((Rows.OpenSpec.upto Rows.layerBooksMatchSpecSpec).preRow V prog Tryz.f3 Rows.layerBooksMatchSpecUptoRow.domain false Rows.layerBooksMatchSpecUptoRow.laid) (((Rows.OpenSpec.upto Rows.layerBooksMatchSpecSpec).at F).post V prog Tryz.f3 false true false false):=by
 obtain⟨g,i⟩:=zcM e V;refine returnsInHanded_of_row (C:=Tryz.checked) (s:=Rows.OpenSpec.upto Rows.layerBooksMatchSpecSpec) ziI a (by kernel_rfl) func3
  (witness_row_at (enc:=V) (C:=Tryz.checked) false (CR e) C8 rfl (by kernel_rfl) (by kernel_rfl) (by kernel_rfl)
   (OpenSpec.preRow_of_cond 8 i (by kernel_rfl) (fun k j=>by cases j;kernel_rfl) (by kernel_rfl) (zfG e))) ?_
 intro W base args ds gs b f l _ c _ d h _;exact Lq H V W base args ds gs b f l (c _ rfl) h (ziJ d)
end Go.Proofs.YtmngbpkapamhoaaGreatDoor
