/- Lemmas. -/
import Derived.Lay
import Derived.Deep.DeepWitnessRowRef
import Derived.Test.YtjnfibncnabkmaaGreatDoorG18
set_option maxRecDepth 100000
open Go Proofs Proofs.YtjnfibncnabkmaaGreatDoor Proofs.Tryz RowKit AM SpanLaw Q Zz
namespace Go.Proofs.YtjnfibncnabkmaaGreatDoor
open Go.RowKit Go.AM Go.SpanLaw Go.ChangeShapes Go.WideShapes Go.ChangeAt
theorem zhg:ownKnob prog.godebug=none:=by kernel_rfl
theorem zhh{W:World}(i:laidMetH prog Rows.ruleReadsMatchSpecUptoRow.laid W):∀t∈JY,A6 W (fun b=>b<W.heap.size) t:=by
 intro t j;obtain rfl:t=(6,.u64,Lib.pow10Tab):=by simpa[JY]using j
 have c:=i.filter fun x=>x.1== "internal/strconv.uint64pow10"
 rw[MakeChecks.laidMetH_plain _ _ _ (by kernel_rfl)]at c;have k:(Rows.ruleReadsMatchSpecUptoRow.laid.filter fun x=>x.1== "internal/strconv.uint64pow10")=("internal/strconv.uint64pow10",Lib.tabData .u64 Lib.pow10Tab)::[]:=by kernel_rfl
 rw[k]at c;have a:Lib.TabIs prog W "internal/strconv.uint64pow10" .u64 Lib.pow10Tab:=Lib.tabIs_of_head (g:=6) (by kernel_rfl) (by kernel_rfl) (t:=316) (n:=20) (e:=133) zgw zgp (by kernel_rfl) (by kernel_rfl) c;have l:prog.globalNamed "internal/strconv.uint64pow10"=some 6:=by kernel_rfl
 unfold Lib.TabIs World.var? at a;rw[l,zW]at a;have d:∃ty f,W.heap[(6:Nat)]?=some (.cells (Lib.pow10Tab.map fun z=>Value.int .u64 z).toArray ty f):=by
  split at a
  ·injection a with a;subst a;exact⟨_,_,by assumption⟩
  ·cases a
 obtain⟨ty,f,h⟩:=d;exact⟨(z6.1 h).1,ty,f,h⟩
noncomputable def AL (a:Os):World:=World.laidAll prog a Rows.ruleReadsMatchSpecUptoRow.laid
def AY:Array Value:=#[.string ⟨#[]⟩]
theorem zej(a:Os):laidMet prog Rows.ruleReadsMatchSpecUptoRow.laid ((AL a).forCall (fun _ _=>0) ⟨#[],AY,[]⟩).memory:=
 laidMet_laidAll _ (by kernel_rfl) (by kernel_rfl)
theorem zbg(b:Os){H:Type}(V:TypeId×Value->H):∃a,DataW.whole V prog ((AL b).forCall (fun _ _=>0) ⟨#[],AY,[]⟩).memory Tryz.f3.params.toList Rows.ruleReadsMatchSpecSpec.vars false AY.toList 8=some ([.lit (.string [])],[],a):=
 ⟨[],by kernel_rfl⟩
theorem Su(e:Os)(a:e.Started)(H:Type)(V:TypeId×Value->H)(F:Stop.Interp) :
  ReturnsInHanded {} Tryz.checked e 3 .any ((Rows.OpenSpec.upto Rows.ruleReadsMatchSpecSpec).preRow V prog Tryz.f3 Rows.ruleReadsMatchSpecUptoRow.domain false Rows.ruleReadsMatchSpecUptoRow.laid) (((Rows.OpenSpec.upto Rows.ruleReadsMatchSpecSpec).at F).post V prog Tryz.f3 false true false false):=by
 obtain⟨h,j⟩:=zbg e V;refine returnsInHanded_of_row (C:=Tryz.checked) (s:=Rows.OpenSpec.upto Rows.ruleReadsMatchSpecSpec) zhg a (by kernel_rfl) func3
  (witness_row_atRef (enc:=V) (C:=Tryz.checked) false (AL e) AY (World.laidAll_os _ _ _) (by kernel_rfl) (by kernel_rfl) (by kernel_rfl)
   (OpenSpec.preRow_of_cond 8 j (by kernel_rfl) (fun k l=>by cases l;kernel_rfl) (by kernel_rfl) (zej e))) ?_
 intro W f args m n b g o _ c _ d i _;exact GL H V W f args m n b g o (c _ rfl) i (zhh d)
end Go.Proofs.YtjnfibncnabkmaaGreatDoor
