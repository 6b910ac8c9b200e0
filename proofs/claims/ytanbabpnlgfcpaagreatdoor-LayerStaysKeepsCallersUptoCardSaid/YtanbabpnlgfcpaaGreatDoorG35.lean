/-
The row of LayerStaysKeepsCallers: its tables, its witness.
-/
import Derived.Test.YtanbabpnlgfcpaaGreatDoorG30
import Derived.Test.YtanbabpnlgfcpaaGreatDoorG31
set_option maxRecDepth 8000
namespace Go.Proofs.YtanbabpnlgfcpaaGreatDoor
open Go.Proofs.Tryz
open Go.RowKit Go.AM Go.SpanLaw Go.ChangeShapes Go.WideShapes Go.ChangeAt
theorem lsOwn:ownKnob prog.godebug=none:=by kernel_rfl
theorem lsTab {W:World} (hl:laidMetH prog Rows.layerStaysKeepsCallersUptoRow.laid W):∀t∈yT,TabOk W (fun b=>b<W.heap.size) t:=by
 intro t ht
 obtain rfl:t=(5,.u64,Lib.pow10Tab):=by simpa[yT] using ht
 have h1:=hl.filter fun x=>x.1== "internal/strconv.uint64pow10"
 rw[MakeChecks.laidMetH_plain _ _ _ (by kernel_rfl)] at h1
 have h2:(Rows.layerStaysKeepsCallersUptoRow.laid.filter fun x=>x.1== "internal/strconv.uint64pow10")=("internal/strconv.uint64pow10",Lib.tabData .u64 Lib.pow10Tab)::[]:=by kernel_rfl
 rw[h2] at h1
 have h3:Lib.TabIs prog W "internal/strconv.uint64pow10" .u64 Lib.pow10Tab:=Lib.tabIs_of_head (g:=5) (by kernel_rfl) (by kernel_rfl) (t:=319) (n:=20) (e:=123) un319 un123 (by kernel_rfl) (by kernel_rfl) h1
 have h4:prog.globalNamed "internal/strconv.uint64pow10"=some 5:=by kernel_rfl
 unfold Lib.TabIs World.var? at h3
 rw[h4,Option.bind_some] at h3
 have key:∃ty fz,W.heap[(5:Nat)]?=some (.cells (Lib.pow10Tab.map fun z=>Value.int .u64 z).toArray ty fz):=by
  split at h3
  ·injection h3 with h3
   subst h3
   exact⟨_,_,by assumption⟩
  ·cases h3
 obtain⟨ty,fz,hk⟩:=key
 exact⟨(Array.getElem?_eq_some_iff.1 hk).1,ty,fz,hk⟩
noncomputable def lsLow:Nat:=(World.holding prog default ⟨#[],#[],[]⟩).heap.size
noncomputable def lsErr (b:Nat):Array Value:=#[.iface 308 (.pointer (some ⟨b,0,none⟩))]
noncomputable def lsHeap (h:Array Obj):Array Obj :=
 ((((((h.modify 1 (layOf firstCells)).modify 2 (layOf acceptCells)).modify 5 (layOf (tabOf .u64 Rows.laid_internal_strconv_uint64pow10))).modify 6 (layOf (tabOf .u8 Rows.laid_math_bits_deBruijn32tab))).modify 7 (layOf (tabOf .u8 Rows.laid_math_bits_deBruijn64tab))).modify 4 (layOf (lsErr lsLow))).modify 3 (layOf (lsErr (lsLow+1)))
noncomputable def lsWorld (os:Os):World :=
 { World.holding prog os ⟨#[.cells #[.string textR] 310,.cells #[.string textS] 310],#[],[]⟩ with heap:=lsHeap (World.holding prog os ⟨#[.cells #[.string textR] 310,.cells #[.string textS] 310],#[],[]⟩).heap }
def lsArgs:Array Value:=#[.slice none 0 0,.agg #[.slice none 0 0,.slice none 0 0,.slice none 0 0],.agg #[.string ⟨#[]⟩,.slice none 0 0],.string ⟨#[]⟩,.int .i64 0,.int .i64 0]
theorem lsLaid (os:Os):laidMet prog Rows.layerStaysKeepsCallersUptoRow.laid ((lsWorld os).forCall (fun _ _=>0) ⟨#[],lsArgs,[]⟩).memory :=
 laidMet_of_run3 8 (by kernel_rfl) (by kernel_rfl) (by kernel_rfl)
theorem lsReads (os:Os) {H:Type} (enc:TypeId×Value→H):∃places,DataW.whole enc prog ((lsWorld os).forCall (fun _ _=>0) ⟨#[],lsArgs,[]⟩).memory Tryz.f4.params.toList Rows.layerStaysKeepsCallersSpec.vars false lsArgs.toList 8=some ([.nil,.agg [.nil,.nil,.nil],.agg [.lit (.string []),.nil],.lit (.string []),.lit (.int .i64 0),.lit (.int .i64 0)],[],places) :=
 ⟨[],by kernel_rfl⟩
set_option maxRecDepth 100000 in
theorem lsLifted (os:Os) (started:os.Started) (H:Type) (enc:TypeId×Value→H) (F:Stop.Interp) :
  ReturnsInHanded {} Tryz.checked os 4 .any ((Rows.OpenSpec.upto Rows.layerStaysKeepsCallersSpec).preRow enc prog Tryz.f4 Rows.layerStaysKeepsCallersUptoRow.domain false Rows.layerStaysKeepsCallersUptoRow.laid) (((Rows.OpenSpec.upto Rows.layerStaysKeepsCallersSpec).at F).post enc prog Tryz.f4 false true false false):=by
 obtain⟨places,hx⟩:=lsReads os enc
 refine returnsInHanded_of_row (C:=Tryz.checked) (s:=Rows.OpenSpec.upto Rows.layerStaysKeepsCallersSpec) lsOwn started (by kernel_rfl) func4
  (witness_row_at (enc:=enc) (C:=Tryz.checked) false (lsWorld os) lsArgs rfl (by kernel_rfl) (by kernel_rfl) (by kernel_rfl)
   (OpenSpec.preRow_of_cond 8 hx (by kernel_rfl) (fun k hk=>by cases hk;kernel_rfl) (by kernel_rfl) (lsLaid os))) ?_
 intro W base args ds gs before hval hW _ hcond _ hlaid hsh _
 exact lsContract H enc W base args ds gs before hval hW (hcond _ rfl) hsh (lsTab hlaid)
end Go.Proofs.YtanbabpnlgfcpaaGreatDoor
