/-
The row of RuleSegmentsMatchSpec: its tables, its witness.
-/
import Derived.Test.YtjcofiomfmebkaaGreatDoorG35
set_option maxRecDepth 8000
namespace Go.Proofs.YtjcofiomfmebkaaGreatDoor
open Go.Proofs.Tryz
open Go.RowKit Go.AM Go.SpanLaw Go.ChangeShapes Go.WideShapes Go.ChangeAt
theorem liOwn:ownKnob prog.godebug=none:=by kernel_rfl
theorem liTab {W:World} (hl:laidMetH prog Rows.ruleSegmentsMatchSpecUptoRow.laid W):∀t∈ZP,zkh W (fun b=>b<W.heap.size) t:=by
 intro t ht
 obtain rfl:t=(5,.u64,Lib.pow10Tab):=by simpa[ZP] using ht
 have h1:=hl.filter fun x=>x.1== "internal/strconv.uint64pow10"
 rw[MakeChecks.laidMetH_plain _ _ _ (by kernel_rfl)] at h1
 have h2:(Rows.ruleSegmentsMatchSpecUptoRow.laid.filter fun x=>x.1== "internal/strconv.uint64pow10")=("internal/strconv.uint64pow10",Lib.tabData .u64 Lib.pow10Tab)::[]:=by kernel_rfl
 rw[h2] at h1
 have h3:Lib.TabIs prog W "internal/strconv.uint64pow10" .u64 Lib.pow10Tab:=Lib.tabIs_of_head (g:=5) (by kernel_rfl) (by kernel_rfl) (t:=287) (n:=20) (e:=133) zva zu1 (by kernel_rfl) (by kernel_rfl) h1
 have h4:prog.globalNamed "internal/strconv.uint64pow10"=some 5:=by kernel_rfl
 unfold Lib.TabIs World.var? at h3
 rw[h4,Option.bind_some] at h3
 have key:∃ty fz,W.heap[(5:Nat)]?=some (.cells (Lib.pow10Tab.map fun z=>Value.int .u64 z).toArray ty fz):=by
  split at h3
  ·injection h3 with h3
   subst h3
   exact⟨_,_,by assumption⟩
  ·cases h3
 obtain⟨ty,fz,hk⟩:=key
 exact⟨(Array.getElem?_eq_some_iff.1 hk).1,ty,fz,hk⟩
def zqw (k:IntKind):List (DataW Unit)→List Value
 | .lit (.int _ i)::l=>.int k i::zqw k l
 | _=>[]
def zsC (k:IntKind):DataW Unit→Array Value
 | .agg l=>(zqw k l).toArray
 | _=>#[]
def zgU (vs:Array Value):Obj→Obj
 | .cells _ t frozen=>.cells vs t frozen
 | o=>o
noncomputable def zuw:Nat:=(World.holding prog default ⟨#[],#[],[]⟩).heap.size
def zux:ByteArray:=⟨#[118,97,108,117,101,32,111,117,116,32,111,102,32,114,97,110,103,101]⟩
def zuy:ByteArray:=⟨#[105,110,118,97,108,105,100,32,115,121,110,116,97,120]⟩
def zgV:Array Value:=(([128,191,160,191,128,159,144,191,128,143,0,0,0,0,0,0,0,0,0,0,0,0,0,0,0,0,0,0,0,0,0,0]:List Nat).map fun (n:Nat)=>Value.int .u8 (n:Int)).toArray
def firstCells:Array Value:=(Go.Pinned.utf8FirstZ.map fun (n:Nat)=>Value.int .u8 (n:Int)).toArray
noncomputable def zuz (b:Nat):Array Value:=#[.iface 276 (.pointer (some ⟨b,0,none⟩))]
noncomputable def zuA (h:Array Obj):Array Obj :=
 ((((((h.modify 1 (zgU firstCells)).modify 2 (zgU zgV)).modify 5 (zgU (zsC .u64 Rows.laid_internal_strconv_uint64pow10))).modify 6 (zgU (zsC .u8 Rows.laid_math_bits_deBruijn32tab))).modify 7 (zgU (zsC .u8 Rows.laid_math_bits_deBruijn64tab))).modify 4 (zgU (zuz zuw))).modify 3 (zgU (zuz (zuw+1)))
noncomputable def zsD (os:Os):World :=
 { World.holding prog os ⟨#[.cells #[.string zux] 278,.cells #[.string zuy] 278],#[],[]⟩ with heap:=zuA (World.holding prog os ⟨#[.cells #[.string zux] 278,.cells #[.string zuy] 278],#[],[]⟩).heap }
def zuB:Array Value:=#[.slice none 0 0,.string ⟨#[]⟩,.agg #[.string ⟨#[]⟩,.slice none 0 0]]
theorem liLaid (os:Os):laidMet prog Rows.ruleSegmentsMatchSpecUptoRow.laid ((zsD os).forCall (fun _ _=>0) ⟨#[],zuB,[]⟩).memory :=
 laidMet_of_run3 8 (by kernel_rfl) (by kernel_rfl) (by kernel_rfl)
theorem liReads (os:Os) {H:Type} (enc:TypeId×Value→H):∃places,DataW.whole enc prog ((zsD os).forCall (fun _ _=>0) ⟨#[],zuB,[]⟩).memory Tryz.f3.params.toList Rows.ruleSegmentsMatchSpecSpec.vars false zuB.toList 8=some ([.nil,.lit (.string []),.agg [.lit (.string []),.nil]],[],places) :=
 ⟨[],by kernel_rfl⟩
set_option maxRecDepth 100000 in
theorem liLifted (os:Os) (started:os.Started) (H:Type) (enc:TypeId×Value→H) (F:Stop.Interp) :
  ReturnsInHanded {} Tryz.checked os 3 .any ((Rows.OpenSpec.upto Rows.ruleSegmentsMatchSpecSpec).preRow enc prog Tryz.f3 Rows.ruleSegmentsMatchSpecUptoRow.domain false Rows.ruleSegmentsMatchSpecUptoRow.laid) (((Rows.OpenSpec.upto Rows.ruleSegmentsMatchSpecSpec).at F).post enc prog Tryz.f3 false true false false):=by
 obtain⟨places,hx⟩:=liReads os enc
 refine returnsInHanded_of_row (C:=Tryz.checked) (s:=Rows.OpenSpec.upto Rows.ruleSegmentsMatchSpecSpec) liOwn started (by kernel_rfl) func3
  (witness_row_at (enc:=enc) (C:=Tryz.checked) false (zsD os) zuB rfl (by kernel_rfl) (by kernel_rfl) (by kernel_rfl)
   (OpenSpec.preRow_of_cond 8 hx (by kernel_rfl) (fun k hk=>by cases hk;kernel_rfl) (by kernel_rfl) (liLaid os))) ?_
 intro W base args ds gs before hval hW _ hcond _ hlaid hsh _
 exact liContract H enc W base args ds gs before hval hW (hcond _ rfl) hsh (liTab hlaid)
end Go.Proofs.YtjcofiomfmebkaaGreatDoor
