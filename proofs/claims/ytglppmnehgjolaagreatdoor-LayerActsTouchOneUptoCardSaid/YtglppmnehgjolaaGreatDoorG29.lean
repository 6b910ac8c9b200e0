/-
The row of LayerActsTouchOne: its contract, its witness.
-/
import Derived.Test.YtglppmnehgjolaaGreatDoorG26
import Derived.Test.YtglppmnehgjolaaGreatDoorG28
import Derived.Test.YtglppmnehgjolaaGreatDoorRows
import Derived.WalkKit
import Derived.ProofKit
import Derived.OpenShut
import Derived.Deep.DeepHandedRow
import Derived.Deep.DeepLaidRun
import Derived.Lib.LaidTab
import Derived.LaidSub
import Derived.MakeChecks
import Derived.SizedLaws
set_option maxRecDepth 8000
namespace Go.Proofs.YtglppmnehgjolaaGreatDoor
open Go.Proofs.Tryz
open Go.RowKit Go.AM Go.SpanLaw Go.ChangeShapes Go.WideShapes Go.ChangeAt
theorem laOwn:ownKnob prog.godebug=none:=by kernel_rfl
theorem laLaidOut:laidOutB prog=true:=by kernel_rfl
def laTypes:List TypeId:=[26,22,23,24,90,103,34,30,28,27,128,126,158,31,97,32,58,38,67,101,9,3]
theorem vM:typesOk prog laTypes=true:=by kernel_rfl
theorem laParams_ok:∀t∈Tryz.f3.params.toList,prog.readableRec t=true∧t<prog.types.size:=by
 intro t ht
 have ht:t=26∨t=34∨t=9∨t=3:=by simpa[Tryz.f3] using ht
 rcases ht with rfl | rfl | rfl | rfl
 ·exact⟨by kernel_rfl,of_decide_eq_true (by kernel_rfl)⟩
 ·exact⟨by kernel_rfl,of_decide_eq_true (by kernel_rfl)⟩
 ·exact⟨by kernel_rfl,of_decide_eq_true (by kernel_rfl)⟩
 ·exact⟨by kernel_rfl,of_decide_eq_true (by kernel_rfl)⟩
theorem laTab {W:World} (hl:laidMetH prog Rows.layerActsTouchOneUptoRow.laid W):∀t∈vN,TabOk W (fun b=>b<W.heap.size) t:=by
 intro t ht
 obtain rfl:t=(5,.u64,Lib.pow10Tab):=by simpa[vN] using ht
 have h1:=hl.filter fun x=>x.1== "internal/strconv.uint64pow10"
 rw[MakeChecks.laidMetH_plain _ _ _ (by kernel_rfl)] at h1
 have h2:(Rows.layerActsTouchOneUptoRow.laid.filter fun x=>x.1== "internal/strconv.uint64pow10")=("internal/strconv.uint64pow10",Lib.tabData .u64 Lib.pow10Tab)::[]:=by kernel_rfl
 rw[h2] at h1
 have h3:Lib.TabIs prog W "internal/strconv.uint64pow10" .u64 Lib.pow10Tab:=Lib.tabIs_of_head (g:=5) (by kernel_rfl) (by kernel_rfl) (t:=319) (n:=20) (e:=141) un319 un141 (by kernel_rfl) (by kernel_rfl) h1
 have h4:prog.globalNamed "internal/strconv.uint64pow10"=some 5:=by kernel_rfl
 unfold Lib.TabIs World.var? at h3
 rw[h4,Option.bind_some] at h3
 have key:∃ty fz,W.heap[(5:Nat)]?=some (.cells (Lib.pow10Tab.map fun z=>Value.int .u64 z).toArray ty fz):=by
  split at h3
  ·injection h3 with h3
   subst h3
   exact⟨_,_,by assumption⟩
  ·cases h3
 obtain⟨ty,fz,hk⟩:=key
 exact⟨(Array.getElem?_eq_some_iff.1 hk).1,ty,fz,hk⟩
set_option maxRecDepth 100000 in
theorem laContract (H:Type) (enc:TypeId×Value→H) (W:World) (base:Nat) (args:Array Value) (ds gs:List (DataW H)) (before:List MemPlace)
  (hval:∀(j:Nat) t v,Tryz.f3.params[j]?=some t→args[j]?=some v→Value.okWide prog W .any base t v)
  (hW:DataW.Whole enc prog Tryz.f3.params.toList Rows.layerActsTouchOneSpec.vars false W args.toList ds gs before)
  (hk:Rows.uptoSmall H (ds++gs)=true) (hsh:W.ShapedOpen prog) (htab:∀t∈vN,TabOk W (fun b=>b<W.heap.size) t) :
  Calls prog 3 args W fun e W'=>∃v,e=.returned v∧Rows.layerActsTouchOneSpec.post enc prog Tryz.f3 false true false false W args v W':=by
 have hW':=hW
 obtain⟨p,q,hA0,hV,rfl,hfz,hnd⟩:=hW
 have hA:DataW.TrodAll enc prog W 0 (fun _=>true) true Tryz.f3.params.toList args.toList ds p:=hA0
 rw[params3] at hA hval
 obtain⟨v0,vs0,d0,ds0,p0,q0,hargs,rfl,rfl,h0,r0⟩:=trodAll_cons hA
 obtain⟨v1,vs1,d1,ds1,p1,q1,rfl,rfl,rfl,h1,r1⟩:=trodAll_cons r0
 obtain⟨v2,vs2,d2,ds2,p2,q2,rfl,rfl,rfl,h2,r2⟩:=trodAll_cons r1
 obtain⟨v3,vs3,d3,ds3,p3,q3,rfl,rfl,rfl,h3,r3⟩:=trodAll_cons r2
 obtain⟨v4,vs4,d4,ds4,p4,q4,rfl,rfl,rfl,h4,r4⟩:=trodAll_cons r3
 obtain⟨rfl,rfl,rfl⟩:=trodAll_nil r4
 obtain rfl:args=#[v0,v1,v2,v3,v4]:=by cases args;simp_all
 obtain⟨rfl,rfl⟩:=trodVars_none hV
 obtain⟨fs,hu,_⟩:=vL shp26
 have hv0:=hval 0 26 v0 rfl rfl
 obtain⟨n0,pvs0,s0,rp0⟩:=arg_struct (P:=prog) (r:=.any) (base:=base) (v:=v0) (w:=W) vM (t:=26) (by decide) hu hv0 h0
 obtain⟨fs1,hu1,_⟩:=vL shp34
 have hv1:=hval 1 34 v1 rfl rfl
 obtain⟨n1,pvs1,s1,rp1⟩:=arg_struct (P:=prog) (r:=.any) (base:=base) (v:=v1) (w:=W) vM (t:=34) (by decide) hu1 hv1 h1
 obtain⟨n2,pv2,s2,rp2⟩:=arg_cell vM (t:=9) (by decide) (fun⟨fs,hfs⟩=>by rw[un9] at hfs;cases hfs) (hval 2 9 v2 rfl rfl) h2
 obtain⟨n3,pv3,s3,rp3⟩:=arg_cell vM (t:=3) (by decide) (fun⟨fs,hfs⟩=>by rw[un3] at hfs;cases hfs) (hval 3 3 v3 rfl rfl) h3
 obtain⟨n4,pv4,s4,rp4⟩:=arg_cell vM (t:=3) (by decide) (fun⟨fs,hfs⟩=>by rw[un3] at hfs;cases hfs) (hval 4 3 v4 rfl rfl) h4
 obtain⟨x,rfl,hx⟩:=shows_bk s0
 obtain⟨y,rfl,hy⟩:=shows_xp s1
 obtain⟨s,rfl,e2,_⟩:=qh un9 s2
 obtain⟨n,rfl,e3,_⟩:=qW un3 s3
 obtain⟨m,rfl,e4,_⟩:=qW un3 s4
 simp only[List.cons.injEq,and_true] at e2 e3 e4
 subst e2;subst e3;subst e4
 have hb:Rows.uptoBulkAll [d0,d1,.lit (.string s),.lit (.int .i64 n),.lit (.int .i64 m)]≤1048576:=by
  have:=of_decide_eq_true hk
  simpa using this
 simp only[Rows.uptoBulkAll,Rows.uptoBulk] at hb
 have g0:x.cb+y.cb≤1048576:=by omega
 obtain⟨code,hkn⟩:=act_known
 refine (law_calls goodact hkn (act_eval x y s n m g0) (by simp[Tryz.f3]) (w:=W) (vs:=[v0,v1,v2,v3,v4]) hsh htab (.cons rp0 (.cons rp1 (.cons rp2 (.cons rp3 (.cons rp4 .nil)))))).mono fun e W' hh=>?_
 obtain⟨rfl,hbl⟩:=hh
 exact⟨_,rfl,law_post laLaidOut laParams_ok rfl hW' rfl (tb:=4) rfl un4 hbl⟩
def numsOf (k:IntKind):List (DataW Unit)→List Value
 | .lit (.int _ i)::l=>.int k i::numsOf k l
 | _=>[]
def tabOf (k:IntKind):DataW Unit→Array Value
 | .agg l=>(numsOf k l).toArray
 | _=>#[]
def layOf (vs:Array Value):Obj→Obj
 | .cells _ t frozen=>.cells vs t frozen
 | o=>o
noncomputable def laLow:Nat:=(World.holding prog default ⟨#[],#[],[]⟩).heap.size
def textR:ByteArray:=⟨#[118,97,108,117,101,32,111,117,116,32,111,102,32,114,97,110,103,101]⟩
def textS:ByteArray:=⟨#[105,110,118,97,108,105,100,32,115,121,110,116,97,120]⟩
def acceptCells:Array Value:=(([128,191,160,191,128,159,144,191,128,143,0,0,0,0,0,0,0,0,0,0,0,0,0,0,0,0,0,0,0,0,0,0]:List Nat).map fun (n:Nat)=>Value.int .u8 (n:Int)).toArray
def firstCells:Array Value:=(Go.Pinned.utf8FirstZ.map fun (n:Nat)=>Value.int .u8 (n:Int)).toArray
noncomputable def laErr (b:Nat):Array Value:=#[.iface 308 (.pointer (some ⟨b,0,none⟩))]
noncomputable def laHeap (h:Array Obj):Array Obj :=
 ((((((h.modify 1 (layOf firstCells)).modify 2 (layOf acceptCells)).modify 5 (layOf (tabOf .u64 Rows.laid_internal_strconv_uint64pow10))).modify 6 (layOf (tabOf .u8 Rows.laid_math_bits_deBruijn32tab))).modify 7 (layOf (tabOf .u8 Rows.laid_math_bits_deBruijn64tab))).modify 4 (layOf (laErr laLow))).modify 3 (layOf (laErr (laLow+1)))
noncomputable def laWorld (os:Os):World :=
 { World.holding prog os ⟨#[.cells #[.string textR] 310,.cells #[.string textS] 310],#[],[]⟩ with heap:=laHeap (World.holding prog os ⟨#[.cells #[.string textR] 310,.cells #[.string textS] 310],#[],[]⟩).heap }
def laArgs:Array Value:=#[.agg #[.slice none 0 0,.slice none 0 0,.slice none 0 0],.agg #[.string ⟨#[]⟩,.string ⟨#[]⟩,.string ⟨#[]⟩,.int .i64 0,.string ⟨#[]⟩,.int .i64 0,.slice none 0 0,.string ⟨#[]⟩,.string ⟨#[]⟩,.slice none 0 0,.string ⟨#[]⟩,.slice none 0 0,.slice none 0 0],.string ⟨#[]⟩,.int .i64 0,.int .i64 0]
theorem laLaid (os:Os):laidMet prog Rows.layerActsTouchOneUptoRow.laid ((laWorld os).forCall (fun _ _=>0) ⟨#[],laArgs,[]⟩).memory :=
 laidMet_of_run3 8 (by kernel_rfl) (by kernel_rfl) (by kernel_rfl)
theorem laReads (os:Os) {H:Type} (enc:TypeId×Value→H):∃places,DataW.whole enc prog ((laWorld os).forCall (fun _ _=>0) ⟨#[],laArgs,[]⟩).memory Tryz.f3.params.toList Rows.layerActsTouchOneSpec.vars false laArgs.toList 8=some ([.agg [.nil,.nil,.nil],.agg [.lit (.string []),.lit (.string []),.lit (.string []),.agg [.lit (.int .i64 0),.lit (.string []),.lit (.int .i64 0),.nil,.lit (.string []),.lit (.string []),.nil],.lit (.string []),.nil,.nil],.lit (.string []),.lit (.int .i64 0),.lit (.int .i64 0)],[],places) :=
 ⟨[],by kernel_rfl⟩
set_option maxRecDepth 100000 in
theorem laLifted (os:Os) (started:os.Started) (H:Type) (enc:TypeId×Value→H) (F:Stop.Interp) :
  ReturnsInHanded {} Tryz.checked os 3 .any ((Rows.OpenSpec.upto Rows.layerActsTouchOneSpec).preRow enc prog Tryz.f3 Rows.layerActsTouchOneUptoRow.domain false Rows.layerActsTouchOneUptoRow.laid) (((Rows.OpenSpec.upto Rows.layerActsTouchOneSpec).at F).post enc prog Tryz.f3 false true false false):=by
 obtain⟨places,hx⟩:=laReads os enc
 refine returnsInHanded_of_row (C:=Tryz.checked) (s:=Rows.OpenSpec.upto Rows.layerActsTouchOneSpec) laOwn started (by kernel_rfl) func3
  (witness_row_at (enc:=enc) (C:=Tryz.checked) false (laWorld os) laArgs rfl (by kernel_rfl) (by kernel_rfl) (by kernel_rfl)
   (OpenSpec.preRow_of_cond 8 hx (by kernel_rfl) (fun k hk=>by cases hk;kernel_rfl) (by kernel_rfl) (laLaid os))) ?_
 intro W base args ds gs before hval hW _ hcond _ hlaid hsh _
 exact laContract H enc W base args ds gs before hval hW (hcond _ rfl) hsh (laTab hlaid)
end Go.Proofs.YtglppmnehgjolaaGreatDoor
