/-
The row of LayerFreeMatchesSpec: its contract, its witness.
-/
import Derived.Test.YtdkfdoeijcfbhaaGreatDoorG33
import Derived.Test.YtdkfdoeijcfbhaaGreatDoorG35
import Derived.Test.YtdkfdoeijcfbhaaGreatDoorRows
import Derived.WalkKit
import Derived.ProofKit
import Derived.OpenShut
import Derived.Deep.DeepHandedRow
import Derived.Deep.DeepLaidRun
import Derived.Lib.LaidTab
import Derived.SizedLaws
set_option maxRecDepth 8000
namespace Go.Proofs.YtdkfdoeijcfbhaaGreatDoor
open Go.Proofs.Tryz
open Go.RowKit Go.AM Go.SpanLaw Go.ChangeShapes Go.WideShapes Go.ChangeAt
theorem lfOwn:ownKnob prog.godebug=none:=by kernel_rfl
theorem lfLaidOut:laidOutB prog=true:=by kernel_rfl
def lfTypes:List TypeId:=[35,31,32,33,74,203,66,25,23,22,117,115,163,63,265,64,100,36,41,85,9,3]
theorem Wf:Vb prog lfTypes=true:=by kernel_rfl
theorem lfParams_ok:∀t∈Tryz.f4.params.toList,prog.readableRec t=true∧t<prog.types.size:=by
 intro t ht
 have ht:t=35∨t=9∨t=3:=by simpa[Tryz.f4] using ht
 rcases ht with rfl | rfl | rfl
 ·exact⟨by kernel_rfl,of_decide_eq_true (by kernel_rfl)⟩
 ·exact⟨by kernel_rfl,of_decide_eq_true (by kernel_rfl)⟩
 ·exact⟨by kernel_rfl,of_decide_eq_true (by kernel_rfl)⟩
set_option maxRecDepth 100000 in
theorem lfContract (H:Type) (enc:TypeId×Value→H) (W:World) (base:Nat) (args:Array Value) (ds gs:List (DataW H)) (before:List MemPlace)
  (hval:∀(j:Nat) t v,Tryz.f4.params[j]?=some t→args[j]?=some v→Value.okWide prog W .any base t v)
  (hW:DataW.Whole enc prog Tryz.f4.params.toList Rows.layerFreeMatchesSpecSpec.vars false W args.toList ds gs before)
  (hk:Rows.uptoSmall H (ds++gs)=true) (hsh:W.ShapedOpen prog) :
  Calls prog 4 args W fun e W'=>∃v,e=.returned v∧Rows.layerFreeMatchesSpecSpec.post enc prog Tryz.f4 false true false false W args v W':=by
 have hW':=hW
 obtain⟨p,q,hA0,hV,rfl,hfz,hnd⟩:=hW
 have hA:DataW.TrodAll enc prog W 0 (fun _=>true) true Tryz.f4.params.toList args.toList ds p:=hA0
 rw[params4] at hA hval
 obtain⟨v0,vs0,d0,ds0,p0,q0,hargs,rfl,rfl,h0,r0⟩:=trodAll_cons hA
 obtain⟨v1,vs1,d1,ds1,p1,q1,rfl,rfl,rfl,h1,r1⟩:=trodAll_cons r0
 obtain⟨v2,vs2,d2,ds2,p2,q2,rfl,rfl,rfl,h2,r2⟩:=trodAll_cons r1
 obtain⟨v3,vs3,d3,ds3,p3,q3,rfl,rfl,rfl,h3,r3⟩:=trodAll_cons r2
 obtain⟨rfl,rfl,rfl⟩:=trodAll_nil r3
 obtain rfl:args=#[v0,v1,v2,v3]:=by cases args;simp_all
 obtain⟨rfl,rfl⟩:=trodVars_none hV
 obtain⟨fs,hu,_⟩:=Yh zeG
 have hv0:=hval 0 35 v0 rfl rfl
 obtain⟨n0,pvs0,s0,rp0⟩:=arg_struct (P:=prog) (r:=.any) (base:=base) (v:=v0) (w:=W) Wf (t:=35) (by decide) hu hv0 h0
 obtain⟨n1,pv1,s1,rp1⟩:=VX Wf (t:=9) (by decide) (fun⟨fs,hfs⟩=>by rw[un9] at hfs;cases hfs) (hval 1 9 v1 rfl rfl) h1
 obtain⟨n2,pv2,s2,rp2⟩:=VX Wf (t:=9) (by decide) (fun⟨fs,hfs⟩=>by rw[un9] at hfs;cases hfs) (hval 2 9 v2 rfl rfl) h2
 obtain⟨n3,pv3,s3,rp3⟩:=VX Wf (t:=3) (by decide) (fun⟨fs,hfs⟩=>by rw[un3] at hfs;cases hfs) (hval 3 3 v3 rfl rfl) h3
 obtain⟨x,rfl,hx⟩:=shows_bk s0
 obtain⟨s,rfl,e1,_⟩:=qg un9 s1
 obtain⟨t,rfl,e2,_⟩:=qg un9 s2
 obtain⟨n,rfl,e3,_⟩:=wD un3 s3
 simp only[List.cons.injEq,and_true] at e1 e2 e3
 subst e1;subst e2;subst e3
 have hb:Rows.uptoBulkAll [d0,.lit (.string s),.lit (.string t),.lit (.int .i64 n)]≤1048576:=by
  have:=of_decide_eq_true hk
  simpa using this
 simp only[Rows.uptoBulkAll,Rows.uptoBulk] at hb
 have g0:x.cb≤lim:=by unfold lim;omega
 obtain⟨code,hkn⟩:=lf_known
 refine (law_calls goodlf hkn (lf_eval x s t n g0) (by simp[Tryz.f4]) (w:=W) (vs:=[v0,v1,v2,v3]) hsh (.cons rp0 (.cons rp1 (.cons rp2 (.cons rp3 .nil))))).mono fun e W' hh=>?_
 obtain⟨rfl,hbl⟩:=hh
 exact⟨_,rfl,law_post lfLaidOut lfParams_ok rfl hW' rfl (tb:=4) rfl un4 hbl⟩
def zec (k:IntKind):List (DataW Unit)→List Value
 | .lit (.int _ i)::l=>.int k i::zec k l
 | _=>[]
def zeq (k:IntKind):DataW Unit→Array Value
 | .agg l=>(zec k l).toArray
 | _=>#[]
def zaR (vs:Array Value):Obj→Obj
 | .cells _ t frozen=>.cells vs t frozen
 | o=>o
noncomputable def zeK:Nat:=(World.holding prog default ⟨#[],#[],[]⟩).heap.size
def zeL:ByteArray:=⟨#[118,97,108,117,101,32,111,117,116,32,111,102,32,114,97,110,103,101]⟩
def zeM:ByteArray:=⟨#[105,110,118,97,108,105,100,32,115,121,110,116,97,120]⟩
def acceptCells:Array Value:=(([128,191,160,191,128,159,144,191,128,143,0,0,0,0,0,0,0,0,0,0,0,0,0,0,0,0,0,0,0,0,0,0]:List Nat).map fun (n:Nat)=>Value.int .u8 (n:Int)).toArray
def firstCells:Array Value:=(Go.Pinned.utf8FirstZ.map fun (n:Nat)=>Value.int .u8 (n:Int)).toArray
noncomputable def zeN (b:Nat):Array Value:=#[.iface 364 (.pointer (some ⟨b,0,none⟩))]
noncomputable def lfHeap (h:Array Obj):Array Obj :=
 ((((((h.modify 1 (zaR firstCells)).modify 2 (zaR acceptCells)).modify 3 (zaR (zeq .u64 Rows.laid_internal_strconv_uint64pow10))).modify 6 (zaR (zeq .u8 Rows.laid_math_bits_deBruijn32tab))).modify 7 (zaR (zeq .u8 Rows.laid_math_bits_deBruijn64tab))).modify 5 (zaR (zeN zeK))).modify 4 (zaR (zeN (zeK+1)))
noncomputable def zaS (os:Os):World :=
 { World.holding prog os ⟨#[.cells #[.string zeL] 366,.cells #[.string zeM] 366],#[],[]⟩ with heap:=lfHeap (World.holding prog os ⟨#[.cells #[.string zeL] 366,.cells #[.string zeM] 366],#[],[]⟩).heap }
def lfArgs:Array Value:=#[.agg #[.slice none 0 0,.slice none 0 0,.slice none 0 0],.string ⟨#[]⟩,.string ⟨#[]⟩,.int .i64 0]
theorem lfLaid (os:Os):laidMet prog Rows.layerFreeMatchesSpecUptoRow.laid ((zaS os).forCall (fun _ _=>0) ⟨#[],lfArgs,[]⟩).memory :=
 laidMet_of_run3 8 (by kernel_rfl) (by kernel_rfl) (by kernel_rfl)
theorem lfReads (os:Os) {H:Type} (enc:TypeId×Value→H):∃places,DataW.whole enc prog ((zaS os).forCall (fun _ _=>0) ⟨#[],lfArgs,[]⟩).memory Tryz.f4.params.toList Rows.layerFreeMatchesSpecSpec.vars false lfArgs.toList 8=some ([.agg [.nil,.nil,.nil],.lit (.string []),.lit (.string []),.lit (.int .i64 0)],[],places) :=
 ⟨[],by kernel_rfl⟩
set_option maxRecDepth 100000 in
theorem lfLifted (os:Os) (started:os.Started) (H:Type) (enc:TypeId×Value→H) (F:Stop.Interp) :
  ReturnsInHanded {} Tryz.checked os 4 .any ((Rows.OpenSpec.upto Rows.layerFreeMatchesSpecSpec).preRow enc prog Tryz.f4 Rows.layerFreeMatchesSpecUptoRow.domain false Rows.layerFreeMatchesSpecUptoRow.laid) (((Rows.OpenSpec.upto Rows.layerFreeMatchesSpecSpec).at F).post enc prog Tryz.f4 false true false false):=by
 obtain⟨places,hx⟩:=lfReads os enc
 refine returnsInHanded_of_row (C:=Tryz.checked) (s:=Rows.OpenSpec.upto Rows.layerFreeMatchesSpecSpec) lfOwn started (by kernel_rfl) func4
  (witness_row_at (enc:=enc) (C:=Tryz.checked) false (zaS os) lfArgs rfl (by kernel_rfl) (by kernel_rfl) (by kernel_rfl)
   (OpenSpec.preRow_of_cond 8 hx (by kernel_rfl) (fun k hk=>by cases hk;kernel_rfl) (by kernel_rfl) (lfLaid os))) ?_
 intro W base args ds gs before hval hW _ hcond _ _ hsh _
 exact lfContract H enc W base args ds gs before hval hW (hcond _ rfl) hsh
end Go.Proofs.YtdkfdoeijcfbhaaGreatDoor
