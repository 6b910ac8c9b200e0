/-
What a row reads as values, with its bulk.
What a row reads as conditions, with its bulk.
The row of RuleCondsMatchSpec: its contract, its witness.
The closed facts of the second row of RuleCondsMatchSpec, one by one.
The closed facts of the second row of RuleCondsMatchSpec, joined.
-/
import Derived.Test.YtpeaooooimfihaaGreatDoorG29
import Derived.Test.YtpeaooooimfihaaGreatDoorRows
import Derived.Test.YtpeaooooimfihaaGreatDoorG14
import Derived.Test.YtpeaooooimfihaaGreatDoorG15
import Derived.Test.YtpeaooooimfihaaGreatDoorG28
import Derived.WalkKit
import Derived.ProofKit
import Derived.OpenShut
import Derived.Deep.DeepHandedRow
import Derived.Deep.DeepLaidRun
import Derived.Lib.LaidTab
import Derived.LaidSub
import Derived.MakeChecks
import Derived.SizedLaws
import Derived.JoinedCond
set_option maxRecDepth 8000
namespace Go.Proofs.YtpeaooooimfihaaGreatDoor
open Go.Proofs.Tryz
open Go.RowKit Go.AM
theorem len5 {α:Type}:∀{l:List α},l.length=5→∃a b c d e,l=[a,b,c,d,e]
 | [a,b,c,d,e],_=>⟨a,b,c,d,e,rfl⟩
theorem len6 {α:Type}:∀{l:List α},l.length=6→∃a b c d e f,l=[a,b,c,d,e,f]
 | [a,b,c,d,e,f],_=>⟨a,b,c,d,e,f,rfl⟩
theorem bulkAll_sum {H:Type}:∀ds:List (DataW H),Rows.uptoBulkAll ds=(ds.map Rows.uptoBulk).sum
 | []=>rfl
 | d::ds=>by simp[Rows.uptoBulkAll,bulkAll_sum ds]
theorem vX {H:Type} {d:DataW H} {ds:List (DataW H)} (h:(d=.nil∧ds=[])∨∃sp,d=.slice ds sp):(ds.map Rows.uptoBulk).sum+1≤Rows.uptoBulk d:=by
 rcases h with⟨rfl,rfl⟩ | ⟨sp,rfl⟩
 ·simp[Rows.uptoBulk]
 ·simp only[Rows.uptoBulk,bulkAll_sum];omega
theorem vbs_sum:∀l:List Val,vbs l=(l.map Val.vb).sum
 | []=>rfl
 | v::l=>by simp[vbs,vbs_sum l]
theorem fbs_sum:∀l:List (List UInt8×Val),fbs l=(l.map fun a=>a.1.length+a.2.vb).sum
 | []=>rfl
 | (a,v)::l=>by simp[fbs,fbs_sum l]
theorem shows_pair {H:Type} {t ts:TypeId} (hs:shapeT prog t=some [(ts,0,1),(63,1,5)]) (hc:prog.cellsOf t=6) (hu:prog.underlying ts=some .string) {n:Nat}
  (ih:∀m,m<n→∀(d:DataW H) pvs,yg prog m 63 d pvs→∃v:Val,pvs=v.enc∧v.vb≤Rows.uptoBulk d) {d:DataW H} {pvs:List PV} (h:yg prog n t d pvs):∃a:List UInt8×Val,pvs=encF a∧a.1.length+a.2.vb≤Rows.uptoBulk d:=by
 obtain⟨m,ds,rfl,rfl,hl,hf⟩:=vC hs h
 rw[hc] at hl
 obtain⟨y0,ds,rfl,f0,hf⟩:=qc hf
 obtain⟨y1,ds,rfl,f1,hf⟩:=qc hf
 obtain rfl:=xz hf
 ·skip
  obtain⟨s,rfl,e0,_⟩:=yB hu f0
  obtain⟨v,e1,hv⟩:=ih m (by omega) _ _ f1
  obtain⟨p0,p1,p2,p3,p4,p5,rfl⟩:=len6 hl
  ·skip
   simp only[List.drop_zero,List.take_succ_cons,List.take_zero,List.cons.injEq,and_true,List.drop_succ_cons] at e0 e1
   subst e0
   refine⟨(s,v),by rw[encF,←e1],?_⟩
   simp only[Rows.uptoBulk,Rows.uptoBulkAll]
   omega
theorem shows_val {H:Type}:∀(n:Nat) (d:DataW H) pvs,yg prog n 63 d pvs→∃v:Val,pvs=v.enc∧v.vb≤Rows.uptoBulk d:=by
 intro n
 induction n using Nat.strongRecOn with
 | ind n ih =>
   intro d pvs h
   obtain⟨m,ds,rfl,rfl,hl,hf⟩:=vC shp63 h
   rw[cel63] at hl
   obtain⟨y0,ds,rfl,f0,hf⟩:=qc hf
   obtain⟨y1,ds,rfl,f1,hf⟩:=qc hf
   obtain⟨y2,ds,rfl,f2,hf⟩:=qc hf
   obtain⟨y3,ds,rfl,f3,hf⟩:=qc hf
   obtain⟨y4,ds,rfl,f4,hf⟩:=qc hf
   obtain rfl:=xz hf
   ·skip
    obtain⟨k,rfl,e0,_⟩:=shows_int (k:=.i64) (by kernel_rfl) f0
    obtain⟨i,rfl,e1,_⟩:=shows_int (k:=.i64) (by kernel_rfl) f1
    obtain⟨s,rfl,e2,_⟩:=yB (by kernel_rfl) f2
    obtain⟨m3,es3,ds3,hm3,b3,e3,_,z3⟩:=kI (e:=63) (by kernel_rfl) f3
    obtain⟨m4,es4,ds4,hm4,b4,e4,_,z4⟩:=kI (e:=77) (by kernel_rfl) f4
    obtain rfl:m4=m3:=by omega
    obtain⟨is,rfl,w3⟩:=kj (enc:=Val.enc) (w:=Val.vb) (b:=Rows.uptoBulk) (fun c y hcy=>ih m4 (by omega) y c hcy.2) z3
    obtain⟨fs,rfl,w4⟩:=kj (enc:=encF) (w:=fun a=>a.1.length+a.2.vb) (b:=Rows.uptoBulk) (fun c y hcy=>shows_pair shp77 cel77 (by kernel_rfl) (fun m' hm'=>ih m' (by omega)) hcy.2) z4
    have g3:=vX b3
    have g4:=vX b4
    obtain⟨p0,p1,p2,p3,p4,rfl⟩:=len5 hl
    ·skip
     simp only[List.drop_zero,List.take_succ_cons,List.take_zero,List.cons.injEq,and_true,List.drop_succ_cons] at e0 e1 e2 e3 e4
     subst e0;subst e1;subst e2;subst e3;subst e4
     refine⟨.mk k i s is fs,by rw[jh,cel63,cel77];rfl,?_⟩
     rw[kM]
     show 1+s.length+vbs is+fbs fs≤_
     rw[vbs_sum,fbs_sum]
     simp only[Rows.uptoBulk,Rows.uptoBulkAll]
     omega
theorem len7 {α:Type}:∀{l:List α},l.length=7→∃a b c d e f g,l=[a,b,c,d,e,f,g]
 | [a,b,c,d,e,f,g],_=>⟨a,b,c,d,e,f,g,rfl⟩
theorem cbs_sum:∀l:List Cnd,cbs l=(l.map Cnd.cb).sum
 | []=>rfl
 | c::l=>by simp[cbs,cbs_sum l]
theorem shows_cnd {H:Type}:∀(n:Nat) (d:DataW H) pvs,yg prog n 25 d pvs→∃c:Cnd,pvs=c.enc∧c.cb≤Rows.uptoBulk d:=by
 intro n
 induction n using Nat.strongRecOn with
 | ind n ih =>
   intro d pvs h
   obtain⟨m,ds,rfl,rfl,hl,hf⟩:=vC shp25 h
   rw[cel25] at hl
   obtain⟨y0,ds,rfl,f0,hf⟩:=qc hf
   obtain⟨y1,ds,rfl,f1,hf⟩:=qc hf
   obtain⟨y2,ds,rfl,f2,hf⟩:=qc hf
   obtain⟨y3,ds,rfl,f3,hf⟩:=qc hf
   obtain⟨y4,ds,rfl,f4,hf⟩:=qc hf
   obtain⟨y5,ds,rfl,f5,hf⟩:=qc hf
   obtain⟨y6,ds,rfl,f6,hf⟩:=qc hf
   obtain rfl:=xz hf
   ·skip
    obtain⟨k,rfl,e0,_⟩:=shows_int (k:=.i64) (by kernel_rfl) f0
    obtain⟨a,rfl,e1,_⟩:=yB (by kernel_rfl) f1
    obtain⟨o,rfl,e2,_⟩:=shows_int (k:=.i64) (by kernel_rfl) f2
    obtain⟨m3,es3,ds3,hm3,b3,e3,_,z3⟩:=kI (e:=63) (by kernel_rfl) f3
    obtain⟨p,rfl,e4,_⟩:=yB (by kernel_rfl) f4
    obtain⟨nm,rfl,e5,_⟩:=yB (by kernel_rfl) f5
    obtain⟨m6,es6,ds6,hm6,b6,e6,_,z6⟩:=kI (e:=25) (by kernel_rfl) f6
    obtain⟨vs,rfl,w3⟩:=kj (enc:=Val.enc) (w:=Val.vb) (b:=Rows.uptoBulk) (fun c y hcy=>shows_val m3 y c hcy.2) z3
    obtain⟨cs,rfl,w6⟩:=kj (enc:=Cnd.enc) (w:=Cnd.cb) (b:=Rows.uptoBulk) (fun c y hcy=>ih m6 (by omega) y c hcy.2) z6
    have g3:=vX b3
    have g6:=vX b6
    obtain⟨p0,p1,p2,p3,p4,p5,p6,rfl⟩:=len7 hl
    ·skip
     simp only[List.drop_zero,List.take_succ_cons,List.take_zero,List.cons.injEq,and_true,List.drop_succ_cons] at e0 e1 e2 e3 e4 e5 e6
     subst e0;subst e1;subst e2;subst e3;subst e4;subst e5;subst e6
     refine⟨.mk k a o vs p nm cs,by rw[ya,cel63,cel25];rfl,?_⟩
     rw[cb_eq]
     show 1+a.length+vbs vs+p.length+nm.length+cbs cs≤_
     rw[vbs_sum,cbs_sum]
     simp only[Rows.uptoBulk,Rows.uptoBulkAll]
     omega
end Go.Proofs.YtpeaooooimfihaaGreatDoor
namespace Go.Proofs.YtpeaooooimfihaaGreatDoor
open Go.Proofs.Tryz
open Go.RowKit Go.AM Go.ChangeShapes Go.WideShapes Go.ChangeAt
theorem cpOwn:ownKnob prog.godebug=none:=by kernel_rfl
theorem cpLaidOut:laidOutB prog=true:=by kernel_rfl
def cpTypes:List TypeId:=[25,23,22,63,61,77,9,3]
theorem cpTypesOk:typesOk prog cpTypes=true:=by kernel_rfl
theorem cpParams_ok:∀t∈Tryz.f3.params.toList,prog.readableRec t=true∧t<prog.types.size:=by
 intro t ht
 have ht:t=25:=by simpa[Tryz.f3] using ht
 subst ht
 exact⟨by kernel_rfl,of_decide_eq_true (by kernel_rfl)⟩
theorem cpTab {W:World} (hl:laidMetH prog Rows.ruleCondsMatchSpecUptoRow.laid W):∀t∈km,TabOk W (fun b=>b<W.heap.size) t:=by
 intro t ht
 obtain rfl:t=(3,.u64,Lib.pow10Tab):=by simpa[km] using ht
 have h1:=hl.filter fun x=>x.1== "internal/strconv.uint64pow10"
 rw[MakeChecks.laidMetH_plain _ _ _ (by kernel_rfl)] at h1
 have h2:(Rows.ruleCondsMatchSpecUptoRow.laid.filter fun x=>x.1== "internal/strconv.uint64pow10")=("internal/strconv.uint64pow10",Lib.tabData .u64 Lib.pow10Tab)::[]:=by kernel_rfl
 rw[h2] at h1
 have h3:Lib.TabIs prog W "internal/strconv.uint64pow10" .u64 Lib.pow10Tab:=Lib.tabIs_of_head (g:=3) (by kernel_rfl) (by kernel_rfl) (t:=230) (n:=20) (e:=199) un230 un199 (by kernel_rfl) (by kernel_rfl) h1
 have h4:prog.globalNamed "internal/strconv.uint64pow10"=some 3:=by kernel_rfl
 unfold Lib.TabIs World.var? at h3
 rw[h4,Option.bind_some] at h3
 have key:∃ty fz,W.heap[(3:Nat)]?=some (.cells (Lib.pow10Tab.map fun z=>Value.int .u64 z).toArray ty fz):=by
  split at h3
  ·injection h3 with h3
   subst h3
   exact⟨_,_,by assumption⟩
  ·cases h3
 obtain⟨ty,fz,hk⟩:=key
 exact⟨(Array.getElem?_eq_some_iff.1 hk).1,ty,fz,hk⟩
set_option maxRecDepth 100000 in
theorem cpContract (H:Type) (enc:TypeId×Value→H) (W:World) (base:Nat) (args:Array Value) (ds gs:List (DataW H)) (before:List MemPlace)
  (hval:∀(j:Nat) t v,Tryz.f3.params[j]?=some t→args[j]?=some v→Value.okWide prog W .any base t v)
  (hW:DataW.Whole enc prog Tryz.f3.params.toList Rows.ruleCondsMatchSpecSpec.vars false W args.toList ds gs before)
  (hk:Rows.uptoSmall H (ds++gs)=true) (hsh:W.ShapedOpen prog) (htab:∀t∈km,TabOk W (fun b=>b<W.heap.size) t) :
  Calls prog 3 args W fun e W'=>∃v,e=.returned v∧Rows.ruleCondsMatchSpecSpec.post enc prog Tryz.f3 false true false false W args v W':=by
 have hW':=hW
 obtain⟨p,q,hA0,hV,rfl,hfz,hnd⟩:=hW
 have hA:DataW.TrodAll enc prog W 0 (fun _=>true) true Tryz.f3.params.toList args.toList ds p:=hA0
 rw[params3] at hA hval
 obtain⟨v0,vs0,d0,ds0,p0,q0,hargs,rfl,rfl,h0,r0⟩:=trodAll_cons hA
 obtain⟨rfl,rfl,rfl⟩:=trodAll_nil r0
 obtain rfl:args=#[v0]:=by cases args;simp_all
 obtain⟨rfl,rfl⟩:=trodVars_none hV
 obtain⟨fs,hu,_⟩:=shape_struct shp25
 have hv0:=hval 0 25 v0 rfl rfl
 obtain⟨n0,pvs0,s0,rp0⟩:=arg_struct (P:=prog) (r:=.any) (base:=base) (v:=v0) (w:=W) cpTypesOk (t:=25) (by decide) hu hv0 h0
 obtain⟨x,rfl,hx⟩:=shows_cnd _ _ _ s0
 have hb:Rows.uptoBulkAll [d0]≤1048576:=by
  have:=of_decide_eq_true hk
  simpa using this
 simp only[Rows.uptoBulkAll] at hb
 have g0:x.cb≤lim:=by unfold lim;omega
 obtain⟨code,hkn⟩:=cp_known
 refine (law_calls goodcpL hkn (cp_eval x g0) (by simp[Tryz.f3]) (w:=W) (vs:=[v0]) hsh htab (.cons rp0 .nil)).mono fun e W' hh=>?_
 obtain⟨rfl,hbl⟩:=hh
 exact⟨_,rfl,law_post cpLaidOut cpParams_ok rfl hW' rfl (tb:=4) rfl un4 hbl⟩
def numsOf (k:IntKind):List (DataW Unit)→List Value
 | .lit (.int _ i)::l=>.int k i::numsOf k l
 | _=>[]
def tabOf (k:IntKind):DataW Unit→Array Value
 | .agg l=>(numsOf k l).toArray
 | _=>#[]
def layOf (vs:Array Value):Obj→Obj
 | .cells _ t frozen=>.cells vs t frozen
 | o=>o
noncomputable def cpLow:Nat:=(World.holding prog default ⟨#[],#[],[]⟩).heap.size
def textR:ByteArray:=⟨#[118,97,108,117,101,32,111,117,116,32,111,102,32,114,97,110,103,101]⟩
def textS:ByteArray:=⟨#[105,110,118,97,108,105,100,32,115,121,110,116,97,120]⟩
def acceptCells:Array Value:=(([128,191,160,191,128,159,144,191,128,143,0,0,0,0,0,0,0,0,0,0,0,0,0,0,0,0,0,0,0,0,0,0]:List Nat).map fun (n:Nat)=>Value.int .u8 (n:Int)).toArray
def firstCells:Array Value:=(Go.Pinned.utf8FirstZ.map fun (n:Nat)=>Value.int .u8 (n:Int)).toArray
noncomputable def cpErr (b:Nat):Array Value:=#[.iface 250 (.pointer (some ⟨b,0,none⟩))]
noncomputable def cpHeap (h:Array Obj):Array Obj :=
 ((((((h.modify 1 (layOf firstCells)).modify 2 (layOf acceptCells)).modify 3 (layOf (tabOf .u64 Rows.laid_internal_strconv_uint64pow10))).modify 6 (layOf (tabOf .u8 Rows.laid_math_bits_deBruijn32tab))).modify 7 (layOf (tabOf .u8 Rows.laid_math_bits_deBruijn64tab))).modify 5 (layOf (cpErr cpLow))).modify 4 (layOf (cpErr (cpLow+1)))
noncomputable def cpWorld (os:Os):World :=
 { World.holding prog os ⟨#[.cells #[.string textR] 252,.cells #[.string textS] 252],#[],[]⟩ with heap:=cpHeap (World.holding prog os ⟨#[.cells #[.string textR] 252,.cells #[.string textS] 252],#[],[]⟩).heap }
def cpArgs:Array Value:=#[.agg #[.int .i64 0,.string ⟨#[]⟩,.int .i64 0,.slice none 0 0,.string ⟨#[]⟩,.string ⟨#[]⟩,.slice none 0 0]]
theorem cpLaid (os:Os):laidMet prog Rows.ruleCondsMatchSpecUptoRow.laid ((cpWorld os).forCall (fun _ _=>0) ⟨#[],cpArgs,[]⟩).memory :=
 laidMet_of_run3 8 (by kernel_rfl) (by kernel_rfl) (by kernel_rfl)
theorem cpReads (os:Os) {H:Type} (enc:TypeId×Value→H):∃places,DataW.whole enc prog ((cpWorld os).forCall (fun _ _=>0) ⟨#[],cpArgs,[]⟩).memory Tryz.f3.params.toList Rows.ruleCondsMatchSpecSpec.vars false cpArgs.toList 8=some ([.agg [.lit (.int .i64 0),.lit (.string []),.lit (.int .i64 0),.nil,.lit (.string []),.lit (.string []),.nil]],[],places) :=
 ⟨[],by kernel_rfl⟩
set_option maxRecDepth 100000 in
theorem cpLifted (os:Os) (started:os.Started) (H:Type) (enc:TypeId×Value→H) (F:Stop.Interp) :
  ReturnsInHanded {} Tryz.checked os 3 .any ((Rows.OpenSpec.upto Rows.ruleCondsMatchSpecSpec).preRow enc prog Tryz.f3 Rows.ruleCondsMatchSpecUptoRow.domain false Rows.ruleCondsMatchSpecUptoRow.laid) (((Rows.OpenSpec.upto Rows.ruleCondsMatchSpecSpec).at F).post enc prog Tryz.f3 false true false false):=by
 obtain⟨places,hx⟩:=cpReads os enc
 refine returnsInHanded_of_row (C:=Tryz.checked) (s:=Rows.OpenSpec.upto Rows.ruleCondsMatchSpecSpec) cpOwn started (by kernel_rfl) func3
  (witness_row_at (enc:=enc) (C:=Tryz.checked) false (cpWorld os) cpArgs rfl (by kernel_rfl) (by kernel_rfl) (by kernel_rfl)
   (OpenSpec.preRow_of_cond 8 hx (by kernel_rfl) (fun k hk=>by cases hk;kernel_rfl) (by kernel_rfl) (cpLaid os))) ?_
 intro W base args ds gs before hval hW _ hcond _ hlaid hsh _
 exact cpContract H enc W base args ds gs before hval hW (hcond _ rfl) hsh (cpTab hlaid)
end Go.Proofs.YtpeaooooimfihaaGreatDoor
namespace Go.Proofs.YtpeaooooimfihaaGreatDoor
open Go.Proofs.Tryz
open Go.RowKit
theorem cpJ1:Rows.ruleCondsMatchSpecUptoRow.inPlace=Program.inPlace prog 3:=by kernel_rfl
theorem cpJ2:Rows.ruleCondsMatchSpecUptoRow.recurses=Program.recurses prog 3:=by kernel_rfl
theorem cpJ3:Rows.ruleCondsMatchSpecUptoRow.unfollowed=Program.unfollowed prog 3:=by kernel_rfl
theorem cpJ4:Rows.ruleCondsMatchSpecUptoRow.named=Program.varsNamed prog 3:=by kernel_rfl
theorem cpFacts:joinedFacts prog 3 Tryz.f3 (Rows.OpenSpec.upto Rows.ruleCondsMatchSpecSpec).bare Rows.ruleCondsMatchSpecUptoRow=true:=by
 unfold joinedFacts
 rw[←cpJ1,←cpJ2,←cpJ3,←cpJ4]
 kernel_rfl
end Go.Proofs.YtpeaooooimfihaaGreatDoor
