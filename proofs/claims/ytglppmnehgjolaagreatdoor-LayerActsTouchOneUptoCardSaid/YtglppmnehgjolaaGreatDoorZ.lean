/-
For every book, experiment, name, number and time (of bulk up to the row's bound; the tables of Go's library being as its text lays them) the law burgeelaw4.LayerActsTouchOne answers true.
-/
import Derived.Test.YtglppmnehgjolaaGreatDoorG29
import Derived.Test.YtglppmnehgjolaaGreatDoorG31
import Derived.Test.YtglppmnehgjolaaGreatDoorCards
import Derived.Test.YtglppmnehgjolaaGreatDoorTie
set_option maxRecDepth 8000
namespace Go.Proofs.YtglppmnehgjolaaGreatDoor
open Go.Proofs.Tryz
open Go.RowKit Go.AM Go.SpanLaw Go.ChangeShapes Go.WideShapes Go.ChangeAt
theorem laSaid:Rows.LayerActsTouchOneUptoSaid :=
 OpenClaim.holds_of_cond 3 Tryz.f3 rfl rfl rfl rfl rfl rfl rfl ⟨rfl,rfl,rfl,rfl,rfl⟩ rfl rfl rfl rfl rfl (by kernel_rfl) func3 laFacts
  (of_decide_eq_true (by kernel_rfl)) (by unfold Func.isWrapper;first | (rw[if_pos (by decide +kernel)];kernel_rfl) | (rw[if_neg (by decide +kernel)];exact⟨rfl,rfl⟩))
  (fun os started H enc _ F=>by rw[OpenClaim.pre_eq_preRow];exact laLifted os started H enc F)
theorem laPlain (f:FuncId) (fn:Func) (hf:Tryz.pinned.checked.prog.funcNamed Tryz.f3.name=some f) (hfn:Tryz.pinned.checked.prog.funcs[f]?=some fn) :
  true=Tryz.pinned.checked.prog.looks []∧∀(j:Nat) t,fn.params[j]?=some t→Tryz.pinned.checked.prog.wantsStandIn t=false:=by
 obtain rfl:f=3:=Option.some.inj ((show prog.funcNamed Tryz.f3.name=some 3 by kernel_rfl).symm.trans hf) |>.symm
 obtain rfl:fn=Tryz.f3:=(Option.some.inj (func3.symm.trans hfn)).symm
 refine⟨by kernel_rfl,fun j t ht=>?_⟩
 rw[params3] at ht
 have ht:t=26∨t=34∨t=9∨t=3:=by simpa using Array.mem_of_getElem? ht
 rcases ht with rfl | rfl | rfl | rfl
 ·exact (show prog.wantsStandIn 26=false by kernel_rfl)
 ·exact (show prog.wantsStandIn 34=false by kernel_rfl)
 ·exact (show prog.wantsStandIn 9=false by kernel_rfl)
 ·exact (show prog.wantsStandIn 3=false by kernel_rfl)
theorem laCard:Rows.LayerActsTouchOneUptoCardSaid :=
 Claim7.holds_tied_plain_at .later [] _ _ _ _ laSaid (fun _ h=>by cases h) (by kernel_rfl) (fun _ h=>by cases h) layerActsTouchOneUpto_row_tie rfl ⟨rfl,rfl⟩ (by kernel_rfl) rfl laPlain (by kernel_rfl)
end Go.Proofs.YtglppmnehgjolaaGreatDoor
