/-
The law burgeelaw2.RuleSegmentsMatchSpec answers true whatever it is handed (of bulk up to the row's bound; the tables of Go's library being as its text lays them).
-/
import Derived.Test.YtjcofiomfmebkaaGreatDoorG36
import Derived.Test.YtjcofiomfmebkaaGreatDoorG38
import Derived.Test.YtjcofiomfmebkaaGreatDoorCards
import Derived.Test.YtjcofiomfmebkaaGreatDoorTie
set_option maxRecDepth 8000
namespace Go.Proofs.YtjcofiomfmebkaaGreatDoor
open Go.Proofs.Tryz
open Go.RowKit Go.AM Go.SpanLaw Go.ChangeShapes Go.WideShapes Go.ChangeAt
theorem liSaid:Rows.RuleSegmentsMatchSpecUptoSaid :=
 OpenClaim.holds_of_cond 3 Tryz.f3 rfl rfl rfl rfl rfl rfl rfl ⟨rfl,rfl,rfl,rfl,rfl⟩ rfl rfl rfl rfl rfl (by kernel_rfl) func3 liFacts
  (of_decide_eq_true (by kernel_rfl)) (by unfold Func.isWrapper;first | (rw[if_pos (by decide +kernel)];kernel_rfl) | (rw[if_neg (by decide +kernel)];exact⟨rfl,rfl⟩))
  (fun os started H enc _ F=>by rw[OpenClaim.pre_eq_preRow];exact liLifted os started H enc F)
theorem liPlain (f:FuncId) (fn:Func) (hf:Tryz.pinned.checked.prog.funcNamed Tryz.f3.name=some f) (hfn:Tryz.pinned.checked.prog.funcs[f]?=some fn) :
  true=Tryz.pinned.checked.prog.looks []∧∀(j:Nat) t,fn.params[j]?=some t→Tryz.pinned.checked.prog.wantsStandIn t=false:=by
 obtain rfl:f=3:=Option.some.inj ((show prog.funcNamed Tryz.f3.name=some 3 by kernel_rfl).symm.trans hf) |>.symm
 obtain rfl:fn=Tryz.f3:=(Option.some.inj (func3.symm.trans hfn)).symm
 refine⟨by kernel_rfl,fun j t ht=>?_⟩
 rw[params3] at ht
 have ht:t=22∨t=9∨t=25:=by simpa using Array.mem_of_getElem? ht
 rcases ht with rfl | rfl | rfl
 ·exact (show prog.wantsStandIn 22=false by kernel_rfl)
 ·exact (show prog.wantsStandIn 9=false by kernel_rfl)
 ·exact (show prog.wantsStandIn 25=false by kernel_rfl)
theorem liCard:Rows.RuleSegmentsMatchSpecUptoCardSaid :=
 Claim7.holds_tied_plain_at .later [] _ _ _ _ liSaid (fun _ h=>by cases h) (by kernel_rfl) (fun _ h=>by cases h) ruleSegmentsMatchSpecUpto_row_tie rfl ⟨rfl,rfl⟩ (by kernel_rfl) rfl liPlain (by kernel_rfl)
end Go.Proofs.YtjcofiomfmebkaaGreatDoor
