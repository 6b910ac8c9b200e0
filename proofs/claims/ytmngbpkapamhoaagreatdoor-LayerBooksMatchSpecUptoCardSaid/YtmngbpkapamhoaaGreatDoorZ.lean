/- The law burgeelaw4.LayerBooksMatchSpec answers true whatever it is handed (of bulk up to the row's bound; the tables of Go's library being aZ its text lays them). -/
import Derived.Test.YtmngbpkapamhoaaGreatDoorG19
import Derived.Test.YtmngbpkapamhoaaGreatDoorG21
import Derived.Test.YtmngbpkapamhoaaGreatDoorCards
import Derived.Test.YtmngbpkapamhoaaGreatDoorTie
set_option maxRecDepth 8000
open Go Proofs Proofs.YtmngbpkapamhoaaGreatDoor Proofs.Tryz RowKit AM SpanLaw Q Zz
namespace Go.Proofs.YtmngbpkapamhoaaGreatDoor
open Go.RowKit Go.AM Go.SpanLaw Go.ChangeShapes Go.WideShapes Go.ChangeAt
theorem lbSaid:Rows.LayerBooksMatchSpecUptoSaid:=
 OpenClaim.holds_of_cond 3 Tryz.f3 rfl rfl rfl rfl rfl rfl rfl ⟨rfl,rfl,rfl,rfl,rfl⟩ rfl rfl rfl rfl rfl (by kernel_rfl) func3 zcN
  (vV (by kernel_rfl)) (by unfold Func.isWrapper;first|(rw[zd (by decide +kernel)];kernel_rfl)|(rw[ze (by decide +kernel)];exact⟨rfl,rfl⟩))
  (fun b a H V _ F=>by rw[OpenClaim.pre_eq_preRow];exact U1 b a H V F)
theorem zcO(f:FuncId)(fn:Func)(c:Tryz.pinned.checked.prog.funcNamed Tryz.f3.name=some f)(b:Tryz.pinned.checked.prog.funcs[f]?=some fn) :
  true=Tryz.pinned.checked.prog.looks []/\∀(j:Nat) t,fn.params[j]?=some t->Tryz.pinned.checked.prog.wantsStandIn t=false:=by
 obtain rfl:f=3:=Option.some.inj ((show prog.funcNamed Tryz.f3.name=some 3 by kernel_rfl).symm.trans c)|>.symm;obtain rfl:fn=Tryz.f3:=(Option.some.inj (func3.symm.trans b)).symm;refine⟨by kernel_rfl,fun j t a=>?_⟩;rw[params3]at a;have a:t=22\/t=27:=by simpa using Array.mem_of_getElem? a
 rcases a with rfl|rfl
 ·exact(show prog.wantsStandIn 22=false by kernel_rfl)
 ·exact(show prog.wantsStandIn 27=false by kernel_rfl)
theorem lbCard:Rows.LayerBooksMatchSpecUptoCardSaid:=
 Claim7.holds_tied_plain_at .later [] _ _ _ _ lbSaid (fun _ h=>by cases h) (by kernel_rfl) (fun _ h=>by cases h) layerBooksMatchSpecUpto_row_tie rfl ⟨rfl,rfl⟩ (by kernel_rfl) rfl zcO (by kernel_rfl)
end Go.Proofs.YtmngbpkapamhoaaGreatDoor
