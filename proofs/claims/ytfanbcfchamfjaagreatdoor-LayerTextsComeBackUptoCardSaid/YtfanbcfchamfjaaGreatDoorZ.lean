/- The law burgeelaw4.LayerTextsComeBack answers true whatever it is handed (of bulk up to the row's bound; the tables of Go's library being aZ its text lays them). -/
import Derived.Test.YtfanbcfchamfjaaGreatDoorG18
import Derived.Test.YtfanbcfchamfjaaGreatDoorG20
import Derived.Test.YtfanbcfchamfjaaGreatDoorCards
import Derived.Test.YtfanbcfchamfjaaGreatDoorTie
set_option maxRecDepth 8000
open Go Proofs Proofs.YtfanbcfchamfjaaGreatDoor Proofs.Tryz RowKit AM SpanLaw Q Zz
namespace Go.Proofs.YtfanbcfchamfjaaGreatDoor
open Go.RowKit Go.AM Go.SpanLaw Go.ChangeShapes Go.WideShapes Go.ChangeAt
theorem ltSaid:Rows.LayerTextsComeBackUptoSaid:=
 OpenClaim.holds_of_cond 3 Tryz.f3 rfl rfl rfl rfl rfl rfl rfl ⟨rfl,rfl,rfl,rfl,rfl⟩ rfl rfl rfl rfl rfl (by kernel_rfl) func3 zao
  (jb (by kernel_rfl)) (by unfold Func.isWrapper;first|(rw[zl (by decide +kernel)];kernel_rfl)|(rw[zj (by decide +kernel)];exact⟨rfl,rfl⟩))
  (fun b a H V _ F=>by rw[OpenClaim.pre_eq_preRow];exact PN b a H V F)
theorem zap(f:FuncId)(fn:Func)(c:Tryz.pinned.checked.prog.funcNamed Tryz.f3.name=some f)(b:Tryz.pinned.checked.prog.funcs[f]?=some fn) :
  true=Tryz.pinned.checked.prog.looks []/\∀(j:Nat) t,fn.params[j]?=some t->Tryz.pinned.checked.prog.wantsStandIn t=false:=by
 obtain rfl:f=3:=Option.some.inj ((show prog.funcNamed Tryz.f3.name=some 3 by kernel_rfl).symm.trans c)|>.symm;obtain rfl:fn=Tryz.f3:=(Option.some.inj (func3.symm.trans b)).symm;refine⟨by kernel_rfl,fun j t a=>?_⟩;rw[params3]at a;have a:t=26:=by simpa using Yo a
 rcases a with rfl
 ·exact(show prog.wantsStandIn 26=false by kernel_rfl)
theorem ltCard:Rows.LayerTextsComeBackUptoCardSaid:=
 Claim7.holds_tied_plain_at .later [] _ _ _ _ ltSaid (fun _ h=>by cases h) (by kernel_rfl) (fun _ h=>by cases h) layerTextsComeBackUpto_row_tie rfl ⟨rfl,rfl⟩ (by kernel_rfl) rfl zap (by kernel_rfl)
end Go.Proofs.YtfanbcfchamfjaaGreatDoor
