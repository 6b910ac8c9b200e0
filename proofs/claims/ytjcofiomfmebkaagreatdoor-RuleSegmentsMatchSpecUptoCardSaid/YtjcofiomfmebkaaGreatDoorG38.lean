/-
The closed facts of the second row of RuleSegmentsMatchSpec, joined.
-/
import Derived.Test.YtjcofiomfmebkaaGreatDoorG37
import Derived.JoinedCond
set_option maxRecDepth 8000
namespace Go.Proofs.YtjcofiomfmebkaaGreatDoor
open Go.Proofs.Tryz
open Go.RowKit
theorem liFacts:joinedFacts prog 3 Tryz.f3 (Rows.OpenSpec.upto Rows.ruleSegmentsMatchSpecSpec).bare Rows.ruleSegmentsMatchSpecUptoRow=true:=by
 unfold joinedFacts
 rw[←liJ1,←liJ2,←liJ3,←liJ4]
 kernel_rfl
end Go.Proofs.YtjcofiomfmebkaaGreatDoor
