/-
  DERIVED. GIVEN WITH THE SEED: THE CARDS: each row of YtjcofiomfmebkaaGreatDoorRows.lean that lists a variable, with what it lists TIED to the program's text (the seventh form; the later family's looks); each row that meets fmt, with fmt's text TOLD by the authors' own Lean function (tested against real Go, not proved from fmt's source: count such statements apart). THE CARD IS WHAT COUNTS. Prove the row's statement (the work); the ties are given (YtjcofiomfmebkaaGreatDoorTie.lean); close each card by the builder's one call (the guide's Derived/Test/ToyasCard.lean, 'card_holds'). Laid BY PROGRAM, IN A SANDBOX (cutbox-door.mjs). By AI agents, Wed Nov 11 2026. No macro, syntax, notation, axiom, sorry.
-/
import Derived.Test.YtjcofiomfmebkaaGreatDoorRows
import GoSem.ClaimSeven
namespace Go.Proofs.YtjcofiomfmebkaaGreatDoor
namespace Rows

/-- THE TIED CARD OF 'burgeelaw2.RuleSegmentsMatchSpec'. -/
def ruleSegmentsMatchSpecCard : Claim7 := { stood := { row := ruleSegmentsMatchSpecRow, standIns := [], harness := (true, "7be59587a9198e409f7b92422ae482bb995485b8728d262dc1871d1c1ca54070"), looks := true }, kinds := [], alts := [], laidByText := true, laidKinds := [.data, .data, .data, .data, .sentinel, .sentinel, .pinned], laidTests := true, laidLooks := .later }
def RuleSegmentsMatchSpecCardSaid : Prop := Claim7.holds Tryz.pinned (.plain (OpenSpec.ofChange ruleSegmentsMatchSpecSpec)) ruleSegmentsMatchSpecCard

/-- THE SECOND FORM's CARD OF 'burgeelaw2.RuleSegmentsMatchSpec'. -/
def ruleSegmentsMatchSpecUptoCard : Claim7 := { stood := { row := ruleSegmentsMatchSpecUptoRow, standIns := [], harness := (true, "7be59587a9198e409f7b92422ae482bb995485b8728d262dc1871d1c1ca54070"), looks := true }, kinds := [], alts := [], laidByText := true, laidKinds := [.data, .data, .data, .data, .sentinel, .sentinel, .pinned], laidTests := true, laidLooks := .later }
def RuleSegmentsMatchSpecUptoCardSaid : Prop := Claim7.holds Tryz.pinned (.plain (OpenSpec.upto ruleSegmentsMatchSpecSpec)) ruleSegmentsMatchSpecUptoCard
end Rows
end Go.Proofs.YtjcofiomfmebkaaGreatDoor
