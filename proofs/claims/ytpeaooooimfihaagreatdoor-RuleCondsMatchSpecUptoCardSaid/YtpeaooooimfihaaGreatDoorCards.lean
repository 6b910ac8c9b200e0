/-
  DERIVED. GIVEN WITH THE SEED: THE CARDS: each row of YtpeaooooimfihaaGreatDoorRows.lean that lists a variable, with what it lists TIED to the program's text (the seventh form; the later family's looks); each row that meets fmt, with fmt's text TOLD by the authors' own Lean function (tested against real Go, not proved from fmt's source: count such statements apart). THE CARD IS WHAT COUNTS. Prove the row's statement (the work); the ties are given (YtpeaooooimfihaaGreatDoorTie.lean); close each card by the builder's one call (the guide's Derived/Test/ToyasCard.lean, 'card_holds'). Laid BY PROGRAM, IN A SANDBOX (cutbox-door.mjs). By AI agents, Wed Nov 11 2026. No macro, syntax, notation, axiom, sorry.
-/
import Derived.Test.YtpeaooooimfihaaGreatDoorRows
import GoSem.ClaimSeven
namespace Go.Proofs.YtpeaooooimfihaaGreatDoor
namespace Rows

/-- THE TIED CARD OF 'burgeelaw2.RuleCondsMatchSpec'. -/
def ruleCondsMatchSpecCard : Claim7 := { stood := { row := ruleCondsMatchSpecRow, standIns := [], harness := (true, "4ee0e7fcb81f82c6f69ec8ff90e0fabea2533155f137c41baf56dbd2abb45abf"), looks := true }, kinds := [], alts := [], laidByText := true, laidKinds := [.data, .data, .data, .data, .sentinel, .sentinel, .pinned], laidTests := true, laidLooks := .later }
def RuleCondsMatchSpecCardSaid : Prop := Claim7.holds Tryz.pinned (.plain (OpenSpec.ofChange ruleCondsMatchSpecSpec)) ruleCondsMatchSpecCard

/-- THE SECOND FORM's CARD OF 'burgeelaw2.RuleCondsMatchSpec'. -/
def ruleCondsMatchSpecUptoCard : Claim7 := { stood := { row := ruleCondsMatchSpecUptoRow, standIns := [], harness := (true, "4ee0e7fcb81f82c6f69ec8ff90e0fabea2533155f137c41baf56dbd2abb45abf"), looks := true }, kinds := [], alts := [], laidByText := true, laidKinds := [.data, .data, .data, .data, .sentinel, .sentinel, .pinned], laidTests := true, laidLooks := .later }
def RuleCondsMatchSpecUptoCardSaid : Prop := Claim7.holds Tryz.pinned (.plain (OpenSpec.upto ruleCondsMatchSpecSpec)) ruleCondsMatchSpecUptoCard
end Rows
end Go.Proofs.YtpeaooooimfihaaGreatDoor
