/-
  DERIVED. GIVEN WITH THE SEED: THE CARDS: each row of YtmdpcoooleipcaaGreatDoorRows.lean that lists a variable, with what it lists TIED to the program's text (the seventh form; the later family's looks); each row that meets fmt, with fmt's text TOLD by the authors' own Lean function (tested against real Go, not proved from fmt's source: count such statements apart). THE CARD IS WHAT COUNTS. Prove the row's statement (the work); the ties are given (YtmdpcoooleipcaaGreatDoorTie.lean); close each card by the builder's one call (the guide's Derived/Test/ToyasCard.lean, 'card_holds'). Laid BY PROGRAM, IN A SANDBOX (cutbox-door.mjs). By AI agents, Wed Nov 11 2026. No macro, syntax, notation, axiom, sorry.
-/
import Derived.Test.YtmdpcoooleipcaaGreatDoorRows
import GoSem.ClaimSeven
namespace Go.Proofs.YtmdpcoooleipcaaGreatDoor
namespace Rows

/-- THE TIED CARD OF 'burgeelaw2.RuleTextsComeBack'. -/
def ruleTextsComeBackCard : Claim7 := { stood := { row := ruleTextsComeBackRow, standIns := [], harness := (true, "cd9714bb5cf0d83dc8a847008f3974823e8f120fccbb3998d1c90409668c4950"), looks := true }, kinds := [], alts := [], laidByText := true, laidKinds := [.data, .data, .data, .data, .sentinel, .sentinel, .pinned], laidTests := true, laidLooks := .later }
def RuleTextsComeBackCardSaid : Prop := Claim7.holds Tryz.pinned (.plain (OpenSpec.ofChange ruleTextsComeBackSpec)) ruleTextsComeBackCard

/-- THE SECOND FORM's CARD OF 'burgeelaw2.RuleTextsComeBack'. -/
def ruleTextsComeBackUptoCard : Claim7 := { stood := { row := ruleTextsComeBackUptoRow, standIns := [], harness := (true, "cd9714bb5cf0d83dc8a847008f3974823e8f120fccbb3998d1c90409668c4950"), looks := true }, kinds := [], alts := [], laidByText := true, laidKinds := [.data, .data, .data, .data, .sentinel, .sentinel, .pinned], laidTests := true, laidLooks := .later }
def RuleTextsComeBackUptoCardSaid : Prop := Claim7.holds Tryz.pinned (.plain (OpenSpec.upto ruleTextsComeBackSpec)) ruleTextsComeBackUptoCard
end Rows
end Go.Proofs.YtmdpcoooleipcaaGreatDoor
