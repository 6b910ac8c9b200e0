/-
  DERIVED. GIVEN WITH THE SEED: THE CARDS: each row of YtmbfinldjgmhaaaGreatDoorRows.lean that lists a variable, with what it lists TIED to the program's text (the seventh form; the later family's looks); each row that meets fmt, with fmt's text TOLD by the authors' own Lean function (tested against real Go, not proved from fmt's source: count such statements apart). THE CARD IS WHAT COUNTS. Prove the row's statement (the work); the ties are given (YtmbfinldjgmhaaaGreatDoorTie.lean); close each card by the builder's one call (the guide's Derived/Test/ToyasCard.lean, 'card_holds'). Laid BY PROGRAM, IN A SANDBOX (cutbox-door.mjs). By AI agents, Wed Nov 11 2026. No macro, syntax, notation, axiom, sorry.
-/
import Derived.Test.YtmbfinldjgmhaaaGreatDoorRows
import GoSem.ClaimSeven
namespace Go.Proofs.YtmbfinldjgmhaaaGreatDoor
namespace Rows

/-- THE TIED CARD OF 'burgeelaw2.RuleExpandsMatchSpec'. -/
def ruleExpandsMatchSpecCard : Claim7 := { stood := { row := ruleExpandsMatchSpecRow, standIns := [], harness := (true, "8cef3cd6956164766ee76bed4e984bd255dc534c8fc35d00eb5c0908b2c2b3bd"), looks := true }, kinds := [], alts := [], laidByText := true, laidKinds := [.data, .data, .data, .data, .sentinel, .sentinel, .pinned], laidTests := true, laidLooks := .later }
def RuleExpandsMatchSpecCardSaid : Prop := Claim7.holds Tryz.pinned (.plain (OpenSpec.ofChange ruleExpandsMatchSpecSpec)) ruleExpandsMatchSpecCard

/-- THE SECOND FORM's CARD OF 'burgeelaw2.RuleExpandsMatchSpec'. -/
def ruleExpandsMatchSpecUptoCard : Claim7 := { stood := { row := ruleExpandsMatchSpecUptoRow, standIns := [], harness := (true, "8cef3cd6956164766ee76bed4e984bd255dc534c8fc35d00eb5c0908b2c2b3bd"), looks := true }, kinds := [], alts := [], laidByText := true, laidKinds := [.data, .data, .data, .data, .sentinel, .sentinel, .pinned], laidTests := true, laidLooks := .later }
def RuleExpandsMatchSpecUptoCardSaid : Prop := Claim7.holds Tryz.pinned (.plain (OpenSpec.upto ruleExpandsMatchSpecSpec)) ruleExpandsMatchSpecUptoCard
end Rows
end Go.Proofs.YtmbfinldjgmhaaaGreatDoor
