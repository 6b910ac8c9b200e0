/-
  DERIVED. GIVEN WITH THE SEED: THE CARDS: each row of YtgkaeihkflnckaaGreatDoorRows.lean that lists a variable, with what it lists TIED to the program's text (the seventh form; the later family's looks); each row that meets fmt, with fmt's text TOLD by the authors' own Lean function (tested against real Go, not proved from fmt's source: count such statements apart). THE CARD IS WHAT COUNTS. Prove the row's statement (the work); the ties are given (YtgkaeihkflnckaaGreatDoorTie.lean); close each card by the builder's one call (the guide's Derived/Test/ToyasCard.lean, 'card_holds'). Laid BY PROGRAM, IN A SANDBOX (cutbox-door.mjs). By AI agents, Wed Nov 11 2026. No macro, syntax, notation, axiom, sorry.
-/
import Derived.Test.YtgkaeihkflnckaaGreatDoorRows
import GoSem.ClaimSeven
namespace Go.Proofs.YtgkaeihkflnckaaGreatDoor
namespace Rows

/-- THE TIED CARD OF 'burgeelaw2.RuleHoldsMatchSpec'. -/
def ruleHoldsMatchSpecCard : Claim7 := { stood := { row := ruleHoldsMatchSpecRow, standIns := [], harness := (true, "ddad9ef94c480e9c45ac6b723c023431b915710abbd1dd5e257a2a4550c2c2f9"), looks := true }, kinds := [], alts := [], laidByText := true, laidKinds := [.data, .data, .data, .data, .sentinel, .sentinel, .pinned], laidTests := true, laidLooks := .later }
def RuleHoldsMatchSpecCardSaid : Prop := Claim7.holds Tryz.pinned (.plain (OpenSpec.ofChange ruleHoldsMatchSpecSpec)) ruleHoldsMatchSpecCard

/-- THE SECOND FORM's CARD OF 'burgeelaw2.RuleHoldsMatchSpec'. -/
def ruleHoldsMatchSpecUptoCard : Claim7 := { stood := { row := ruleHoldsMatchSpecUptoRow, standIns := [], harness := (true, "ddad9ef94c480e9c45ac6b723c023431b915710abbd1dd5e257a2a4550c2c2f9"), looks := true }, kinds := [], alts := [], laidByText := true, laidKinds := [.data, .data, .data, .data, .sentinel, .sentinel, .pinned], laidTests := true, laidLooks := .later }
def RuleHoldsMatchSpecUptoCardSaid : Prop := Claim7.holds Tryz.pinned (.plain (OpenSpec.upto ruleHoldsMatchSpecSpec)) ruleHoldsMatchSpecUptoCard
end Rows
end Go.Proofs.YtgkaeihkflnckaaGreatDoor
