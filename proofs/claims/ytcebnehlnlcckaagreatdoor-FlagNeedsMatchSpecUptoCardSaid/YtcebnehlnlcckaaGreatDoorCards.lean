/-
  DERIVED. GIVEN WITH THE SEED: THE CARDS: each row of YtcebnehlnlcckaaGreatDoorRows.lean that lists a variable, with what it lists TIED to the program's text (the seventh form; the later family's looks); each row that meets fmt, with fmt's text TOLD by the authors' own Lean function (tested against real Go, not proved from fmt's source: count such statements apart). THE CARD IS WHAT COUNTS. Prove the row's statement (the work); the ties are given (YtcebnehlnlcckaaGreatDoorTie.lean); close each card by the builder's one call (the guide's Derived/Test/ToyasCard.lean, 'card_holds'). Laid BY PROGRAM, IN A SANDBOX (cutbox-door.mjs). By AI agents, Wed Nov 11 2026. No macro, syntax, notation, axiom, sorry.
-/
import Derived.Test.YtcebnehlnlcckaaGreatDoorRows
import GoSem.ClaimSeven
namespace Go.Proofs.YtcebnehlnlcckaaGreatDoor
namespace Rows

/-- THE TIED CARD OF 'burgeelaw3.FlagNeedsMatchSpec'. -/
def flagNeedsMatchSpecCard : Claim7 := { stood := { row := flagNeedsMatchSpecRow, standIns := [], harness := (true, "c29a66ce471a56c01a0dce2c4068cb27f90f7ff67d44ca64834eb5f5b74dea94"), looks := true }, kinds := [], alts := [], laidByText := true, laidKinds := [.data, .data, .data, .data, .sentinel, .sentinel, .pinned], laidTests := true, laidLooks := .later }
def FlagNeedsMatchSpecCardSaid : Prop := Claim7.holds Tryz.pinned (.plain (OpenSpec.ofChange flagNeedsMatchSpecSpec)) flagNeedsMatchSpecCard

/-- THE SECOND FORM's CARD OF 'burgeelaw3.FlagNeedsMatchSpec'. -/
def flagNeedsMatchSpecUptoCard : Claim7 := { stood := { row := flagNeedsMatchSpecUptoRow, standIns := [], harness := (true, "c29a66ce471a56c01a0dce2c4068cb27f90f7ff67d44ca64834eb5f5b74dea94"), looks := true }, kinds := [], alts := [], laidByText := true, laidKinds := [.data, .data, .data, .data, .sentinel, .sentinel, .pinned], laidTests := true, laidLooks := .later }
def FlagNeedsMatchSpecUptoCardSaid : Prop := Claim7.holds Tryz.pinned (.plain (OpenSpec.upto flagNeedsMatchSpecSpec)) flagNeedsMatchSpecUptoCard
end Rows
end Go.Proofs.YtcebnehlnlcckaaGreatDoor
