/-
  DERIVED. GIVEN WITH THE SEED: THE CARDS: each row of YtfanbcfchamfjaaGreatDoorRows.lean that lists a variable, with what it lists TIED to the program's text (the seventh form; the later family's looks); each row that meets fmt, with fmt's text TOLD by the authors' own Lean function (tested against real Go, not proved from fmt's source: count such statements apart). THE CARD IS WHAT COUNTS. Prove the row's statement (the work); the ties are given (YtfanbcfchamfjaaGreatDoorTie.lean); close each card by the builder's one call (the guide's Derived/Test/ToyasCard.lean, 'card_holds'). Laid BY PROGRAM, IN A SANDBOX (cutbox-door.mjs). By AI agents, Wed Nov 11 2026. No macro, syntax, notation, axiom, sorry.
-/
import Derived.Test.YtfanbcfchamfjaaGreatDoorRows
import GoSem.ClaimSeven
namespace Go.Proofs.YtfanbcfchamfjaaGreatDoor
namespace Rows

/-- THE TIED CARD OF 'burgeelaw4.LayerTextsComeBack'. -/
def layerTextsComeBackCard : Claim7 := { stood := { row := layerTextsComeBackRow, standIns := [], harness := (true, "439a114590f1872baf7bae2fceea7856f098996f4a60b697005e7b3391a9ceb3"), looks := true }, kinds := [], alts := [], laidByText := true, laidKinds := [.data, .data, .data, .data, .sentinel, .sentinel, .pinned], laidTests := true, laidLooks := .later }
def LayerTextsComeBackCardSaid : Prop := Claim7.holds Tryz.pinned (.plain (OpenSpec.ofChange layerTextsComeBackSpec)) layerTextsComeBackCard

/-- THE SECOND FORM's CARD OF 'burgeelaw4.LayerTextsComeBack'. -/
def layerTextsComeBackUptoCard : Claim7 := { stood := { row := layerTextsComeBackUptoRow, standIns := [], harness := (true, "439a114590f1872baf7bae2fceea7856f098996f4a60b697005e7b3391a9ceb3"), looks := true }, kinds := [], alts := [], laidByText := true, laidKinds := [.data, .data, .data, .data, .sentinel, .sentinel, .pinned], laidTests := true, laidLooks := .later }
def LayerTextsComeBackUptoCardSaid : Prop := Claim7.holds Tryz.pinned (.plain (OpenSpec.upto layerTextsComeBackSpec)) layerTextsComeBackUptoCard
end Rows
end Go.Proofs.YtfanbcfchamfjaaGreatDoor
