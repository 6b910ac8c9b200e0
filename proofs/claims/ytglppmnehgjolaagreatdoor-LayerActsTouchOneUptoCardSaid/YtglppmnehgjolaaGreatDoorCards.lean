/-
  DERIVED. GIVEN WITH THE SEED: THE CARDS: each row of YtglppmnehgjolaaGreatDoorRows.lean that lists a variable, with what it lists TIED to the program's text (the seventh form; the later family's looks); each row that meets fmt, with fmt's text TOLD by the authors' own Lean function (tested against real Go, not proved from fmt's source: count such statements apart). THE CARD IS WHAT COUNTS. Prove the row's statement (the work); the ties are given (YtglppmnehgjolaaGreatDoorTie.lean); close each card by the builder's one call (the guide's Derived/Test/ToyasCard.lean, 'card_holds'). Laid BY PROGRAM, IN A SANDBOX (cutbox-door.mjs). By AI agents, Wed Nov 11 2026. No macro, syntax, notation, axiom, sorry.
-/
import Derived.Test.YtglppmnehgjolaaGreatDoorRows
import GoSem.ClaimSeven
namespace Go.Proofs.YtglppmnehgjolaaGreatDoor
namespace Rows

/-- THE TIED CARD OF 'burgeelaw4.LayerActsTouchOne'. -/
def layerActsTouchOneCard : Claim7 := { stood := { row := layerActsTouchOneRow, standIns := [], harness := (true, "d1d3fba769f9086c9b39eefe182e343207fd22f9007a793e2e8d6a8ba5f6206d"), looks := true }, kinds := [], alts := [], laidByText := true, laidKinds := [.data, .data, .data, .data, .sentinel, .sentinel, .pinned], laidTests := true, laidLooks := .later }
def LayerActsTouchOneCardSaid : Prop := Claim7.holds Tryz.pinned (.plain (OpenSpec.ofChange layerActsTouchOneSpec)) layerActsTouchOneCard

/-- THE SECOND FORM's CARD OF 'burgeelaw4.LayerActsTouchOne'. -/
def layerActsTouchOneUptoCard : Claim7 := { stood := { row := layerActsTouchOneUptoRow, standIns := [], harness := (true, "d1d3fba769f9086c9b39eefe182e343207fd22f9007a793e2e8d6a8ba5f6206d"), looks := true }, kinds := [], alts := [], laidByText := true, laidKinds := [.data, .data, .data, .data, .sentinel, .sentinel, .pinned], laidTests := true, laidLooks := .later }
def LayerActsTouchOneUptoCardSaid : Prop := Claim7.holds Tryz.pinned (.plain (OpenSpec.upto layerActsTouchOneSpec)) layerActsTouchOneUptoCard
end Rows
end Go.Proofs.YtglppmnehgjolaaGreatDoor
