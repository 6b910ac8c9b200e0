/-
  DERIVED. GIVEN WITH THE SEED: THE CARDS: each row of YtmngbpkapamhoaaGreatDoorRows.lean that lists a variable, with what it lists TIED to the program's text (the seventh form; the later family's looks); each row that meets fmt, with fmt's text TOLD by the authors' own Lean function (tested against real Go, not proved from fmt's source: count such statements apart). THE CARD IS WHAT COUNTS. Prove the row's statement (the work); the ties are given (YtmngbpkapamhoaaGreatDoorTie.lean); close each card by the builder's one call (the guide's Derived/Test/ToyasCard.lean, 'card_holds'). Laid BY PROGRAM, IN A SANDBOX (cutbox-door.mjs). By AI agents, Wed Nov 11 2026. No macro, syntax, notation, axiom, sorry.
-/
import Derived.Test.YtmngbpkapamhoaaGreatDoorRows
import GoSem.ClaimSeven
namespace Go.Proofs.YtmngbpkapamhoaaGreatDoor
namespace Rows

/-- THE TIED CARD OF 'burgeelaw4.LayerBooksMatchSpec'. -/
def layerBooksMatchSpecCard : Claim7 := { stood := { row := layerBooksMatchSpecRow, standIns := [], harness := (true, "d3d4d5407674ece5aad1eb06c64fea30e79e37a0281486a18f726c0fde635839"), looks := true }, kinds := [], alts := [], laidByText := true, laidKinds := [.data, .data, .data, .data, .sentinel, .sentinel, .pinned], laidTests := true, laidLooks := .later }
def LayerBooksMatchSpecCardSaid : Prop := Claim7.holds Tryz.pinned (.plain (OpenSpec.ofChange layerBooksMatchSpecSpec)) layerBooksMatchSpecCard

/-- THE SECOND FORM's CARD OF 'burgeelaw4.LayerBooksMatchSpec'. -/
def layerBooksMatchSpecUptoCard : Claim7 := { stood := { row := layerBooksMatchSpecUptoRow, standIns := [], harness := (true, "d3d4d5407674ece5aad1eb06c64fea30e79e37a0281486a18f726c0fde635839"), looks := true }, kinds := [], alts := [], laidByText := true, laidKinds := [.data, .data, .data, .data, .sentinel, .sentinel, .pinned], laidTests := true, laidLooks := .later }
def LayerBooksMatchSpecUptoCardSaid : Prop := Claim7.holds Tryz.pinned (.plain (OpenSpec.upto layerBooksMatchSpecSpec)) layerBooksMatchSpecUptoCard
end Rows
end Go.Proofs.YtmngbpkapamhoaaGreatDoor
