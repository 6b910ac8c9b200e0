/-
  DERIVED. GIVEN WITH THE SEED: THE CARDS: each row of YtnbicamkimignaaGreatDoorRows.lean that lists a variable, with what it lists TIED to the program's text (the seventh form; the later family's looks); each row that meets fmt, with fmt's text TOLD by the authors' own Lean function (tested against real Go, not proved from fmt's source: count such statements apart). THE CARD IS WHAT COUNTS. Prove the row's statement (the work); the ties are given (YtnbicamkimignaaGreatDoorTie.lean); close each card by the builder's one call (the guide's Derived/Test/ToyasCard.lean, 'card_holds'). Laid BY PROGRAM, IN A SANDBOX (cutbox-door.mjs). By AI agents, Wed Nov 11 2026. No macro, syntax, notation, axiom, sorry.
-/
import Derived.Test.YtnbicamkimignaaGreatDoorRows
import GoSem.ClaimSeven
namespace Go.Proofs.YtnbicamkimignaaGreatDoor
namespace Rows

/-- THE TIED CARD OF 'burgeelaw4.LayerActsMatchSpec'. -/
def layerActsMatchSpecCard : Claim7 := { stood := { row := layerActsMatchSpecRow, standIns := [], harness := (true, "3b00835d9801e9686bbd6266c2f54d04507ff19cb8ba738b59d50331de5570f8"), looks := true }, kinds := [], alts := [], laidByText := true, laidKinds := [.data, .data, .data, .data, .sentinel, .sentinel, .pinned], laidTests := true, laidLooks := .later }
def LayerActsMatchSpecCardSaid : Prop := Claim7.holds Tryz.pinned (.plain (OpenSpec.ofChange layerActsMatchSpecSpec)) layerActsMatchSpecCard

/-- THE SECOND FORM's CARD OF 'burgeelaw4.LayerActsMatchSpec'. -/
def layerActsMatchSpecUptoCard : Claim7 := { stood := { row := layerActsMatchSpecUptoRow, standIns := [], harness := (true, "3b00835d9801e9686bbd6266c2f54d04507ff19cb8ba738b59d50331de5570f8"), looks := true }, kinds := [], alts := [], laidByText := true, laidKinds := [.data, .data, .data, .data, .sentinel, .sentinel, .pinned], laidTests := true, laidLooks := .later }
def LayerActsMatchSpecUptoCardSaid : Prop := Claim7.holds Tryz.pinned (.plain (OpenSpec.upto layerActsMatchSpecSpec)) layerActsMatchSpecUptoCard
end Rows
end Go.Proofs.YtnbicamkimignaaGreatDoor
