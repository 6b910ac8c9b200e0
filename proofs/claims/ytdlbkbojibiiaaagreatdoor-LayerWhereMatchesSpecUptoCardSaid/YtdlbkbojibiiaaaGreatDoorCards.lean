/-
  DERIVED. GIVEN WITH THE SEED: THE CARDS: each row of YtdlbkbojibiiaaaGreatDoorRows.lean that lists a variable, with what it lists TIED to the program's text (the seventh form; the later family's looks); each row that meets fmt, with fmt's text TOLD by the authors' own Lean function (tested against real Go, not proved from fmt's source: count such statements apart). THE CARD IS WHAT COUNTS. Prove the row's statement (the work); the ties are given (YtdlbkbojibiiaaaGreatDoorTie.lean); close each card by the builder's one call (the guide's Derived/Test/ToyasCard.lean, 'card_holds'). Laid BY PROGRAM, IN A SANDBOX (cutbox-door.mjs). By AI agents, Wed Nov 11 2026. No macro, syntax, notation, axiom, sorry.
-/
import Derived.Test.YtdlbkbojibiiaaaGreatDoorRows
import GoSem.ClaimSeven
namespace Go.Proofs.YtdlbkbojibiiaaaGreatDoor
namespace Rows

/-- THE TIED CARD OF 'burgeelaw4.LayerWhereMatchesSpec'. -/
def layerWhereMatchesSpecCard : Claim7 := { stood := { row := layerWhereMatchesSpecRow, standIns := [], harness := (true, "b9bb85b3bed87fb5e07c3d57d8d59eeb6f6d8d3ade2ac513b7a9579eaadcd0c0"), looks := true }, kinds := [], alts := [], laidByText := true, laidKinds := [.data, .data, .data, .data, .sentinel, .sentinel, .pinned], laidTests := true, laidLooks := .later }
def LayerWhereMatchesSpecCardSaid : Prop := Claim7.holds Tryz.pinned (.plain (OpenSpec.ofChange layerWhereMatchesSpecSpec)) layerWhereMatchesSpecCard

/-- THE SECOND FORM's CARD OF 'burgeelaw4.LayerWhereMatchesSpec'. -/
def layerWhereMatchesSpecUptoCard : Claim7 := { stood := { row := layerWhereMatchesSpecUptoRow, standIns := [], harness := (true, "b9bb85b3bed87fb5e07c3d57d8d59eeb6f6d8d3ade2ac513b7a9579eaadcd0c0"), looks := true }, kinds := [], alts := [], laidByText := true, laidKinds := [.data, .data, .data, .data, .sentinel, .sentinel, .pinned], laidTests := true, laidLooks := .later }
def LayerWhereMatchesSpecUptoCardSaid : Prop := Claim7.holds Tryz.pinned (.plain (OpenSpec.upto layerWhereMatchesSpecSpec)) layerWhereMatchesSpecUptoCard
end Rows
end Go.Proofs.YtdlbkbojibiiaaaGreatDoor
