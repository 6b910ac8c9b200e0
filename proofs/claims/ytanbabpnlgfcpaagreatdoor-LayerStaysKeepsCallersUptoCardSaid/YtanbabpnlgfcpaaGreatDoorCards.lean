/-
  DERIVED. GIVEN WITH THE SEED: THE CARDS: each row of YtanbabpnlgfcpaaGreatDoorRows.lean that lists a variable, with what it lists TIED to the program's text (the seventh form; the later family's looks); each row that meets fmt, with fmt's text TOLD by the authors' own Lean function (tested against real Go, not proved from fmt's source: count such statements apart). THE CARD IS WHAT COUNTS. Prove the row's statement (the work); the ties are given (YtanbabpnlgfcpaaGreatDoorTie.lean); close each card by the builder's one call (the guide's Derived/Test/ToyasCard.lean, 'card_holds'). Laid BY PROGRAM, IN A SANDBOX (cutbox-door.mjs). By AI agents, Wed Nov 11 2026. No macro, syntax, notation, axiom, sorry.
-/
import Derived.Test.YtanbabpnlgfcpaaGreatDoorRows
import GoSem.ClaimSeven
namespace Go.Proofs.YtanbabpnlgfcpaaGreatDoor
namespace Rows

/-- THE TIED CARD OF 'burgeelaw4.LayerWhereIsOnce'. -/
def layerWhereIsOnceCard : Claim7 := { stood := { row := layerWhereIsOnceRow, standIns := [], harness := (true, "7989c835a184896c75833bf6a3b7386a53ddb695084e4f59df5df76fef62f4bd"), looks := true }, kinds := [], alts := [], laidByText := true, laidKinds := [.data, .data, .data, .data, .sentinel, .sentinel, .pinned], laidTests := true, laidLooks := .later }
def LayerWhereIsOnceCardSaid : Prop := Claim7.holds Tryz.pinned (.plain (OpenSpec.ofChange layerWhereIsOnceSpec)) layerWhereIsOnceCard

/-- THE TIED CARD OF 'burgeelaw4.LayerStaysKeepsCallers'. -/
def layerStaysKeepsCallersCard : Claim7 := { stood := { row := layerStaysKeepsCallersRow, standIns := [], harness := (true, "7989c835a184896c75833bf6a3b7386a53ddb695084e4f59df5df76fef62f4bd"), looks := true }, kinds := [], alts := [], laidByText := true, laidKinds := [.data, .data, .data, .data, .sentinel, .sentinel, .pinned], laidTests := true, laidLooks := .later }
def LayerStaysKeepsCallersCardSaid : Prop := Claim7.holds Tryz.pinned (.plain (OpenSpec.ofChange layerStaysKeepsCallersSpec)) layerStaysKeepsCallersCard

/-- THE SECOND FORM's CARD OF 'burgeelaw4.LayerWhereIsOnce'. -/
def layerWhereIsOnceUptoCard : Claim7 := { stood := { row := layerWhereIsOnceUptoRow, standIns := [], harness := (true, "7989c835a184896c75833bf6a3b7386a53ddb695084e4f59df5df76fef62f4bd"), looks := true }, kinds := [], alts := [], laidByText := true, laidKinds := [.data, .data, .data, .data, .sentinel, .sentinel, .pinned], laidTests := true, laidLooks := .later }
def LayerWhereIsOnceUptoCardSaid : Prop := Claim7.holds Tryz.pinned (.plain (OpenSpec.upto layerWhereIsOnceSpec)) layerWhereIsOnceUptoCard

/-- THE SECOND FORM's CARD OF 'burgeelaw4.LayerStaysKeepsCallers'. -/
def layerStaysKeepsCallersUptoCard : Claim7 := { stood := { row := layerStaysKeepsCallersUptoRow, standIns := [], harness := (true, "7989c835a184896c75833bf6a3b7386a53ddb695084e4f59df5df76fef62f4bd"), looks := true }, kinds := [], alts := [], laidByText := true, laidKinds := [.data, .data, .data, .data, .sentinel, .sentinel, .pinned], laidTests := true, laidLooks := .later }
def LayerStaysKeepsCallersUptoCardSaid : Prop := Claim7.holds Tryz.pinned (.plain (OpenSpec.upto layerStaysKeepsCallersSpec)) layerStaysKeepsCallersUptoCard
end Rows
end Go.Proofs.YtanbabpnlgfcpaaGreatDoor
