/-
  DERIVED. GIVEN WITH THE SEED: THE CARDS: each row of YtnjndeeldhifoaaGreatDoorRows.lean that lists a variable, with what it lists TIED to the program's text (the seventh form; the later family's looks); each row that meets fmt, with fmt's text TOLD by the authors' own Lean function (tested against real Go, not proved from fmt's source: count such statements apart). THE CARD IS WHAT COUNTS. Prove the row's statement (the work); the ties are given (YtnjndeeldhifoaaGreatDoorTie.lean); close each card by the builder's one call (the guide's Derived/Test/ToyasCard.lean, 'card_holds'). Laid BY PROGRAM, IN A SANDBOX (cutbox-door.mjs). By AI agents, Wed Nov 11 2026. No macro, syntax, notation, axiom, sorry.
-/
import Derived.Test.YtnjndeeldhifoaaGreatDoorRows
import GoSem.ClaimSeven
namespace Go.Proofs.YtnjndeeldhifoaaGreatDoor
namespace Rows

/-- THE TIED CARD OF 'burgeetop.TopCallersCountOnce'. -/
def topCallersCountOnceCard : Claim7 := { stood := { row := topCallersCountOnceRow, standIns := [], harness := (true, "a0e67a0f372039e7898f3f099fbc76bcec9c13a6c7f4fb7c14b1a33f65c66fc4"), looks := true }, kinds := [], alts := [], laidByText := true, laidKinds := [.data, .data, .data, .data, .sentinel, .sentinel, .pinned], laidTests := true, laidLooks := .later }
def TopCallersCountOnceCardSaid : Prop := Claim7.holds Tryz.pinned (.plain (OpenSpec.ofChange topCallersCountOnceSpec)) topCallersCountOnceCard

/-- THE SECOND FORM's CARD OF 'burgeetop.TopCallersCountOnce'. -/
def topCallersCountOnceUptoCard : Claim7 := { stood := { row := topCallersCountOnceUptoRow, standIns := [], harness := (true, "a0e67a0f372039e7898f3f099fbc76bcec9c13a6c7f4fb7c14b1a33f65c66fc4"), looks := true }, kinds := [], alts := [], laidByText := true, laidKinds := [.data, .data, .data, .data, .sentinel, .sentinel, .pinned], laidTests := true, laidLooks := .later }
def TopCallersCountOnceUptoCardSaid : Prop := Claim7.holds Tryz.pinned (.plain (OpenSpec.upto topCallersCountOnceSpec)) topCallersCountOnceUptoCard
end Rows
end Go.Proofs.YtnjndeeldhifoaaGreatDoor
