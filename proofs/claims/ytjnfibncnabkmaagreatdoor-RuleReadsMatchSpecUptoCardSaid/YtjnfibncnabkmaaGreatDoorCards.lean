/-
  DERIVED. GIVEN WITH THE SEED: THE CARDS: each row of YtjnfibncnabkmaaGreatDoorRows.lean that lists a variable, with what it lists TIED to the program's text (the seventh form; the later family's looks); each row that meets fmt, with fmt's text TOLD by the authors' own Lean function (tested against real Go, not proved from fmt's source: count such statements apart). THE CARD IS WHAT COUNTS. Prove the row's statement (the work); the ties are given (YtjnfibncnabkmaaGreatDoorTie.lean); close each card by the builder's one call (the guide's Derived/Test/ToyasCard.lean, 'card_holds'). Laid BY PROGRAM, IN A SANDBOX (cutbox-door.mjs). By AI agents, Wed Nov 11 2026. No macro, syntax, notation, axiom, sorry.
-/
import Derived.Test.YtjnfibncnabkmaaGreatDoorRows
import GoSem.ClaimSeven
namespace Go.Proofs.YtjnfibncnabkmaaGreatDoor
namespace Rows

/-- THE TIED CARD OF 'burgeelaw2.RuleReadsMatchSpec'. -/
def ruleReadsMatchSpecCard : Claim7 := { stood := { row := ruleReadsMatchSpecRow, standIns := [], harness := (true, "fa615a91bb8ef288516f905a329a428e74ef2986949cd66b4debfa0b1ce705bf"), looks := true }, kinds := [], alts := [], laidByText := true, laidKinds := [.data, .data, .data, .data, .sentinel, .sentinel, .pinned, .pinned], laidTests := true, laidLooks := .later }
def RuleReadsMatchSpecCardSaid : Prop := Claim7.holds Tryz.pinned (.plain (OpenSpec.ofChange ruleReadsMatchSpecSpec)) ruleReadsMatchSpecCard

/-- THE SECOND FORM's CARD OF 'burgeelaw2.RuleReadsMatchSpec'. -/
def ruleReadsMatchSpecUptoCard : Claim7 := { stood := { row := ruleReadsMatchSpecUptoRow, standIns := [], harness := (true, "fa615a91bb8ef288516f905a329a428e74ef2986949cd66b4debfa0b1ce705bf"), looks := true }, kinds := [], alts := [], laidByText := true, laidKinds := [.data, .data, .data, .data, .sentinel, .sentinel, .pinned, .pinned], laidTests := true, laidLooks := .later }
def RuleReadsMatchSpecUptoCardSaid : Prop := Claim7.holds Tryz.pinned (.plain (OpenSpec.upto ruleReadsMatchSpecSpec)) ruleReadsMatchSpecUptoCard
end Rows
end Go.Proofs.YtjnfibncnabkmaaGreatDoor
