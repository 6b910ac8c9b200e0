/-
  DERIVED. GIVEN WITH THE SEED: THE CARDS: each row of YtphmgjcjcdodhaaDoorRows.lean that lists a variable, with what it lists TIED to the program's text (the seventh form; the later family's looks); each row that meets fmt, with fmt's text TOLD by the authors' own Lean function (tested against real Go, not proved from fmt's source: count such statements apart). THE CARD IS WHAT COUNTS. Prove the row's statement (the work); the ties are given (YtphmgjcjcdodhaaDoorTie.lean); close each card by the builder's one call (the guide's Derived/Test/ToyasCard.lean, 'card_holds'). Laid BY PROGRAM, IN A SANDBOX (cutbox-door.mjs). By AI agents, Wed Nov 11 2026. No macro, syntax, notation, axiom, sorry.
-/
import Derived.Test.YtphmgjcjcdodhaaDoorRows
import GoSem.ClaimSeven
namespace Go.Proofs.YtphmgjcjcdodhaaDoor
namespace Rows

/-- THE TIED CARD OF 'burgeelaw2.RuleLikesMatchSpec'. -/
def ruleLikesMatchSpecCard : Claim7 := { stood := { row := ruleLikesMatchSpecRow, standIns := [], harness := (true, "77e746b1ec4c39f6f2623d604f9534ed75d602503f591dc416ed7a83a103fc15"), looks := false }, kinds := [], alts := [], laidByText := true, laidKinds := [.data, .pinned], laidTests := true, laidLooks := .later }
def RuleLikesMatchSpecCardSaid : Prop := Claim7.holds Tryd.pinned (.plain (OpenSpec.ofChange ruleLikesMatchSpecSpec)) ruleLikesMatchSpecCard

/-- THE SECOND FORM's CARD OF 'burgeelaw2.RuleLikesMatchSpec'. -/
def ruleLikesMatchSpecUptoCard : Claim7 := { stood := { row := ruleLikesMatchSpecUptoRow, standIns := [], harness := (true, "77e746b1ec4c39f6f2623d604f9534ed75d602503f591dc416ed7a83a103fc15"), looks := false }, kinds := [], alts := [], laidByText := true, laidKinds := [.data, .pinned], laidTests := true, laidLooks := .later }
def RuleLikesMatchSpecUptoCardSaid : Prop := Claim7.holds Tryd.pinned (.plain (OpenSpec.upto ruleLikesMatchSpecSpec)) ruleLikesMatchSpecUptoCard
end Rows
end Go.Proofs.YtphmgjcjcdodhaaDoor
