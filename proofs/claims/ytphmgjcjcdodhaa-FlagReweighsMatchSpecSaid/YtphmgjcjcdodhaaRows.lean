/-
  NARROWER THAN 'FOR EVERY INPUT', by the rows' own cells (each row's printed sentence says how): RuleContextsMatchSpec: loops.
  DERIVED. THE GIVEN ROWS OF THIS SEAT. 6 by the template 'for every input the law returns true; each argument reads behind the call as it read before'; 0 by the template 'total and deterministic' (their statements: YtphmgjcjcdodhaaTotals.lean).
  GIVEN WITH THE SEED: the statements are not yours to turn. If you find one false, say at which input.
  Laid BY PROGRAM, IN A SANDBOX (cutbox-rows.mjs): the forced cells as the released guide's own fill.sh prints them over the translation b759ea64cf8b5021… (all of the seat's roots in one cut). By AI agents, Wed Nov 11 2026. No macro, syntax, notation, axiom, sorry.
-/
import Derived.Test.YtphmgjcjcdodhaaChecked
import GoSem.Claim
import GoSem.ClaimJoined
import GoSem.ClaimMapViews
import Derived.JoinedTies
import Derived.KernelRfl
namespace Go.Proofs.Ytphmgjcjcdodhaa
/- THE CELL 'sum', in the pinned program and in every row, IS THE sha256 OF THE DUMP (.gsa) THAT YtphmgjcjcdodhaaProg.lean LOADS. Nothing in Lean hashes anything: it is a label: what it is worth is what the hold of that sum in a sandbox is worth. -/
noncomputable def Try.pinned : Pinned := { name := "ytphmgjcjcdodhaa", sum := "b759ea64cf8b50218f7fcd4d908609a67cb04c0d3ff1ce97e9b22b1ca1bb3529", checked := Try.checked }
namespace Rows
def none {H : Type} : Left H := { results := [], args := [] }

/-- 'burgeelaw2.RuleContextsMatchSpec': WHATEVER THE INPUT: true; the input reads as it did. -/
def ruleContextsMatchSpecSpec : ChangeSpec := { name := "ruleContextsMatchSpec", fn := fun _ => fun
  | [d1, d2] => { results := [.lit (.bool true)], args := [d1, d2] }
  | _ => none }
def ruleContextsMatchSpecRow : OpenClaim := { program := "ytphmgjcjcdodhaa", sum := "b759ea64cf8b50218f7fcd4d908609a67cb04c0d3ff1ce97e9b22b1ca1bb3529", func := "burgee/burgeelaw2.RuleContextsMatchSpec", spec := "ruleContextsMatchSpec", inPlace := ["internal/bytealg.abigen_runtime_cmpstring"], unfollowed := true, recurses := true, loops := true, apart := false }
def RuleContextsMatchSpecSaid : Prop := ruleContextsMatchSpecRow.holds Try.pinned (OpenSpec.ofChange ruleContextsMatchSpecSpec)

/-- ITS FALSE NEIGHBOUR: 'it returns false'. Refute it at one input. -/
def ruleContextsMatchSpecWrong : ChangeSpec := { name := "ruleContextsMatchSpec", fn := fun _ => fun
  | [d1, d2] => { results := [.lit (.bool false)], args := [d1, d2] }
  | _ => none }
def RuleContextsMatchSpecWrongFalsely : Prop := ruleContextsMatchSpecRow.holds Try.pinned (OpenSpec.ofChange ruleContextsMatchSpecWrong)

/-- 'burgeelaw4.LayerSpansAreSets': WHATEVER THE INPUT: true; the input reads as it did. -/
def layerSpansAreSetsSpec : ChangeSpec := { name := "layerSpansAreSets", fn := fun _ => fun
  | [d1, d2] => { results := [.lit (.bool true)], args := [d1, d2] }
  | _ => none }
def layerSpansAreSetsRow : OpenClaim := { program := "ytphmgjcjcdodhaa", sum := "b759ea64cf8b50218f7fcd4d908609a67cb04c0d3ff1ce97e9b22b1ca1bb3529", func := "burgee/burgeelaw4.LayerSpansAreSets", spec := "layerSpansAreSets", unfollowed := true, recurses := true, apart := false }
def LayerSpansAreSetsSaid : Prop := layerSpansAreSetsRow.holds Try.pinned (OpenSpec.ofChange layerSpansAreSetsSpec)

/-- ITS FALSE NEIGHBOUR: 'it returns false'. Refute it at one input. -/
def layerSpansAreSetsWrong : ChangeSpec := { name := "layerSpansAreSets", fn := fun _ => fun
  | [d1, d2] => { results := [.lit (.bool false)], args := [d1, d2] }
  | _ => none }
def LayerSpansAreSetsWrongFalsely : Prop := layerSpansAreSetsRow.holds Try.pinned (OpenSpec.ofChange layerSpansAreSetsWrong)

/-- 'burgeelaw4.LayerSpansMatchSpec': WHATEVER THE INPUT: true; the input reads as it did. -/
def layerSpansMatchSpecSpec : ChangeSpec := { name := "layerSpansMatchSpec", fn := fun _ => fun
  | [d1, d2, d3] => { results := [.lit (.bool true)], args := [d1, d2, d3] }
  | _ => none }
def layerSpansMatchSpecRow : OpenClaim := { program := "ytphmgjcjcdodhaa", sum := "b759ea64cf8b50218f7fcd4d908609a67cb04c0d3ff1ce97e9b22b1ca1bb3529", func := "burgee/burgeelaw4.LayerSpansMatchSpec", spec := "layerSpansMatchSpec", unfollowed := true, recurses := true, apart := false }
def LayerSpansMatchSpecSaid : Prop := layerSpansMatchSpecRow.holds Try.pinned (OpenSpec.ofChange layerSpansMatchSpecSpec)

/-- ITS FALSE NEIGHBOUR: 'it returns false'. Refute it at one input. -/
def layerSpansMatchSpecWrong : ChangeSpec := { name := "layerSpansMatchSpec", fn := fun _ => fun
  | [d1, d2, d3] => { results := [.lit (.bool false)], args := [d1, d2, d3] }
  | _ => none }
def LayerSpansMatchSpecWrongFalsely : Prop := layerSpansMatchSpecRow.holds Try.pinned (OpenSpec.ofChange layerSpansMatchSpecWrong)

/-- 'burgeelaw3.FlagReweighMovesLeast': WHATEVER THE INPUT: true; the input reads as it did. -/
def flagReweighMovesLeastSpec : ChangeSpec := { name := "flagReweighMovesLeast", fn := fun _ => fun
  | [d1, d2] => { results := [.lit (.bool true)], args := [d1, d2] }
  | _ => none }
def flagReweighMovesLeastRow : OpenClaim := { program := "ytphmgjcjcdodhaa", sum := "b759ea64cf8b50218f7fcd4d908609a67cb04c0d3ff1ce97e9b22b1ca1bb3529", func := "burgee/burgeelaw3.FlagReweighMovesLeast", spec := "flagReweighMovesLeast", unfollowed := true, recurses := true, apart := false }
def FlagReweighMovesLeastSaid : Prop := flagReweighMovesLeastRow.holds Try.pinned (OpenSpec.ofChange flagReweighMovesLeastSpec)

/-- ITS FALSE NEIGHBOUR: 'it returns false'. Refute it at one input. -/
def flagReweighMovesLeastWrong : ChangeSpec := { name := "flagReweighMovesLeast", fn := fun _ => fun
  | [d1, d2] => { results := [.lit (.bool false)], args := [d1, d2] }
  | _ => none }
def FlagReweighMovesLeastWrongFalsely : Prop := flagReweighMovesLeastRow.holds Try.pinned (OpenSpec.ofChange flagReweighMovesLeastWrong)

/-- 'burgeelaw3.FlagRampMovesOnce': WHATEVER THE INPUT: true; the input reads as it did. -/
def flagRampMovesOnceSpec : ChangeSpec := { name := "flagRampMovesOnce", fn := fun _ => fun
  | [d1, d2, d3] => { results := [.lit (.bool true)], args := [d1, d2, d3] }
  | _ => none }
def flagRampMovesOnceRow : OpenClaim := { program := "ytphmgjcjcdodhaa", sum := "b759ea64cf8b50218f7fcd4d908609a67cb04c0d3ff1ce97e9b22b1ca1bb3529", func := "burgee/burgeelaw3.FlagRampMovesOnce", spec := "flagRampMovesOnce", unfollowed := true, recurses := true, apart := false }
def FlagRampMovesOnceSaid : Prop := flagRampMovesOnceRow.holds Try.pinned (OpenSpec.ofChange flagRampMovesOnceSpec)

/-- ITS FALSE NEIGHBOUR: 'it returns false'. Refute it at one input. -/
def flagRampMovesOnceWrong : ChangeSpec := { name := "flagRampMovesOnce", fn := fun _ => fun
  | [d1, d2, d3] => { results := [.lit (.bool false)], args := [d1, d2, d3] }
  | _ => none }
def FlagRampMovesOnceWrongFalsely : Prop := flagRampMovesOnceRow.holds Try.pinned (OpenSpec.ofChange flagRampMovesOnceWrong)

/-- 'burgeelaw3.FlagReweighsMatchSpec': WHATEVER THE INPUT: true; the input reads as it did. -/
def flagReweighsMatchSpecSpec : ChangeSpec := { name := "flagReweighsMatchSpec", fn := fun _ => fun
  | [d1, d2, d3] => { results := [.lit (.bool true)], args := [d1, d2, d3] }
  | _ => none }
def flagReweighsMatchSpecRow : OpenClaim := { program := "ytphmgjcjcdodhaa", sum := "b759ea64cf8b50218f7fcd4d908609a67cb04c0d3ff1ce97e9b22b1ca1bb3529", func := "burgee/burgeelaw3.FlagReweighsMatchSpec", spec := "flagReweighsMatchSpec", unfollowed := true, recurses := true, apart := false }
def FlagReweighsMatchSpecSaid : Prop := flagReweighsMatchSpecRow.holds Try.pinned (OpenSpec.ofChange flagReweighsMatchSpecSpec)

/-- ITS FALSE NEIGHBOUR: 'it returns false'. Refute it at one input. -/
def flagReweighsMatchSpecWrong : ChangeSpec := { name := "flagReweighsMatchSpec", fn := fun _ => fun
  | [d1, d2, d3] => { results := [.lit (.bool false)], args := [d1, d2, d3] }
  | _ => none }
def FlagReweighsMatchSpecWrongFalsely : Prop := flagReweighsMatchSpecRow.holds Try.pinned (OpenSpec.ofChange flagReweighsMatchSpecWrong)

/- THE SECOND FORM. 'bulk': how many values and letters a reading holds, each counted each time it is reached (what is shared counts as often as it is met; a slice's spare places count too). A statement '..UptoSaid' is the law's where the arguments, and the package variables that the reading takes, are together of bulk at most 1048576: NARROWER than '..Said'. Prove '..Said' where nothing that the law and all that it calls make is longer than what came in: it says more and counts as full. Else prove '..UptoSaid'. A law counts once. -/
mutual
def uptoBulk {H : Type} : DataW H → Nat
  | .lit (.string bytes) => bytes.length + 1
  | .lit _ => 1
  | .nil => 1
  | .ptr d => uptoBulk d + 1
  | .slice elems spare => uptoBulkAll elems + uptoBulkAll spare + 1
  | .agg parts => uptoBulkAll parts + 1
  | .iface _ d => uptoBulk d + 1
  | .map entries => uptoBulkEntries entries + 1
  | .held _ => 1
def uptoBulkAll {H : Type} : List (DataW H) → Nat
  | [] => 0
  | d :: r => uptoBulk d + uptoBulkAll r
def uptoBulkEntries {H : Type} : List (Lit × DataW H) → Nat
  | [] => 0
  | x :: r => uptoBulkEntry x + uptoBulkEntries r
def uptoBulkEntry {H : Type} : Lit × DataW H → Nat
  | (.string bytes, d) => bytes.length + uptoBulk d + 1
  | (_, d) => uptoBulk d + 1
 end
def uptoSmall : (H : Type) → List (DataW H) → Bool := fun _ ds => decide (uptoBulkAll ds ≤ 1048576)
def OpenSpec.upto (s : _root_.Go.ChangeSpec) : _root_.Go.OpenSpec := { _root_.Go.OpenSpec.ofChange s with cond := some uptoSmall }

/-- 'burgeelaw2.RuleContextsMatchSpec', WHERE WHAT IT READS IS OF BULK AT MOST 1048576: true; the input reads as it did. -/
def ruleContextsMatchSpecUptoRow : OpenClaim := { program := "ytphmgjcjcdodhaa", sum := "b759ea64cf8b50218f7fcd4d908609a67cb04c0d3ff1ce97e9b22b1ca1bb3529", func := "burgee/burgeelaw2.RuleContextsMatchSpec", spec := "ruleContextsMatchSpec", inPlace := ["internal/bytealg.abigen_runtime_cmpstring"], unfollowed := true, recurses := true, loops := true, apart := false, narrowed := true }
def RuleContextsMatchSpecUptoSaid : Prop := ruleContextsMatchSpecUptoRow.holds Try.pinned (OpenSpec.upto ruleContextsMatchSpecSpec)

/-- 'burgeelaw4.LayerSpansAreSets', WHERE WHAT IT READS IS OF BULK AT MOST 1048576: true; the input reads as it did. -/
def layerSpansAreSetsUptoRow : OpenClaim := { program := "ytphmgjcjcdodhaa", sum := "b759ea64cf8b50218f7fcd4d908609a67cb04c0d3ff1ce97e9b22b1ca1bb3529", func := "burgee/burgeelaw4.LayerSpansAreSets", spec := "layerSpansAreSets", unfollowed := true, recurses := true, apart := false, narrowed := true }
def LayerSpansAreSetsUptoSaid : Prop := layerSpansAreSetsUptoRow.holds Try.pinned (OpenSpec.upto layerSpansAreSetsSpec)

/-- 'burgeelaw4.LayerSpansMatchSpec', WHERE WHAT IT READS IS OF BULK AT MOST 1048576: true; the input reads as it did. -/
def layerSpansMatchSpecUptoRow : OpenClaim := { program := "ytphmgjcjcdodhaa", sum := "b759ea64cf8b50218f7fcd4d908609a67cb04c0d3ff1ce97e9b22b1ca1bb3529", func := "burgee/burgeelaw4.LayerSpansMatchSpec", spec := "layerSpansMatchSpec", unfollowed := true, recurses := true, apart := false, narrowed := true }
def LayerSpansMatchSpecUptoSaid : Prop := layerSpansMatchSpecUptoRow.holds Try.pinned (OpenSpec.upto layerSpansMatchSpecSpec)

/-- 'burgeelaw3.FlagReweighMovesLeast', WHERE WHAT IT READS IS OF BULK AT MOST 1048576: true; the input reads as it did. -/
def flagReweighMovesLeastUptoRow : OpenClaim := { program := "ytphmgjcjcdodhaa", sum := "b759ea64cf8b50218f7fcd4d908609a67cb04c0d3ff1ce97e9b22b1ca1bb3529", func := "burgee/burgeelaw3.FlagReweighMovesLeast", spec := "flagReweighMovesLeast", unfollowed := true, recurses := true, apart := false, narrowed := true }
def FlagReweighMovesLeastUptoSaid : Prop := flagReweighMovesLeastUptoRow.holds Try.pinned (OpenSpec.upto flagReweighMovesLeastSpec)

/-- 'burgeelaw3.FlagRampMovesOnce', WHERE WHAT IT READS IS OF BULK AT MOST 1048576: true; the input reads as it did. -/
def flagRampMovesOnceUptoRow : OpenClaim := { program := "ytphmgjcjcdodhaa", sum := "b759ea64cf8b50218f7fcd4d908609a67cb04c0d3ff1ce97e9b22b1ca1bb3529", func := "burgee/burgeelaw3.FlagRampMovesOnce", spec := "flagRampMovesOnce", unfollowed := true, recurses := true, apart := false, narrowed := true }
def FlagRampMovesOnceUptoSaid : Prop := flagRampMovesOnceUptoRow.holds Try.pinned (OpenSpec.upto flagRampMovesOnceSpec)

/-- 'burgeelaw3.FlagReweighsMatchSpec', WHERE WHAT IT READS IS OF BULK AT MOST 1048576: true; the input reads as it did. -/
def flagReweighsMatchSpecUptoRow : OpenClaim := { program := "ytphmgjcjcdodhaa", sum := "b759ea64cf8b50218f7fcd4d908609a67cb04c0d3ff1ce97e9b22b1ca1bb3529", func := "burgee/burgeelaw3.FlagReweighsMatchSpec", spec := "flagReweighsMatchSpec", unfollowed := true, recurses := true, apart := false, narrowed := true }
def FlagReweighsMatchSpecUptoSaid : Prop := flagReweighsMatchSpecUptoRow.holds Try.pinned (OpenSpec.upto flagReweighsMatchSpecSpec)

end Rows
end Go.Proofs.Ytphmgjcjcdodhaa
