/-
  What the row reads as spans.
-/
import Derived.Test.YtphmgjcjcdodhaaSpan
import Derived.Test.YtphmgjcjcdodhaaShapes
import Derived.Test.YtphmgjcjcdodhaaRows
import Derived.Test.YtphmgjcjcdodhaaAm21
import Derived.WalkKit
import Derived.ProofKit
import Derived.OpenShut
import Derived.Deep.DeepHandedRow
import Derived.Lib.LaidTab
import Derived.SizedLaws
namespace Go.Proofs.Ytphmgjcjcdodhaa
open Go.RowKit Go.AM Go.SpanLaw Go.ChangeShapes Go.WideShapes Go.ChangeAt

theorem spOwn : ownKnob Try.prog.godebug = none := by kernel_rfl
theorem spLaidOut : laidOutB Try.prog = true := by kernel_rfl
def spTypes : List TypeId := [35, 43, 3]
theorem spTypesOk : typesOk Try.prog spTypes = true := by kernel_rfl
noncomputable def spWorld (os : Os) : World := World.holding Try.prog os ⟨#[], #[], []⟩
theorem pair_of {α : Type} : ∀ {l : List α}, l.length = 2 → ∃ a b, l = [a, b]
  | [a, b], _ => ⟨a, b, rfl⟩
theorem shows_span {H : Type} {n : Nat} {d : DataW H} {pvs : List PV} (h : Shows Try.prog n 43 d pvs) : ∃ s : Sp, pvs = encS s := by
  obtain ⟨m, ds, rfl, rfl, hl, hf⟩ := shows_struct shp43 h
  rw [cel43] at hl
  obtain ⟨y0, ds, rfl, f0, hf⟩ := fieldsS_cons hf
  obtain ⟨y1, ds, rfl, f1, hf⟩ := fieldsS_cons hf
  obtain rfl := fieldsS_nil hf
  obtain ⟨a, rfl, e0, _⟩ := shows_int (k := .i64) (by kernel_rfl) f0
  obtain ⟨b, rfl, e1, _⟩ := shows_int (k := .i64) (by kernel_rfl) f1
  obtain ⟨p0, p1, rfl⟩ := pair_of hl
  · skip
    simp only [List.drop_zero, List.take_succ_cons, List.take_zero, List.cons.injEq, and_true, List.drop_succ_cons] at e0 e1
    subst e0; subst e1
    exact ⟨(a, b), rfl⟩
theorem shows_spans {H : Type} {n : Nat} {d : DataW H} {pv : PV} (h : Shows Try.prog n 35 d [pv]) : ∃ l : List Sp, pv = .sl 2 (l.map encS) := by
  obtain ⟨m, es, ds, rfl, _, e1, _, z⟩ := shows_slice usl35 h
  obtain ⟨l, rfl, _⟩ := shows_list (enc := encS) (w := fun _ => 0) (b := fun _ => 0) (fun c y hcy => by obtain ⟨s, hs⟩ := shows_span hcy.2; exact ⟨s, hs, Nat.le_refl _⟩) z
  simp only [List.cons.injEq, and_true] at e1
  rw [cel43] at e1
  exact ⟨l, e1⟩
end Go.Proofs.Ytphmgjcjcdodhaa
