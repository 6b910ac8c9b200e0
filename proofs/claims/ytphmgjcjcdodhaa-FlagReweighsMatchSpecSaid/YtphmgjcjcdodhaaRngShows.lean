/-
  What a row reads as ranges and as numbers.
-/
import Derived.Test.YtphmgjcjcdodhaaRng1
import Derived.Test.YtphmgjcjcdodhaaSpanShows
namespace Go.Proofs.Ytphmgjcjcdodhaa
open Go.RowKit Go.AM Go.ChangeShapes Go.WideShapes Go.ChangeAt

def rgTypes : List TypeId := [47, 61, 48, 3]
theorem three_of {α : Type} : ∀ {l : List α}, l.length = 3 → ∃ a b c, l = [a, b, c]
  | [a, b, c], _ => ⟨a, b, c, rfl⟩
theorem shows_range {H : Type} {n : Nat} {d : DataW H} {pvs : List PV} (h : Shows Try.prog n 61 d pvs) : ∃ s : Rg, pvs = encR s := by
  obtain ⟨m, ds, rfl, rfl, hl, hf⟩ := shows_struct shp61 h
  rw [cel61] at hl
  obtain ⟨y0, ds, rfl, f0, hf⟩ := fieldsS_cons hf
  obtain ⟨y1, ds, rfl, f1, hf⟩ := fieldsS_cons hf
  obtain ⟨y2, ds, rfl, f2, hf⟩ := fieldsS_cons hf
  obtain rfl := fieldsS_nil hf
  obtain ⟨a, rfl, e0, _⟩ := shows_int (k := .i64) (by kernel_rfl) f0
  obtain ⟨b, rfl, e1, _⟩ := shows_int (k := .i64) (by kernel_rfl) f1
  obtain ⟨c, rfl, e2, _⟩ := shows_int (k := .i64) (by kernel_rfl) f2
  obtain ⟨p0, p1, p2, rfl⟩ := three_of hl
  · skip
    simp only [List.drop_zero, List.take_succ_cons, List.take_zero, List.cons.injEq, and_true, List.drop_succ_cons] at e0 e1 e2
    subst e0; subst e1; subst e2
    exact ⟨(a, b, c), rfl⟩
theorem shows_ranges {H : Type} {n : Nat} {d : DataW H} {pv : PV} (h : Shows Try.prog n 47 d [pv]) : ∃ l : List Rg, pv = .sl 3 (l.map encR) := by
  obtain ⟨m, es, ds, rfl, _, e1, _, z⟩ := shows_slice usl47 h
  obtain ⟨l, rfl, _⟩ := shows_list (enc := encR) (w := fun _ => 0) (b := fun _ => 0) (fun c y hcy => by obtain ⟨s, hs⟩ := shows_range hcy.2; exact ⟨s, hs, Nat.le_refl _⟩) z
  simp only [List.cons.injEq, and_true] at e1
  rw [cel61] at e1
  exact ⟨l, e1⟩
theorem shows_ints {H : Type} {n : Nat} {d : DataW H} {pv : PV} (h : Shows Try.prog n 48 d [pv]) : ∃ l : List Int, pv = .sl 1 (l.map encI) := by
  obtain ⟨m, es, ds, rfl, _, e1, _, z⟩ := shows_slice usl48 h
  obtain ⟨l, rfl, _⟩ := shows_list (enc := encI) (w := fun _ => 0) (b := fun _ => 0) (fun c y hcy => by obtain ⟨s, _, hs, _⟩ := shows_int (k := .i64) (by kernel_rfl) hcy.2; exact ⟨s, hs, Nat.le_refl _⟩) z
  simp only [List.cons.injEq, and_true] at e1
  rw [cel3] at e1
  exact ⟨l, e1⟩
end Go.Proofs.Ytphmgjcjcdodhaa
