/-
  The abstract machine, part 28: data taken apart by their types' shapes.
-/
import Derived.Test.YtphmgjcjcdodhaaAm27
import Derived.Test.YtphmgjcjcdodhaaAm21
namespace Go.AM
open Go.RowKit
/-- A struct's fields: type, offset, cells. -/
def shapeT (P : Program) (t : TypeId) : Option (List (TypeId × Nat × Nat)) := match P.underlying t with
  | some (.struct fs) => some (fs.toList.map fun f => (f.type, f.offset, P.cellsOf f.type))
  | _ => none
def FieldsS {H : Type} (P : Program) (n : Nat) (pvs : List PV) : List (TypeId × Nat × Nat) → List (DataW H) → Prop
  | [], [] => True
  | (t, o, c) :: l, y :: ds => Shows P n t y ((pvs.drop o).take c) ∧ FieldsS P n pvs l ds
  | _, _ => False
section
variable {H : Type} {P : Program} {n : Nat} {t : TypeId} {d : DataW H} {pvs : List PV}
theorem fieldsS_of (n : Nat) (pvs : List PV) : ∀ (fs : List Field) (ds : List (DataW H)), ds.length = fs.length → (∀ (i : Nat) f y, fs[i]? = some f → ds[i]? = some y → Shows P n f.type y ((pvs.drop f.offset).take (P.cellsOf f.type))) → FieldsS P n pvs (fs.map fun f => (f.type, f.offset, P.cellsOf f.type)) ds
  | [], [], _, _ => trivial
  | f :: fs, y :: ds, hl, h => ⟨h 0 f y rfl rfl, fieldsS_of n pvs fs ds (by simpa using hl) fun i f' y' hf hy => h (i + 1) f' y' (by simpa using hf) (by simpa using hy)⟩
theorem shape_struct {l : List (TypeId × Nat × Nat)} (hs : shapeT P t = some l) : ∃ fs, P.underlying t = some (.struct fs) ∧ l = fs.toList.map fun f => (f.type, f.offset, P.cellsOf f.type) := by
  unfold shapeT at hs
  split at hs
  · rename_i fs hu
    injection hs with hs
    exact ⟨fs, hu, hs.symm⟩
  · cases hs
theorem shows_struct {l : List (TypeId × Nat × Nat)} (hs : shapeT P t = some l) (h : Shows P n t d pvs) : ∃ (m : Nat) (ds : List (DataW H)), n = m + 1 ∧ d = .agg ds ∧ pvs.length = P.cellsOf t ∧ FieldsS P m pvs l ds := by
  obtain ⟨fs, hu, rfl⟩ := shape_struct hs
  cases n with
  | zero => exact h.elim
  | succ m =>
    unfold Shows at h
    rw [hu] at h
    obtain ⟨ds, h1, h2, h3, h4⟩ := h
    exact ⟨m, ds, rfl, h1, h2, fieldsS_of m pvs fs.toList ds (by simpa using h3) fun i f y hf hy => h4 i f y (by simpa using hf) hy⟩
theorem fieldsS_cons {o c : Nat} {l : List (TypeId × Nat × Nat)} {ds : List (DataW H)} (h : FieldsS P n pvs ((t, o, c) :: l) ds) : ∃ y ds', ds = y :: ds' ∧ Shows P n t y ((pvs.drop o).take c) ∧ FieldsS P n pvs l ds' := by
  cases ds with
  | nil => exact h.elim
  | cons y ds' => exact ⟨y, ds', rfl, h.1, h.2⟩
theorem fieldsS_nil {ds : List (DataW H)} (h : FieldsS P n pvs [] ds) : ds = [] := by
  cases ds with
  | nil => rfl
  | cons y ds' => exact h.elim
theorem shows_bool (hu : P.underlying t = some .bool) (h : Shows P n t d pvs) : ∃ b, d = .lit (.bool b) ∧ pvs = [.v (.bool b)] := by
  cases n with
  | zero => exact h.elim
  | succ m => unfold Shows at h; rw [hu] at h; exact h
theorem shows_int {k : IntKind} (hu : P.underlying t = some (.int k)) (h : Shows P n t d pvs) : ∃ i, d = .lit (.int k i) ∧ pvs = [.v (.int k i)] ∧ (Lit.int k i).wf = true := by
  cases n with
  | zero => exact h.elim
  | succ m => unfold Shows at h; rw [hu] at h; exact h
theorem shows_string (hu : P.underlying t = some .string) (h : Shows P n t d pvs) : ∃ l : List UInt8, d = .lit (.string l) ∧ pvs = [str l] ∧ l.length ≤ maxLen := by
  cases n with
  | zero => exact h.elim
  | succ m =>
    unfold Shows at h
    rw [hu] at h
    obtain ⟨s, h1, h2, h3⟩ := h
    exact ⟨s.data.toList, h1, by rw [h2], h3⟩
theorem shows_slice {e : TypeId} (hu : P.underlying t = some (.slice e)) (h : Shows P n t d pvs) : ∃ (m : Nat) (es : List (List PV)) (ds : List (DataW H)), n = m + 1 ∧ ((d = .nil ∧ ds = []) ∨ ∃ sp, d = .slice ds sp) ∧ pvs = [.sl (P.cellsOf e) es] ∧ es.length ≤ maxLen ∧ Zip (fun c y => c.length = P.cellsOf e ∧ Shows P m e y c) es ds := by
  cases n with
  | zero => exact h.elim
  | succ m =>
    unfold Shows at h
    rw [hu] at h
    obtain ⟨es, ds, h1, h2, h3, h4⟩ := h
    exact ⟨m, es, ds, rfl, h1, h2, h3, h4⟩
/-- The elements, one by one: what each stands for, and a sum. -/
theorem shows_list {α : Type} {enc : α → List PV} {w : α → Nat} {b : DataW H → Nat} {R : List PV → DataW H → Prop} (hR : ∀ c y, R c y → ∃ a, c = enc a ∧ w a ≤ b y) : ∀ {es : List (List PV)} {ds : List (DataW H)}, Zip R es ds → ∃ l : List α, es = l.map enc ∧ (l.map w).sum ≤ (ds.map b).sum
  | [], [], _ => ⟨[], rfl, by simp⟩
  | [], _ :: _, h => by have := h.1; simp at this
  | _ :: _, [], h => by have := h.1; simp at this
  | c :: es, y :: ds, h => by
    obtain ⟨a, rfl, ha⟩ := hR c y (h.2 0 c y rfl rfl)
    obtain ⟨l, rfl, hl⟩ := shows_list hR (es := es) (ds := ds) ⟨by have := h.1; simpa using this, fun i c' y' hc hy => h.2 (i + 1) c' y' (by simpa using hc) (by simpa using hy)⟩
    exact ⟨a :: l, rfl, by simp; omega⟩
end
end Go.AM
