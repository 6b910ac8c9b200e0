/-
  What the row reads as values and contexts, with its bulk.
-/
import Derived.Test.YtphmgjcjcdodhaaShapes
import Derived.Test.YtphmgjcjcdodhaaRows
import Derived.Test.YtphmgjcjcdodhaaCtxt
namespace Go.Proofs.Ytphmgjcjcdodhaa
open Go.RowKit Go.AM
theorem len2 {α : Type} : ∀ {l : List α}, l.length = 2 → ∃ a b, l = [a, b]
  | [a, b], _ => ⟨a, b, rfl⟩
theorem len5 {α : Type} : ∀ {l : List α}, l.length = 5 → ∃ a b c d e, l = [a, b, c, d, e]
  | [a, b, c, d, e], _ => ⟨a, b, c, d, e, rfl⟩
theorem len6 {α : Type} : ∀ {l : List α}, l.length = 6 → ∃ a b c d e f, l = [a, b, c, d, e, f]
  | [a, b, c, d, e, f], _ => ⟨a, b, c, d, e, f, rfl⟩
theorem bulkAll_sum {H : Type} : ∀ ds : List (DataW H), Rows.uptoBulkAll ds = (ds.map Rows.uptoBulk).sum
  | [] => rfl
  | d :: ds => by simp [Rows.uptoBulkAll, bulkAll_sum ds]
theorem bulk_slice {H : Type} {d : DataW H} {ds : List (DataW H)} (h : (d = .nil ∧ ds = []) ∨ ∃ sp, d = .slice ds sp) : (ds.map Rows.uptoBulk).sum + 1 ≤ Rows.uptoBulk d := by
  rcases h with ⟨rfl, rfl⟩ | ⟨sp, rfl⟩
  · simp [Rows.uptoBulk]
  · simp only [Rows.uptoBulk, bulkAll_sum]; omega
theorem vbs_sum : ∀ l : List Val, vbs l = (l.map Val.vb).sum
  | [] => rfl
  | v :: l => by simp [vbs, vbs_sum l]
theorem fbs_sum : ∀ l : List (List UInt8 × Val), fbs l = (l.map fun a => a.1.length + a.2.vb).sum
  | [] => rfl
  | (a, v) :: l => by simp [fbs, fbs_sum l]
/-- A name and a value. -/
theorem shows_pair {H : Type} {t ts : TypeId} (hs : shapeT Try.prog t = some [(ts, 0, 1), (28, 1, 5)]) (hc : Try.prog.cellsOf t = 6) (hu : Try.prog.underlying ts = some .string) {n : Nat}
    (ih : ∀ m, m < n → ∀ (d : DataW H) pvs, Shows Try.prog m 28 d pvs → ∃ v : Val, pvs = v.enc ∧ v.vb ≤ Rows.uptoBulk d) {d : DataW H} {pvs : List PV} (h : Shows Try.prog n t d pvs) : ∃ a : List UInt8 × Val, pvs = encF a ∧ a.1.length + a.2.vb ≤ Rows.uptoBulk d := by
  obtain ⟨m, ds, rfl, rfl, hl, hf⟩ := shows_struct hs h
  rw [hc] at hl
  obtain ⟨y0, ds, rfl, f0, hf⟩ := fieldsS_cons hf
  obtain ⟨y1, ds, rfl, f1, hf⟩ := fieldsS_cons hf
  obtain rfl := fieldsS_nil hf
  · skip
    obtain ⟨s, rfl, e0, _⟩ := shows_string hu f0
    obtain ⟨v, e1, hv⟩ := ih m (by omega) _ _ f1
    obtain ⟨p0, p1, p2, p3, p4, p5, rfl⟩ := len6 hl
    · skip
      simp only [List.drop_zero, List.take_succ_cons, List.take_zero, List.cons.injEq, and_true, List.drop_succ_cons] at e0 e1
      subst e0
      refine ⟨(s, v), by rw [encF, ← e1], ?_⟩
      simp only [Rows.uptoBulk, Rows.uptoBulkAll]
      omega
theorem shows_val {H : Type} : ∀ (n : Nat) (d : DataW H) pvs, Shows Try.prog n 28 d pvs → ∃ v : Val, pvs = v.enc ∧ v.vb ≤ Rows.uptoBulk d := by
  intro n
  induction n using Nat.strongRecOn with
  | ind n ih =>
    intro d pvs h
    obtain ⟨m, ds, rfl, rfl, hl, hf⟩ := shows_struct shp28 h
    rw [cel28] at hl
    obtain ⟨y0, ds, rfl, f0, hf⟩ := fieldsS_cons hf
    obtain ⟨y1, ds, rfl, f1, hf⟩ := fieldsS_cons hf
    obtain ⟨y2, ds, rfl, f2, hf⟩ := fieldsS_cons hf
    obtain ⟨y3, ds, rfl, f3, hf⟩ := fieldsS_cons hf
    obtain ⟨y4, ds, rfl, f4, hf⟩ := fieldsS_cons hf
    obtain rfl := fieldsS_nil hf
    · skip
      obtain ⟨k, rfl, e0, _⟩ := shows_int (k := .i64) (by kernel_rfl) f0
      obtain ⟨i, rfl, e1, _⟩ := shows_int (k := .i64) (by kernel_rfl) f1
      obtain ⟨s, rfl, e2, _⟩ := shows_string (by kernel_rfl) f2
      obtain ⟨m3, es3, ds3, hm3, b3, e3, _, z3⟩ := shows_slice (e := 28) (by kernel_rfl) f3
      obtain ⟨m4, es4, ds4, hm4, b4, e4, _, z4⟩ := shows_slice (e := 99) (by kernel_rfl) f4
      obtain rfl : m4 = m3 := by omega
      obtain ⟨is, rfl, w3⟩ := shows_list (enc := Val.enc) (w := Val.vb) (b := Rows.uptoBulk) (fun c y hcy => ih m4 (by omega) y c hcy.2) z3
      obtain ⟨fs, rfl, w4⟩ := shows_list (enc := encF) (w := fun a => a.1.length + a.2.vb) (b := Rows.uptoBulk) (fun c y hcy => shows_pair shp99 cel99 (by kernel_rfl) (fun m' hm' => ih m' (by omega)) hcy.2) z4
      have g3 := bulk_slice b3
      have g4 := bulk_slice b4
      obtain ⟨p0, p1, p2, p3, p4, rfl⟩ := len5 hl
      · skip
        simp only [List.drop_zero, List.take_succ_cons, List.take_zero, List.cons.injEq, and_true, List.drop_succ_cons] at e0 e1 e2 e3 e4
        subst e0; subst e1; subst e2; subst e3; subst e4
        refine ⟨.mk k i s is fs, by rw [enc_eq, cel28, cel99]; rfl, ?_⟩
        rw [vb_eq]
        show 1 + s.length + vbs is + fbs fs ≤ _
        rw [vbs_sum, fbs_sum]
        simp only [Rows.uptoBulk, Rows.uptoBulkAll]
        omega
theorem shows_ctxt {H : Type} {n : Nat} {d : DataW H} {pvs : List PV} (h : Shows Try.prog n 24 d pvs) : ∃ x : Ctxt, pvs = x.enc ∧ x.cb + 1 ≤ Rows.uptoBulk d := by
  obtain ⟨m, ds, rfl, rfl, hl, hf⟩ := shows_struct shp24 h
  rw [cel24] at hl
  obtain ⟨y0, ds, rfl, f0, hf⟩ := fieldsS_cons hf
  obtain ⟨y1, ds, rfl, f1, hf⟩ := fieldsS_cons hf
  obtain rfl := fieldsS_nil hf
  · skip
    obtain ⟨s, rfl, e0, _⟩ := shows_string (by kernel_rfl) f0
    obtain ⟨m1, es, ds1, rfl, b1, e1, _, z1⟩ := shows_slice (e := 69) (by kernel_rfl) f1
    obtain ⟨l, rfl, w1⟩ := shows_list (enc := encF) (w := fun a => a.1.length + a.2.vb) (b := Rows.uptoBulk) (fun c y hcy => shows_pair shp69 cel69 (by kernel_rfl) (fun m' _ => shows_val m') hcy.2) z1
    have g1 := bulk_slice b1
    obtain ⟨p0, p1, rfl⟩ := len2 hl
    · skip
      simp only [List.drop_zero, List.take_succ_cons, List.take_zero, List.cons.injEq, and_true, List.drop_succ_cons] at e0 e1
      subst e0; subst e1
      refine ⟨⟨s, l⟩, by rw [Ctxt.enc, cel69], ?_⟩
      rw [cb_eq]
      show s.length + fbs l + 1 ≤ _
      rw [fbs_sum]
      simp only [Rows.uptoBulk, Rows.uptoBulkAll]
      omega
end Go.Proofs.Ytphmgjcjcdodhaa
