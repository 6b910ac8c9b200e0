/-
  Spans: the reference's put.
-/
import Derived.Test.YtphmgjcjcdodhaaSpan7
namespace Go.Proofs.Ytphmgjcjcdodhaa
open Go.RowKit Go.AM Go.SpanLaw

/-- A list of spans in a block of one's own; none: nil. -/
def blkS (l : List Sp) : Option Blk := if l.isEmpty then none else some ⟨43, 2, true, l.map encS⟩
theorem blkS_some (l : List Sp) (s : Sp) : blkS (l ++ [s]) = some ⟨43, 2, true, (l ++ [s]).map encS⟩ := by simp [blkS]
open Classical in
/-- put, as a function of blocks. -/
noncomputable def putM (b : Option Blk) (args : List PV) : Option (Option Blk) :=
  if h : ∃ a : List Sp × Int × Int, b = blkS a.1 ∧ args = [int a.2.1, int a.2.2] ∧ a.1.length ≤ 100000 then some (blkS (putL h.choose.1 h.choose.2.1 h.choose.2.2)) else none
theorem blkS_inj {a b : List Sp} (h : blkS a = blkS b) : a = b := by
  unfold blkS at h
  cases a with
  | nil => cases b with
    | nil => rfl
    | cons s l => simp at h
  | cons s l => cases b with
    | nil => simp at h
    | cons r m =>
      simp only [List.isEmpty_cons, Bool.false_eq_true, if_false, Option.some.injEq, Blk.mk.injEq, true_and] at h
      exact map_inj (fun _ _ => encS_inj) h
theorem putM_eq (l : List Sp) (f t : Int) (h : l.length ≤ 100000) : putM (blkS l) [int f, int t] = some (blkS (putL l f t)) := by
  have hx : ∃ a : List Sp × Int × Int, blkS l = blkS a.1 ∧ [int f, int t] = [int a.2.1, int a.2.2] ∧ a.1.length ≤ 100000 := ⟨(l, f, t), rfl, rfl, h⟩
  unfold putM
  rw [dif_pos hx]
  obtain ⟨h1, h2, _⟩ := hx.choose_spec
  generalize hx.choose = c at h1 h2
  have e1 := blkS_inj h1
  injection h2 with h2 h3
  injection h3 with h3 _
  injection h2 with h2
  injection h2 with _ h2
  injection h3 with h3
  injection h3 with _ h3
  rw [← e1, ← h2, ← h3]
theorem putM_inv {b : Option Blk} {args : List PV} {r : Option Blk} (h : putM b args = some r) : ∃ (l : List Sp) (f t : Int), b = blkS l ∧ args = [int f, int t] ∧ l.length ≤ 100000 ∧ r = blkS (putL l f t) := by
  unfold putM at h
  split at h
  · rename_i hx
    obtain ⟨h1, h2, h3⟩ := hx.choose_spec
    injection h with h
    exact ⟨_, _, _, h1, h2, h3, h.symm⟩
  · cases h
set_option maxRecDepth 8000 in
theorem put_nil (f t : Int) : ∃ x hp nx, evalFunc C0 Try.f94 [.nil, int f, int t] (fun _ => none) 0 = some (x, hp, nx) ∧ OwnR (blkS [(f, t)]) x hp nx := by
  refine evalFunc_of rfl ?_
  simp [Try.f94, OwnR, buildSliceA, appendA, AM.view, maxLen, setElems, freezeParts, buildA, fillA, blkS]
set_option maxRecDepth 8000 in
theorem put_own (l : List Sp) (s : Sp) (f t : Int) (hl : l.length < 100000) : ∃ x hp nx, evalFunc C0 Try.f94 [.own 0 0 (l.length + 1), int f, int t] (upd (fun _ => none) 0 (some ⟨43, 2, true, (l ++ [s]).map encS⟩)) 1 = some (x, hp, nx) ∧ OwnR (blkS (putL (l ++ [s]) f t)) x hp nx := by
  refine evalFunc_of rfl ?_
  have w1 : IntKind.i64.wrap (l.length : Int) = l.length := wrap_fit (by omega) (by omega)
  have w2 : (l.length : Int) < l.length + 1 := by omega
  unfold putL
  by_cases he : s.2 = f
  · have he' : (s.2 == f) = true := by simpa using he
    simp [w1, w2, he, Try.f94]
    rw [blkS_some]
    exact ⟨0, by simp, by simp, rfl⟩
  · have he' : (s.2 == f) = false := by simpa using he
    have hO : OwnS (upd (fun _ => none) 0 (some ⟨43, 2, true, l.map encS ++ [encS s]⟩)) 1 43 2 (.own 0 0 (l.length + 1)) (l.map encS ++ [encS s]) := .inr ⟨0, by omega, by simp, by simp⟩
    have hap := hO.append1 (P := Try.prog) (t := 35) (c := encS (f, t)) el35 sz43 by43 ze43 rfl (by omega) (by simp [maxLen]; omega) (by simp; omega)
    have hbs : ∀ hp nx, buildSliceA Try.prog hp nx 35 1 [(0, .agg (encS (f, t)))] = some (.own nx 0 1, upd hp nx (some ⟨43, 2, true, [encS (f, t)]⟩), nx + 1) := fun hp nx => by
      simp [buildSliceA, setElems, freezeParts]
    simp only [encS] at hap hbs
    simp [w1, w2, he, he', buildA, fillA, hbs, hap, Try.f94]
    rw [show l ++ [s, (f, t)] = (l ++ [s]) ++ [(f, t)] by simp, blkS_some]
    exact ⟨2, by simp, by simp, rfl⟩
theorem putL_nil (f t : Int) : putL [] f t = [(f, t)] := rfl
theorem put_sound : SpecSound Try.prog 94 (hMove [] putM) :=
  hMove_sound (fn := Try.f94) (code := _) good0 ⟨Try.func94, by kernel_rfl, rfl, by kernel_rfl⟩ [] _
    (fun args r h => by
      obtain ⟨l, f, t, h1, rfl, _, rfl⟩ := putM_inv h
      obtain rfl : l = [] := blkS_inj (h1.symm.trans (by rfl))
      exact ⟨Nat.le_trans (Nat.le_refl 3) (by decide), by rw [putL_nil]; exact put_nil f t⟩)
    (fun b args r h => by
      obtain ⟨l, f, t, h1, rfl, hl, rfl⟩ := putM_inv h
      refine ⟨Nat.le_trans (Nat.le_refl 3) (by decide), fun _ => ?_⟩
      rcases List.eq_nil_or_concat l with rfl | ⟨m, s, rfl⟩
      · cases h1
      · rw [List.concat_eq_append] at h1 hl ⊢
        rw [blkS_some] at h1
        injection h1 with h1
        subst h1
        have := put_own m s f t (by simp at hl; omega)
        simpa using this)
end Go.Proofs.Ytphmgjcjcdodhaa
