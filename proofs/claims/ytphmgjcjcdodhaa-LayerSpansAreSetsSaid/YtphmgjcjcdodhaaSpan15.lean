/-
  Spans: the two laws' evaluation.
-/
import Derived.Test.YtphmgjcjcdodhaaSpan14
namespace Go.Proofs.Ytphmgjcjcdodhaa
open Go.RowKit Go.AM Go.SpanLaw

/-! ### awake -/
theorem Size_own {e id : Nat} {hp : Hp} (nx : Nat) (h : hp id = some ⟨e, 2, true, [[int 3, int 5]]⟩) : hPure false [] (FP (fun l => twoI (sizeR l)) fun _ => True) [.own id 0 1] hp nx = some (.tup [int 2, int 0], hp, nx) := by
  refine hPure_v (show freezeVals hp [.own id 0 1] = some ([.sl 2 (([(3, 5)] : List Sp).map encS)], upd hp id none) by simp [freezeVals, freezeVal, freezeCell, h]) ?_ (.inl rfl)
  exact specOf_eq (enc := fun l : List Sp => [PV.sl 2 (l.map encS)]) (a := [(3, 5)]) (fun a b e => by simp only [List.cons.injEq, and_true] at e; exact spans_inj e) trivial
/-- A function without arguments that says yes. -/
def yesF (args : List PV) : Option PV := if args.isEmpty then some (boo true) else none
noncomputable abbrev Caw : Ctx := mkCtx Try.prog [(17, hPure false [] (FP (fun l => twoI (sizeR l)) fun _ => True))]
set_option maxRecDepth 8000 in
theorem awake_eval : evalPure Caw Try.f14 [] = some (boo true) := by
  have hbs : ∀ hp nx, buildSliceA Try.prog hp nx 35 1 [(0, .agg [int 3, int 5])] = some (.own nx 0 1, upd hp nx (some ⟨43, 2, true, [[int 3, int 5]]⟩), nx + 1) := fun hp nx => by
    simp [buildSliceA, setElems, freezeParts]
  have c1 := fun hp nx => Size_own (e := 43) (id := nx) (hp := upd hp nx (some ⟨43, 2, true, [[int 3, int 5]]⟩)) (nx + 1) (by simp)
  refine evalPure_of rfl ?_
  simp [buildA, fillA, hbs, c1, Try.f14]
theorem awake_sound : SpecSound Try.prog 14 (hPure false [] yesF) :=
  pureS (fn := Try.f14) (good_of (q := []) mixed ⟨Size_sound, by simp, trivial⟩ : AM.Good Caw _) ⟨_, Try.func14, by kernel_rfl, rfl, by kernel_rfl⟩ false [] _ fun args r h => by
    cases args with
    | nil =>
      injection h with h
      subst h
      exact ⟨Nat.le_trans (Nat.le_refl 0) (Nat.zero_le _), _, awake_eval, up_of _⟩
    | cons x l => cases h

/-! ### LayerSpansMatchSpec -/
def qspm : List FuncId := [20, 21, 18]
noncomputable abbrev Cspm : Ctx := mkCtx Try.prog [(15, hPure false [] (FPP (fun a b => spTup (uniR a b)) fun _ _ => True)), (19, hPure false [] (FPP (fun a b => spTup (uniR a b)) fun _ _ => True)), (16, hPure false [] (FPP (fun a b => spTup (minR a b)) fun _ _ => True)), (22, hPure false [] (FPP (fun a b => spTup (minR a b)) fun _ _ => True)), (17, hPure false [] (FP (fun l => twoI (sizeR l)) fun _ => True)), (23, hPure false [] (FP (fun l => twoI (sizeR l)) fun _ => True)), (24, hPure false [] (FPN (fun l n => spTup (firstR l n)) fun _ _ => True)), (25, hPure false [] (FPN (fun l n => spTup (firstR l n)) fun _ _ => True)), (20, hPure false [] (FP (fun l => int (spFault l)) fun _ => True)), (21, hPure false [] (FP (fun l => int (spFault l)) fun _ => True)), (18, hPure false [] (FPP (fun a b => boo (decide (a = b))) fun a _ => a.length ≤ lim))]
theorem goodspm : AM.Good Cspm (fun g => qspm.contains g) := good_of mixed ⟨Union_sound, fun _ => hPure_quiet _ _, rUnion_sound, fun _ => hPure_quiet _ _, Minus_sound, fun _ => hPure_quiet _ _, rMinus_sound, fun _ => hPure_quiet _ _, Size_sound, fun _ => hPure_quiet _ _, rSize_sound, fun _ => hPure_quiet _ _, First_sound, fun _ => hPure_quiet _ _, rFirst_sound, fun _ => hPure_quiet _ _, checkSpans_sound, fun _ => hPure_quiet _ _, rcheckSpans_sound, fun _ => hPure_quiet _ _, equalS_sound, fun _ => hPure_quiet _ _, trivial⟩
@[simp] theorem quietspm_0 : QuietIn Cspm 20 := quietIn_of (by rfl) (hPure_quiet _ _)
@[simp] theorem quietspm_1 : QuietIn Cspm 21 := quietIn_of (by rfl) (hPure_quiet _ _)
@[simp] theorem quietspm_2 : QuietIn Cspm 18 := quietIn_of (by rfl) (hPure_quiet _ _)
theorem lim_len {l : List Sp} (h : l.length ≤ 100) : l.length ≤ lim := by unfold lim; omega
theorem limR_length (l : List Sp) : (limR l).1.length ≤ 100 := by
  unfold limR
  split
  · simp
  · show l.length ≤ 100; omega
theorem uniR_length (a b : List Sp) : (uniR a b).1.length ≤ 100 := by
  unfold uniR
  split
  · exact limR_length _
  · simp
theorem minR_length (a b : List Sp) : (minR a b).1.length ≤ 100 := by
  unfold minR
  split
  · exact limR_length _
  · simp
theorem firstL_length : ∀ (l : List Sp) (n : Int), (firstL l n).length ≤ l.length
  | [], _ => by simp [firstL]
  | s :: l, n => by
    unfold firstL
    split
    · simp
    · have := firstL_length l (n - min n (s.2 - s.1))
      simpa using this
theorem firstR_length (a : List Sp) (n : Int) : (firstR a n).1.length ≤ 100 := by
  unfold firstR
  split
  · rename_i h
    split
    · have := firstL_length a n
      have := (spFault_right h).2.2.2
      show (firstL a n).length ≤ 100
      omega
    · simp
  · simp
set_option maxRecDepth 8000 in
theorem spm_eval (a b : List Sp) (n : Int) : evalPure Cspm Try.f5 [.sl 2 (a.map encS), .sl 2 (b.map encS), int n] = some (boo true) := by
  have c1 : ∀ hp nx, hPure false [] (FPP (fun a b => spTup (uniR a b)) fun _ _ => True) [.sl 2 (a.map encS), .sl 2 (b.map encS)] hp nx = some (.tup [.sl 2 ((uniR a b).1.map encS), int (uniR a b).2], hp, nx) := fun hp nx => FPP_call (fun a b => spTup (uniR a b)) (fun _ _ => True) a b hp nx trivial
  have c2 : ∀ hp nx, hPure false [] (FPP (fun a b => spTup (minR a b)) fun _ _ => True) [.sl 2 (a.map encS), .sl 2 (b.map encS)] hp nx = some (.tup [.sl 2 ((minR a b).1.map encS), int (minR a b).2], hp, nx) := fun hp nx => FPP_call (fun a b => spTup (minR a b)) (fun _ _ => True) a b hp nx trivial
  have c3 : ∀ hp nx, hPure false [] (FP (fun l => twoI (sizeR l)) fun _ => True) [.sl 2 (a.map encS)] hp nx = some (.tup [int (sizeR a).1, int (sizeR a).2], hp, nx) := fun hp nx => FP_call (fun l => twoI (sizeR l)) (fun _ => True) a hp nx trivial
  have c4 : ∀ hp nx, hPure false [] (FPN (fun l n => spTup (firstR l n)) fun _ _ => True) [.sl 2 (a.map encS), int n] hp nx = some (.tup [.sl 2 ((firstR a n).1.map encS), int (firstR a n).2], hp, nx) := fun hp nx => FPN_call (fun l n => spTup (firstR l n)) (fun _ _ => True) a n hp nx trivial
  have c5 := fun hp nx => FP_call (fun l => int (spFault l)) (fun _ => True) a hp nx trivial
  have c6 : ∀ l : List Sp, l.length ≤ 100 → ∀ hp nx, hPure false [] (FPP (fun a b => boo (decide (a = b))) fun a _ => a.length ≤ lim) [.sl 2 (l.map encS), .sl 2 (l.map encS)] hp nx = some (boo true, hp, nx) := fun l h hp nx => by
    rw [FPP_call (fun a b => boo (decide (a = b))) (fun a _ => a.length ≤ lim) l l hp nx (lim_len h)]
    simp
  have e1 := c6 _ (uniR_length a b)
  have e2 := c6 _ (minR_length a b)
  have e3 := c6 _ (firstR_length a n)
  refine evalPure_of rfl ?_
  simp [c1, c2, c3, c4, c5, e1, e2, e3, Try.f5]
theorem spm_known : KnownF Cspm (fun g => qspm.contains g) 5 Try.f5 := ⟨_, Try.func5, by kernel_rfl, rfl, by kernel_rfl⟩
end Go.Proofs.Ytphmgjcjcdodhaa
