/-
  Spans: the law LayerSpansAreSets.
-/
import Derived.Test.YtphmgjcjcdodhaaSpan15
namespace Go.Proofs.Ytphmgjcjcdodhaa
open Go.RowKit Go.AM Go.SpanLaw

def qsps : List FuncId := [18]
noncomputable abbrev Csps : Ctx := mkCtx Try.prog [(14, hPure false [] yesF), (15, hPure false [] (FPP (fun a b => spTup (uniR a b)) fun _ _ => True)), (16, hPure false [] (FPP (fun a b => spTup (minR a b)) fun _ _ => True)), (17, hPure false [] (FP (fun l => twoI (sizeR l)) fun _ => True)), (18, hPure false [] (FPP (fun a b => boo (decide (a = b))) fun a _ => a.length ≤ lim))]
theorem goodsps : AM.Good Csps (fun g => qsps.contains g) := good_of mixed ⟨awake_sound, fun _ => hPure_quiet _ _, Union_sound, fun _ => hPure_quiet _ _, Minus_sound, fun _ => hPure_quiet _ _, Size_sound, fun _ => hPure_quiet _ _, equalS_sound, fun _ => hPure_quiet _ _, trivial⟩
@[simp] theorem quietsps_0 : QuietIn Csps 18 := quietIn_of (by rfl) (hPure_quiet _ _)
theorem uniR_comm_cases (a b : List Sp) : ((uniR a b).2 ≠ 0 ∧ (uniR a b).1 = [] ∧ (uniR b a).2 ≠ 0) ∨ spFault a = 0 ∧ spFault b = 0 ∧ (uniL a b).length ≤ 100 ∧ uniR a b = (uniL a b, 0) ∧ uniR b a = (uniL a b, 0) := by
  rcases uniR_cases a b with ⟨h1, h2⟩ | ⟨ha, hb, hl, h⟩
  · refine .inl ⟨h1, h2, fun h0 => ?_⟩
    rcases uniR_cases b a with ⟨g, _⟩ | ⟨hb, ha, hl, h⟩
    · exact g h0
    · have : uniR a b = (uniL a b, 0) := by
        unfold uniR limR bothF
        rw [if_pos ha, if_pos hb, if_neg (by rw [uniL_comm ha hb]; omega)]
      rw [this] at h1
      exact h1 rfl
  · refine .inr ⟨ha, hb, hl, h, ?_⟩
    unfold uniR limR bothF
    rw [if_pos hb, if_pos ha, uniL_comm hb ha, if_neg (by omega)]
set_option maxRecDepth 8000 in
theorem sps_eval (a b : List Sp) : evalPure Csps Try.f4 [.sl 2 (a.map encS), .sl 2 (b.map encS)] = some (boo true) := by
  have c0 : ∀ hp nx, hPure false [] yesF [] hp nx = some (boo true, hp, nx) := fun hp nx => rfl
  have c1 : ∀ a b hp nx, hPure false [] (FPP (fun a b => spTup (uniR a b)) fun _ _ => True) [.sl 2 (a.map encS), .sl 2 (b.map encS)] hp nx = some (.tup [.sl 2 ((uniR a b).1.map encS), int (uniR a b).2], hp, nx) := fun a b hp nx => FPP_call (fun a b => spTup (uniR a b)) (fun _ _ => True) a b hp nx trivial
  have c2 : ∀ a b hp nx, hPure false [] (FPP (fun a b => spTup (minR a b)) fun _ _ => True) [.sl 2 (a.map encS), .sl 2 (b.map encS)] hp nx = some (.tup [.sl 2 ((minR a b).1.map encS), int (minR a b).2], hp, nx) := fun a b hp nx => FPP_call (fun a b => spTup (minR a b)) (fun _ _ => True) a b hp nx trivial
  have c3 : ∀ l, spFault l = 0 → ∀ hp nx, hPure false [] (FP (fun l => twoI (sizeR l)) fun _ => True) [.sl 2 (l.map encS)] hp nx = some (.tup [int (sizeL l), int 0], hp, nx) := fun l hl hp nx => by
    rw [FP_call (fun l => twoI (sizeR l)) (fun _ => True) l hp nx trivial]
    unfold sizeR
    rw [if_pos hl]
    rfl
  have c6 : ∀ l : List Sp, l.length ≤ 100 → ∀ hp nx, hPure false [] (FPP (fun a b => boo (decide (a = b))) fun a _ => a.length ≤ lim) [.sl 2 (l.map encS), .sl 2 (l.map encS)] hp nx = some (boo true, hp, nx) := fun l h hp nx => by
    rw [FPP_call (fun a b => boo (decide (a = b))) (fun a _ => a.length ≤ lim) l l hp nx (lim_len h)]
    simp
  have k1 := c1 a b
  have k2 := c1 b a
  have k3 := c2 b a
  refine evalPure_of rfl ?_
  rcases uniR_comm_cases a b with ⟨h1, h2, h3⟩ | ⟨ha, hb, hl, e1, e2⟩
  · have h1' : ((uniR a b).2 != 0) = true := by simpa using h1
    rw [h2] at k1
    simp only [List.map_nil] at k1
    simp [c0, k1, k2, h1', Try.f4]
  · rw [e1] at k1
    rw [e2] at k2
    rcases minR_cases b a hb ha with e3 | ⟨hm, e3⟩
    · rw [e3] at k3
      simp only [List.map_nil] at k3
      simp [c0, k1, k2, k3, Try.f4]
    · rw [e3] at k3
      obtain ⟨ca, ba, _, _⟩ := spFault_right ha
      obtain ⟨cb, bb, _, _⟩ := spFault_right hb
      obtain ⟨u1, u2⟩ := uniL_spec ha hb
      have ub := uniL_below ha hb
      have mc := mins_canon cb ca
      have mb := mins_below hb ha
      have mm := fun k => mins_mem (k := k) cb ca
      have hx : spFault (uniL a b) = 0 := spFault_of u1 ub hl
      have hr : spFault (mins b a) = 0 := spFault_of mc mb hm
      obtain ⟨v1, v2⟩ := uniL_spec ha hr
      have eb : uniL a (mins b a) = uniL a b := canon_eq v1 u1 fun k => by
        rw [u2, v2, mm]
        by_cases h1 : mem a k <;> simp [h1]
      have e4 : uniR a (mins b a) = (uniL a b, 0) := by
        unfold uniR limR bothF
        rw [if_pos ha, if_pos hr, eb, if_neg (by omega)]
      have k4 := c1 a (mins b a)
      rw [e4] at k4
      have hsz : sizeL (uniL a b) = sizeL a + sizeL (mins b a) := size_or (n := 100000) u1 ca mc ub ba mb (fun k => by
        rw [u2, mm]
        by_cases h1 : mem a k <;> simp [h1]) (fun k h1 h2 => ((mm k).1 h2).2 h1)
      have s1 := size_le hx
      have s0 : 0 ≤ sizeL a := (size_bound ca (by omega) ba).1
      have s2 : 0 ≤ sizeL (mins b a) := (size_bound mc (by omega) mb).1
      have hw : IntKind.i64.wrap (sizeL a + sizeL (mins b a)) = sizeL a + sizeL (mins b a) := wrap_fit (by omega) (by omega)
      simp [c0, k1, k2, k3, k4, c3 _ hx, c3 _ ha, c3 _ hr, c6 _ hl, hsz, hw, Try.f4]
theorem sps_known : KnownF Csps (fun g => qsps.contains g) 4 Try.f4 := ⟨_, Try.func4, by kernel_rfl, rfl, by kernel_rfl⟩
end Go.Proofs.Ytphmgjcjcdodhaa
