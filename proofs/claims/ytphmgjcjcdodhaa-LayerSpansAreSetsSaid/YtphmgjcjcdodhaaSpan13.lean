/-
  Spans: Union and Minus.
-/
import Derived.Test.YtphmgjcjcdodhaaSpan12
namespace Go.Proofs.Ytphmgjcjcdodhaa
open Go.RowKit Go.AM Go.SpanLaw

theorem mem_perm {l m : List Sp} (h : l.Perm m) (k : Int) : mem l k ↔ mem m k := by
  unfold mem
  constructor
  · rintro ⟨s, hs, g⟩; exact ⟨s, h.mem_iff.1 hs, g⟩
  · rintro ⟨s, hs, g⟩; exact ⟨s, h.mem_iff.2 hs, g⟩
theorem sorted_of : ∀ {lo : Int} {m : List Sp}, (∀ s ∈ m, lo ≤ s.1 ∧ s.1 < s.2) → m.Pairwise (fun a b => a.1 ≤ b.1) → Sorted lo m
  | _, [], _, _ => trivial
  | lo, s :: m, h, hp => by
    rw [List.pairwise_cons] at hp
    exact ⟨(h s (by simp)).1, (h s (by simp)).2, sorted_of (fun x hx => ⟨hp.1 x hx, (h x (by simp [hx])).2⟩) hp.2⟩
noncomputable def uniL (a b : List Sp) : List Sp := togL (sorted (a ++ b))
theorem small_both {a b : List Sp} (ha : spFault a = 0) (hb : spFault b = 0) : Small (a ++ b) ∧ ∀ s ∈ a ++ b, 0 ≤ s.1 ∧ s.1 < s.2 ∧ s.2 ≤ 100000 := by
  obtain ⟨c1, b1, p1, _⟩ := spFault_right ha
  obtain ⟨c2, b2, p2, _⟩ := spFault_right hb
  have key : ∀ s ∈ a ++ b, 0 ≤ s.1 ∧ s.1 < s.2 ∧ s.2 ≤ 100000 := fun s hs => by
    rcases List.mem_append.1 hs with hs | hs
    · exact ⟨p1 s hs, canon_pos c1 s hs, b1 s hs⟩
    · exact ⟨p2 s hs, canon_pos c2 s hs, b2 s hs⟩
  exact ⟨fun s hs => by have := key s hs; omega, key⟩
theorem uniL_spec {a b : List Sp} (ha : spFault a = 0) (hb : spFault b = 0) : Canon (-1) (uniL a b) ∧ ∀ k, mem (uniL a b) k ↔ mem a k ∨ mem b k := by
  obtain ⟨h1, h2⟩ := small_both ha hb
  obtain ⟨_, s2, s3⟩ := sorted_spec h1
  have hs : Sorted 0 (sorted (a ++ b)) := sorted_of (fun s hs => by have := h2 s (s2.mem_iff.1 hs); exact ⟨this.1, this.2.1⟩) s3
  refine ⟨togL_canon (lo := -1) (by simpa using hs), fun k => ?_⟩
  rw [uniL, togL_mem hs, mem_perm s2, mem_append]
theorem mem_in {a : List Sp} (ha : spFault a = 0) {k : Int} (h : mem a k) : 0 ≤ k ∧ k < 100000 := by
  obtain ⟨_, b1, p1, _⟩ := spFault_right ha
  obtain ⟨s, hs, g1, g2⟩ := h
  have := b1 s hs
  have := p1 s hs
  omega
theorem runion_sound : SpecSound Try.prog 54 (hPure false [] (FPP (fun a b => .sl 2 ((uniL a b).map encS)) fun a b => spFault a = 0 ∧ spFault b = 0)) :=
  pureG (fn := Try.f54) (good_of (q := [93]) mixed ⟨next_sound, by simp, has_sound, fun _ => hPure_quiet _ _, put_sound, by simp, trivial⟩ : AM.Good Csw _) ⟨_, Try.func54, by kernel_rfl, rfl, by kernel_rfl⟩ false [] _ fun args r h w S vs hz => by
    obtain ⟨⟨a, b⟩, rfl, ⟨ha, hb⟩, rfl⟩ := specOf_inv h
    obtain ⟨d, hd, r0, h1, h2⟩ := runion_eval a b ha hb
    obtain ⟨u1, u2⟩ := uniL_spec ha hb
    have e : d = uniL a b := canon_eq hd.canon u1 fun k => by
      rw [hd.holds, u2]
      constructor
      · exact fun g => g.2.2
      · intro g
        have : 0 ≤ k ∧ k < 100000 := g.elim (mem_in ha) (mem_in hb)
        exact ⟨this.1, this.2, g⟩
    rw [e] at h2
    exact ⟨_, r0, hz, Nat.le_trans (Nat.le_refl 2) (by decide), h1, h2⟩
theorem rminus_sound : SpecSound Try.prog 56 (hPure false [] (FPP (fun a b => .sl 2 ((mins a b).map encS)) fun a b => spFault a = 0 ∧ spFault b = 0)) :=
  pureG (fn := Try.f56) (good_of (q := [93]) mixed ⟨next_sound, by simp, has_sound, fun _ => hPure_quiet _ _, put_sound, by simp, trivial⟩ : AM.Good Csw _) ⟨_, Try.func56, by kernel_rfl, rfl, by kernel_rfl⟩ false [] _ fun args r h w S vs hz => by
    obtain ⟨⟨a, b⟩, rfl, ⟨ha, hb⟩, rfl⟩ := specOf_inv h
    obtain ⟨d, hd, r0, h1, h2⟩ := rminus_eval a b ha hb
    obtain ⟨c1, _⟩ := spFault_right ha
    obtain ⟨c2, _⟩ := spFault_right hb
    have e : d = mins a b := canon_eq hd.canon (mins_canon c1 c2) fun k => by
      rw [hd.holds, mins_mem c1 c2]
      constructor
      · exact fun g => g.2.2
      · intro g
        have : 0 ≤ k ∧ k < 100000 := mem_in ha g.1
        exact ⟨this.1, this.2, g⟩
    rw [e] at h2
    exact ⟨_, r0, hz, Nat.le_trans (Nat.le_refl 2) (by decide), h1, h2⟩
noncomputable def uniR (a b : List Sp) : List Sp × Int := if bothF a b = 0 then limR (uniL a b) else ([], bothF a b)
def minR (a b : List Sp) : List Sp × Int := if bothF a b = 0 then limR (mins a b) else ([], bothF a b)
theorem bothF_zero {a b : List Sp} (h : bothF a b = 0) : spFault a = 0 ∧ spFault b = 0 := by
  unfold bothF at h
  split at h
  · exact ⟨by assumption, h⟩
  · contradiction
theorem concat_call {a b : List Sp} (ha : a.length ≤ 100) (hb : b.length ≤ 100) {hp : Hp} {nx id e : Nat} (h : hp id = some ⟨e, 1, true, [[.sl 2 (a.map encS)], [.sl 2 (b.map encS)]]⟩) :
    hPure true [] catF [.own id 0 2] hp nx = some (.sl 2 ((a ++ b).map encS), upd hp id none, nx) := by
  have hf : catF [.sl 1 [[.sl 2 (a.map encS)], [.sl 2 (b.map encS)]]] = some (.sl 2 ((a ++ b).map encS)) :=
    by unfold catF FCC; exact specOf_eq (enc := fun a : List Sp × List Sp => [PV.sl 1 [[.sl 2 (a.1.map encS)], [.sl 2 (a.2.map encS)]]]) (a := (a, b)) (fun a b e => by
      obtain ⟨a1, a2⟩ := a; obtain ⟨b1, b2⟩ := b
      simp only [List.cons.injEq, and_true, PV.sl.injEq, true_and] at e
      rw [spans_inj (congrArg (PV.sl 2) e.1), spans_inj (congrArg (PV.sl 2) e.2)]) ⟨ha, hb⟩
  simp [hPure, freezeVals, freezeVal, freezeCell, h, normArgs, hf, PV.flat, PV.noOwn, -List.map_append]

noncomputable abbrev CrUnion : Ctx := mkCtx Try.prog [(52, hPure false [] (FPP (fun a b => int (bothF a b)) fun _ _ => True)), (54, hPure false [] (FPP (fun a b => .sl 2 ((uniL a b).map encS)) fun a b => spFault a = 0 ∧ spFault b = 0)), (53, hPure false [] (FP (fun l => spTup (limR l)) fun _ => True))]
set_option maxRecDepth 8000 in
theorem rUnion_eval (a b : List Sp) : ∃ r0, evalPure CrUnion Try.f19 [.sl 2 (a.map encS), .sl 2 (b.map encS)] = some r0 ∧ Stands r0 (spTup (uniR a b)) := by
  have c1 := fun hp nx => FPP_call (fun a b => int (bothF a b)) (fun _ _ => True) a b hp nx trivial
  refine evalPureU_of rfl ?_
  unfold uniR
  by_cases hf : bothF a b = 0
  · obtain ⟨ha, hb⟩ := bothF_zero hf
    obtain ⟨_, _, _, hla⟩ := spFault_right ha
    obtain ⟨_, _, _, hlb⟩ := spFault_right hb
    have c3 : ∀ l hp nx, hPure false [] (FP (fun l => spTup (limR l)) (fun _ => True)) [.sl 2 (l.map encS)] hp nx = some (.tup [.sl 2 ((limR l).1.map encS), int (limR l).2], hp, nx) := fun l hp nx => FP_call (fun l => spTup (limR l)) (fun _ => True) l hp nx trivial
    rw [if_pos hf]
    have c2 := fun hp nx => FPP_call (fun a b => .sl 2 ((uniL a b).map encS)) (fun a b => spFault a = 0 ∧ spFault b = 0) a b hp nx ⟨ha, hb⟩
    simp [c1, c2, c3, hf, Try.f19]
    exact ⟨spTup (limR (uniL a b)), by simp [spTup], .refl _⟩
  · have hf' : (bothF a b != 0) = true := by simpa using hf
    rw [if_neg hf]
    simp [c1, hf', Try.f19]
    exact ⟨_, by simp, stands_nilS (bothF a b)⟩
theorem rUnion_sound : SpecSound Try.prog 19 (hPure false [] (FPP (fun a b => spTup (uniR a b)) fun _ _ => True)) :=
  pureG (fn := Try.f19) (good_of (q := []) mixed ⟨two_sound, by simp, runion_sound, by simp, few_sound, by simp, trivial⟩ : AM.Good CrUnion _) ⟨_, Try.func19, by kernel_rfl, rfl, by kernel_rfl⟩ false [] _ fun args r h w S vs hz => by
    obtain ⟨⟨a, b⟩, rfl, _, rfl⟩ := specOf_inv h
    obtain ⟨r0, h1, h2⟩ := rUnion_eval a b
    exact ⟨_, r0, hz, Nat.le_trans (Nat.le_refl 2) (by decide), h1, h2⟩

noncomputable abbrev CrMinus : Ctx := mkCtx Try.prog [(52, hPure false [] (FPP (fun a b => int (bothF a b)) fun _ _ => True)), (56, hPure false [] (FPP (fun a b => .sl 2 ((mins a b).map encS)) fun a b => spFault a = 0 ∧ spFault b = 0)), (53, hPure false [] (FP (fun l => spTup (limR l)) fun _ => True))]
set_option maxRecDepth 8000 in
theorem rMinus_eval (a b : List Sp) : ∃ r0, evalPure CrMinus Try.f22 [.sl 2 (a.map encS), .sl 2 (b.map encS)] = some r0 ∧ Stands r0 (spTup (minR a b)) := by
  have c1 := fun hp nx => FPP_call (fun a b => int (bothF a b)) (fun _ _ => True) a b hp nx trivial
  refine evalPureU_of rfl ?_
  unfold minR
  by_cases hf : bothF a b = 0
  · obtain ⟨ha, hb⟩ := bothF_zero hf
    obtain ⟨_, _, _, hla⟩ := spFault_right ha
    obtain ⟨_, _, _, hlb⟩ := spFault_right hb
    have c3 : ∀ l hp nx, hPure false [] (FP (fun l => spTup (limR l)) (fun _ => True)) [.sl 2 (l.map encS)] hp nx = some (.tup [.sl 2 ((limR l).1.map encS), int (limR l).2], hp, nx) := fun l hp nx => FP_call (fun l => spTup (limR l)) (fun _ => True) l hp nx trivial
    rw [if_pos hf]
    have c2 := fun hp nx => FPP_call (fun a b => .sl 2 ((mins a b).map encS)) (fun a b => spFault a = 0 ∧ spFault b = 0) a b hp nx ⟨ha, hb⟩
    simp [c1, c2, c3, hf, Try.f22]
    exact ⟨spTup (limR (mins a b)), by simp [spTup], .refl _⟩
  · have hf' : (bothF a b != 0) = true := by simpa using hf
    rw [if_neg hf]
    simp [c1, hf', Try.f22]
    exact ⟨_, by simp, stands_nilS (bothF a b)⟩
theorem rMinus_sound : SpecSound Try.prog 22 (hPure false [] (FPP (fun a b => spTup (minR a b)) fun _ _ => True)) :=
  pureG (fn := Try.f22) (good_of (q := []) mixed ⟨two_sound, by simp, rminus_sound, by simp, few_sound, by simp, trivial⟩ : AM.Good CrMinus _) ⟨_, Try.func22, by kernel_rfl, rfl, by kernel_rfl⟩ false [] _ fun args r h w S vs hz => by
    obtain ⟨⟨a, b⟩, rfl, _, rfl⟩ := specOf_inv h
    obtain ⟨r0, h1, h2⟩ := rMinus_eval a b
    exact ⟨_, r0, hz, Nat.le_trans (Nat.le_refl 2) (by decide), h1, h2⟩

noncomputable abbrev CMinus : Ctx := mkCtx Try.prog [(46, hPure false [] (FPP (fun a b => int (bothF a b)) fun _ _ => True)), (50, hPure false [] (FPP (fun a b => .sl 2 ((mins a b).map encS)) fun a b => spFault a = 0 ∧ spFault b = 0)), (47, hPure false [] (FP (fun l => spTup (limR l)) fun _ => True))]
set_option maxRecDepth 8000 in
theorem Minus_eval (a b : List Sp) : ∃ r0, evalPure CMinus Try.f16 [.sl 2 (a.map encS), .sl 2 (b.map encS)] = some r0 ∧ Stands r0 (spTup (minR a b)) := by
  have c1 := fun hp nx => FPP_call (fun a b => int (bothF a b)) (fun _ _ => True) a b hp nx trivial
  refine evalPureU_of rfl ?_
  unfold minR
  by_cases hf : bothF a b = 0
  · obtain ⟨ha, hb⟩ := bothF_zero hf
    obtain ⟨_, _, _, hla⟩ := spFault_right ha
    obtain ⟨_, _, _, hlb⟩ := spFault_right hb
    have c3 : ∀ l hp nx, hPure false [] (FP (fun l => spTup (limR l)) (fun _ => True)) [.sl 2 (l.map encS)] hp nx = some (.tup [.sl 2 ((limR l).1.map encS), int (limR l).2], hp, nx) := fun l hp nx => FP_call (fun l => spTup (limR l)) (fun _ => True) l hp nx trivial
    rw [if_pos hf]
    have c2 := fun hp nx => FPP_call (fun a b => .sl 2 ((mins a b).map encS)) (fun a b => spFault a = 0 ∧ spFault b = 0) a b hp nx ⟨ha, hb⟩
    simp [c1, c2, c3, hf, Try.f16]
    exact ⟨spTup (limR (mins a b)), by simp [spTup], .refl _⟩
  · have hf' : (bothF a b != 0) = true := by simpa using hf
    rw [if_neg hf]
    simp [c1, hf', Try.f16]
    exact ⟨_, by simp, stands_nilS (bothF a b)⟩
theorem Minus_sound : SpecSound Try.prog 16 (hPure false [] (FPP (fun a b => spTup (minR a b)) fun _ _ => True)) :=
  pureG (fn := Try.f16) (good_of (q := []) mixed ⟨checkBoth_sound, by simp, minus_sound, by simp, limited_sound, by simp, trivial⟩ : AM.Good CMinus _) ⟨_, Try.func16, by kernel_rfl, rfl, by kernel_rfl⟩ false [] _ fun args r h w S vs hz => by
    obtain ⟨⟨a, b⟩, rfl, _, rfl⟩ := specOf_inv h
    obtain ⟨r0, h1, h2⟩ := Minus_eval a b
    exact ⟨_, r0, hz, Nat.le_trans (Nat.le_refl 2) (by decide), h1, h2⟩

noncomputable abbrev CUnion : Ctx := mkCtx Try.prog [(46, hPure false [] (FPP (fun a b => int (bothF a b)) fun _ _ => True)), (49, hPure true [] catF), (48, hPure false [] (FP (fun l => .sl 2 ((togL (sorted l)).map encS)) fun l => Small l ∧ l.length ≤ 1000)), (47, hPure false [] (FP (fun l => spTup (limR l)) fun _ => True))]
set_option maxRecDepth 8000 in
theorem Union_eval (a b : List Sp) : ∃ r0, evalPure CUnion Try.f15 [.sl 2 (a.map encS), .sl 2 (b.map encS)] = some r0 ∧ Stands r0 (spTup (uniR a b)) := by
  have c1 := fun hp nx => FPP_call (fun a b => int (bothF a b)) (fun _ _ => True) a b hp nx trivial
  refine evalPureU_of rfl ?_
  unfold uniR
  by_cases hf : bothF a b = 0
  · obtain ⟨ha, hb⟩ := bothF_zero hf
    obtain ⟨_, _, _, hla⟩ := spFault_right ha
    obtain ⟨_, _, _, hlb⟩ := spFault_right hb
    have c3 : ∀ l hp nx, hPure false [] (FP (fun l => spTup (limR l)) (fun _ => True)) [.sl 2 (l.map encS)] hp nx = some (.tup [.sl 2 ((limR l).1.map encS), int (limR l).2], hp, nx) := fun l hp nx => FP_call (fun l => spTup (limR l)) (fun _ => True) l hp nx trivial
    rw [if_pos hf]
    have c2 := fun hp nx => FP_call (fun l => .sl 2 ((togL (sorted l)).map encS)) (fun l => Small l ∧ l.length ≤ 1000) (a ++ b) hp nx ⟨(small_both ha hb).1, by simp; omega⟩
    have hbs : ∀ hp nx, buildSliceA Try.prog hp nx 106 2 [(0, .sl 2 (a.map encS)), (1, .sl 2 (b.map encS))] = some (.own nx 0 2, upd hp nx (some ⟨35, 1, true, [[.sl 2 (a.map encS)], [.sl 2 (b.map encS)]]⟩), nx + 1) := fun hp nx => by
      simp [buildSliceA, setElems, freezeParts]
    have c4 := fun hp nx => concat_call hla hlb (hp := upd hp nx (some ⟨35, 1, true, [[.sl 2 (a.map encS)], [.sl 2 (b.map encS)]]⟩)) (nx := nx + 1) (id := nx) (e := 35) (by simp)
    simp only [List.map_append] at c2 c4
    simp [c1, c2, c3, c4, hbs, hf, Try.f15]
    exact ⟨spTup (limR (uniL a b)), by simp [spTup, uniL], .refl _⟩
  · have hf' : (bothF a b != 0) = true := by simpa using hf
    rw [if_neg hf]
    simp [c1, hf', Try.f15]
    exact ⟨_, by simp, stands_nilS (bothF a b)⟩
theorem Union_sound : SpecSound Try.prog 15 (hPure false [] (FPP (fun a b => spTup (uniR a b)) fun _ _ => True)) :=
  pureG (fn := Try.f15) (good_of (q := []) mixed ⟨checkBoth_sound, by simp, concat_sound, by simp, together_sound, by simp, limited_sound, by simp, trivial⟩ : AM.Good CUnion _) ⟨_, Try.func15, by kernel_rfl, rfl, by kernel_rfl⟩ false [] _ fun args r h w S vs hz => by
    obtain ⟨⟨a, b⟩, rfl, _, rfl⟩ := specOf_inv h
    obtain ⟨r0, h1, h2⟩ := Union_eval a b
    exact ⟨_, r0, hz, Nat.le_trans (Nat.le_refl 2) (by decide), h1, h2⟩
end Go.Proofs.Ytphmgjcjcdodhaa
