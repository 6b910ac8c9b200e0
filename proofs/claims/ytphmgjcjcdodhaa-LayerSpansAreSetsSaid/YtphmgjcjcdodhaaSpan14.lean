/-
  Spans: slices.Equal, awake, the two laws' evaluation.
-/
import Derived.Test.YtphmgjcjcdodhaaSpan13
namespace Go.Proofs.Ytphmgjcjcdodhaa
open Go.RowKit Go.AM Go.SpanLaw

/-! ### slices.Equal -/
theorem eqS_drop {a b : List Sp} {k : Nat} (ha : k < a.length) (hb : k < b.length) : decide (a.drop k = b.drop k) = (decide (a[k] = b[k]) && decide (a.drop (k + 1) = b.drop (k + 1))) := by
  rw [List.drop_eq_getElem_cons ha, List.drop_eq_getElem_cons hb, ← Bool.decide_and]
  congr 1
  simp only [List.cons.injEq]
theorem binS (x y u v : Int) : binA Try.prog .neq 43 (.agg [int x, int y]) (.agg [int u, int v]) = some (boo (!(decide (x = u) && decide (y = v)))) := by
  simp only [binA, fl43, eqCells, if_true, Option.map_some, Bool.and_true]
  rfl
theorem sp_ext {a b : Sp} : decide (a = b) = (decide (a.1 = b.1) && decide (a.2 = b.2)) := by
  simp [Prod.ext_iff]
set_option maxRecDepth 8000 in
theorem equalS_eval (a b : List Sp) (ha : a.length ≤ lim) : evalPure C0 Try.f18 [.sl 2 (a.map encS), .sl 2 (b.map encS)] = some (boo (decide (a = b))) := by
  unfold lim at ha
  refine evalPure_of rfl ?_
  by_cases hl : a.length = b.length
  case neg =>
    have hl' : ((a.length : Int) != (b.length : Int)) = true := by simp; omega
    have hne : ¬ a = b := fun e => hl (by rw [e])
    simp [hl', hne, Try.f18]
  have hl' : ((a.length : Int) != (b.length : Int)) = false := by simp [hl]
  simp [hl']
  refine EvC_for (fun k σ hp nx => σ 0 = .sl 2 (a.map encS) ∧ σ 1 = .sl 2 (b.map encS) ∧ σ 12 = int a.length ∧ σ 13 = int k ∧ decide (a = b) = decide (a.drop k = b.drop k)) a.length
    ⟨by simp, by simp, by simp, by simp, by simp⟩ ?_
  rintro k σ hp nx hk ⟨h0, h1, h12, h13, hf⟩
  by_cases hlt : k < a.length
  · have hlt' : k < b.length := by omega
    have hw : IntKind.i64.wrap ((k : Int) + 1) = (k : Int) + 1 := wrap_fit (by omega) (by omega)
    rw [eqS_drop hlt hlt', sp_ext] at hf
    by_cases d1 : a[k].1 = b[k].1 <;> by_cases d2 : a[k].2 = b[k].2 <;> simp only [d1, d2, decide_true, decide_false, Bool.and_true, Bool.true_and, Bool.and_false, Bool.false_and] at hf
    · simp [h0, h1, h12, h13, hlt, hlt', d1, d2, hw, binS]
      exact ⟨hlt, by simpa using hf⟩
    all_goals simp [h0, h1, h12, h13, hlt, hlt', d1, d2, hf, binS, Try.f18]
  · obtain rfl : k = a.length := by omega
    rw [List.drop_length, hl, List.drop_length] at hf
    simp [h0, h1, h12, h13, hf, Try.f18]
theorem equalS_sound : SpecSound Try.prog 18 (hPure false [] (FPP (fun a b => boo (decide (a = b))) fun a _ => a.length ≤ lim)) :=
  pureS (fn := Try.f18) good0 ⟨_, Try.func18, by kernel_rfl, rfl, by kernel_rfl⟩ false [] _ fun args r h => by
    obtain ⟨⟨a, b⟩, rfl, hx, rfl⟩ := specOf_inv h
    exact ⟨Nat.le_trans (Nat.le_refl 2) (by decide), _, equalS_eval a b hx, up_of _⟩

/-! ### what is right is found so -/
theorem spF_of : ∀ {l : List Sp} {p : Option Int}, -1 ≤ p.getD (-1) → Canon (p.getD (-1)) l → Below 100000 l → spF p l = 0
  | [], _, _, _, _ => rfl
  | s :: l, p, h0, hc, hb => by
    have h1 := hc.1
    have h2 := hc.2.1
    have h3 := hb s (by simp)
    have r1 : spR s = false := by
      simp only [spR, inB, Bool.or_eq_false_iff, Bool.not_eq_false', Bool.and_eq_true, decide_eq_true_eq, decide_eq_false_iff_not]
      omega
    have r2 : spO p s = false := by
      simp only [spO, Bool.or_eq_false_iff, decide_eq_false_iff_not]
      refine ⟨by omega, ?_⟩
      cases p with
      | none => rfl
      | some q => simp at h1; simp; omega
    rw [spF, r1, r2]
    simp only [Bool.false_eq_true, if_false]
    exact spF_of (p := some s.2) (by simp; omega) hc.2.2 (fun x hx => hb x (by simp [hx]))
theorem spFault_of {l : List Sp} (hc : Canon (-1) l) (hb : Below 100000 l) (hl : l.length ≤ 100) : spFault l = 0 := by
  unfold spFault
  rw [if_neg (by omega)]
  exact spF_of (p := none) (by simp) hc hb
theorem below_of : ∀ {lo : Int} {l : List Sp}, Canon lo l → (∀ k, mem l k → k < 100000) → Below 100000 l := fun {lo l} hc h s hs => by
  have := canon_pos hc s hs
  have := h (s.2 - 1) ⟨s, hs, by omega, by omega⟩
  omega
theorem uniL_comm {a b : List Sp} (ha : spFault a = 0) (hb : spFault b = 0) : uniL a b = uniL b a :=
  canon_eq (uniL_spec ha hb).1 (uniL_spec hb ha).1 fun k => by rw [(uniL_spec ha hb).2, (uniL_spec hb ha).2]; exact Or.comm
theorem uniL_below {a b : List Sp} (ha : spFault a = 0) (hb : spFault b = 0) : Below 100000 (uniL a b) :=
  below_of (uniL_spec ha hb).1 fun k hk => (((uniL_spec ha hb).2 k).1 hk).elim (fun h => (mem_in ha h).2) (fun h => (mem_in hb h).2)
theorem mins_below {a b : List Sp} (ha : spFault a = 0) (hb : spFault b = 0) : Below 100000 (mins a b) :=
  below_of (mins_canon (spFault_right ha).1 (spFault_right hb).1) fun k hk => (mem_in ha ((mins_mem (spFault_right ha).1 (spFault_right hb).1).1 hk).1).2
theorem uniR_cases (a b : List Sp) : (uniR a b).2 ≠ 0 ∧ (uniR a b).1 = [] ∨ spFault a = 0 ∧ spFault b = 0 ∧ (uniL a b).length ≤ 100 ∧ uniR a b = (uniL a b, 0) := by
  unfold uniR
  split
  · rename_i h
    obtain ⟨ha, hb⟩ := bothF_zero h
    unfold limR
    split
    · exact .inl ⟨by simp, rfl⟩
    · exact .inr ⟨ha, hb, by omega, rfl⟩
  · rename_i h
    exact .inl ⟨h, rfl⟩
theorem minR_cases (a b : List Sp) (ha : spFault a = 0) (hb : spFault b = 0) : minR a b = ([], 2) ∨ (mins a b).length ≤ 100 ∧ minR a b = (mins a b, 0) := by
  have h : bothF a b = 0 := by unfold bothF; rw [if_pos ha]; exact hb
  unfold minR limR
  rw [if_pos h]
  split
  · exact .inl rfl
  · exact .inr ⟨by omega, rfl⟩
end Go.Proofs.Ytphmgjcjcdodhaa
