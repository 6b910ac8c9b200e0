/-
  Spans: the checks and the sizes, of the program and of the reference.
-/
import Derived.Test.YtphmgjcjcdodhaaRule1
import Derived.Test.YtphmgjcjcdodhaaAm26
import Derived.Test.YtphmgjcjcdodhaaSpanLaw
namespace Go.Proofs.Ytphmgjcjcdodhaa
open Go.RowKit Go.AM Go.SpanLaw

abbrev encS (s : Sp) : List PV := [int s.1, int s.2]
theorem encS_inj {a b : Sp} (h : encS a = encS b) : a = b := by
  simp only [List.cons.injEq, and_true, PV.v.injEq, Value.int.injEq, true_and] at h
  exact Prod.ext h.1 h.2
theorem spans_inj {a b : List Sp} (h : PV.sl 2 (a.map encS) = PV.sl 2 (b.map encS)) : a = b := by
  injection h with _ h
  exact map_inj (fun _ _ => encS_inj) h
def spR (s : Sp) : Bool := !inB s.1 0 99999 || decide ((100000 : Int) < s.2)
def spO (p : Option Int) (s : Sp) : Bool := decide (s.2 ≤ s.1) || (match p with
  | none => false
  | some q => decide (s.1 ≤ q))
def spF : Option Int → List Sp → Int
  | _, [] => 0
  | p, s :: l => if spR s then 1 else if spO p s then 8 else spF (some s.2) l
theorem spF_drop {l : List Sp} {k : Nat} (h : k < l.length) (p : Option Int) : spF p (l.drop k) = if spR l[k] then 1 else if spO p l[k] then 8 else spF (some l[k].2) (l.drop (k + 1)) := by
  rw [List.drop_eq_getElem_cons h, spF]
def prevS (l : List Sp) (k : Nat) : Option Int := if k = 0 then none else (l[k - 1]?).map (·.2)
def spFault (l : List Sp) : Int := if (100 : Int) < l.length then 2 else spF none l
theorem withinL_sound : SpecSound Try.prog 55 (hPure false [] (F3 inB)) :=
  pureS (fn := Try.f55) good0 ⟨_, Try.func55, by kernel_rfl, rfl, by kernel_rfl⟩ false [] _ fun args r h => by
    obtain ⟨a, b, c, rfl, rfl⟩ := F3_inv h
    exact ⟨by simp [Try.f55], _, evalPure_of rfl (by simp [Try.f55, inB]), up_of _⟩
noncomputable abbrev Cwl : Ctx := mkCtx Try.prog [(55, hPure false [] (F3 inB))]
@[simp] theorem quietwl_0 : QuietIn Cwl 55 := quietIn_of (by rfl) (hPure_quiet _ _)
set_option maxRecDepth 8000 in
theorem checkSpans_eval (l : List Sp) : evalPure Cwl Try.f20 [.sl 2 (l.map encS)] = some (int (spFault l)) := by
  refine evalPure_of rfl ?_
  rw [spFault]
  by_cases c2 : (100 : Int) < l.length
  · simp [c2, Try.f20]
  simp [c2]
  refine EvC_for (fun k σ hp nx => σ 0 = .sl 2 (l.map encS) ∧ σ 8 = .sl 2 (l.map encS) ∧ σ 9 = int l.length ∧ σ 10 = int k ∧ spF none l = spF (prevS l k) (l.drop k)) l.length
    ⟨by simp, by simp, by simp, by simp, by simp [prevS]⟩ ?_
  rintro k σ hp nx hk ⟨h0, h8, h9, h10, hf⟩
  by_cases hlt : k < l.length
  · have hw : IntKind.i64.wrap ((k : Int) + 1) = (k : Int) + 1 := wrap_fit (by omega) (by omega)
    have en : (!inB l[k].1 0 99999 || decide ((100000 : Int) < l[k].2)) = spR l[k] := rfl
    rw [spF_drop hlt] at hf
    cases d1 : spR l[k]
    case true =>
      rw [d1] at en hf
      simp [h0, h8, h9, h10, hlt, en, hf, Try.f20]
    rw [d1] at en
    simp only [d1, Bool.false_eq_true, if_false] at hf
    have hpv : prevS l (k + 1) = some l[k].2 := by simp [prevS, hlt]
    by_cases k0 : k = 0
    · subst k0
      simp only [prevS, if_true, spO, Bool.or_false] at hf
      by_cases d2 : l[0].2 ≤ l[0].1
      · simp only [d2, decide_true, if_true] at hf
        simp [h0, h8, h9, h10, hlt, en, d2, hf, Try.f20]
      · simp only [d2, decide_false, Bool.false_eq_true, if_false] at hf
        have w1 : IntKind.i64.wrap 1 = 1 := wrap_fit (by omega) (by omega)
        simp [h0, h8, h9, h10, hlt, en, d2, w1]
        and_intros <;> first | omega | (rw [hf]; rw [hpv]; done) | (rw [hf]; rw [hpv]; simp)
    · obtain ⟨j, rfl⟩ : ∃ j, k = j + 1 := ⟨k - 1, by omega⟩
      have hj : j < l.length := by omega
      have wj : IntKind.i64.wrap ((j : Int) + 1 - 1) = (j : Int) := by rw [wrap_fit (by omega) (by omega)]; omega
      have wj' : IntKind.i64.wrap (j : Int) = (j : Int) := wrap_fit (by omega) (by omega)
      have j1 : ((j : Int) + 1).toNat = j + 1 := by omega
      have j2 : 0 < (j : Int) + 1 := by omega
      have j3 : 0 ≤ (j : Int) + 1 := by omega
      have j4 : (j : Int) + 1 < l.length := by omega
      have wk : IntKind.i64.wrap ((j : Int) + 1 + 1) = (j : Int) + 1 + 1 := wrap_fit (by omega) (by omega)
      have hpj : prevS l (j + 1) = some l[j].2 := by simp [prevS, hj]
      have eo : (decide (l[j + 1].2 ≤ l[j + 1].1) || decide (l[j + 1].1 ≤ l[j].2)) = spO (some l[j].2) l[j + 1] := rfl
      rw [hpj] at hf
      cases d2 : spO (some l[j].2) l[j + 1]
      · rw [d2] at eo
        simp only [d2, Bool.false_eq_true, if_false] at hf
        simp [h0, h8, h9, h10, hlt, hj, en, wj, wj', j1, j2, j3, j4, eo, wk]
        and_intros <;> first | omega | (rw [hf]; rw [hpv])
      · rw [d2] at eo
        simp only [d2, if_true] at hf
        simp [h0, h8, h9, h10, hlt, hj, en, wj, wj', j1, j2, j3, j4, eo, hf, Try.f20]
  · obtain rfl : k = l.length := by omega
    rw [List.drop_length] at hf
    have hf : spF none l = 0 := by rw [hf]; rfl
    simp [h0, h8, h9, h10, hf, Try.f20]
theorem rspR (s : Sp) : (decide (s.1 < 0) || decide ((100000 : Int) ≤ s.1) || decide ((100000 : Int) < s.2)) = spR s := by
  unfold spR inB
  by_cases h1 : s.1 < 0 <;> by_cases h2 : (100000 : Int) ≤ s.1 <;> simp [h1, h2] <;> omega
set_option maxRecDepth 8000 in
theorem rcheckSpans_eval (l : List Sp) : evalPure C0 Try.f21 [.sl 2 (l.map encS)] = some (int (spFault l)) := by
  refine evalPure_of rfl ?_
  rw [spFault]
  by_cases c2 : (100 : Int) < l.length
  · simp [c2, Try.f21]
  simp [c2]
  refine EvC_for (fun k σ hp nx => σ 0 = .sl 2 (l.map encS) ∧ σ 8 = .sl 2 (l.map encS) ∧ σ 9 = int l.length ∧ σ 10 = int k ∧ spF none l = spF (prevS l k) (l.drop k)) l.length
    ⟨by simp, by simp, by simp, by simp, by simp [prevS]⟩ ?_
  rintro k σ hp nx hk ⟨h0, h8, h9, h10, hf⟩
  by_cases hlt : k < l.length
  · have hw : IntKind.i64.wrap ((k : Int) + 1) = (k : Int) + 1 := wrap_fit (by omega) (by omega)
    have en : (decide (l[k].1 < 0) || decide ((100000 : Int) ≤ l[k].1) || decide ((100000 : Int) < l[k].2)) = spR l[k] := rspR l[k]
    rw [spF_drop hlt] at hf
    cases d1 : spR l[k]
    case true =>
      rw [d1] at en hf
      simp [h0, h8, h9, h10, hlt, en, hf, Try.f21]
    rw [d1] at en
    simp only [d1, Bool.false_eq_true, if_false] at hf
    have hpv : prevS l (k + 1) = some l[k].2 := by simp [prevS, hlt]
    by_cases k0 : k = 0
    · subst k0
      simp only [prevS, if_true, spO, Bool.or_false] at hf
      by_cases d2 : l[0].2 ≤ l[0].1
      · simp only [d2, decide_true, if_true] at hf
        simp [h0, h8, h9, h10, hlt, en, d2, hf, Try.f21]
      · simp only [d2, decide_false, Bool.false_eq_true, if_false] at hf
        have w1 : IntKind.i64.wrap 1 = 1 := wrap_fit (by omega) (by omega)
        simp [h0, h8, h9, h10, hlt, en, d2, w1]
        and_intros <;> first | omega | (rw [hf]; rw [hpv]; done) | (rw [hf]; rw [hpv]; simp)
    · obtain ⟨j, rfl⟩ : ∃ j, k = j + 1 := ⟨k - 1, by omega⟩
      have hj : j < l.length := by omega
      have wj : IntKind.i64.wrap ((j : Int) + 1 - 1) = (j : Int) := by rw [wrap_fit (by omega) (by omega)]; omega
      have wj' : IntKind.i64.wrap (j : Int) = (j : Int) := wrap_fit (by omega) (by omega)
      have j1 : ((j : Int) + 1).toNat = j + 1 := by omega
      have j2 : 0 < (j : Int) + 1 := by omega
      have j3 : 0 ≤ (j : Int) + 1 := by omega
      have j4 : (j : Int) + 1 < l.length := by omega
      have wk : IntKind.i64.wrap ((j : Int) + 1 + 1) = (j : Int) + 1 + 1 := wrap_fit (by omega) (by omega)
      have hpj : prevS l (j + 1) = some l[j].2 := by simp [prevS, hj]
      have eo : (decide (l[j + 1].2 ≤ l[j + 1].1) || decide (l[j + 1].1 ≤ l[j].2)) = spO (some l[j].2) l[j + 1] := rfl
      rw [hpj] at hf
      cases d2 : spO (some l[j].2) l[j + 1]
      · rw [d2] at eo
        simp only [d2, Bool.false_eq_true, if_false] at hf
        simp [h0, h8, h9, h10, hlt, hj, en, wj, wj', j1, j2, j3, j4, eo, wk]
        and_intros <;> first | omega | (rw [hf]; rw [hpv])
      · rw [d2] at eo
        simp only [d2, if_true] at hf
        simp [h0, h8, h9, h10, hlt, hj, en, wj, wj', j1, j2, j3, j4, eo, hf, Try.f21]
  · obtain rfl : k = l.length := by omega
    rw [List.drop_length] at hf
    have hf : spF none l = 0 := by rw [hf]; rfl
    simp [h0, h8, h9, h10, hf, Try.f21]

/-- A function of spans. -/
noncomputable def FP (out : List Sp → PV) (pre : List Sp → Prop) : List PV → Option PV := specOf (α := List Sp) (fun l => [.sl 2 (l.map encS)]) pre out
theorem FP_call (out : List Sp → PV) (pre : List Sp → Prop) (l : List Sp) (hp : Hp) (nx : Nat) (h : pre l) : hPure false [] (FP out pre) [.sl 2 (l.map encS)] hp nx = some (out l, hp, nx) :=
  hPure_v rfl (specOf_eq (enc := fun l : List Sp => [PV.sl 2 (l.map encS)]) (a := l) (fun a b e => by simp only [List.cons.injEq, and_true] at e; exact spans_inj e) h) (.inr rfl)
theorem checkSpans_sound : SpecSound Try.prog 20 (hPure false [] (FP (fun l => int (spFault l)) fun _ => True)) :=
  pureS (fn := Try.f20) (good_of (q := [55]) mixed ⟨withinL_sound, fun _ => hPure_quiet _ _, trivial⟩ : AM.Good Cwl _) ⟨_, Try.func20, by kernel_rfl, rfl, by kernel_rfl⟩ false [] _ fun args r h => by
    obtain ⟨l, rfl, _, rfl⟩ := specOf_inv h
    exact ⟨Nat.le_trans (Nat.le_refl 1) (by decide), _, checkSpans_eval l, up_of _⟩
theorem rcheckSpans_sound : SpecSound Try.prog 21 (hPure false [] (FP (fun l => int (spFault l)) fun _ => True)) :=
  pureS (fn := Try.f21) good0 ⟨_, Try.func21, by kernel_rfl, rfl, by kernel_rfl⟩ false [] _ fun args r h => by
    obtain ⟨l, rfl, _, rfl⟩ := specOf_inv h
    exact ⟨Nat.le_trans (Nat.le_refl 1) (by decide), _, rcheckSpans_eval l, up_of _⟩
/-- What spans that are right are. -/
theorem spF_right : ∀ {l : List Sp} {p : Option Int}, spF p l = 0 → Canon (p.getD (-1)) l ∧ Below 100000 l ∧ ∀ s ∈ l, 0 ≤ s.1
  | [], _, _ => ⟨trivial, fun s hs => absurd hs (by simp), fun s hs => absurd hs (by simp)⟩
  | s :: l, p, h => by
    simp only [spF] at h
    split at h
    · cases h
    split at h
    · cases h
    rename_i h1 h2
    obtain ⟨g1, g2, g3⟩ := spF_right h
    simp only [spR, inB, Bool.or_eq_true, Bool.not_eq_true', Bool.and_eq_false_iff, decide_eq_false_iff_not, decide_eq_true_eq, not_or] at h1
    simp only [spO, Bool.or_eq_true, decide_eq_true_eq, not_or] at h2
    refine ⟨⟨?_, by omega, g1⟩, fun x hx => ?_, fun x hx => ?_⟩
    · cases p with
      | none => show -1 < s.1; omega
      | some q => have := h2.2; simp at this; exact this
    · rcases List.mem_cons.1 hx with rfl | hx
      · omega
      · exact g2 x hx
    · rcases List.mem_cons.1 hx with rfl | hx
      · omega
      · exact g3 x hx
theorem spFault_right {l : List Sp} (h : spFault l = 0) : Canon (-1) l ∧ Below 100000 l ∧ (∀ s ∈ l, 0 ≤ s.1) ∧ l.length ≤ 100 := by
  unfold spFault at h
  split at h
  · cases h
  · obtain ⟨g1, g2, g3⟩ := spF_right h
    exact ⟨g1, g2, g3, by omega⟩
end Go.Proofs.Ytphmgjcjcdodhaa
