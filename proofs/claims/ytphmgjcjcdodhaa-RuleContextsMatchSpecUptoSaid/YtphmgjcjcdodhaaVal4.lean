/-
  The reference's Check of a value.
-/
import Derived.Test.YtphmgjcjcdodhaaVal3
namespace Go.Proofs.Ytphmgjcjcdodhaa
open Go.RowKit Go.AM

noncomputable abbrev Cra (n : Nat) : Ctx := mkCtx Try.prog [(85, hPure false [] (FV (fun v => int v.fault) n)), (107, GV fun v => int (headV v)), (108, hPure false [] (F3 inB)), (109, hPure false [] (FS (bytesIn 32 126)))]
@[simp] theorem qra1 (n : Nat) : QuietIn (Cra n) 108 := quietIn_of (by rfl) (hPure_quiet _ _)
@[simp] theorem qra2 (n : Nat) : QuietIn (Cra n) 109 := quietIn_of (by rfl) (hPure_quiet _ _)
theorem cName_ref (a : List UInt8) : (!inB a.length 1 60 || !bytesIn 32 126 a) = cName a := by
  unfold cName inB
  cases a with
  | nil => rfl
  | cons c a =>
    generalize bytesIn 32 126 (c :: a) = x
    rw [Bool.eq_iff_iff]
    cases x <;> simp <;> omega
set_option maxRecDepth 8000 in
theorem checkAll_eval (n : Nat) (v : Val) (h : v.vb ≤ lim ∧ v.vb ≤ n + 1) : evalPure (Cra n) Try.f85 [.agg v.enc] = some (int v.fault) := by
  have hvb := vb_eq v
  have hl1 := vbs_length v.items
  have hl2 := fbs_length v.fields
  obtain ⟨ha, hb⟩ := h
  have hsp := fun hp nx => GV_call (fun v => int (headV v)) v hp nx ha
  unfold lim at ha
  have hf := fault_eq v
  refine evalPure_of rfl ?_
  by_cases hh : headV v = 0
  case neg =>
    have hh2 : (headV v != 0) = true := by simpa using hh
    have hf' : v.fault = headV v := by rw [hf]; exact if_neg hh
    simp [hsp, hh2, hf', Try.f85]
  have hf : v.fault = if faultV v.items = 0 then faultF none v.fields else faultV v.items := by rw [hf]; exact if_pos hh
  simp [hsp, hh]
  refine EvC_for (fun k σ hp nx => σ 1 = .ref 0 0 0 ∧ σ 16 = .sl 5 (v.items.map Val.enc) ∧ σ 17 = int v.items.length ∧ σ 18 = int k ∧ 1 ≤ nx ∧ hp 0 = some ⟨28, 5, false, [v.enc]⟩ ∧ faultV v.items = faultV (v.items.drop k)) v.items.length
    ⟨by simp, by simp, by simp, by simp, by simp, by simp, by simp⟩ ?_
  rintro k σ hp nx hk ⟨h1, h70, h71, h72, hnx, b0, he⟩
  have n0 : ¬ 0 = nx := by omega
  by_cases hlt : k < v.items.length
  · have hm := vbs_mem (List.getElem_mem hlt)
    have hw : IntKind.i64.wrap ((k : Int) + 1) = (k : Int) + 1 := wrap_fit (by omega) (by omega)
    have hcall := fun hp nx => FV_call (fun v => int v.fault) n v.items[k] hp nx ⟨by unfold lim; omega, by omega⟩
    rw [faultV_drop hlt] at he
    by_cases hz : v.items[k].fault = 0
    · rw [if_pos hz] at he
      simp [h1, h70, h71, h72, hlt, hcall, hz, hw]
      and_intros <;> first | omega | exact he | simp [n0, b0]
    · rw [if_neg hz] at he
      have hz2 : (v.items[k].fault != 0) = true := by simpa using hz
      rw [he, if_neg hz] at hf
      simp [h1, h70, h71, h72, hlt, hcall, hz2, hf, Try.f85]
  · obtain rfl : k = v.items.length := by omega
    rw [List.drop_length] at he
    have he : faultV v.items = 0 := by rw [he]; rfl
    rw [he, if_pos rfl] at hf
    simp [h1, h70, h71, h72, b0]
    refine EvC_for (fun k σ hp nx => σ 1 = .ref 0 0 0 ∧ σ 29 = .sl 6 (v.fields.map encF) ∧ σ 30 = int v.fields.length ∧ σ 31 = int k ∧ 1 ≤ nx ∧ hp 0 = some ⟨28, 5, false, [v.enc]⟩ ∧ v.fault = faultF (prevOf v.fields k) (v.fields.drop k)) v.fields.length
      ⟨by simp [h1], by simp, by simp, by simp, hnx, b0, by simp [hf, prevOf]⟩ ?_
    clear h1 h70 h71 h72 hnx b0 hlt hk n0 nx hp σ hf
    rintro k σ hp nx hk ⟨h1, h83, h84, h85, hnx, b0, hf⟩
    have n0 : ¬ 0 = nx := by omega
    by_cases hlt : k < v.fields.length
    · have hm := fbs_mem (List.getElem_mem hlt)
      have hw : IntKind.i64.wrap ((k : Int) + 1) = (k : Int) + 1 := wrap_fit (by omega) (by omega)
      have hnl : v.fields[k].1.length ≤ lim := by unfold lim; omega
      have hcall := fun hp nx => FV_call (fun v => int v.fault) n v.fields[k].2 hp nx ⟨by unfold lim; omega, by omega⟩
      have en := cName_ref v.fields[k].1
      rw [faultF_drop hlt] at hf
      cases d1 : cName v.fields[k].1
      case true => simp [h1, h83, h84, h85, hlt, hnl, en, d1, hf, Try.f85]
      have hpv : prevOf v.fields (k + 1) = some v.fields[k].1 := by simp [prevOf, hlt]
      simp only [d1, Bool.false_eq_true, if_false] at hf
      by_cases k0 : k = 0
      · subst k0
        simp only [prevOf, cPrev, if_true, Bool.false_eq_true, if_false] at hf
        by_cases hz : v.fields[0].2.fault = 0
        · rw [if_pos hz] at hf
          have w1 : IntKind.i64.wrap 1 = 1 := wrap_fit (by omega) (by omega)
          simp [h1, h83, h84, h85, hlt, hnl, en, d1, hcall, hz, w1]
          and_intros <;> first | omega | (rw [hf]; rw [hpv]; simp; done) | simp [n0, b0]
        · rw [if_neg hz] at hf
          have hz2 : (v.fields[0].2.fault != 0) = true := by simpa using hz
          simp [h1, h83, h84, h85, hlt, hnl, en, d1, hcall, hz2, hf, Try.f85]
      · obtain ⟨j, rfl⟩ : ∃ j, k = j + 1 := ⟨k - 1, by omega⟩
        have hj : j < v.fields.length := by omega
        have wj : IntKind.i64.wrap ((j : Int) + 1 - 1) = (j : Int) := by rw [wrap_fit (by omega) (by omega)]; omega
        have wj' : IntKind.i64.wrap (j : Int) = (j : Int) := wrap_fit (by omega) (by omega)
        have j1 : ((j : Int) + 1).toNat = j + 1 := by omega
        have j2 : 0 < (j : Int) + 1 := by omega
        have j3 : 0 ≤ (j : Int) + 1 := by omega
        have j4 : (j : Int) + 1 < v.fields.length := by omega
        have wk : IntKind.i64.wrap ((j : Int) + 1 + 1) = (j : Int) + 1 + 1 := wrap_fit (by omega) (by omega)
        have el : (Op.bytesLess v.fields[j + 1].1 v.fields[j].1 || v.fields[j + 1].1 == v.fields[j].1) = leB v.fields[j + 1].1 v.fields[j].1 := rfl
        have hpj : prevOf v.fields (j + 1) = some v.fields[j].1 := by simp [prevOf, hj]
        simp only [hpj, cPrev] at hf
        cases d2 : leB v.fields[j + 1].1 v.fields[j].1
        case true =>
          simp only [d2, if_true] at hf
          simp [h1, h83, h84, h85, hlt, hj, hnl, en, d1, hcall, b0, n0, wj, wj', j1, j2, j3, j4, el, d2, hf, Try.f85]
        simp only [d2, Bool.false_eq_true, if_false] at hf
        by_cases hz : v.fields[j + 1].2.fault = 0
        · rw [if_pos hz] at hf
          simp [h1, h83, h84, h85, hlt, hj, hnl, en, d1, hcall, b0, n0, wj, wj', j1, j2, j3, j4, el, d2, hz, wk]
          and_intros <;> first | omega | (rw [hf]; rw [hpv]) | simp [n0, b0]
        · rw [if_neg hz] at hf
          have hz2 : (v.fields[j + 1].2.fault != 0) = true := by simpa using hz
          simp [h1, h83, h84, h85, hlt, hj, hnl, en, d1, hcall, b0, n0, wj, wj', j1, j2, j3, j4, el, d2, hz2, hf, Try.f85]
    · obtain rfl : k = v.fields.length := by omega
      rw [List.drop_length] at hf
      have hf : v.fault = 0 := by rw [hf]; rfl
      simp [h1, h83, h84, h85, hf, Try.f85]
set_option maxRecDepth 100000 in
theorem checkAll_sound : ∀ n, SpecSound Try.prog 85 (hPure false [] (FV (fun v => int v.fault) n)) := by
  intro n
  induction n with
  | zero => exact FV_zero ⟨_, Try.func85, by kernel_rfl, by kernel_rfl⟩
  | succ n ih =>
    have hg : AM.Good (Cra n) (fun g => [108, 109].contains g) := good_of mixed ⟨ih, by simp, rcheckPart_sound, by simp, rWithin_sound, fun _ => hPure_quiet _ _, printable_sound, fun _ => hPure_quiet _ _, trivial⟩
    exact pureS (fn := Try.f85) hg ⟨_, Try.func85, by kernel_rfl, rfl, by kernel_rfl⟩ false [] _ fun args r h => by
      obtain ⟨v, rfl, hv, rfl⟩ := FV_inv h
      exact ⟨Nat.le_trans (Nat.le_refl 1) (by decide), _, checkAll_eval n v hv, up_of _⟩
noncomputable abbrev Crch : Ctx := mkCtx Try.prog [(85, GV fun v => int v.fault), (84, hPure false [] (FV2 (fun v l => .tup [int (v.rp l).1, boo (v.rp l).2]) 1 9 lim))]
set_option maxRecDepth 4000 in
theorem rcheck_sound : SpecSound Try.prog 44 (GV fun v => int v.check) :=
  pureS (fn := Try.f44) (good_of (q := []) mixed ⟨checkAll_sound lim, by simp, rparts_sound lim, by simp, trivial⟩ : AM.Good Crch _) ⟨_, Try.func44, by kernel_rfl, rfl, by kernel_rfl⟩ false [] _ fun args r h => by
    obtain ⟨v, rfl, hv, rfl⟩ := FV_inv h
    have h1 := fun hp nx => GV_call (fun v => int v.fault) v hp nx hv.1
    have h2 := fun hp nx => FV2_call (fun v l => .tup [int (v.rp l).1, boo (v.rp l).2]) 1 9 lim v 1 hp nx ⟨hv.1, hv.1, by omega, by omega⟩
    refine ⟨by simp [Try.f44], _, evalPure_of rfl ?_, up_of _⟩
    have hl := large_eq v
    have hc0 : ((v.rp 1).2 || decide (1000 < (v.rp 1).1)) = cutB (v.rp 1) := rfl
    unfold Val.check
    rw [← hl]
    cases hc : cutB (v.rp 1)
    · simp [h1, h2, hc0, hc, Try.f44]
    · simp [h1, h2, hc0, hc, Try.f44]
end Go.Proofs.Ytphmgjcjcdodhaa
