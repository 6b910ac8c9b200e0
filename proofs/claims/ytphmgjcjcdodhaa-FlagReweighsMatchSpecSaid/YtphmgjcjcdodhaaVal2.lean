/-
  value.Check: what it computes.
-/
import Derived.Test.YtphmgjcjcdodhaaVal
namespace Go.Proofs.Ytphmgjcjcdodhaa
open Go.RowKit Go.AM

def cKind (k : Int) : Bool := decide (k < 0) || decide (5 < k)
def cSpare (k n : Int) (s : List UInt8) (i f : Nat) : Bool := n != 0 && k != 1 && k != 2 || !(s == []) && k != 3 || decide (0 < i) && k != 4 || decide (0 < f) && k != 5
def cRange1 (k n : Int) : Bool := k == 1 && n != 0 && n != 1
def cRange2 (k n : Int) : Bool := k == 2 && (decide (n ≤ -1000000000000000) || decide (1000000000000000 ≤ n))
def cMany (i f : Nat) : Bool := decide ((100 : Int) < i) || decide ((100 : Int) < f)
def cLong (s : List UInt8) : Bool := decide ((500 : Int) < s.length)
def headF (k n : Int) (s : List UInt8) (i f : Nat) : Int :=
  if cKind k then 4 else if cSpare k n s i f then 3 else if cRange1 k n || cRange2 k n then 1 else if cLong s then 2 else if bytesIn 32 126 s then (if cMany i f then 2 else 0) else 1
def leB (a b : List UInt8) : Bool := Op.bytesLess a b || a == b
def cName (a : List UInt8) : Bool := a.isEmpty || decide ((60 : Int) < a.length) || !bytesIn 32 126 a
def cPrev (prev : Option (List UInt8)) (a : List UInt8) : Bool := match prev with
  | none => false
  | some p => leB a p
mutual
/-- What is wrong with a value; 0: nothing. -/
def Val.fault : Val → Int
  | .mk k n s is fs => if headF k n s is.length fs.length = 0 then (if faultV is = 0 then faultF none fs else faultV is) else headF k n s is.length fs.length
def faultV : List Val → Int
  | [] => 0
  | v :: l => if v.fault = 0 then faultV l else v.fault
def faultF : Option (List UInt8) → List (List UInt8 × Val) → Int
  | _, [] => 0
  | prev, (a, v) :: l => if cName a then 5 else if cPrev prev a then 8 else if v.fault = 0 then faultF (some a) l else v.fault
end
theorem fault_eq (v : Val) : v.fault = if headF v.kind v.n v.s v.items.length v.fields.length = 0 then (if faultV v.items = 0 then faultF none v.fields else faultV v.items) else headF v.kind v.n v.s v.items.length v.fields.length := by cases v; rfl

theorem spare_sound : SpecSound Try.prog 104 (GV fun v => boo (cSpare v.kind v.n v.s v.items.length v.fields.length)) :=
  pureS (fn := Try.f104) good0 ⟨_, Try.func104, by kernel_rfl, rfl, by kernel_rfl⟩ false [] _ fun args r h => by
    obtain ⟨v, rfl, hv, rfl⟩ := FV_inv h
    exact ⟨by simp [Try.f104], _, evalPure_of rfl (by simp [Try.f104, cSpare]), up_of _⟩

noncomputable abbrev Ck (n : Nat) : Ctx := mkCtx Try.prog [(82, hPure false [] (FV (fun v => int v.fault) n)), (104, GV fun v => boo (cSpare v.kind v.n v.s v.items.length v.fields.length)), (105, hPure false [] (FS (bytesIn 32 126)))]
@[simp] theorem qk (n : Nat) : QuietIn (Ck n) 105 := quietIn_of (by rfl) (hPure_quiet _ _)

theorem faultV_drop {l : List Val} {k : Nat} (h : k < l.length) : faultV (l.drop k) = if l[k].fault = 0 then faultV (l.drop (k + 1)) else l[k].fault := by
  rw [List.drop_eq_getElem_cons h, faultV]
theorem faultF_drop {l : List (List UInt8 × Val)} {k : Nat} (h : k < l.length) (p : Option (List UInt8)) : faultF p (l.drop k) = if cName l[k].1 then 5 else if cPrev p l[k].1 then 8 else if l[k].2.fault = 0 then faultF (some l[k].1) (l.drop (k + 1)) else l[k].2.fault := by
  rw [List.drop_eq_getElem_cons h, faultF]
def prevOf (l : List (List UInt8 × Val)) (k : Nat) : Option (List UInt8) := if k = 0 then none else (l[k - 1]?).map (·.1)

set_option maxRecDepth 8000 in
theorem checkPart_eval (n : Nat) (v : Val) (h : v.vb ≤ lim ∧ v.vb ≤ n + 1) : evalPure (Ck n) Try.f82 [.agg v.enc] = some (int v.fault) := by
  have hvb := vb_eq v
  have hl1 := vbs_length v.items
  have hl2 := fbs_length v.fields
  obtain ⟨ha, hb⟩ := h
  unfold lim at ha
  have hf := fault_eq v
  have hsp := fun hp nx => GV_call (fun v => boo (cSpare v.kind v.n v.s v.items.length v.fields.length)) v hp nx ha
  have hsl : v.s.length ≤ lim := by unfold lim; omega
  refine evalPure_of rfl ?_
  have e1 : (decide (v.kind < 0) || decide (5 < v.kind)) = cKind v.kind := rfl
  have e2 : (v.kind == 1 && v.n != 0 && v.n != 1) = cRange1 v.kind v.n := rfl
  have e3 : (v.kind == 2 && (decide (v.n ≤ -1000000000000000) || decide (1000000000000000 ≤ v.n))) = cRange2 v.kind v.n := rfl
  have e4 : (decide ((100 : Int) < v.items.length) || decide ((100 : Int) < v.fields.length)) = cMany v.items.length v.fields.length := rfl
  have e5 : decide ((500 : Int) < v.s.length) = cLong v.s := rfl
  cases c1 : cKind v.kind
  case true => simp [e1, c1, hf, headF, Try.f82]
  cases c2 : cSpare v.kind v.n v.s v.items.length v.fields.length
  case true => simp [e1, c1, hsp, c2, hf, headF, Try.f82]
  cases c3 : cRange1 v.kind v.n
  case true => simp [e1, c1, hsp, c2, e2, c3, hf, headF, Try.f82]
  cases c4 : cRange2 v.kind v.n
  case true => simp [e1, c1, hsp, c2, e2, c3, e3, c4, hf, headF, Try.f82]
  cases c5 : cLong v.s
  case true => simp [e1, c1, hsp, c2, e2, c3, e3, c4, e5, c5, hf, headF, Try.f82]
  cases c6 : bytesIn 32 126 v.s
  case false => simp [e1, c1, hsp, c2, e2, c3, e3, c4, e5, c5, c6, hsl, hf, headF, Try.f82]
  cases c7 : cMany v.items.length v.fields.length
  case true => simp [e1, c1, hsp, c2, e2, c3, e3, c4, e5, c5, c6, hsl, e4, c7, hf, headF, Try.f82]
  have hh : headF v.kind v.n v.s v.items.length v.fields.length = 0 := by simp [headF, c1, c2, c3, c4, c5, c6, c7]
  rw [hh, if_pos rfl] at hf
  simp [e1, c1, hsp, c2, e2, c3, e3, c4, e5, c5, c6, hsl, e4, c7]
  refine EvC_for (fun k σ hp nx => σ 1 = .ref 0 0 0 ∧ σ 70 = .sl 5 (v.items.map Val.enc) ∧ σ 71 = int v.items.length ∧ σ 72 = int k ∧ 1 ≤ nx ∧ hp 0 = some ⟨28, 5, false, [v.enc]⟩ ∧ faultV v.items = faultV (v.items.drop k)) v.items.length
    ⟨by simp, by simp, by simp, by simp, by simp, by simp, by simp⟩ ?_
  rintro k σ hp nx hk ⟨h1, h70, h71, h72, hnx, b0, he⟩
  have n0 : ¬ 0 = nx := by omega
  by_cases hlt : k < v.items.length
  · have hm := vbs_mem (List.getElem_mem hlt)
    have hw : IntKind.i64.wrap ((k : Int) + 1) = (k : Int) + 1 := wrap_fit (by omega) (by omega)
    have hcall := fun hp nx => FV_call (fun v => int v.fault) n v.items[k] hp nx ⟨by unfold lim; omega, by omega⟩
    rw [faultV_drop hlt] at he
    by_cases hz : v.items[k].fault = 0
    · rw [if_pos hz] at he
      simp [h1, h70, h71, h72, hlt, hcall, hz, hw]
      and_intros <;> first | omega | exact he | simp [n0, b0]
    · rw [if_neg hz] at he
      have hz2 : (v.items[k].fault != 0) = true := by simpa using hz
      rw [he, if_neg hz] at hf
      simp [h1, h70, h71, h72, hlt, hcall, hz2, hf, Try.f82]
  · obtain rfl : k = v.items.length := by omega
    rw [List.drop_length] at he
    have he : faultV v.items = 0 := by rw [he]; rfl
    rw [he, if_pos rfl] at hf
    simp [h1, h70, h71, h72, b0]
    refine EvC_for (fun k σ hp nx => σ 1 = .ref 0 0 0 ∧ σ 83 = .sl 6 (v.fields.map encF) ∧ σ 84 = int v.fields.length ∧ σ 85 = int k ∧ 1 ≤ nx ∧ hp 0 = some ⟨28, 5, false, [v.enc]⟩ ∧ v.fault = faultF (prevOf v.fields k) (v.fields.drop k)) v.fields.length
      ⟨by simp [h1], by simp, by simp, by simp, hnx, b0, by simp [hf, prevOf]⟩ ?_
    clear h1 h70 h71 h72 hnx b0 hlt hk n0 nx hp σ hf
    rintro k σ hp nx hk ⟨h1, h83, h84, h85, hnx, b0, hf⟩
    have n0 : ¬ 0 = nx := by omega
    by_cases hlt : k < v.fields.length
    · have hm := fbs_mem (List.getElem_mem hlt)
      have hw : IntKind.i64.wrap ((k : Int) + 1) = (k : Int) + 1 := wrap_fit (by omega) (by omega)
      have hnl : v.fields[k].1.length ≤ lim := by unfold lim; omega
      have hcall := fun hp nx => FV_call (fun v => int v.fault) n v.fields[k].2 hp nx ⟨by unfold lim; omega, by omega⟩
      have en : (v.fields[k].1.isEmpty || decide ((60 : Int) < v.fields[k].1.length) || !bytesIn 32 126 v.fields[k].1) = cName v.fields[k].1 := rfl
      rw [faultF_drop hlt] at hf
      cases d1 : cName v.fields[k].1
      case true => simp [h1, h83, h84, h85, hlt, hnl, en, d1, hf, Try.f82]
      have hpv : prevOf v.fields (k + 1) = some v.fields[k].1 := by simp [prevOf, hlt]
      simp only [d1, Bool.false_eq_true, if_false] at hf
      by_cases k0 : k = 0
      · subst k0
        simp only [prevOf, cPrev, if_true, Bool.false_eq_true, if_false] at hf
        by_cases hz : v.fields[0].2.fault = 0
        · rw [if_pos hz] at hf
          have w1 : IntKind.i64.wrap 1 = 1 := wrap_fit (by omega) (by omega)
          simp [h1, h83, h84, h85, hlt, hnl, en, d1, hcall, hz, w1]
          and_intros <;> first | omega | (rw [hf]; rw [hpv]; simp; done) | simp [n0, b0]
        · rw [if_neg hz] at hf
          have hz2 : (v.fields[0].2.fault != 0) = true := by simpa using hz
          simp [h1, h83, h84, h85, hlt, hnl, en, d1, hcall, hz2, hf, Try.f82]
      · obtain ⟨j, rfl⟩ : ∃ j, k = j + 1 := ⟨k - 1, by omega⟩
        have hj : j < v.fields.length := by omega
        have wj : IntKind.i64.wrap ((j : Int) + 1 - 1) = (j : Int) := by rw [wrap_fit (by omega) (by omega)]; omega
        have wj' : IntKind.i64.wrap (j : Int) = (j : Int) := wrap_fit (by omega) (by omega)
        have j1 : ((j : Int) + 1).toNat = j + 1 := by omega
        have j2 : 0 < (j : Int) + 1 := by omega
        have j3 : 0 ≤ (j : Int) + 1 := by omega
        have j4 : (j : Int) + 1 < v.fields.length := by omega
        have wk : IntKind.i64.wrap ((j : Int) + 1 + 1) = (j : Int) + 1 + 1 := wrap_fit (by omega) (by omega)
        have el : (Op.bytesLess v.fields[j + 1].1 v.fields[j].1 || v.fields[j + 1].1 == v.fields[j].1) = leB v.fields[j + 1].1 v.fields[j].1 := rfl
        have hpj : prevOf v.fields (j + 1) = some v.fields[j].1 := by simp [prevOf, hj]
        simp only [hpj, cPrev] at hf
        cases d2 : leB v.fields[j + 1].1 v.fields[j].1
        case true =>
          simp only [d2, if_true] at hf
          simp [h1, h83, h84, h85, hlt, hj, hnl, en, d1, hcall, b0, n0, wj, wj', j1, j2, j3, j4, el, d2, hf, Try.f82]
        simp only [d2, Bool.false_eq_true, if_false] at hf
        by_cases hz : v.fields[j + 1].2.fault = 0
        · rw [if_pos hz] at hf
          simp [h1, h83, h84, h85, hlt, hj, hnl, en, d1, hcall, b0, n0, wj, wj', j1, j2, j3, j4, el, d2, hz, wk]
          and_intros <;> first | omega | (rw [hf]; rw [hpv]) | simp [n0, b0]
        · rw [if_neg hz] at hf
          have hz2 : (v.fields[j + 1].2.fault != 0) = true := by simpa using hz
          simp [h1, h83, h84, h85, hlt, hj, hnl, en, d1, hcall, b0, n0, wj, wj', j1, j2, j3, j4, el, d2, hz2, hf, Try.f82]
    · obtain rfl : k = v.fields.length := by omega
      rw [List.drop_length] at hf
      have hf : v.fault = 0 := by rw [hf]; rfl
      simp [h1, h83, h84, h85, hf, Try.f82]
set_option maxRecDepth 100000 in
theorem checkPart_sound : ∀ n, SpecSound Try.prog 82 (hPure false [] (FV (fun v => int v.fault) n)) := by
  intro n
  induction n with
  | zero => exact FV_zero ⟨_, Try.func82, by kernel_rfl, by kernel_rfl⟩
  | succ n ih =>
    have hg : AM.Good (Ck n) (fun g => [105].contains g) := good_of mixed ⟨ih, by simp, spare_sound, by simp, seen_sound, fun _ => hPure_quiet _ _, trivial⟩
    exact pureS (fn := Try.f82) hg ⟨_, Try.func82, by kernel_rfl, rfl, by kernel_rfl⟩ false [] _ fun args r h => by
      obtain ⟨v, rfl, hv, rfl⟩ := FV_inv h
      exact ⟨Nat.le_trans (Nat.le_refl 1) (by decide), _, checkPart_eval n v hv, up_of _⟩
def Val.check (v : Val) : Int := if decide ((1000 : Int) < v.parts) || decide ((8 : Int) < v.levels) then 2 else v.fault
noncomputable abbrev Cch : Ctx := mkCtx Try.prog [(82, GV fun v => int v.fault), (81, GV fun v => .tup [int v.parts, int v.levels])]
set_option maxRecDepth 4000 in
theorem check_sound : SpecSound Try.prog 42 (GV fun v => int v.check) :=
  pureS (fn := Try.f42) (good_of (q := []) mixed ⟨checkPart_sound lim, by simp, count_sound lim, by simp, trivial⟩ : AM.Good Cch _) ⟨_, Try.func42, by kernel_rfl, rfl, by kernel_rfl⟩ false [] _ fun args r h => by
    obtain ⟨v, rfl, hv, rfl⟩ := FV_inv h
    have h1 := fun hp nx => GV_call (fun v => int v.fault) v hp nx hv.1
    have h2 := fun hp nx => GV_call (fun v => .tup [int v.parts, int v.levels]) v hp nx hv.1
    refine ⟨by simp [Try.f42], _, evalPure_of rfl ?_, up_of _⟩
    cases hc : (decide ((1000 : Int) < v.parts) || decide ((8 : Int) < v.levels))
    · simp [h1, h2, hc, Try.f42, Val.check]
    · simp [h1, h2, hc, Try.f42, Val.check]
end Go.Proofs.Ytphmgjcjcdodhaa
