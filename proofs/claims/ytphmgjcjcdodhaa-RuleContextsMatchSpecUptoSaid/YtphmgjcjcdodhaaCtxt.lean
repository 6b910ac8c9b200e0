/-
  Contexts: CheckContext of the program and of the reference.
-/
import Derived.Test.YtphmgjcjcdodhaaCmp
import Derived.Test.YtphmgjcjcdodhaaCopy
namespace Go.Proofs.Ytphmgjcjcdodhaa
open Go.RowKit Go.AM

structure Ctxt where
  key : List UInt8
  attrs : List (List UInt8 × Val)
def Ctxt.enc (x : Ctxt) : List PV := [str x.key, .sl 6 (x.attrs.map encF)]
def Ctxt.cb (x : Ctxt) : Nat := x.key.length + fbs x.attrs
theorem cb_eq (x : Ctxt) : x.cb = x.key.length + fbs x.attrs := rfl
theorem encF_inj {a b : List UInt8 × Val} (h : encF a = encF b) : a = b := by
  simp only [encF, List.cons.injEq] at h
  exact Prod.ext (str_inj h.1) (enc_inj h.2)
theorem ctxt_inj {a b : Ctxt} (h : a.enc = b.enc) : a = b := by
  obtain ⟨k, l⟩ := a; obtain ⟨k', l'⟩ := b
  simp only [Ctxt.enc, List.cons.injEq, and_true] at h
  obtain ⟨h1, h2⟩ := h
  injection h2 with _ h2
  rw [str_inj h1, map_inj (fun _ _ => encF_inj) h2]
def cAttr (a : List UInt8) : Bool := !isNameB a || a == [107, 101, 121]
def attrsF : Option (List UInt8) → List (List UInt8 × Val) → Int
  | _, [] => 0
  | p, (a, v) :: l => if cAttr a then 5 else if cPrev p a then 8 else if v.check = 0 then (if v.kind = 0 then 6 else attrsF (some a) l) else v.check
theorem attrsF_drop {l : List (List UInt8 × Val)} {k : Nat} (h : k < l.length) (p : Option (List UInt8)) : attrsF p (l.drop k) = if cAttr l[k].1 then 5 else if cPrev p l[k].1 then 8 else if l[k].2.check = 0 then (if l[k].2.kind = 0 then 6 else attrsF (some l[k].1) (l.drop (k + 1))) else l[k].2.check := by
  rw [List.drop_eq_getElem_cons h, attrsF]
def Ctxt.fault (x : Ctxt) : Int := if isKeyB x.key then (if (50 : Int) < x.attrs.length then 2 else attrsF none x.attrs) else 3
/-- A function of a context. -/
noncomputable def FX (out : Ctxt → PV) : List PV → Option PV := specOf (α := Ctxt) (fun x => [.agg x.enc]) (fun x => x.cb ≤ lim) out
theorem freeze_ctxt (hp : Hp) (x : Ctxt) : freezeVal hp (.agg x.enc) = some (.agg x.enc, hp) := by simp [Ctxt.enc]
theorem noOwn_ctxt (x : Ctxt) : PV.noOwn (.agg x.enc) = true := by simp [Ctxt.enc]
theorem FX_call (out : Ctxt → PV) (x : Ctxt) (hp : Hp) (nx : Nat) (h : x.cb ≤ lim) : hPure false [] (FX out) [.agg x.enc] hp nx = some (out x, hp, nx) :=
  hPure_v (hp1 := hp) (show freezeVals hp [.agg x.enc] = some ([.agg x.enc], hp) by simp only [freezeVals, freeze_ctxt])
    (specOf_eq (enc := fun x : Ctxt => [PV.agg x.enc]) (a := x) (fun a b e => by simp only [List.cons.injEq, and_true, PV.agg.injEq] at e; exact ctxt_inj e) h) (.inr (by simp only [List.all_cons, noOwn_ctxt, List.all_nil, Bool.and_self]))
noncomputable abbrev Ccc : Ctx := mkCtx Try.prog [(41, hPure false [] (FS isKeyB)), (36, hPure false [] (FS isNameB)), (42, GV fun v => int v.check)]
noncomputable abbrev Crx : Ctx := mkCtx Try.prog [(43, hPure false [] (FS isKeyB)), (39, hPure false [] (FS isNameB)), (44, GV fun v => int v.check)]
set_option maxRecDepth 8000 in
theorem checkCtx_eval (x : Ctxt) (h : x.cb ≤ lim) : evalPure Ccc Try.f11 [.agg x.enc] = some (int x.fault) := by
  have hcb := cb_eq x
  have hl2 := fbs_length x.attrs
  have hkl : x.key.length ≤ lim := by omega
  unfold lim at h
  refine evalPure_of rfl ?_
  rw [Ctxt.fault]
  cases c1 : isKeyB x.key
  · simp [Ctxt.enc, hkl, c1, Try.f11]
  by_cases c2 : (50 : Int) < x.attrs.length
  · simp [Ctxt.enc, hkl, c1, c2, Try.f11]
  simp [Ctxt.enc, hkl, c1, c2]
  refine EvC_for (fun k σ hp nx => σ 1 = .ref 0 0 0 ∧ σ 15 = .sl 6 (x.attrs.map encF) ∧ σ 16 = int x.attrs.length ∧ σ 17 = int k ∧ 1 ≤ nx ∧ hp 0 = some ⟨24, 2, false, [[str x.key, .sl 6 (x.attrs.map encF)]]⟩ ∧ attrsF none x.attrs = attrsF (prevOf x.attrs k) (x.attrs.drop k)) x.attrs.length
    ⟨by simp, by simp, by simp, by simp, by simp, by simp, by simp [prevOf]⟩ ?_
  rintro k σ hp nx hk ⟨h1, h83, h84, h85, hnx, b0, hf⟩
  have n0 : ¬ 0 = nx := by omega
  by_cases hlt : k < x.attrs.length
  · have hm := fbs_mem (List.getElem_mem hlt)
    have hw : IntKind.i64.wrap ((k : Int) + 1) = (k : Int) + 1 := wrap_fit (by omega) (by omega)
    have hnl : x.attrs[k].1.length ≤ lim := by unfold lim; omega
    have hcall := fun hp nx => GV_call (fun v => int v.check) x.attrs[k].2 hp nx (by unfold lim; omega)
    have en : (!isNameB x.attrs[k].1 || x.attrs[k].1 == [107, 101, 121]) = cAttr x.attrs[k].1 := rfl
    rw [attrsF_drop hlt] at hf
    cases d1 : cAttr x.attrs[k].1
    case true => simp [h1, h83, h84, h85, hlt, hnl, en, d1, hf, Try.f11]
    have hpv : prevOf x.attrs (k + 1) = some x.attrs[k].1 := by simp [prevOf, hlt]
    simp only [d1, Bool.false_eq_true, if_false] at hf
    by_cases k0 : k = 0
    · subst k0
      simp only [prevOf, cPrev, if_true, Bool.false_eq_true, if_false] at hf
      by_cases hz : x.attrs[0].2.check = 0
      · rw [if_pos hz] at hf
        by_cases hkd : x.attrs[0].2.kind = 0
        · rw [if_pos hkd] at hf
          simp [h1, h83, h84, h85, hlt, hnl, en, d1, hcall, hz, hkd, hf, Try.f11]
        · rw [if_neg hkd] at hf
          have hkb : (x.attrs[0].2.kind == 0) = false := by simpa using hkd
          have w1 : IntKind.i64.wrap 1 = 1 := wrap_fit (by omega) (by omega)
          simp [h1, h83, h84, h85, hlt, hnl, en, d1, hcall, hz, hkb, w1]
          and_intros <;> first | omega | (rw [hf]; rw [hpv]; simp; done) | simp [n0, b0]
      · rw [if_neg hz] at hf
        have hz2 : (x.attrs[0].2.check != 0) = true := by simpa using hz
        simp [h1, h83, h84, h85, hlt, hnl, en, d1, hcall, hz2, hf, Try.f11]
    · obtain ⟨j, rfl⟩ : ∃ j, k = j + 1 := ⟨k - 1, by omega⟩
      have hj : j < x.attrs.length := by omega
      have wj : IntKind.i64.wrap ((j : Int) + 1 - 1) = (j : Int) := by rw [wrap_fit (by omega) (by omega)]; omega
      have wj' : IntKind.i64.wrap (j : Int) = (j : Int) := wrap_fit (by omega) (by omega)
      have j1 : ((j : Int) + 1).toNat = j + 1 := by omega
      have j2 : 0 < (j : Int) + 1 := by omega
      have j3 : 0 ≤ (j : Int) + 1 := by omega
      have j4 : (j : Int) + 1 < x.attrs.length := by omega
      have wk : IntKind.i64.wrap ((j : Int) + 1 + 1) = (j : Int) + 1 + 1 := wrap_fit (by omega) (by omega)
      have el : (Op.bytesLess x.attrs[j + 1].1 x.attrs[j].1 || x.attrs[j + 1].1 == x.attrs[j].1) = leB x.attrs[j + 1].1 x.attrs[j].1 := rfl
      have hpj : prevOf x.attrs (j + 1) = some x.attrs[j].1 := by simp [prevOf, hj]
      simp only [hpj, cPrev] at hf
      cases d2 : leB x.attrs[j + 1].1 x.attrs[j].1
      case true =>
        simp only [d2, if_true] at hf
        simp [h1, h83, h84, h85, hlt, hj, hnl, en, d1, hcall, b0, n0, wj, wj', j1, j2, j3, j4, el, d2, hf, Try.f11]
      simp only [d2, Bool.false_eq_true, if_false] at hf
      by_cases hz : x.attrs[j + 1].2.check = 0
      · rw [if_pos hz] at hf
        by_cases hkd : x.attrs[j + 1].2.kind = 0
        · rw [if_pos hkd] at hf
          simp [h1, h83, h84, h85, hlt, hj, hnl, en, d1, hcall, b0, n0, wj, wj', j1, j2, j3, j4, el, d2, hz, hkd, hf, Try.f11]
        · rw [if_neg hkd] at hf
          have hkb : (x.attrs[j + 1].2.kind == 0) = false := by simpa using hkd
          simp [h1, h83, h84, h85, hlt, hj, hnl, en, d1, hcall, b0, n0, wj, wj', j1, j2, j3, j4, el, d2, hz, hkb, wk]
          and_intros <;> first | omega | (rw [hf]; rw [hpv]) | simp [n0, b0]
      · rw [if_neg hz] at hf
        have hz2 : (x.attrs[j + 1].2.check != 0) = true := by simpa using hz
        simp [h1, h83, h84, h85, hlt, hj, hnl, en, d1, hcall, b0, n0, wj, wj', j1, j2, j3, j4, el, d2, hz2, hf, Try.f11]
  · obtain rfl : k = x.attrs.length := by omega
    rw [List.drop_length] at hf
    have hf : attrsF none x.attrs = 0 := by rw [hf]; rfl
    simp [h1, h83, h84, h85, hf, Try.f11]
set_option maxRecDepth 8000 in
theorem rcheckCtx_eval (x : Ctxt) (h : x.cb ≤ lim) : evalPure Crx Try.f12 [.agg x.enc] = some (int x.fault) := by
  have hcb := cb_eq x
  have hl2 := fbs_length x.attrs
  have hkl : x.key.length ≤ lim := by omega
  unfold lim at h
  refine evalPure_of rfl ?_
  rw [Ctxt.fault]
  cases c1 : isKeyB x.key
  · simp [Ctxt.enc, hkl, c1, Try.f12]
  by_cases c2 : (50 : Int) < x.attrs.length
  · simp [Ctxt.enc, hkl, c1, c2, Try.f12]
  simp [Ctxt.enc, hkl, c1, c2]
  refine EvC_for (fun k σ hp nx => σ 1 = .ref 0 0 0 ∧ σ 17 = .sl 6 (x.attrs.map encF) ∧ σ 18 = int x.attrs.length ∧ σ 19 = int k ∧ 1 ≤ nx ∧ hp 0 = some ⟨24, 2, false, [[str x.key, .sl 6 (x.attrs.map encF)]]⟩ ∧ attrsF none x.attrs = attrsF (prevOf x.attrs k) (x.attrs.drop k)) x.attrs.length
    ⟨by simp, by simp, by simp, by simp, by simp, by simp, by simp [prevOf]⟩ ?_
  rintro k σ hp nx hk ⟨h1, h83, h84, h85, hnx, b0, hf⟩
  have n0 : ¬ 0 = nx := by omega
  by_cases hlt : k < x.attrs.length
  · have hm := fbs_mem (List.getElem_mem hlt)
    have hw : IntKind.i64.wrap ((k : Int) + 1) = (k : Int) + 1 := wrap_fit (by omega) (by omega)
    have hnl : x.attrs[k].1.length ≤ lim := by unfold lim; omega
    have hcall := fun hp nx => GV_call (fun v => int v.check) x.attrs[k].2 hp nx (by unfold lim; omega)
    have en : (!isNameB x.attrs[k].1 || x.attrs[k].1 == [107, 101, 121]) = cAttr x.attrs[k].1 := rfl
    rw [attrsF_drop hlt] at hf
    cases d1 : cAttr x.attrs[k].1
    case true => simp [h1, h83, h84, h85, hlt, hnl, en, d1, hf, Try.f12]
    have hpv : prevOf x.attrs (k + 1) = some x.attrs[k].1 := by simp [prevOf, hlt]
    simp only [d1, Bool.false_eq_true, if_false] at hf
    by_cases k0 : k = 0
    · subst k0
      simp only [prevOf, cPrev, if_true, Bool.false_eq_true, if_false] at hf
      by_cases hz : x.attrs[0].2.check = 0
      · rw [if_pos hz] at hf
        by_cases hkd : x.attrs[0].2.kind = 0
        · rw [if_pos hkd] at hf
          simp [h1, h83, h84, h85, hlt, hnl, en, d1, hcall, hz, hkd, hf, Try.f12]
        · rw [if_neg hkd] at hf
          have hkb : (x.attrs[0].2.kind == 0) = false := by simpa using hkd
          have w1 : IntKind.i64.wrap 1 = 1 := wrap_fit (by omega) (by omega)
          simp [h1, h83, h84, h85, hlt, hnl, en, d1, hcall, hz, hkb, w1]
          and_intros <;> first | omega | (rw [hf]; rw [hpv]; simp; done) | simp [n0, b0]
      · rw [if_neg hz] at hf
        have hz2 : (x.attrs[0].2.check != 0) = true := by simpa using hz
        simp [h1, h83, h84, h85, hlt, hnl, en, d1, hcall, hz2, hf, Try.f12]
    · obtain ⟨j, rfl⟩ : ∃ j, k = j + 1 := ⟨k - 1, by omega⟩
      have hj : j < x.attrs.length := by omega
      have wj : IntKind.i64.wrap ((j : Int) + 1 - 1) = (j : Int) := by rw [wrap_fit (by omega) (by omega)]; omega
      have wj' : IntKind.i64.wrap (j : Int) = (j : Int) := wrap_fit (by omega) (by omega)
      have j1 : ((j : Int) + 1).toNat = j + 1 := by omega
      have j2 : 0 < (j : Int) + 1 := by omega
      have j3 : 0 ≤ (j : Int) + 1 := by omega
      have j4 : (j : Int) + 1 < x.attrs.length := by omega
      have wk : IntKind.i64.wrap ((j : Int) + 1 + 1) = (j : Int) + 1 + 1 := wrap_fit (by omega) (by omega)
      have el : (Op.bytesLess x.attrs[j + 1].1 x.attrs[j].1 || x.attrs[j + 1].1 == x.attrs[j].1) = leB x.attrs[j + 1].1 x.attrs[j].1 := rfl
      have hpj : prevOf x.attrs (j + 1) = some x.attrs[j].1 := by simp [prevOf, hj]
      simp only [hpj, cPrev] at hf
      cases d2 : leB x.attrs[j + 1].1 x.attrs[j].1
      case true =>
        simp only [d2, if_true] at hf
        simp [h1, h83, h84, h85, hlt, hj, hnl, en, d1, hcall, b0, n0, wj, wj', j1, j2, j3, j4, el, d2, hf, Try.f12]
      simp only [d2, Bool.false_eq_true, if_false] at hf
      by_cases hz : x.attrs[j + 1].2.check = 0
      · rw [if_pos hz] at hf
        by_cases hkd : x.attrs[j + 1].2.kind = 0
        · rw [if_pos hkd] at hf
          simp [h1, h83, h84, h85, hlt, hj, hnl, en, d1, hcall, b0, n0, wj, wj', j1, j2, j3, j4, el, d2, hz, hkd, hf, Try.f12]
        · rw [if_neg hkd] at hf
          have hkb : (x.attrs[j + 1].2.kind == 0) = false := by simpa using hkd
          simp [h1, h83, h84, h85, hlt, hj, hnl, en, d1, hcall, b0, n0, wj, wj', j1, j2, j3, j4, el, d2, hz, hkb, wk]
          and_intros <;> first | omega | (rw [hf]; rw [hpv]) | simp [n0, b0]
      · rw [if_neg hz] at hf
        have hz2 : (x.attrs[j + 1].2.check != 0) = true := by simpa using hz
        simp [h1, h83, h84, h85, hlt, hj, hnl, en, d1, hcall, b0, n0, wj, wj', j1, j2, j3, j4, el, d2, hz2, hf, Try.f12]
  · obtain rfl : k = x.attrs.length := by omega
    rw [List.drop_length] at hf
    have hf : attrsF none x.attrs = 0 := by rw [hf]; rfl
    simp [h1, h83, h84, h85, hf, Try.f12]
set_option maxRecDepth 4000 in
theorem checkCtx_sound : SpecSound Try.prog 11 (hPure false [] (FX fun x => int x.fault)) :=
  pureS (fn := Try.f11) (good_of (q := []) mixed ⟨isKey_sound, by simp, isName_sound, by simp, check_sound, by simp, trivial⟩ : AM.Good Ccc _) ⟨_, Try.func11, by kernel_rfl, rfl, by kernel_rfl⟩ false [] _ fun args r h => by
    obtain ⟨x, rfl, hx, rfl⟩ := specOf_inv h
    exact ⟨Nat.le_trans (Nat.le_refl 1) (by decide), _, checkCtx_eval x hx, up_of _⟩
set_option maxRecDepth 4000 in
theorem rcheckCtx_sound : SpecSound Try.prog 12 (hPure false [] (FX fun x => int x.fault)) :=
  pureS (fn := Try.f12) (good_of (q := []) mixed ⟨rIsKey_sound, by simp, rIsName_sound, by simp, rcheck_sound, by simp, trivial⟩ : AM.Good Crx _) ⟨_, Try.func12, by kernel_rfl, rfl, by kernel_rfl⟩ false [] _ fun args r h => by
    obtain ⟨x, rfl, hx, rfl⟩ := specOf_inv h
    exact ⟨Nat.le_trans (Nat.le_refl 1) (by decide), _, rcheckCtx_eval x hx, up_of _⟩
end Go.Proofs.Ytphmgjcjcdodhaa
