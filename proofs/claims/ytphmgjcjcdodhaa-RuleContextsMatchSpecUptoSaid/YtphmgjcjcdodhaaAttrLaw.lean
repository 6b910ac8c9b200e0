/-
  The plain law of attributes: in a right context the binary search finds what the reference finds.
-/
import Derived.Test.YtphmgjcjcdodhaaAttr
namespace Go.Proofs.Ytphmgjcjcdodhaa
open Go.RowKit Go.AM

theorem u8_tri (a b : UInt8) : a < b ∨ a = b ∨ b < a := by
  rcases Nat.lt_trichotomy a.toNat b.toNat with h | h | h
  · exact .inl (UInt8.lt_iff_toNat_lt.2 h)
  · exact .inr (.inl (UInt8.toNat_inj.1 h))
  · exact .inr (.inr (UInt8.lt_iff_toNat_lt.2 h))
theorem u8_irr (a : UInt8) : ¬ a < a := fun h => Nat.lt_irrefl _ (UInt8.lt_iff_toNat_lt.1 h)
theorem u8_asymm {a b : UInt8} (h : a < b) : ¬ b < a := fun h' => Nat.lt_asymm (UInt8.lt_iff_toNat_lt.1 h) (UInt8.lt_iff_toNat_lt.1 h')
theorem u8_trans {a b c : UInt8} (h : a < b) (h' : b < c) : a < c := UInt8.lt_iff_toNat_lt.2 (Nat.lt_trans (UInt8.lt_iff_toNat_lt.1 h) (UInt8.lt_iff_toNat_lt.1 h'))
theorem cmpB_lt : ∀ a b : List UInt8, cmpB a b < 0 ↔ Op.bytesLess a b = true
  | [], [] => by simp [cmpB, Lib.compareBytes, Op.bytesLess]
  | [], _ :: _ => by simp [cmpB, Lib.compareBytes, Op.bytesLess]
  | _ :: _, [] => by simp [cmpB, Lib.compareBytes, Op.bytesLess]
  | a :: x, b :: y => by
    have ih := cmpB_lt x y
    unfold cmpB at ih ⊢
    rcases u8_tri a b with h | rfl | h
    · simp [Lib.compareBytes, Op.bytesLess, h]
    · simp [Lib.compareBytes, Op.bytesLess, u8_irr, ih]
    · have hne : ¬ a = b := fun e => u8_irr b (e ▸ h)
      simp [Lib.compareBytes, Op.bytesLess, h, u8_asymm h, hne]
theorem cmpB_zero : ∀ a b : List UInt8, cmpB a b = 0 ↔ a = b
  | [], [] => by simp [cmpB, Lib.compareBytes]
  | [], _ :: _ => by simp [cmpB, Lib.compareBytes]
  | _ :: _, [] => by simp [cmpB, Lib.compareBytes]
  | a :: x, b :: y => by
    have ih := cmpB_zero x y
    unfold cmpB at ih ⊢
    rcases u8_tri a b with h | rfl | h
    · have hne : ¬ a = b := fun e => u8_irr b (e ▸ h)
      simp [Lib.compareBytes, h, hne]
    · simp [Lib.compareBytes, u8_irr, ih]
    · have hne : ¬ a = b := fun e => u8_irr b (e ▸ h)
      simp [Lib.compareBytes, h, u8_asymm h, hne]
theorem less_trans : ∀ {a b c : List UInt8}, Op.bytesLess a b = true → Op.bytesLess b c = true → Op.bytesLess a c = true
  | _, [], _, h, _ => by simp [Op.bytesLess] at h
  | _, _ :: _, [], _, h => by simp [Op.bytesLess] at h
  | [], _ :: _, _ :: _, _, _ => by simp [Op.bytesLess]
  | a :: x, b :: y, c :: z, h1, h2 => by
    simp only [Op.bytesLess, Bool.or_eq_true, decide_eq_true_eq, Bool.and_eq_true, beq_iff_eq] at h1 h2 ⊢
    rcases h1 with h1 | ⟨rfl, h1⟩
    · rcases h2 with h2 | ⟨rfl, h2⟩
      · exact .inl (u8_trans h1 h2)
      · exact .inl h1
    · rcases h2 with h2 | ⟨rfl, h2⟩
      · exact .inl h2
      · exact .inr ⟨rfl, less_trans h1 h2⟩
theorem less_of_not_le : ∀ {a b : List UInt8}, leB a b = false → Op.bytesLess b a = true
  | [], [], h => by simp [leB] at h
  | [], _ :: _, h => by simp [leB, Op.bytesLess] at h
  | _ :: _, [], _ => by simp [Op.bytesLess]
  | a :: x, b :: y, h => by
    simp only [leB, Op.bytesLess, Bool.or_eq_false_iff, decide_eq_false_iff_not, Bool.and_eq_false_iff, beq_eq_false_iff_ne] at h
    obtain ⟨⟨h1, h2⟩, h3⟩ := h
    simp only [Op.bytesLess, Bool.or_eq_true, decide_eq_true_eq, Bool.and_eq_true, beq_iff_eq]
    rcases u8_tri a b with g | rfl | g
    · exact absurd g h1
    · refine .inr ⟨rfl, less_of_not_le ?_⟩
      rcases h2 with h2 | h2
      · exact absurd rfl h2
      · have : ¬ x = y := fun e => h3 (by rw [e])
        simp [leB, h2, this]
    · exact .inl g
/-- Names that go up. -/
def Up : List (List UInt8 × Val) → Prop
  | [] => True
  | a :: l => (∀ b ∈ l, Op.bytesLess a.1 b.1 = true) ∧ Up l
theorem attrsF_up : ∀ (l : List (List UInt8 × Val)) (p : Option (List UInt8)), (∀ b ∈ l, b.2.check = 0 → True) → attrsF p l = 0 → Up l ∧ ∀ q, p = some q → ∀ b ∈ l, Op.bytesLess q b.1 = true
  | [], _, _, _ => ⟨trivial, fun _ _ _ h => by cases h⟩
  | (a, v) :: l, p, hh, h => by
    simp only [attrsF] at h
    split at h
    · cases h
    split at h
    · cases h
    rename_i h2
    split at h
    · split at h
      · cases h
      · obtain ⟨h3, h4⟩ := attrsF_up l (some a) (fun _ _ _ => trivial) h
        refine ⟨⟨fun b hb => h4 a rfl b hb, h3⟩, fun q hq b hb => ?_⟩
        subst hq
        have h5 : Op.bytesLess q a = true := less_of_not_le (by simpa [cPrev] using h2)
        rcases List.mem_cons.1 hb with rfl | hb
        · exact h5
        · exact less_trans h5 (h4 a rfl b hb)
    · rename_i hc; exact absurd h hc
theorem up_get : ∀ {l : List (List UInt8 × Val)} (_ : Up l) {i j : Nat} (_ : i < j) (hj : j < l.length), Op.bytesLess (l[i]'(by omega)).1 l[j].1 = true
  | a :: l, h, 0, j + 1, _, hj => h.1 _ (List.getElem_mem _)
  | a :: l, h, i + 1, j + 1, hij, hj => by
    simpa using up_get h.2 (i := i) (j := j) (by omega) (by simpa using hj)
/-- The search by halves finds the first that does not come before. -/
theorem bsGo_spec {f : Nat → Bool} {n m : Nat} (hm : ∀ k, k < m → f k = true) (hn : ∀ k, m ≤ k → k < n → f k = false) : ∀ {lo hi : Nat}, lo ≤ m → m ≤ hi → hi ≤ n → bsGo f lo hi = m := by
  intro lo hi
  induction lo, hi using bsGo.induct (f := f) with
  | case1 lo hi hlt hf ih =>
    intro h1 h2 h3
    rw [bsGo, dif_pos hlt, if_pos hf]
    refine ih ?_ h2 h3
    apply Nat.succ_le_of_lt
    refine Nat.lt_of_not_le fun hle => ?_
    rw [hn _ hle (by omega)] at hf
    cases hf
  | case2 lo hi hlt hf ih =>
    intro h1 h2 h3
    rw [bsGo, dif_pos hlt, if_neg hf]
    refine ih h1 ?_ (by omega)
    refine Nat.le_of_not_lt fun hle => ?_
    exact hf (hm _ hle)
  | case3 lo hi hlt => intro h1 h2 _; rw [bsGo, dif_neg hlt]; omega
theorem findL_none {s : List UInt8} : ∀ {l : List (List UInt8 × Val)}, (∀ a ∈ l, a.1 ≠ s) → findL s l = (noVal, false)
  | [], _ => rfl
  | a :: l, h => by
    have : (a.1 == s) = false := by simpa using h a (by simp)
    rw [findL, this]
    simpa using findL_none (l := l) fun b hb => h b (by simp [hb])
theorem findL_at {s : List UInt8} : ∀ {l : List (List UInt8 × Val)} {j : Nat} (hj : j < l.length), Up l → l[j].1 = s → findL s l = (l[j].2, true)
  | a :: l, 0, hj, _, h => by
    have h : a.1 = s := by simpa using h
    simp [findL, h]
  | a :: l, j + 1, hj, hu, h => by
    have h : (l[j]'(by simpa using hj)).1 = s := by simpa using h
    have hne : (a.1 == s) = false := by
      have := hu.1 _ (List.getElem_mem (l := l) (n := j) (by simpa using hj))
      rw [h] at this
      simp only [beq_eq_false_iff_ne, ne_eq]
      intro e
      rw [e, bytesLess_self] at this
      cases this
    rw [findL, hne]
    simpa using findL_at (l := l) (j := j) (by simpa using hj) hu.2 h
theorem find_eq (x : Ctxt) (s : List UInt8) (h : x.fault = 0) : x.find s = x.rfind s := by
  have hu : Up x.attrs := by
    unfold Ctxt.fault at h
    split at h
    · split at h
      · cases h
      · exact (attrsF_up x.attrs none (fun _ _ _ => trivial) h).1
    · cases h
  unfold Ctxt.find Ctxt.rfind
  cases hk : (s == keyW)
  case true => rfl
  simp only [Bool.false_eq_true, if_false]
  by_cases hex : ∃ (j : Nat) (hj : j < x.attrs.length), x.attrs[j].1 = s
  · obtain ⟨j, hj, hs⟩ := hex
    have hb : bsGo (lessAt x.attrs s) 0 x.attrs.length = j := bsGo_spec (n := x.attrs.length) (m := j) (fun k hk' => by
        have hkl : k < x.attrs.length := by omega
        have := up_get hu hk' hj
        rw [hs] at this
        simp [lessAt, hkl, (cmpB_lt _ _).2 this]) (fun k hk1 hk2 => by
        simp only [lessAt, List.getElem?_eq_getElem hk2, decide_eq_false_iff_not]
        intro hc
        have hc := (cmpB_lt _ _).1 hc
        rcases Nat.lt_or_eq_of_le hk1 with g | rfl
        · have := up_get hu g hk2
          rw [hs] at this
          have := less_trans hc this
          rw [bytesLess_self] at this
          cases this
        · rw [hs, bytesLess_self] at hc; cases hc) (by omega) (by omega) (by omega)
    rw [findL_at hj hu hs]
    have h2 : (bsOut x.attrs s) = (j, true) := by
      unfold bsOut
      rw [hb]
      simp [List.getElem?_eq_getElem hj, hs, (cmpB_zero s s).2 rfl]
    rw [h2]
    simp [List.getElem?_eq_getElem hj]
  · have hno : ∀ a ∈ x.attrs, a.1 ≠ s := fun a ha e => by
      obtain ⟨j, hj, he⟩ := List.getElem_of_mem ha
      exact hex ⟨j, hj, by rw [he, e]⟩
    rw [findL_none hno]
    have h2 : (bsOut x.attrs s).2 = false := by
      unfold bsOut
      simp only
      split
      · rename_i y hy
        have := hno y (List.mem_of_getElem? hy)
        simp only [beq_eq_false_iff_ne, ne_eq]
        intro e
        exact this ((cmpB_zero _ _).1 e)
      · rfl
    split
    · rw [h2]; rfl
    · rfl
end Go.Proofs.Ytphmgjcjcdodhaa
