/-
  Ranges: the checks of the program.
  Ranges: the check of weights, put.
-/
import Derived.Test.YtphmgjcjcdodhaaSpan8
import Derived.Test.YtphmgjcjcdodhaaAm26
namespace Go.Proofs.Ytphmgjcjcdodhaa
open Go.RowKit Go.AM

/-- From, to, variation. -/
abbrev Rg := Int × Int × Int
abbrev encR (r : Rg) : List PV := [int r.1, int r.2.1, int r.2.2]
theorem encR_inj {a b : Rg} (h : encR a = encR b) : a = b := by
  simp only [List.cons.injEq, and_true, PV.v.injEq, Value.int.injEq, true_and] at h
  exact Prod.ext h.1 (Prod.ext h.2.1 h.2.2)
theorem ranges_inj {a b : List Rg} (h : PV.sl 3 (a.map encR) = PV.sl 3 (b.map encR)) : a = b := by
  injection h with _ h
  exact map_inj (fun _ _ => encR_inj) h
def rgO (at_ : Int) (r : Rg) : Bool := (r.1 != at_) || decide (r.2.1 ≤ r.1)
def rgT (p : Option Int) (r : Rg) : Bool := match p with
  | none => false
  | some q => q == r.2.2
def rgF (n : Int) : Int → Option Int → List Rg → Int
  | at_, _, [] => if at_ = 100000 then 0 else 8
  | at_, p, r :: l => if inB r.2.2 0 (n - 1) then (if rgO at_ r then 8 else if (100000 : Int) < r.2.1 then 1 else if rgT p r then 7 else rgF n r.2.1 (some r.2.2) l) else 1
theorem rgF_drop {l : List Rg} {k : Nat} (h : k < l.length) (n a : Int) (p : Option Int) : rgF n a p (l.drop k) = if inB l[k].2.2 0 (n - 1) then (if rgO a l[k] then 8 else if (100000 : Int) < l[k].2.1 then 1 else if rgT p l[k] then 7 else rgF n l[k].2.1 (some l[k].2.2) (l.drop (k + 1))) else 1 := by
  rw [List.drop_eq_getElem_cons h, rgF]
def prevV (l : List Rg) (k : Nat) : Option Int := if k = 0 then none else (l[k - 1]?).map (·.2.2)
def rgFault (l : List Rg) (n : Int) : Int := if l.length = 0 then 9 else if (200 : Int) < l.length then 2 else rgF n 0 none l
theorem withinF_sound : SpecSound Try.prog 64 (hPure false [] (F3 inB)) :=
  pureS (fn := Try.f64) good0 ⟨_, Try.func64, by kernel_rfl, rfl, by kernel_rfl⟩ false [] _ fun args r h => by
    obtain ⟨a, b, c, rfl, rfl⟩ := F3_inv h
    exact ⟨by simp [Try.f64], _, evalPure_of rfl (by simp [Try.f64, inB]), up_of _⟩
noncomputable abbrev Cwf : Ctx := mkCtx Try.prog [(64, hPure false [] (F3 inB))]
@[simp] theorem quietwf_0 : QuietIn Cwf 64 := quietIn_of (by rfl) (hPure_quiet _ _)
set_option maxRecDepth 8000 in
theorem checkRanges_eval (l : List Rg) (n : Int) (hn : 1 ≤ n ∧ n ≤ 20) : evalPure Cwf Try.f61 [.sl 3 (l.map encR), int n] = some (int (rgFault l n)) := by
  refine evalPure_of rfl ?_
  have hn1 : IntKind.i64.wrap (n - 1) = n - 1 := wrap_fit (by omega) (by omega)
  rw [rgFault]
  by_cases c1 : l.length = 0
  · have : l = [] := List.length_eq_zero_iff.1 c1
    subst this
    simp [Try.f61]
  have c1' : ¬ l = [] := fun h => c1 (by rw [h]; rfl)
  have c0 : ((l.length : Int) == 0) = false := by simpa using c1'
  by_cases c2 : (200 : Int) < l.length
  · simp [c0, c1, c1', c2, Try.f61]
  simp [c0, c1, c1', c2]
  refine EvC_for (fun k σ hp nx => σ 0 = .sl 3 (l.map encR) ∧ σ 1 = int n ∧ σ 14 = .sl 3 (l.map encR) ∧ σ 15 = int l.length ∧ σ 16 = int k ∧ ∃ a : Int, σ 5 = int a ∧ rgF n 0 none l = rgF n a (prevV l k) (l.drop k)) l.length
    ⟨by simp, by simp, by simp, by simp, by simp, 0, by simp, by simp [prevV]⟩ ?_
  rintro k σ hp nx hk ⟨h0, h1, h14, h15, h16, a, h5, hf⟩
  by_cases hlt : k < l.length
  · have hw : IntKind.i64.wrap ((k : Int) + 1) = (k : Int) + 1 := wrap_fit (by omega) (by omega)
    rw [rgF_drop hlt] at hf
    cases d1 : inB l[k].2.2 0 (n - 1)
    case false =>
      rw [d1] at hf
      simp at hf
      simp [h0, h1, h5, h14, h15, h16, hlt, hn1, d1, hf, Try.f61]
    simp only [d1, if_true] at hf
    have eo : ((l[k].1 != a) || decide (l[k].2.1 ≤ l[k].1)) = rgO a l[k] := rfl
    cases d2 : rgO a l[k]
    case true =>
      rw [d2] at eo hf
      simp only [if_true] at hf
      simp [h0, h1, h5, h14, h15, h16, hlt, hn1, d1, eo, hf, Try.f61]
    rw [d2] at eo
    simp only [d2, Bool.false_eq_true, if_false] at hf
    by_cases d3 : (100000 : Int) < l[k].2.1
    · rw [if_pos d3] at hf
      simp [h0, h1, h5, h14, h15, h16, hlt, hn1, d1, eo, d3, hf, Try.f61]
    rw [if_neg d3] at hf
    have hpv : prevV l (k + 1) = some l[k].2.2 := by simp [prevV, hlt]
    by_cases k0 : k = 0
    · subst k0
      simp only [prevV, if_true, rgT, Bool.false_eq_true, if_false] at hf
      have w1 : IntKind.i64.wrap 1 = 1 := wrap_fit (by omega) (by omega)
      simp [h0, h1, h5, h14, h15, h16, hlt, hn1, d1, eo, d3, w1]
      exact ⟨hlt, by rw [hf, hpv]; simp⟩
    · obtain ⟨j, rfl⟩ : ∃ j, k = j + 1 := ⟨k - 1, by omega⟩
      have hj : j < l.length := by omega
      have wj : IntKind.i64.wrap ((j : Int) + 1 - 1) = (j : Int) := by rw [wrap_fit (by omega) (by omega)]; omega
      have wj' : IntKind.i64.wrap (j : Int) = (j : Int) := wrap_fit (by omega) (by omega)
      have j1 : ((j : Int) + 1).toNat = j + 1 := by omega
      have j2 : 0 < (j : Int) + 1 := by omega
      have j3 : 0 ≤ (j : Int) + 1 := by omega
      have j4 : (j : Int) + 1 < l.length := by omega
      have wk : IntKind.i64.wrap ((j : Int) + 1 + 1) = (j : Int) + 1 + 1 := wrap_fit (by omega) (by omega)
      have hpj : prevV l (j + 1) = some l[j].2.2 := by simp [prevV, hj]
      have et : (l[j].2.2 == l[j + 1].2.2) = rgT (some l[j].2.2) l[j + 1] := rfl
      rw [hpj] at hf
      cases d4 : rgT (some l[j].2.2) l[j + 1]
      · rw [d4] at et
        simp only [d4, Bool.false_eq_true, if_false] at hf
        simp [h0, h1, h5, h14, h15, h16, hlt, hj, hn1, d1, eo, d3, et, wj, wj', j1, j2, j3, j4, wk]
        exact ⟨by omega, by rw [hf, hpv]⟩
      · rw [d4] at et
        simp only [d4, if_true] at hf
        simp [h0, h1, h5, h14, h15, h16, hlt, hj, hn1, d1, eo, d3, et, wj, wj', j1, j2, j3, j4, hf, Try.f61]
  · obtain rfl : k = l.length := by omega
    rw [List.drop_length, rgF] at hf
    by_cases ha : a = 100000
    · rw [if_pos ha] at hf
      simp [h0, h1, h5, h14, h15, h16, ha, hf, Try.f61]
    · rw [if_neg ha] at hf
      have ha' : (a != 100000) = true := by simpa using ha
      simp [h0, h1, h5, h14, h15, h16, ha', hf, Try.f61]
/-- A function of ranges and a number. -/
noncomputable def FRN (out : List Rg → Int → PV) (pre : List Rg → Int → Prop) : List PV → Option PV := specOf (α := List Rg × Int) (fun a => [.sl 3 (a.1.map encR), int a.2]) (fun a => pre a.1 a.2) (fun a => out a.1 a.2)
theorem FRN_call (out : List Rg → Int → PV) (pre : List Rg → Int → Prop) (l : List Rg) (n : Int) (hp : Hp) (nx : Nat) (h : pre l n) : hPure false [] (FRN out pre) [.sl 3 (l.map encR), int n] hp nx = some (out l n, hp, nx) :=
  hPure_v rfl (specOf_eq (enc := fun a : List Rg × Int => [PV.sl 3 (a.1.map encR), int a.2]) (a := (l, n)) (fun a b e => by
    obtain ⟨a1, a2⟩ := a; obtain ⟨b1, b2⟩ := b
    simp only [List.cons.injEq, and_true] at e
    rw [ranges_inj e.1, pint_inj e.2]) h) (.inr rfl)
theorem checkRanges_sound : SpecSound Try.prog 61 (hPure false [] (FRN (fun l n => int (rgFault l n)) fun _ n => 1 ≤ n ∧ n ≤ 20)) :=
  pureS (fn := Try.f61) (good_of (q := [64]) mixed ⟨withinF_sound, fun _ => hPure_quiet _ _, trivial⟩ : AM.Good Cwf _) ⟨_, Try.func61, by kernel_rfl, rfl, by kernel_rfl⟩ false [] _ fun args r h => by
    obtain ⟨⟨l, n⟩, rfl, hn, rfl⟩ := specOf_inv h
    exact ⟨Nat.le_trans (Nat.le_refl 2) (by decide), _, checkRanges_eval l n hn, up_of _⟩
/-- Ranges one behind the other, from lo to hi, neighbours apart, variations below n. -/
def Chain (n : Int) : Int → Int → Option Int → List Rg → Prop
  | lo, hi, _, [] => lo = hi
  | lo, hi, p, r :: l => r.1 = lo ∧ r.1 < r.2.1 ∧ r.2.1 ≤ hi ∧ 0 ≤ r.2.2 ∧ r.2.2 < n ∧ p ≠ some r.2.2 ∧ Chain n r.2.1 hi (some r.2.2) l
theorem rgF_right : ∀ {n a : Int} {p : Option Int} {l : List Rg}, rgF n a p l = 0 → Chain n a 100000 p l
  | _, _, _, [], h => by
    unfold rgF at h
    split at h
    · assumption
    · cases h
  | n, a, p, r :: l, h => by
    unfold rgF at h
    split at h
    case isFalse => cases h
    rename_i h1
    split at h
    case isTrue => cases h
    rename_i h2
    split at h
    case isTrue => cases h
    rename_i h3
    split at h
    case isTrue => cases h
    rename_i h4
    simp only [inB, Bool.and_eq_true, decide_eq_true_eq] at h1
    simp only [rgO, Bool.or_eq_true, bne_iff_ne, ne_eq, decide_eq_true_eq, not_or, Decidable.not_not] at h2
    refine ⟨h2.1, by omega, by omega, h1.1, by omega, ?_, rgF_right h⟩
    rintro rfl
    exact h4 (by simp [rgT])
theorem rgF_of : ∀ {n a : Int} {p : Option Int} {l : List Rg}, Chain n a 100000 p l → rgF n a p l = 0
  | _, a, _, [], h => by
    have h : a = 100000 := h
    unfold rgF
    rw [if_pos h]
  | n, a, p, r :: l, h => by
    obtain ⟨h1, h2, h3, h4, h5, h6, h7⟩ := h
    have e1 : inB r.2.2 0 (n - 1) = true := by simp [inB]; omega
    have e2 : rgO a r = false := by simp [rgO, h1]; omega
    have e3 : rgT p r = false := by
      cases p with
      | none => rfl
      | some q =>
        simp only [rgT, beq_eq_false_iff_ne, ne_eq]
        rintro rfl
        exact h6 rfl
    unfold rgF
    rw [e1, e2, e3]
    simp only [if_true, Bool.false_eq_true, if_false]
    rw [if_neg (by omega)]
    exact rgF_of h7
theorem rgFault_right {l : List Rg} {n : Int} (h : rgFault l n = 0) : Chain n 0 100000 none l ∧ l.length ≤ 200 ∧ 0 < l.length := by
  unfold rgFault at h
  split at h
  · cases h
  split at h
  · cases h
  exact ⟨rgF_right h, by omega, by omega⟩
theorem rgFault_of {l : List Rg} {n : Int} (h : Chain n 0 100000 none l) (hl : l.length ≤ 200) : rgFault l n = 0 := by
  unfold rgFault
  split
  · rename_i h0
    have : l = [] := List.length_eq_zero_iff.1 h0
    subst this
    cases h
  rw [if_neg (by omega)]
  exact rgF_of h
end Go.Proofs.Ytphmgjcjcdodhaa
namespace Go.Proofs.Ytphmgjcjcdodhaa
open Go.RowKit Go.AM

abbrev encI (n : Int) : List PV := [int n]
theorem ints_inj {a b : List Int} (h : PV.sl 1 (a.map encI) = PV.sl 1 (b.map encI)) : a = b := by
  injection h with _ h
  exact map_inj (fun x y e => by simp only [List.cons.injEq, and_true] at e; exact pint_inj e) h
def wtF : Int → List Int → Int
  | s, [] => if s = 100000 then 0 else 13
  | s, n :: l => if inB n 0 100000 then wtF (s + n) l else 1
theorem wtF_drop {l : List Int} {k : Nat} (h : k < l.length) (s : Int) : wtF s (l.drop k) = if inB l[k] 0 100000 then wtF (s + l[k]) (l.drop (k + 1)) else 1 := by
  rw [List.drop_eq_getElem_cons h, wtF]
def wtFault (l : List Int) : Int := if l.length = 0 then 9 else if (20 : Int) < l.length then 2 else wtF 0 l
noncomputable def FI (out : List Int → PV) (pre : List Int → Prop) : List PV → Option PV := specOf (α := List Int) (fun l => [.sl 1 (l.map encI)]) pre out
theorem FI_call (out : List Int → PV) (pre : List Int → Prop) (l : List Int) (hp : Hp) (nx : Nat) (h : pre l) : hPure false [] (FI out pre) [.sl 1 (l.map encI)] hp nx = some (out l, hp, nx) :=
  hPure_v rfl (specOf_eq (enc := fun l : List Int => [PV.sl 1 (l.map encI)]) (a := l) (fun a b e => by simp only [List.cons.injEq, and_true] at e; exact ints_inj e) h) (.inr rfl)
set_option maxRecDepth 8000 in
theorem checkWeights_eval (l : List Int) : evalPure Cwf Try.f62 [.sl 1 (l.map encI)] = some (int (wtFault l)) := by
  refine evalPure_of rfl ?_
  rw [wtFault]
  by_cases c1 : l.length = 0
  · have : l = [] := List.length_eq_zero_iff.1 c1
    subst this
    simp [Try.f62]
  have c1' : ¬ l = [] := fun h => c1 (by rw [h]; rfl)
  have c0 : ((l.length : Int) == 0) = false := by simpa using c1'
  by_cases c2 : (20 : Int) < l.length
  · simp [c0, c1, c1', c2, Try.f62]
  simp [c0, c1, c1', c2]
  refine EvC_for (fun k σ hp nx => σ 12 = .sl 1 (l.map encI) ∧ σ 13 = int l.length ∧ σ 14 = int k ∧ ∃ a : Int, σ 3 = int a ∧ 0 ≤ a ∧ a ≤ 100000 * k ∧ wtF 0 l = wtF a (l.drop k)) l.length
    ⟨by simp, by simp, by simp, 0, by simp, by simp, by simp, by simp⟩ ?_
  rintro k σ hp nx hk ⟨h12, h13, h14, a, h3, ha0, ha1, hf⟩
  by_cases hlt : k < l.length
  · have hw : IntKind.i64.wrap ((k : Int) + 1) = (k : Int) + 1 := wrap_fit (by omega) (by omega)
    rw [wtF_drop hlt] at hf
    cases d1 : inB l[k] 0 100000
    case false =>
      rw [d1] at hf
      simp at hf
      simp [h3, h12, h13, h14, hlt, d1, hf, Try.f62]
    simp only [d1, if_true] at hf
    have hb : 0 ≤ l[k] ∧ l[k] ≤ 100000 := by simpa [inB] using d1
    have w1 : IntKind.i64.wrap (a + l[k]) = a + l[k] := wrap_fit (by omega) (by omega)
    simp [h3, h12, h13, h14, hlt, d1, w1, hw]
    exact ⟨hlt, by omega, by omega, hf⟩
  · obtain rfl : k = l.length := by omega
    rw [List.drop_length, wtF] at hf
    by_cases ha : a = 100000
    · rw [if_pos ha] at hf
      simp [h3, h12, h13, h14, ha, hf, Try.f62]
    · rw [if_neg ha] at hf
      have ha' : (a != 100000) = true := by simpa using ha
      simp [h3, h12, h13, h14, ha', hf, Try.f62]
theorem checkWeights_sound : SpecSound Try.prog 62 (hPure false [] (FI (fun l => int (wtFault l)) fun _ => True)) :=
  pureS (fn := Try.f62) (good_of (q := []) mixed ⟨withinF_sound, by simp, trivial⟩ : AM.Good Cwf _) ⟨_, Try.func62, by kernel_rfl, rfl, by kernel_rfl⟩ false [] _ fun args r h => by
    obtain ⟨l, rfl, _, rfl⟩ := specOf_inv h
    exact ⟨Nat.le_trans (Nat.le_refl 1) (by decide), _, checkWeights_eval l, up_of _⟩
theorem wtF_right : ∀ {s : Int} {l : List Int}, wtF s l = 0 → (∀ n ∈ l, 0 ≤ n ∧ n ≤ 100000) ∧ s + l.sum = 100000
  | s, [], h => by
    unfold wtF at h
    split at h
    · exact ⟨by simp, by simpa⟩
    · cases h
  | s, n :: l, h => by
    unfold wtF at h
    split at h
    · rename_i h1
      obtain ⟨g1, g2⟩ := wtF_right h
      have hb : 0 ≤ n ∧ n ≤ 100000 := by simpa [inB] using h1
      refine ⟨fun x hx => ?_, by rw [List.sum_cons]; omega⟩
      rcases List.mem_cons.1 hx with rfl | hx
      · exact hb
      · exact g1 x hx
    · cases h
theorem wtFault_right {l : List Int} (h : wtFault l = 0) : (∀ n ∈ l, 0 ≤ n ∧ n ≤ 100000) ∧ l.sum = 100000 ∧ l.length ≤ 20 ∧ 0 < l.length := by
  unfold wtFault at h
  split at h
  · cases h
  split at h
  · cases h
  obtain ⟨g1, g2⟩ := wtF_right h
  exact ⟨g1, by omega, by omega, by omega⟩

/-! ### put -/
def putR (l : List Rg) (f t v : Int) : List Rg := if t ≤ f then l else match l.getLast? with
  | some s => if s.2.1 = f ∧ s.2.2 = v then l.dropLast ++ [(s.1, t, v)] else l ++ [(f, t, v)]
  | none => [(f, t, v)]
def blkR (l : List Rg) : Option Blk := if l.isEmpty then none else some ⟨61, 3, true, l.map encR⟩
theorem blkR_some (l : List Rg) (s : Rg) : blkR (l ++ [s]) = some ⟨61, 3, true, (l ++ [s]).map encR⟩ := by simp [blkR]
open Classical in
noncomputable def putRM (b : Option Blk) (args : List PV) : Option (Option Blk) :=
  if h : ∃ a : List Rg × Int × Int × Int, b = blkR a.1 ∧ args = [int a.2.1, int a.2.2.1, int a.2.2.2] ∧ a.1.length ≤ 100000 then some (blkR (putR h.choose.1 h.choose.2.1 h.choose.2.2.1 h.choose.2.2.2)) else none
theorem blkR_inj {a b : List Rg} (h : blkR a = blkR b) : a = b := by
  unfold blkR at h
  cases a with
  | nil => cases b with
    | nil => rfl
    | cons s l => simp at h
  | cons s l => cases b with
    | nil => simp at h
    | cons r m =>
      simp only [List.isEmpty_cons, Bool.false_eq_true, if_false, Option.some.injEq, Blk.mk.injEq, true_and] at h
      exact map_inj (fun _ _ => encR_inj) h
theorem putRM_eq (l : List Rg) (f t v : Int) (h : l.length ≤ 100000) : putRM (blkR l) [int f, int t, int v] = some (blkR (putR l f t v)) := by
  have hx : ∃ a : List Rg × Int × Int × Int, blkR l = blkR a.1 ∧ [int f, int t, int v] = [int a.2.1, int a.2.2.1, int a.2.2.2] ∧ a.1.length ≤ 100000 := ⟨(l, f, t, v), rfl, rfl, h⟩
  unfold putRM
  rw [dif_pos hx]
  obtain ⟨h1, h2, _⟩ := hx.choose_spec
  generalize hx.choose = c at h1 h2
  have e1 := blkR_inj h1
  simp only [List.cons.injEq, and_true, PV.v.injEq, Value.int.injEq, true_and] at h2
  rw [← e1, ← h2.1, ← h2.2.1, ← h2.2.2]
theorem putRM_inv {b : Option Blk} {args : List PV} {r : Option Blk} (h : putRM b args = some r) : ∃ (l : List Rg) (f t v : Int), b = blkR l ∧ args = [int f, int t, int v] ∧ l.length ≤ 100000 ∧ r = blkR (putR l f t v) := by
  unfold putRM at h
  split at h
  · rename_i hx
    obtain ⟨h1, h2, h3⟩ := hx.choose_spec
    injection h with h
    exact ⟨_, _, _, _, h1, h2, h3, h.symm⟩
  · cases h
set_option maxRecDepth 8000 in
theorem putR_nil (f t v : Int) : ∃ x hp nx, evalFunc C0 Try.f67 [.nil, int f, int t, int v] (fun _ => none) 0 = some (x, hp, nx) ∧ OwnR (blkR (putR [] f t v)) x hp nx := by
  refine evalFunc_of rfl ?_
  by_cases hc : t ≤ f
  · simp [hc, putR, Try.f67, OwnR, blkR]
  · simp [hc, putR, Try.f67, OwnR, buildSliceA, appendA, AM.view, maxLen, setElems, freezeParts, buildA, fillA, blkR]
set_option maxRecDepth 8000 in
theorem putR_own (l : List Rg) (s : Rg) (f t v : Int) (hl : l.length < 100000) : ∃ x hp nx, evalFunc C0 Try.f67 [.own 0 0 (l.length + 1), int f, int t, int v] (upd (fun _ => none) 0 (some ⟨61, 3, true, (l ++ [s]).map encR⟩)) 1 = some (x, hp, nx) ∧ OwnR (blkR (putR (l ++ [s]) f t v)) x hp nx := by
  refine evalFunc_of rfl ?_
  have w1 : IntKind.i64.wrap (l.length : Int) = l.length := wrap_fit (by omega) (by omega)
  have w2 : (l.length : Int) < l.length + 1 := by omega
  have w3 : (0 : Int) < (l.length : Int) + 1 := by omega
  unfold putR
  by_cases hc : t ≤ f
  · rw [if_pos hc, blkR_some]
    simp [hc, Try.f67]
    exact ⟨0, by simp, by simp, rfl⟩
  rw [if_neg hc]
  have key : s.2.1 = f ∧ s.2.2 = v ∨ ((s.2.1 == f) && (s.2.2 == v)) = false ∧ ¬ (s.2.1 = f ∧ s.2.2 = v) := by
    by_cases h1 : s.2.1 = f <;> by_cases h2 : s.2.2 = v <;> simp [h1, h2]
  rcases key with ⟨e1, e2⟩ | ⟨e1, e2⟩
  · simp [w1, w2, w3, hc, e1, e2, Try.f67]
    rw [blkR_some]
    exact ⟨0, by simp, by simp, rfl⟩
  · have hO : OwnS (upd (fun _ => none) 0 (some ⟨61, 3, true, l.map encR ++ [encR s]⟩)) 1 61 3 (.own 0 0 (l.length + 1)) (l.map encR ++ [encR s]) := .inr ⟨0, by omega, by simp, by simp⟩
    have hap := hO.append1 (P := Try.prog) (t := 47) (c := encR (f, t, v)) el47 sz61 by61 ze61 rfl (by omega) (by simp [maxLen]; omega) (by simp; omega)
    have hbs : ∀ hp nx, buildSliceA Try.prog hp nx 47 1 [(0, .agg (encR (f, t, v)))] = some (.own nx 0 1, upd hp nx (some ⟨61, 3, true, [encR (f, t, v)]⟩), nx + 1) := fun hp nx => by
      simp [buildSliceA, setElems, freezeParts]
    simp only [encR] at hap hbs
    simp [w1, w2, w3, hc, e1, e2, buildA, fillA, hbs, hap, Try.f67]
    rw [show l ++ [s, (f, t, v)] = (l ++ [s]) ++ [(f, t, v)] by simp, blkR_some]
    exact ⟨2, by simp, by simp, rfl⟩
theorem putR_sound : SpecSound Try.prog 67 (hMove [] putRM) :=
  hMove_sound (fn := Try.f67) (code := _) good0 ⟨Try.func67, by kernel_rfl, rfl, by kernel_rfl⟩ [] _
    (fun args r h => by
      obtain ⟨l, f, t, v, h1, rfl, _, rfl⟩ := putRM_inv h
      obtain rfl : l = [] := blkR_inj (h1.symm.trans (by rfl))
      exact ⟨Nat.le_trans (Nat.le_refl 4) (by decide), putR_nil f t v⟩)
    (fun b args r h => by
      obtain ⟨l, f, t, v, h1, rfl, hl, rfl⟩ := putRM_inv h
      refine ⟨Nat.le_trans (Nat.le_refl 4) (by decide), fun _ => ?_⟩
      rcases List.eq_nil_or_concat l with rfl | ⟨m, s, rfl⟩
      · cases h1
      · rw [List.concat_eq_append] at h1 hl ⊢
        rw [blkR_some] at h1
        injection h1 with h1
        subst h1
        have := putR_own m s f t v (by simp at hl; omega)
        simpa using this)
/-- A list of ranges that put makes: nil while there is none. -/
def OwnRg (hp : Hp) (nx : Nat) (x : PV) (d : List Rg) : Prop := (x = .nil ∧ d = []) ∨ (d ≠ [] ∧ ∃ id, id < nx ∧ x = .own id 0 d.length ∧ hp id = blkR d)
theorem OwnRg.ownS {hp : Hp} {nx : Nat} {x : PV} {d : List Rg} (h : OwnRg hp nx x d) : OwnS hp nx 61 3 x (d.map encR) := by
  rcases h with ⟨rfl, rfl⟩ | ⟨hd, id, h1, rfl, h2⟩
  · exact OwnS.nil hp nx 61 3
  · exact .inr ⟨id, h1, by simp, by rw [h2, blkR, if_neg (by simpa using hd)]⟩
theorem putR_length (d : List Rg) (f t v : Int) : (putR d f t v).length ≤ d.length + 1 := by
  unfold putR
  split
  · omega
  split
  · split
    · simp
    · simp
  · simp
theorem putR_ne {d : List Rg} {f t v : Int} (h : f < t) : putR d f t v ≠ [] := by
  unfold putR
  rw [if_neg (by omega)]
  split
  · split <;> simp
  · simp
/-- put, called: what else is live stays so. -/
theorem putR_call {hp : Hp} {nx : Nat} {x : PV} {d : List Rg} {f t v : Int} (h : OwnRg hp nx x d) (hl : d.length ≤ 100000) : ∃ x' hp' nx', hMove [] putRM [x, int f, int t, int v] hp nx = some (x', hp', nx') ∧ OwnRg hp' nx' x' (putR d f t v) ∧ nx ≤ nx' ∧ (∀ id, id < nx → (∀ m, x ≠ .own id 0 m) → hp' id = hp id) ∧ (∀ id m, x' = .own id 0 m → nx ≤ id) := by
  have hq := putRM_eq d f t v hl
  have hfz : ∀ hp, freezeVals hp [int f, int t, int v] = some ([int f, int t, int v], hp) := fun hp => by rfl
  rcases h with ⟨rfl, rfl⟩ | ⟨hd, id, h1, rfl, h2⟩
  · by_cases hc : f < t
    · have hne := putR_ne (d := []) (v := v) hc
      have hb : blkR (putR [] f t v) = some ⟨61, 3, true, (putR [] f t v).map encR⟩ := by rw [blkR, if_neg (by simpa using hne)]
      rw [hb] at hq
      have hq : putRM none [int f, int t, int v] = _ := hq
      refine ⟨.own nx 0 (putR [] f t v).length, upd hp nx (some ⟨61, 3, true, (putR [] f t v).map encR⟩), nx + 1, ?_, .inr ⟨hne, nx, by omega, rfl, by rw [hb]; simp⟩, by omega, fun id hid _ => upd_miss _ _ _ _ (by omega), fun id m e => by injection e with e; omega⟩
      simp [hMove, hfz, normArgs, hq]
    · have he : putR [] f t v = [] := by unfold putR; rw [if_pos (by omega)]
      rw [he] at hq
      have hq : putRM none [int f, int t, int v] = some none := hq
      refine ⟨.nil, hp, nx, ?_, .inl ⟨rfl, he⟩, Nat.le_refl _, fun _ _ _ => rfl, fun _ _ e => by cases e⟩
      simp [hMove, hfz, normArgs, hq]
  · have hb0 : blkR d = some ⟨61, 3, true, d.map encR⟩ := by rw [blkR, if_neg (by simpa using hd)]
    have hne : putR d f t v ≠ [] := by
      by_cases hc : f < t
      · exact putR_ne hc
      · unfold putR; rw [if_pos (by omega)]; exact hd
    have hb : blkR (putR d f t v) = some ⟨61, 3, true, (putR d f t v).map encR⟩ := by rw [blkR, if_neg (by simpa using hne)]
    rw [hb0, hb] at hq
    rw [hb0] at h2
    refine ⟨.own nx 0 (putR d f t v).length, upd (upd hp id none) nx (some ⟨61, 3, true, (putR d f t v).map encR⟩), nx + 1, ?_, .inr ⟨hne, nx, by omega, rfl, by rw [hb]; simp⟩, by omega, fun id' hid hn => ?_, fun id m e => by injection e with e; omega⟩
    · simp [hMove, hfz, normArgs, hq, h2]
    · have : ¬ id' = id := fun e => hn d.length (by rw [e])
      rw [upd_miss _ _ _ _ (by omega), upd_miss _ _ _ _ this]
end Go.Proofs.Ytphmgjcjcdodhaa
