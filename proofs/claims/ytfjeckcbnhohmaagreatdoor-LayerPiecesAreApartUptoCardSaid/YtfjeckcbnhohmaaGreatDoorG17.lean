/-
  The search by halves; the order of texts.
  Books: names, salts, times, the search for a layer and an experiment.
  Books: phases, what comes too near.
  The checker: its salts, its layers, its holds.
  The checker: its holds.
  The checker: one experiment (any segment is let in).
  The checker: what comes too near; the check of a book.
  The check of a book.
  What a layer gives: the check, what an experiment has, what is free.
  What is free.
-/
import Derived.Test.YtfjeckcbnhohmaaGreatDoorG8
import Derived.Test.YtfjeckcbnhohmaaGreatDoorG5
import Derived.Test.YtfjeckcbnhohmaaGreatDoorG16
namespace Go.Proofs.YtfjeckcbnhohmaaGreatDoor
open Go.RowKit Go.AM
theorem u8_tri (a b : UInt8) : a < b ∨ a = b ∨ b < a := by
  rcases Nat.lt_trichotomy a.toNat b.toNat with h | h | h
  · exact .inl (UInt8.lt_iff_toNat_lt.2 h)
  · exact .inr (.inl (UInt8.toNat_inj.1 h))
  · exact .inr (.inr (UInt8.lt_iff_toNat_lt.2 h))
theorem u8_irr (a : UInt8) : ¬ a < a := fun h => Nat.lt_irrefl _ (UInt8.lt_iff_toNat_lt.1 h)
theorem u8_asymm {a b : UInt8} (h : a < b) : ¬ b < a := fun h' => Nat.lt_asymm (UInt8.lt_iff_toNat_lt.1 h) (UInt8.lt_iff_toNat_lt.1 h')
theorem u8_trans {a b c : UInt8} (h : a < b) (h' : b < c) : a < c := UInt8.lt_iff_toNat_lt.2 (Nat.lt_trans (UInt8.lt_iff_toNat_lt.1 h) (UInt8.lt_iff_toNat_lt.1 h'))
theorem cmpB_lt : ∀ a b : List UInt8, cmpB a b < 0 ↔ Op.bytesLess a b = true
  | [], [] => by simp [cmpB, Lib.compareBytes, Op.bytesLess]
  | [], _ :: _ => by simp [cmpB, Lib.compareBytes, Op.bytesLess]
  | _ :: _, [] => by simp [cmpB, Lib.compareBytes, Op.bytesLess]
  | a :: x, b :: y => by
    have ih := cmpB_lt x y
    unfold cmpB at ih ⊢
    rcases u8_tri a b with h | rfl | h
    · simp [Lib.compareBytes, Op.bytesLess, h]
    · simp [Lib.compareBytes, Op.bytesLess, u8_irr, ih]
    · have hne : ¬ a = b := fun e => u8_irr b (e ▸ h)
      simp [Lib.compareBytes, Op.bytesLess, h, u8_asymm h, hne]
theorem cmpB_zero : ∀ a b : List UInt8, cmpB a b = 0 ↔ a = b
  | [], [] => by simp [cmpB, Lib.compareBytes]
  | [], _ :: _ => by simp [cmpB, Lib.compareBytes]
  | _ :: _, [] => by simp [cmpB, Lib.compareBytes]
  | a :: x, b :: y => by
    have ih := cmpB_zero x y
    unfold cmpB at ih ⊢
    rcases u8_tri a b with h | rfl | h
    · have hne : ¬ a = b := fun e => u8_irr b (e ▸ h)
      simp [Lib.compareBytes, h, hne]
    · simp [Lib.compareBytes, u8_irr, ih]
    · have hne : ¬ a = b := fun e => u8_irr b (e ▸ h)
      simp [Lib.compareBytes, h, u8_asymm h, hne]
theorem less_trans : ∀ {a b c : List UInt8}, Op.bytesLess a b = true → Op.bytesLess b c = true → Op.bytesLess a c = true
  | _, [], _, h, _ => by simp [Op.bytesLess] at h
  | _, _ :: _, [], _, h => by simp [Op.bytesLess] at h
  | [], _ :: _, _ :: _, _, _ => by simp [Op.bytesLess]
  | a :: x, b :: y, c :: z, h1, h2 => by
    simp only [Op.bytesLess, Bool.or_eq_true, decide_eq_true_eq, Bool.and_eq_true, beq_iff_eq] at h1 h2 ⊢
    rcases h1 with h1 | ⟨rfl, h1⟩
    · rcases h2 with h2 | ⟨rfl, h2⟩
      · exact .inl (u8_trans h1 h2)
      · exact .inl h1
    · rcases h2 with h2 | ⟨rfl, h2⟩
      · exact .inl h2
      · exact .inr ⟨rfl, less_trans h1 h2⟩
theorem less_of_not_le : ∀ {a b : List UInt8}, leB a b = false → Op.bytesLess b a = true
  | [], [], h => by simp [leB] at h
  | [], _ :: _, h => by simp [leB, Op.bytesLess] at h
  | _ :: _, [], _ => by simp [Op.bytesLess]
  | a :: x, b :: y, h => by
    simp only [leB, Op.bytesLess, Bool.or_eq_false_iff, decide_eq_false_iff_not, Bool.and_eq_false_iff, beq_eq_false_iff_ne] at h
    obtain ⟨⟨h1, h2⟩, h3⟩ := h
    simp only [Op.bytesLess, Bool.or_eq_true, decide_eq_true_eq, Bool.and_eq_true, beq_iff_eq]
    rcases u8_tri a b with g | rfl | g
    · exact absurd g h1
    · refine .inr ⟨rfl, less_of_not_le ?_⟩
      rcases h2 with h2 | h2
      · exact absurd rfl h2
      · have : ¬ x = y := fun e => h3 (by rw [e])
        simp [leB, h2, this]
    · exact .inl g
/-! ### slices.BinarySearchFunc -/
/-- The search: where lo meets hi. f: what comes before. -/
def bsGo (f : Nat → Bool) (lo hi : Nat) : Nat := if h : lo < hi then (if f ((lo + hi) / 2) then bsGo f ((lo + hi) / 2 + 1) hi else bsGo f lo ((lo + hi) / 2)) else lo
termination_by hi - lo
decreasing_by all_goals omega
theorem bsGo_step {f : Nat → Bool} {lo hi : Nat} (h : lo < hi) : bsGo f lo hi = if f ((lo + hi) / 2) then bsGo f ((lo + hi) / 2 + 1) hi else bsGo f lo ((lo + hi) / 2) := by rw [bsGo, dif_pos h]
theorem bsGo_end {f : Nat → Bool} {lo hi : Nat} (h : ¬ lo < hi) : bsGo f lo hi = lo := by rw [bsGo, dif_neg h]
theorem bsGo_le (f : Nat → Bool) (lo hi : Nat) (h : lo ≤ hi) : lo ≤ bsGo f lo hi ∧ bsGo f lo hi ≤ hi := by
  induction lo, hi using bsGo.induct (f := f) with
  | case1 lo hi hlt hf ih => rw [bsGo, dif_pos hlt, if_pos hf]; have := ih (by omega); omega
  | case2 lo hi hlt hf ih => rw [bsGo, dif_pos hlt, if_neg hf]; have := ih (by omega); omega
  | case3 lo hi hlt => rw [bsGo, dif_neg hlt]; omega
/-- The search by halves finds the first that does not come before. -/
theorem bsGo_spec {f : Nat → Bool} {n m : Nat} (hm : ∀ k, k < m → f k = true) (hn : ∀ k, m ≤ k → k < n → f k = false) : ∀ {lo hi : Nat}, lo ≤ m → m ≤ hi → hi ≤ n → bsGo f lo hi = m := by
  intro lo hi
  induction lo, hi using bsGo.induct (f := f) with
  | case1 lo hi hlt hf ih =>
    intro h1 h2 h3
    rw [bsGo, dif_pos hlt, if_pos hf]
    refine ih ?_ h2 h3
    apply Nat.succ_le_of_lt
    refine Nat.lt_of_not_le fun hle => ?_
    rw [hn _ hle (by omega)] at hf
    cases hf
  | case2 lo hi hlt hf ih =>
    intro h1 h2 h3
    rw [bsGo, dif_pos hlt, if_neg hf]
    refine ih h1 ?_ (by omega)
    refine Nat.le_of_not_lt fun hle => ?_
    exact hf (hm _ hle)
  | case3 lo hi hlt => intro h1 h2 _; rw [bsGo, dif_neg hlt]; omega
/-- The search by halves among names. -/
noncomputable def lessN (l : List (List UInt8)) (s : List UInt8) (k : Nat) : Bool := match l[k]? with
  | some x => decide (cmpB x s < 0)
  | none => false
noncomputable def bsN (l : List (List UInt8)) (s : List UInt8) : Nat × Bool := (bsGo (lessN l s) 0 l.length, match l[bsGo (lessN l s) 0 l.length]? with
  | some x => cmpB x s == 0
  | none => false)
theorem bsN_le (l : List (List UInt8)) (s : List UInt8) : (bsN l s).1 ≤ l.length := (bsGo_le _ 0 l.length (Nat.zero_le _)).2
theorem bsN_at {l : List (List UInt8)} {s : List UInt8} (h : (bsN l s).2 = true) : l[(bsN l s).1]? = some s := by
  unfold bsN at h ⊢
  simp only at h ⊢
  split at h
  · rename_i x hx
    rw [hx, (cmpB_zero x s).1 (by simpa using h)]
  · cases h
theorem bsN_lt {l : List (List UInt8)} {s : List UInt8} (h : (bsN l s).2 = true) : (bsN l s).1 < l.length := (List.getElem?_eq_some_iff.1 (bsN_at h)).1
/-- Names, increasing. -/
def UpN (l : List (List UInt8)) : Prop := l.Pairwise fun a b => Op.bytesLess a b = true
theorem less_irr (a : List UInt8) : Op.bytesLess a a = false := by
  cases h : Op.bytesLess a a with
  | false => rfl
  | true =>
    have h1 := (cmpB_lt a a).2 h
    have h2 := (cmpB_zero a a).2 rfl
    omega
/-- Whoever is there is found, at the one place. -/
theorem bsN_of {l : List (List UInt8)} {s : List UInt8} (hl : UpN l) {j : Nat} (hj : l[j]? = some s) : bsN l s = (j, true) := by
  obtain ⟨hjl, hje⟩ := List.getElem?_eq_some_iff.1 hj
  have hg : bsGo (lessN l s) 0 l.length = j := by
    refine bsGo_spec (n := l.length) (fun k hk => ?_) (fun k hk hkl => ?_) (Nat.zero_le _) (Nat.le_of_lt hjl) (Nat.le_refl _)
    · have := List.pairwise_iff_getElem.1 hl k j (by omega) hjl hk
      rw [hje] at this
      simp [lessN, show k < l.length by omega, (cmpB_lt _ _).2 this]
    · rcases Nat.lt_or_eq_of_le hk with h | rfl
      · have := List.pairwise_iff_getElem.1 hl j k hjl hkl h
        rw [hje] at this
        have h2 : ¬ cmpB l[k] s < 0 := fun h3 => by
          have := less_trans this ((cmpB_lt _ _).1 h3)
          rw [less_irr] at this
          cases this
        simp [lessN, hkl, h2]
      · have h2 : ¬ cmpB s s < 0 := by rw [(cmpB_zero s s).2 rfl]; omega
        simp [lessN, hjl, hje, h2]
  unfold bsN
  rw [hg, hj]
  simp [(cmpB_zero s s).2 rfl]
end Go.Proofs.YtfjeckcbnhohmaaGreatDoor
namespace Go.Proofs.YtfjeckcbnhohmaaGreatDoor
open Go.RowKit Go.AM Go.SpanLaw
/-! ### names and salts -/
def nameF (name before : List UInt8) : Int := if isNameB name = true then (if leB name before = true then 8 else 0) else 5
noncomputable def FSS2 (f : List UInt8 → List UInt8 → PV) : List PV → Option PV := specOf (α := List UInt8 × List UInt8) (fun a => [str a.1, str a.2]) (fun a => a.1.length ≤ lim) (fun a => f a.1 a.2)
theorem FSS2_call (f : List UInt8 → List UInt8 → PV) (a b : List UInt8) (hp : Hp) (nx : Nat) (h : a.length ≤ lim) (hf : (f a b).flat = true) : hPure false [] (FSS2 f) [str a, str b] hp nx = some (f a b, hp, nx) :=
  hPure_v rfl (specOf_eq (enc := fun a : List UInt8 × List UInt8 => [str a.1, str a.2]) (a := (a, b)) ss_inj h) (.inl hf)
noncomputable abbrev Cnf : Ctx := mkCtx Tryz.prog [(67, hPure false [] (FS isNameB))]
theorem nameFault_sound : SpecSound Tryz.prog 177 (hPure false [] (FSS2 fun a b => int (nameF a b))) :=
  pureS (fn := Tryz.f177) (good_of (q := []) mixed ⟨isName_sound, by simp, trivial⟩ : AM.Good Cnf _) ⟨_, Tryz.func177, by kernel_rfl, rfl, by kernel_rfl⟩ false [] _ fun args r h => by
    obtain ⟨⟨a, b⟩, rfl, ha, rfl⟩ := specOf_inv h
    have hle : (Op.bytesLess a b || a == b) = leB a b := rfl
    refine ⟨by simp [Tryz.f177], _, evalPure_of rfl ?_, up_of _⟩
    simp only at ha
    cases h1 : isNameB a
    · simp [ha, h1, nameF, Tryz.f177]
    · cases h2 : leB a b
      · simp [ha, h1, hle, h2, nameF, Tryz.f177]
      · simp [ha, h1, hle, h2, nameF, Tryz.f177]
def saltB (s : List UInt8) : Bool := inB s.length 1 40 && isKeyB s
noncomputable abbrev Csl : Ctx := mkCtx Tryz.prog [(83, hPure false [] (F3 inB)), (293, hPure false [] (FS isKeyB))]
@[simp] theorem quietsl1 : QuietIn Csl 83 := quietIn_of (by rfl) (hPure_quiet _ _)
@[simp] theorem quietsl2 : QuietIn Csl 293 := quietIn_of (by rfl) (hPure_quiet _ _)
theorem isSalt_sound : SpecSound Tryz.prog 244 (hPure false [] (FS saltB)) :=
  pureS (fn := Tryz.f244) (good_of (q := [83, 293]) mixed ⟨withinL_sound, fun _ => hPure_quiet _ _, isKey_sound, fun _ => hPure_quiet _ _, trivial⟩ : AM.Good Csl _) ⟨_, Tryz.func244, by kernel_rfl, rfl, by kernel_rfl⟩ false [] _ fun args r h => by
    obtain ⟨l, rfl, hp, rfl⟩ := specOf_inv h
    exact ⟨by simp [Tryz.f244], _, evalPure_of rfl (by simp [hp, saltB, Tryz.f244]), up_of _⟩
def timeB (n : Int) : Bool := inB n 0 4000000000
noncomputable abbrev Ctm : Ctx := mkCtx Tryz.prog [(83, hPure false [] (F3 inB))]
theorem isTime_sound : SpecSound Tryz.prog 51 (hPure false [] (FIb timeB)) :=
  pureS (fn := Tryz.f51) (good_of (q := []) mixed ⟨withinL_sound, by simp, trivial⟩ : AM.Good Ctm _) ⟨_, Tryz.func51, by kernel_rfl, rfl, by kernel_rfl⟩ false [] _ fun args r h => by
    obtain ⟨a, rfl, rfl⟩ := FIb_inv h
    exact ⟨by simp [Tryz.f51], _, evalPure_of rfl (by simp [timeB, Tryz.f51]), up_of _⟩
/-! ### the search for L -/
noncomputable def FKeyL : List PV → Option PV := specOf (α := Lyr × List UInt8) (fun a => [.agg a.1.enc, str a.2]) (fun _ => True) (fun a => int (cmpB a.1.name a.2))
theorem FKeyL_call (x : Lyr) (s : List UInt8) (hp : Hp) (nx : Nat) : hPure false [] FKeyL [.agg x.enc, str s] hp nx = some (int (cmpB x.name s), hp, nx) :=
  hPure_v (hp1 := hp) (show freezeVals hp [.agg x.enc, str s] = some ([.agg x.enc, str s], hp) by simp [Lyr.enc]) (specOf_eq (enc := fun a : Lyr × List UInt8 => [.agg a.1.enc, str a.2]) (a := (x, s)) (fun a b e => by
    obtain ⟨a1, a2⟩ := a; obtain ⟨b1, b2⟩ := b
    simp only [List.cons.injEq, and_true, PV.agg.injEq] at e
    rw [lyr_inj e.1, str_inj e.2]) trivial) (.inl rfl)
noncomputable abbrev CkeyL : Ctx := mkCtx Tryz.prog [(88, hPure false [] (F2S cmpB))]
theorem keyL_sound : SpecSound Tryz.prog 87 (hPure false [] FKeyL) :=
  pureS (fn := Tryz.f87) (good_of (q := []) mixed ⟨strCompare_sound, by simp, trivial⟩ : AM.Good CkeyL _) ⟨_, Tryz.func87, by kernel_rfl, rfl, by kernel_rfl⟩ false [] _ fun args r h => by
    obtain ⟨⟨x, s⟩, rfl, _, rfl⟩ := specOf_inv h
    exact ⟨by simp [Tryz.f87], _, evalPure_of rfl (by simp [Tryz.f87, Lyr.enc]), up_of _⟩
noncomputable def FBsL : List PV → Option PV := specOf (α := List Lyr × List UInt8) (fun a => [.sl 3 (a.1.map Lyr.enc), str a.2, .fn (.func 87) [] []]) (fun a => a.1.length ≤ lim) (fun a => .tup [int (bsN (a.1.map Lyr.name) a.2).1, boo (bsN (a.1.map Lyr.name) a.2).2])
theorem FBsL_call (l : List Lyr) (s : List UInt8) (hp : Hp) (nx : Nat) (h : l.length ≤ lim) : hPure false [] FBsL [.sl 3 (l.map Lyr.enc), str s, .fn (.func 87) [] []] hp nx = some (.tup [int (bsN (l.map Lyr.name) s).1, boo (bsN (l.map Lyr.name) s).2], hp, nx) :=
  hPure_v rfl (specOf_eq (enc := fun a : List Lyr × List UInt8 => [PV.sl 3 (a.1.map Lyr.enc), str a.2, .fn (.func 87) [] []]) (a := (l, s)) (fun a b e => by
    obtain ⟨a1, a2⟩ := a; obtain ⟨b1, b2⟩ := b
    simp only [List.cons.injEq, and_true] at e
    obtain ⟨e1, e2⟩ := e
    injection e1 with _ e1
    rw [map_inj (fun _ _ => lyr_inj) e1, str_inj e2]) h) (.inl rfl)
noncomputable abbrev CbsL : Ctx := mkCtx Tryz.prog [(87, hPure false [] FKeyL)]
@[simp] theorem qbsL : QuietIn CbsL 87 := quietIn_of (by rfl) (hPure_quiet _ _)
set_option maxRecDepth 8000 in
theorem bsL_eval (l : List Lyr) (s : List UInt8) (hl : l.length ≤ lim) : evalPure CbsL Tryz.f86 [.sl 3 (l.map Lyr.enc), str s, .fn (.func 87) [] []] = some (.tup [int (bsN (l.map Lyr.name) s).1, boo (bsN (l.map Lyr.name) s).2]) := by
  refine evalPure_of rfl ?_
  unfold lim at hl
  have hln : (l.map Lyr.name).length = l.length := by simp
  simp
  refine EvC_loop (fun st => st.σ 0 = .sl 3 (l.map Lyr.enc) ∧ st.σ 1 = str s ∧ st.σ 2 = .fn (.func 87) [] [] ∧ st.σ 8 = int l.length ∧ ∃ lo hi : Nat, lo ≤ hi ∧ hi ≤ l.length ∧ st.σ 9 = int lo ∧ st.σ 10 = int hi ∧ bsGo (lessN (l.map Lyr.name) s) 0 (l.map Lyr.name).length = bsGo (lessN (l.map Lyr.name) s) lo hi)
    (fun st => (numAt (st.σ 10)).toNat - (numAt (st.σ 9)).toNat) ⟨by simp, by simp, by simp, by simp, 0, l.length, by simp, by simp, by simp, by simp, by rw [hln]⟩ ?_
  rintro ⟨σ, hp, nx⟩ ⟨h0, h1, h2, h8, lo, hi, hlh, hhi, h9, h10, he⟩
  simp only at h0 h1 h2 h8 h9 h10
  by_cases hlt : lo < hi
  · have hcall := fun x hp nx => FKeyL_call x s hp nx
    have w1 : IntKind.i64.wrap ((lo : Int) + hi) = (lo : Int) + hi := wrap_fit (by omega) (by omega)
    have hml : (lo + hi) / 2 < l.length := by omega
    obtain ⟨m, hm⟩ : ∃ m, m = (lo + hi) / 2 := ⟨_, rfl⟩
    have hmid : IntKind.i64.wrap ((IntKind.u64.wrap ((lo : Int) + hi)).fdiv (2 ^ min 1 IntKind.u64.bits)) = (m : Int) := by
      have e1 : IntKind.u64.wrap ((lo : Int) + hi) = (lo : Int) + hi := by rw [IntKind.wrap_u64]; omega
      have e2 : (2 ^ min 1 IntKind.u64.bits : Int) = 2 := by decide
      rw [e1, e2, Int.fdiv_eq_ediv_of_nonneg _ (by omega), wrap_fit (by omega) (by omega)]
      omega
    have hml' : m < l.length := by omega
    have wm : IntKind.i64.wrap ((m : Int) + 1) = (m : Int) + 1 := wrap_fit (by omega) (by omega)
    have hla : lessN (l.map Lyr.name) s m = decide (cmpB l[m].name s < 0) := by simp [lessN, hml']
    rw [bsGo_step (lo := lo) hlt, ← hm, hla] at he
    have hcm := hcall l[m]
    simp only [Lyr.enc] at hcm
    by_cases hc : cmpB l[m].name s < 0
    · simp only [hc, decide_true, if_true] at he
      simp [h0, h1, h2, h8, h9, h10, hlt, w1, hmid, hml', hcm, hc, wm, Lyr.enc]
      exact ⟨⟨m + 1, hi, by omega, hhi, by omega, rfl, by rw [hln] at he; exact he⟩, by omega⟩
    · simp only [hc, decide_false, Bool.false_eq_true, if_false] at he
      simp [h0, h1, h2, h8, h9, h10, hlt, w1, hmid, hml', hcm, hc, Lyr.enc]
      exact ⟨⟨lo, m, by omega, by omega, rfl, rfl, by rw [hln] at he; exact he⟩, by omega⟩
  · have he : bsGo (lessN (l.map Lyr.name) s) 0 (l.map Lyr.name).length = lo := by rw [he, bsGo_end (lo := lo) hlt]
    have hcall := fun x hp nx => FKeyL_call x s hp nx
    unfold bsN
    rw [he]
    by_cases hlo : lo < l.length
    · have hcm := hcall l[lo]
      simp only [Lyr.enc] at hcm
      simp [h0, h1, h2, h8, h9, h10, hlt, hlo, hcm, Lyr.enc, Tryz.f86, pureR]
    · have hlo' : l[lo]? = none := List.getElem?_eq_none (by omega)
      simp [h0, h1, h2, h8, h9, h10, hlt, hlo, hlo', Tryz.f86, pureR]
theorem bsL_sound : SpecSound Tryz.prog 86 (hPure false [] FBsL) :=
  pureS (fn := Tryz.f86) (good_of (q := [87]) mixed ⟨keyL_sound, fun _ => hPure_quiet _ _, trivial⟩ : AM.Good CbsL _) ⟨_, Tryz.func86, by kernel_rfl, rfl, by kernel_rfl⟩ false [] _ fun args r h => by
    obtain ⟨⟨l, s⟩, rfl, hl, rfl⟩ := specOf_inv h
    exact ⟨Nat.le_trans (Nat.le_refl 3) (by decide), _, bsL_eval l s hl, up_of _⟩
noncomputable def FOfL : List PV → Option PV := specOf (α := List Lyr × List UInt8) (fun a => [.sl 3 (a.1.map Lyr.enc), str a.2]) (fun a => a.1.length ≤ lim) (fun a => .tup [int (bsN (a.1.map Lyr.name) a.2).1, boo (bsN (a.1.map Lyr.name) a.2).2])
theorem FOfL_call (l : List Lyr) (s : List UInt8) (hp : Hp) (nx : Nat) (h : l.length ≤ lim) : hPure false [] FOfL [.sl 3 (l.map Lyr.enc), str s] hp nx = some (.tup [int (bsN (l.map Lyr.name) s).1, boo (bsN (l.map Lyr.name) s).2], hp, nx) :=
  hPure_v rfl (specOf_eq (enc := fun a : List Lyr × List UInt8 => [PV.sl 3 (a.1.map Lyr.enc), str a.2]) (a := (l, s)) (fun a b e => by
    obtain ⟨a1, a2⟩ := a; obtain ⟨b1, b2⟩ := b
    simp only [List.cons.injEq, and_true] at e
    obtain ⟨e1, e2⟩ := e
    injection e1 with _ e1
    rw [map_inj (fun _ _ => lyr_inj) e1, str_inj e2]) h) (.inl rfl)
noncomputable abbrev CofL : Ctx := mkCtx Tryz.prog [(86, hPure false [] FBsL)]
theorem ofL_sound : SpecSound Tryz.prog 50 (hPure false [] FOfL) :=
  pureS (fn := Tryz.f50) (good_of (q := []) mixed ⟨bsL_sound, by simp, trivial⟩ : AM.Good CofL _) ⟨_, Tryz.func50, by kernel_rfl, rfl, by kernel_rfl⟩ false [] _ fun args r h => by
    obtain ⟨⟨l, s⟩, rfl, hl, rfl⟩ := specOf_inv h
    have hc := fun hp nx => FBsL_call l s hp nx hl
    exact ⟨by simp [Tryz.f50], _, evalPure_of rfl (by simp [hc, pureR, Tryz.f50]), up_of _⟩
/-! ### the search for X -/
noncomputable def FKeyX : List PV → Option PV := specOf (α := Xp × List UInt8) (fun a => [.agg a.1.enc, str a.2]) (fun _ => True) (fun a => int (cmpB a.1.name a.2))
theorem FKeyX_call (x : Xp) (s : List UInt8) (hp : Hp) (nx : Nat) : hPure false [] FKeyX [.agg x.enc, str s] hp nx = some (int (cmpB x.name s), hp, nx) :=
  hPure_v (hp1 := hp) (show freezeVals hp [.agg x.enc, str s] = some ([.agg x.enc, str s], hp) by simp [xp_enc]) (specOf_eq (enc := fun a : Xp × List UInt8 => [.agg a.1.enc, str a.2]) (a := (x, s)) (fun a b e => by
    obtain ⟨a1, a2⟩ := a; obtain ⟨b1, b2⟩ := b
    simp only [List.cons.injEq, and_true, PV.agg.injEq] at e
    rw [xp_inj e.1, str_inj e.2]) trivial) (.inl rfl)
noncomputable abbrev CkeyX : Ctx := mkCtx Tryz.prog [(88, hPure false [] (F2S cmpB))]
theorem keyX_sound : SpecSound Tryz.prog 120 (hPure false [] FKeyX) :=
  pureS (fn := Tryz.f120) (good_of (q := []) mixed ⟨strCompare_sound, by simp, trivial⟩ : AM.Good CkeyX _) ⟨_, Tryz.func120, by kernel_rfl, rfl, by kernel_rfl⟩ false [] _ fun args r h => by
    obtain ⟨⟨x, s⟩, rfl, _, rfl⟩ := specOf_inv h
    exact ⟨by simp [Tryz.f120], _, evalPure_of rfl (by simp [Tryz.f120, xp_enc]), up_of _⟩
noncomputable def FBsX : List PV → Option PV := specOf (α := List Xp × List UInt8) (fun a => [.sl 13 (a.1.map Xp.enc), str a.2, .fn (.func 120) [] []]) (fun a => a.1.length ≤ lim) (fun a => .tup [int (bsN (a.1.map Xp.name) a.2).1, boo (bsN (a.1.map Xp.name) a.2).2])
theorem FBsX_call (l : List Xp) (s : List UInt8) (hp : Hp) (nx : Nat) (h : l.length ≤ lim) : hPure false [] FBsX [.sl 13 (l.map Xp.enc), str s, .fn (.func 120) [] []] hp nx = some (.tup [int (bsN (l.map Xp.name) s).1, boo (bsN (l.map Xp.name) s).2], hp, nx) :=
  hPure_v rfl (specOf_eq (enc := fun a : List Xp × List UInt8 => [PV.sl 13 (a.1.map Xp.enc), str a.2, .fn (.func 120) [] []]) (a := (l, s)) (fun a b e => by
    obtain ⟨a1, a2⟩ := a; obtain ⟨b1, b2⟩ := b
    simp only [List.cons.injEq, and_true] at e
    obtain ⟨e1, e2⟩ := e
    injection e1 with _ e1
    rw [map_inj (fun _ _ => xp_inj) e1, str_inj e2]) h) (.inl rfl)
noncomputable abbrev CbsX : Ctx := mkCtx Tryz.prog [(120, hPure false [] FKeyX)]
@[simp] theorem qbsX : QuietIn CbsX 120 := quietIn_of (by rfl) (hPure_quiet _ _)
set_option maxRecDepth 8000 in
theorem bsX_eval (l : List Xp) (s : List UInt8) (hl : l.length ≤ lim) : evalPure CbsX Tryz.f119 [.sl 13 (l.map Xp.enc), str s, .fn (.func 120) [] []] = some (.tup [int (bsN (l.map Xp.name) s).1, boo (bsN (l.map Xp.name) s).2]) := by
  refine evalPure_of rfl ?_
  unfold lim at hl
  have hln : (l.map Xp.name).length = l.length := by simp
  simp
  refine EvC_loop (fun st => st.σ 0 = .sl 13 (l.map Xp.enc) ∧ st.σ 1 = str s ∧ st.σ 2 = .fn (.func 120) [] [] ∧ st.σ 8 = int l.length ∧ ∃ lo hi : Nat, lo ≤ hi ∧ hi ≤ l.length ∧ st.σ 9 = int lo ∧ st.σ 10 = int hi ∧ bsGo (lessN (l.map Xp.name) s) 0 (l.map Xp.name).length = bsGo (lessN (l.map Xp.name) s) lo hi)
    (fun st => (numAt (st.σ 10)).toNat - (numAt (st.σ 9)).toNat) ⟨by simp, by simp, by simp, by simp, 0, l.length, by simp, by simp, by simp, by simp, by rw [hln]⟩ ?_
  rintro ⟨σ, hp, nx⟩ ⟨h0, h1, h2, h8, lo, hi, hlh, hhi, h9, h10, he⟩
  simp only at h0 h1 h2 h8 h9 h10
  by_cases hlt : lo < hi
  · have hcall := fun x hp nx => FKeyX_call x s hp nx
    have w1 : IntKind.i64.wrap ((lo : Int) + hi) = (lo : Int) + hi := wrap_fit (by omega) (by omega)
    have hml : (lo + hi) / 2 < l.length := by omega
    obtain ⟨m, hm⟩ : ∃ m, m = (lo + hi) / 2 := ⟨_, rfl⟩
    have hmid : IntKind.i64.wrap ((IntKind.u64.wrap ((lo : Int) + hi)).fdiv (2 ^ min 1 IntKind.u64.bits)) = (m : Int) := by
      have e1 : IntKind.u64.wrap ((lo : Int) + hi) = (lo : Int) + hi := by rw [IntKind.wrap_u64]; omega
      have e2 : (2 ^ min 1 IntKind.u64.bits : Int) = 2 := by decide
      rw [e1, e2, Int.fdiv_eq_ediv_of_nonneg _ (by omega), wrap_fit (by omega) (by omega)]
      omega
    have hml' : m < l.length := by omega
    have wm : IntKind.i64.wrap ((m : Int) + 1) = (m : Int) + 1 := wrap_fit (by omega) (by omega)
    have hla : lessN (l.map Xp.name) s m = decide (cmpB l[m].name s < 0) := by simp [lessN, hml']
    rw [bsGo_step (lo := lo) hlt, ← hm, hla] at he
    have hcm := hcall l[m]
    simp only [xp_enc] at hcm
    by_cases hc : cmpB l[m].name s < 0
    · simp only [hc, decide_true, if_true] at he
      simp [h0, h1, h2, h8, h9, h10, hlt, w1, hmid, hml', hcm, hc, wm, xp_enc]
      exact ⟨⟨m + 1, hi, by omega, hhi, by omega, rfl, by rw [hln] at he; exact he⟩, by omega⟩
    · simp only [hc, decide_false, Bool.false_eq_true, if_false] at he
      simp [h0, h1, h2, h8, h9, h10, hlt, w1, hmid, hml', hcm, hc, xp_enc]
      exact ⟨⟨lo, m, by omega, by omega, rfl, rfl, by rw [hln] at he; exact he⟩, by omega⟩
  · have he : bsGo (lessN (l.map Xp.name) s) 0 (l.map Xp.name).length = lo := by rw [he, bsGo_end (lo := lo) hlt]
    have hcall := fun x hp nx => FKeyX_call x s hp nx
    unfold bsN
    rw [he]
    by_cases hlo : lo < l.length
    · have hcm := hcall l[lo]
      simp only [xp_enc] at hcm
      simp [h0, h1, h2, h8, h9, h10, hlt, hlo, hcm, xp_enc, Tryz.f119, pureR]
    · have hlo' : l[lo]? = none := List.getElem?_eq_none (by omega)
      simp [h0, h1, h2, h8, h9, h10, hlt, hlo, hlo', Tryz.f119, pureR]
theorem bsX_sound : SpecSound Tryz.prog 119 (hPure false [] FBsX) :=
  pureS (fn := Tryz.f119) (good_of (q := [120]) mixed ⟨keyX_sound, fun _ => hPure_quiet _ _, trivial⟩ : AM.Good CbsX _) ⟨_, Tryz.func119, by kernel_rfl, rfl, by kernel_rfl⟩ false [] _ fun args r h => by
    obtain ⟨⟨l, s⟩, rfl, hl, rfl⟩ := specOf_inv h
    exact ⟨Nat.le_trans (Nat.le_refl 3) (by decide), _, bsX_eval l s hl, up_of _⟩
noncomputable def FOfX : List PV → Option PV := specOf (α := List Xp × List UInt8) (fun a => [.sl 13 (a.1.map Xp.enc), str a.2]) (fun a => a.1.length ≤ lim) (fun a => .tup [int (bsN (a.1.map Xp.name) a.2).1, boo (bsN (a.1.map Xp.name) a.2).2])
theorem FOfX_call (l : List Xp) (s : List UInt8) (hp : Hp) (nx : Nat) (h : l.length ≤ lim) : hPure false [] FOfX [.sl 13 (l.map Xp.enc), str s] hp nx = some (.tup [int (bsN (l.map Xp.name) s).1, boo (bsN (l.map Xp.name) s).2], hp, nx) :=
  hPure_v rfl (specOf_eq (enc := fun a : List Xp × List UInt8 => [PV.sl 13 (a.1.map Xp.enc), str a.2]) (a := (l, s)) (fun a b e => by
    obtain ⟨a1, a2⟩ := a; obtain ⟨b1, b2⟩ := b
    simp only [List.cons.injEq, and_true] at e
    obtain ⟨e1, e2⟩ := e
    injection e1 with _ e1
    rw [map_inj (fun _ _ => xp_inj) e1, str_inj e2]) h) (.inl rfl)
noncomputable abbrev CofX : Ctx := mkCtx Tryz.prog [(119, hPure false [] FBsX)]
theorem ofX_sound : SpecSound Tryz.prog 76 (hPure false [] FOfX) :=
  pureS (fn := Tryz.f76) (good_of (q := []) mixed ⟨bsX_sound, by simp, trivial⟩ : AM.Good CofX _) ⟨_, Tryz.func76, by kernel_rfl, rfl, by kernel_rfl⟩ false [] _ fun args r h => by
    obtain ⟨⟨l, s⟩, rfl, hl, rfl⟩ := specOf_inv h
    have hc := fun hp nx => FBsX_call l s hp nx hl
    exact ⟨by simp [Tryz.f76], _, evalPure_of rfl (by simp [hc, pureR, Tryz.f76]), up_of _⟩
end Go.Proofs.YtfjeckcbnhohmaaGreatDoor
namespace Go.Proofs.YtfjeckcbnhohmaaGreatDoor
open Go.RowKit Go.AM Go.SpanLaw
/-! ### phases -/
def prevAt (p : Option Int) (x : Int) : Bool := match p with
  | none => false
  | some q => decide (x ≤ q)
def phF : Option Int → List Sp → List Phs → Int
  | _, _, [] => 0
  | p, b, x :: l => if timeB x.at_ = true then (if prevAt p x.at_ = true then 8 else if spFault x.spans = 0 then (if x.spans = b then 7 else phF (some x.at_) x.spans l) else spFault x.spans) else 1
def phasesF (l : List Phs) : Int := if (50 : Int) < l.length then 2 else phF none [] l
def prevA (l : List Phs) (k : Nat) : Option Int := if k = 0 then none else (l[k - 1]?).map (·.at_)
theorem equalS2_sound : SpecSound Tryz.prog 10 (hPure false [2, 2] (FPP (fun a b => boo (decide (a = b))) fun a _ => a.length ≤ lim)) :=
  pureS (fn := Tryz.f10) good0 ⟨_, Tryz.func10, by kernel_rfl, rfl, by kernel_rfl⟩ false [2, 2] _ fun args r h => by
    obtain ⟨⟨a, b⟩, rfl, hx, rfl⟩ := specOf_inv h
    exact ⟨Nat.le_trans (Nat.le_refl 2) (by decide), _, equalS_eval a b hx, up_of _⟩
theorem eqS_call (a b : List Sp) (v : PV) (hp : Hp) (nx : Nat) (h : a.length ≤ lim) (hv : v = .sl 2 (b.map encS) ∨ (v = .nil ∧ b = [])) : hPure false [2, 2] (FPP (fun a b => boo (decide (a = b))) fun a _ => a.length ≤ lim) [.sl 2 (a.map encS), v] hp nx = some (boo (decide (a = b)), hp, nx) := by
  have hs : FPP (fun a b => boo (decide (a = b))) (fun a _ => a.length ≤ lim) [.sl 2 (a.map encS), .sl 2 (b.map encS)] = some (boo (decide (a = b))) :=
    specOf_eq (enc := fun a : List Sp × List Sp => [PV.sl 2 (a.1.map encS), .sl 2 (a.2.map encS)]) (a := (a, b)) (fun a b e => by
      obtain ⟨a1, a2⟩ := a; obtain ⟨b1, b2⟩ := b
      simp only [List.cons.injEq, and_true] at e
      rw [spans_inj e.1, spans_inj e.2]) h
  rcases hv with rfl | ⟨rfl, rfl⟩
  · exact hPure_v rfl hs (.inl rfl)
  · exact hPure_v rfl hs (.inl rfl)
noncomputable abbrev Cph : Ctx := mkCtx Tryz.prog [(51, hPure false [] (FIb timeB)), (47, hPure false [] (FP (fun l => int (spFault l)) fun _ => True)), (10, hPure false [2, 2] (FPP (fun a b => boo (decide (a = b))) fun a _ => a.length ≤ lim))]
theorem goodph : AM.Good Cph (fun g => ([] : List Nat).contains g) := good_of mixed ⟨isTime_sound, by simp, checkSpans_sound, by simp, equalS2_sound, by simp, trivial⟩
noncomputable def FPh (out : List Phs → PV) : List PV → Option PV := specOf (α := List Phs) (fun l => [.sl 2 (l.map Phs.enc)]) (fun l => sumB Phs.cb l ≤ lim) out
theorem phss_inj {a b : List Phs} (h : PV.sl 2 (a.map Phs.enc) = PV.sl 2 (b.map Phs.enc)) : a = b := by
  injection h with _ h
  exact map_inj (fun _ _ => phs_inj) h
theorem FPh_call (out : List Phs → PV) (l : List Phs) (hp : Hp) (nx : Nat) (h : sumB Phs.cb l ≤ lim) : hPure false [] (FPh out) [.sl 2 (l.map Phs.enc)] hp nx = some (out l, hp, nx) :=
  hPure_v rfl (specOf_eq (enc := fun l : List Phs => [PV.sl 2 (l.map Phs.enc)]) (a := l) (fun a b e => by simp only [List.cons.injEq, and_true] at e; exact phss_inj e) h) (.inr rfl)
set_option maxRecDepth 8000 in
theorem phases_eval (l : List Phs) (h : sumB Phs.cb l ≤ lim) : evalPure Cph Tryz.f181 [.sl 2 (l.map Phs.enc)] = some (int (phasesF l)) := by
  have hlen := sumB_len phs_pos l
  unfold lim at h
  refine evalPure_of rfl ?_
  by_cases h50 : (50 : Int) < l.length
  · have hv : phasesF l = 2 := by unfold phasesF; rw [if_pos h50]
    simp [h50, hv, Tryz.f181]
  have hv : phasesF l = phF none [] l := by unfold phasesF; rw [if_neg h50]
  rw [hv]
  simp [h50]
  refine EvC_for (fun k σ hp nx => σ 0 = .sl 2 (l.map Phs.enc) ∧ σ 10 = .sl 2 (l.map Phs.enc) ∧ σ 11 = int l.length ∧ σ 12 = int k ∧ ∃ b, (σ 3 = .sl 2 (b.map encS) ∨ (σ 3 = .nil ∧ b = [])) ∧ phF none [] l = phF (prevA l k) b (l.drop k)) l.length
    ⟨by simp, by simp, by simp, by simp, [], .inr ⟨by simp, rfl⟩, by simp [prevA]⟩ ?_
  rintro k σ hp nx hk ⟨h0, h10, h11, h12, b, hb, he⟩
  by_cases hlt : k < l.length
  · have hm := sumB_mem (f := Phs.cb) (List.getElem_mem hlt)
    obtain ⟨x, hx⟩ : ∃ x, l[k] = x := ⟨_, rfl⟩
    have hpn : prevA l (k + 1) = some x.at_ := by simp [prevA, hlt, hx]
    rw [hx] at hm
    have hmx : x.cb = 1 + x.spans.length := rfl
    rw [List.drop_eq_getElem_cons hlt, hx] at he
    simp only [phF] at he
    have hke : ∀ h : k < (l.map Phs.enc).length, (l.map Phs.enc)[k] = x.enc := fun h => by simp [hx]
    have hcs := fun hp nx => FP_call (fun l => int (spFault l)) (fun _ => True) x.spans hp nx trivial
    have heq := fun hp nx => eqS_call x.spans b (σ 3) hp nx (by unfold lim; omega) hb
    have hw : IntKind.i64.wrap ((k : Int) + 1) = (k : Int) + 1 := wrap_fit (by omega) (by omega)
    cases ht : timeB x.at_
    case false =>
      rw [ht, if_neg (by simp)] at he
      simp [h0, h10, h11, h12, hlt, hx, Phs.enc, ht, he, Tryz.f181]
    rw [ht, if_pos rfl] at he
    have step : ∀ (hp : Hp) (nx : Nat) (hpv : prevAt (prevA l k) x.at_ = false), phF none [] l = if spFault x.spans = 0 then (if x.spans = b then 7 else phF (some x.at_) x.spans (l.drop (k + 1))) else spFault x.spans := fun _ _ hpv => by
      rw [hpv, if_neg (by simp)] at he; exact he
    by_cases k0 : k = 0
    · subst k0
      have he := step hp nx rfl
      by_cases hs : spFault x.spans = 0
      case neg =>
        rw [if_neg hs] at he
        have hs2 : (spFault x.spans != 0) = true := by simpa using hs
        simp [h0, h10, h11, h12, hlt, hx, Phs.enc, ht, hcs, hs2, he, Tryz.f181]
      rw [if_pos hs] at he
      by_cases hq : x.spans = b
      · rw [if_pos hq] at he
        rw [decide_eq_true hq] at heq
        simp [h0, h10, h11, h12, hlt, hx, Phs.enc, ht, hcs, hs, heq, he, Tryz.f181]
      · rw [if_neg hq] at he
        rw [decide_eq_false hq] at heq
        simp [h0, h10, h11, h12, hlt, hx, Phs.enc, ht, hcs, hs, heq, hw]
        exact ⟨by omega, x.spans, rfl, by rw [he, show prevA l 1 = some x.at_ from hpn]; simp⟩
    · obtain ⟨j, rfl⟩ : ∃ j, k = j + 1 := ⟨k - 1, by omega⟩
      have hj : j < l.length := by omega
      have wj : IntKind.i64.wrap ((j : Int) + 1 - 1) = (j : Int) := by rw [wrap_fit (by omega) (by omega)]; omega
      have wj' : IntKind.i64.wrap (j : Int) = (j : Int) := wrap_fit (by omega) (by omega)
      have wk : IntKind.i64.wrap ((j : Int) + 1 + 1) = (j : Int) + 1 + 1 := wrap_fit (by omega) (by omega)
      have j1 : ((j : Int) + 1).toNat = j + 1 := by omega
      have j2 : 0 < (j : Int) + 1 := by omega
      have j3 : 0 ≤ (j : Int) + 1 := by omega
      have j4 : (j : Int) + 1 < l.length := by omega
      have hpv : prevAt (prevA l (j + 1)) x.at_ = decide (x.at_ ≤ l[j].at_) := by simp [prevA, hj, prevAt]
      by_cases hc : x.at_ ≤ l[j].at_
      · rw [hpv, if_pos (by simpa using hc)] at he
        simp [h0, h10, h11, h12, hlt, hj, hx, Phs.enc, ht, wj, wj', j1, j2, j3, j4, hc, he, Tryz.f181]
      have he := step hp nx (by rw [hpv]; simpa using hc)
      by_cases hs : spFault x.spans = 0
      case neg =>
        rw [if_neg hs] at he
        have hs2 : (spFault x.spans != 0) = true := by simpa using hs
        simp [h0, h10, h11, h12, hlt, hj, hx, Phs.enc, ht, wj, wj', j1, j2, j3, j4, hc, hcs, hs2, he, Tryz.f181]
      rw [if_pos hs] at he
      by_cases hq : x.spans = b
      · rw [if_pos hq] at he
        rw [decide_eq_true hq] at heq
        simp [h0, h10, h11, h12, hlt, hj, hx, Phs.enc, ht, wj, wj', j1, j2, j3, j4, hc, hcs, hs, heq, he, Tryz.f181]
      · rw [if_neg hq] at he
        rw [decide_eq_false hq] at heq
        simp [h0, h10, h11, h12, hlt, hj, hx, Phs.enc, ht, wj, wj', wk, j1, j2, j3, j4, hc, hcs, hs, heq]
        exact ⟨by omega, x.spans, rfl, by rw [he, hpn]⟩
  · obtain rfl : k = l.length := by omega
    rw [List.drop_length] at he
    simp only [phF] at he
    simp [h0, h10, h11, h12, he, Tryz.f181]
theorem phases_sound : SpecSound Tryz.prog 181 (hPure false [] (FPh fun l => int (phasesF l))) :=
  pureS (fn := Tryz.f181) goodph ⟨_, Tryz.func181, by kernel_rfl, rfl, by kernel_rfl⟩ false [] _ fun args r h => by
    obtain ⟨l, rfl, hx, rfl⟩ := specOf_inv h
    exact ⟨by simp [Tryz.f181], _, phases_eval l hx, up_of _⟩
/-! ### end -/
def endF (l : List Phs) (i : Nat) : Int := match l[i + 1]? with
  | some p => p.at_
  | none => 1125899906842624
noncomputable def FPi2 (f : List Phs → Nat → PV) : List PV → Option PV := specOf (α := List Phs × Nat) (fun a => [.sl 2 (a.1.map Phs.enc), int a.2]) (fun a => a.1.length ≤ lim ∧ a.2 ≤ lim) (fun a => f a.1 a.2)
theorem FPi2_call (f : List Phs → Nat → PV) (l : List Phs) (i : Nat) (hp : Hp) (nx : Nat) (h : l.length ≤ lim ∧ i ≤ lim) : hPure false [] (FPi2 f) [.sl 2 (l.map Phs.enc), int i] hp nx = some (f l i, hp, nx) :=
  hPure_v rfl (specOf_eq (enc := fun a : List Phs × Nat => [PV.sl 2 (a.1.map Phs.enc), int a.2]) (a := (l, i)) (fun a b e => by
    obtain ⟨a1, a2⟩ := a; obtain ⟨b1, b2⟩ := b
    simp only [List.cons.injEq, and_true] at e
    have := pint_inj e.2
    rw [phss_inj e.1, show a2 = b2 by omega]) h) (.inr rfl)
theorem end_sound : SpecSound Tryz.prog 54 (hPure false [] (FPi2 fun l i => int (endF l i))) :=
  pureS (fn := Tryz.f54) good0 ⟨_, Tryz.func54, by kernel_rfl, rfl, by kernel_rfl⟩ false [] _ fun args r h => by
    obtain ⟨⟨l, i⟩, rfl, ⟨h1, h2⟩, rfl⟩ := specOf_inv h
    unfold lim at h1 h2
    simp only at h1 h2
    refine ⟨by simp [Tryz.f54], _, evalPure_of rfl ?_, up_of _⟩
    have w1 : IntKind.i64.wrap ((i : Int) + 1) = (i : Int) + 1 := wrap_fit (by omega) (by omega)
    by_cases hlt : i + 1 < l.length
    · have hlt' : (i : Int) + 1 < l.length := by omega
      have i1 : ((i : Int) + 1).toNat = i + 1 := by omega
      have i2 : 0 ≤ (i : Int) + 1 := by omega
      simp [w1, hlt, hlt', i1, i2, endF, Phs.enc, Tryz.f54]
    · have hlt' : ¬ (i : Int) + 1 < l.length := by omega
      have hno : l[i + 1]? = none := List.getElem?_eq_none (by omega)
      simp [w1, hlt', endF, hno, Tryz.f54]
/-! ### meets -/
def meetsB : List Sp → List Sp → Bool
  | a :: l, b :: m => if a.2 ≤ b.1 then meetsB l (b :: m) else if b.2 ≤ a.1 then meetsB (a :: l) m else true
  | _, _ => false
termination_by a b => a.length + b.length
theorem meets_drop {a b : List Sp} {i k : Nat} (hi : i < a.length) (hk : k < b.length) : meetsB (a.drop i) (b.drop k) = if a[i].2 ≤ b[k].1 then meetsB (a.drop (i + 1)) (b.drop k) else if b[k].2 ≤ a[i].1 then meetsB (a.drop i) (b.drop (k + 1)) else true := by
  rw [List.drop_eq_getElem_cons hi, List.drop_eq_getElem_cons hk, meetsB]
theorem meets_nil_l (b : List Sp) : meetsB [] b = false := by unfold meetsB; rfl
theorem meets_nil_r (a : List Sp) : meetsB a [] = false := by cases a <;> (unfold meetsB; rfl)
set_option maxRecDepth 8000 in
theorem meets_eval (a b : List Sp) (ha : a.length ≤ lim) (hb : b.length ≤ lim) : evalPure C0 Tryz.f249 [.sl 2 (a.map encS), .sl 2 (b.map encS)] = some (boo (meetsB a b)) := by
  unfold lim at ha hb
  refine evalPure_of rfl ?_
  simp
  refine EvC_loop (fun st => st.σ 0 = .sl 2 (a.map encS) ∧ st.σ 1 = .sl 2 (b.map encS) ∧ ∃ i k : Nat, st.σ 5 = int i ∧ st.σ 6 = int k ∧ i ≤ a.length ∧ k ≤ b.length ∧ meetsB a b = meetsB (a.drop i) (b.drop k))
    (fun st => a.length + b.length - (numAt (st.σ 5)).toNat - (numAt (st.σ 6)).toNat) ⟨by simp, by simp, 0, 0, by simp, by simp, by simp, by simp, by simp⟩ ?_
  rintro ⟨σ, hp, nx⟩ ⟨h0, h1, i, k, h5, h6, hi, hk, he⟩
  simp only at h0 h1 h5 h6
  by_cases hia : i < a.length
  · by_cases hkb : k < b.length
    · rw [meets_drop hia hkb] at he
      have wi : IntKind.i64.wrap ((i : Int) + 1) = (i : Int) + 1 := wrap_fit (by omega) (by omega)
      have wk : IntKind.i64.wrap ((k : Int) + 1) = (k : Int) + 1 := wrap_fit (by omega) (by omega)
      by_cases h2 : a[i].2 ≤ b[k].1
      · rw [if_pos h2] at he
        simp [h0, h1, h5, h6, hia, hkb, h2, wi]
        exact ⟨⟨i + 1, by omega, k, rfl, by omega, hk, he⟩, by omega⟩
      · rw [if_neg h2] at he
        by_cases h3 : b[k].2 ≤ a[i].1
        · rw [if_pos h3] at he
          simp [h0, h1, h5, h6, hia, hkb, h2, h3, wk]
          exact ⟨⟨i, rfl, k + 1, by omega, hi, by omega, he⟩, by omega⟩
        · rw [if_neg h3] at he
          simp [h0, h1, h5, h6, hia, hkb, h2, h3, he, Tryz.f249]
    · obtain rfl : k = b.length := by omega
      rw [List.drop_length, meets_nil_r] at he
      simp [h0, h1, h5, h6, hia, he, Tryz.f249]
  · obtain rfl : i = a.length := by omega
    rw [List.drop_length, meets_nil_l] at he
    simp [h0, h1, h5, h6, he, Tryz.f249]
theorem meets_sound : SpecSound Tryz.prog 249 (hPure false [] (FPP (fun a b => boo (meetsB a b)) fun a b => a.length ≤ lim ∧ b.length ≤ lim)) :=
  pureS (fn := Tryz.f249) good0 ⟨_, Tryz.func249, by kernel_rfl, rfl, by kernel_rfl⟩ false [] _ fun args r h => by
    obtain ⟨⟨a, b⟩, rfl, hx, rfl⟩ := specOf_inv h
    exact ⟨by simp [Tryz.f249], _, meets_eval a b hx.1 hx.2, up_of _⟩
/-! ### clash -/
/-- Two phases come too near. -/
def nearB (a b : List Phs) (i k : Nat) (p q : Phs) (rest : Int) : Bool := (decide (p.at_ ≤ q.at_) && decide (q.at_ < endF a i + rest)) || (decide (q.at_ ≤ p.at_) && decide (p.at_ < endF b k + rest))
def hitB (a b : List Phs) (i k : Nat) (p q : Phs) (rest : Int) : Bool := nearB a b i k p q rest && meetsB p.spans q.spans
def clash2 (a b : List Phs) (i : Nat) (p : Phs) (rest : Int) : Nat → List Phs → Bool
  | _, [] => false
  | k, q :: l => hitB a b i k p q rest || clash2 a b i p rest (k + 1) l
def clash1 (a b : List Phs) (rest : Int) : Nat → List Phs → Bool
  | _, [] => false
  | i, p :: l => clash2 a b i p rest 0 b || clash1 a b rest (i + 1) l
def clashB (a b : Xp) (rest : Int) : Bool := clash1 a.phases b.phases rest 0 a.phases
/-- Times that can be. -/
def timesOk (l : List Phs) : Prop := ∀ p ∈ l, 0 ≤ p.at_ ∧ p.at_ ≤ 4000000000
theorem end_range {l : List Phs} (h : timesOk l) (i : Nat) : 0 ≤ endF l i ∧ endF l i ≤ 1125899906842624 := by
  unfold endF
  split
  · rename_i p hp
    have := h p (List.mem_of_getElem? hp)
    omega
  · omega
def Xp.okC (x : Xp) : Prop := timesOk x.phases ∧ x.cb ≤ lim
noncomputable def FClash : List PV → Option PV := specOf (α := Xp × Xp × Int) (fun a => [.agg a.1.enc, .agg a.2.1.enc, int a.2.2]) (fun a => a.1.okC ∧ a.2.1.okC ∧ 0 ≤ a.2.2 ∧ a.2.2 ≤ 100000000) (fun a => boo (clashB a.1 a.2.1 a.2.2))
theorem freeze_xp (hp : Hp) (x : Xp) : freezeVal hp (.agg x.enc) = some (.agg x.enc, hp) := by
  rw [xp_enc]
  simp
theorem noOwn_xp (x : Xp) : PV.noOwn (.agg x.enc) = true := by
  rw [xp_enc]
  simp
theorem FClash_call (a b : Xp) (rest : Int) (hp : Hp) (nx : Nat) (h : a.okC ∧ b.okC ∧ 0 ≤ rest ∧ rest ≤ 100000000) : hPure false [] FClash [.agg a.enc, .agg b.enc, int rest] hp nx = some (boo (clashB a b rest), hp, nx) :=
  hPure_v (hp1 := hp) (show freezeVals hp [.agg a.enc, .agg b.enc, int rest] = some ([.agg a.enc, .agg b.enc, int rest], hp) by simp only [freezeVals, freeze_xp]; rfl) (specOf_eq (enc := fun a : Xp × Xp × Int => [.agg a.1.enc, .agg a.2.1.enc, int a.2.2]) (a := (a, b, rest)) (fun x y e => by
    obtain ⟨x1, x2, x3⟩ := x; obtain ⟨y1, y2, y3⟩ := y
    simp only [List.cons.injEq, and_true, PV.agg.injEq] at e
    rw [xp_inj e.1, xp_inj e.2.1, pint_inj e.2.2]) h) (.inl rfl)
noncomputable abbrev Ccla : Ctx := mkCtx Tryz.prog [(54, hPure false [] (FPi2 fun l i => int (endF l i))), (249, hPure false [] (FPP (fun a b => boo (meetsB a b)) fun a b => a.length ≤ lim ∧ b.length ≤ lim))]
theorem goodcla : AM.Good Ccla (fun g => [54, 249].contains g) := good_of mixed ⟨end_sound, fun _ => hPure_quiet _ _, meets_sound, fun _ => hPure_quiet _ _, trivial⟩
@[simp] theorem quietcla1 : QuietIn Ccla 54 := quietIn_of (by rfl) (hPure_quiet _ _)
@[simp] theorem quietcla2 : QuietIn Ccla 249 := quietIn_of (by rfl) (hPure_quiet _ _)
theorem clash1_drop {a b : List Phs} {rest : Int} {i : Nat} {l : List Phs} (h : i < l.length) : clash1 a b rest i (l.drop i) = (clash2 a b i l[i] rest 0 b || clash1 a b rest (i + 1) (l.drop (i + 1))) := by
  rw [List.drop_eq_getElem_cons h, clash1]
theorem clash2_drop {a b : List Phs} {rest : Int} {i k : Nat} {p : Phs} {l : List Phs} (h : k < l.length) : clash2 a b i p rest k (l.drop k) = (hitB a b i k p l[k] rest || clash2 a b i p rest (k + 1) (l.drop (k + 1))) := by
  rw [List.drop_eq_getElem_cons h, clash2]
set_option maxRecDepth 8000 in
set_option maxHeartbeats 2000000 in
theorem clash_eval (a b : Xp) (rest : Int) (ha : a.okC) (hb : b.okC) (hr : 0 ≤ rest ∧ rest ≤ 100000000) : evalPure Ccla Tryz.f184 [.agg a.enc, .agg b.enc, int rest] = some (boo (clashB a b rest)) := by
  obtain ⟨hta, hca⟩ := ha
  obtain ⟨htb, hcb⟩ := hb
  have hla := sumB_len phs_pos a.phases
  have hlb := sumB_len phs_pos b.phases
  have xca : a.cb = a.name.length + a.layer.length + a.flag.length + a.cond.cb + a.salt.length + a.arms.length + sumB Phs.cb a.phases := rfl
  have xcb : b.cb = b.name.length + b.layer.length + b.flag.length + b.cond.cb + b.salt.length + b.arms.length + sumB Phs.cb b.phases := rfl
  unfold lim at hca hcb
  refine evalPure_of rfl ?_
  simp [xp_enc]
  have hval : clashB a b rest = clash1 a.phases b.phases rest 0 a.phases := rfl
  refine EvC_for (fun i σ hp nx => σ 2 = int rest ∧ σ 3 = .ref 0 0 0 ∧ σ 4 = .ref 1 0 0 ∧ σ 13 = .sl 2 (a.phases.map Phs.enc) ∧ σ 14 = int a.phases.length ∧ σ 15 = int i ∧ 2 ≤ nx ∧ hp 0 = some ⟨58, 13, false, [a.enc]⟩ ∧ hp 1 = some ⟨58, 13, false, [b.enc]⟩ ∧ clashB a b rest = clash1 a.phases b.phases rest i (a.phases.drop i)) a.phases.length
    ⟨by simp, by simp, by simp, by simp, by simp, by simp, by simp, by simp [xp_enc], by simp [xp_enc], by rw [hval]; simp⟩ ?_
  rintro i σ hp nx hi ⟨h2, h3, h4, h13, h14, h15, hnx, b0, b1, he⟩
  by_cases hlt : i < a.phases.length
  · obtain ⟨p, hpd⟩ : ∃ p, a.phases[i] = p := ⟨_, rfl⟩
    have hpm := hta p (by rw [← hpd]; exact List.getElem_mem hlt)
    have hsp := sumB_mem (f := Phs.cb) (show p ∈ a.phases by rw [← hpd]; exact List.getElem_mem hlt)
    have hpc : p.cb = 1 + p.spans.length := rfl
    rw [clash1_drop hlt, hpd] at he
    have hwi : IntKind.i64.wrap ((i : Int) + 1) = (i : Int) + 1 := wrap_fit (by omega) (by omega)
    have n0 : ¬ 0 = nx := by omega
    have n1 : ¬ 1 = nx := by omega
    simp [h2, h3, h4, h13, h14, h15, hlt, hpd, Phs.enc, b0, b1, n0, n1, xp_enc]
    obtain ⟨P, hP⟩ : ∃ P, nx = P := ⟨_, rfl⟩
    rw [hP]
    have hea := end_range hta i
    refine EvC_for (fun k σ hp nx => σ 2 = int rest ∧ σ 3 = .ref 0 0 0 ∧ σ 4 = .ref 1 0 0 ∧ σ 13 = .sl 2 (a.phases.map Phs.enc) ∧ σ 14 = int a.phases.length ∧ σ 15 = int i ∧ σ 7 = int i ∧ σ 8 = .ref P 0 0 ∧ σ 21 = .sl 2 (b.phases.map Phs.enc) ∧ σ 22 = int b.phases.length ∧ σ 23 = int k ∧ 2 ≤ P ∧ P < nx ∧
        hp 0 = some ⟨58, 13, false, [a.enc]⟩ ∧ hp 1 = some ⟨58, 13, false, [b.enc]⟩ ∧ hp P = some ⟨92, 2, false, [p.enc]⟩ ∧ clashB a b rest = (clash2 a.phases b.phases i p rest k (b.phases.drop k) || clash1 a.phases b.phases rest (i + 1) (a.phases.drop (i + 1)))) b.phases.length
      ⟨by simp [h2], by simp [h3], by simp [h4], by simp [h13], by simp [h14], by simp [h15], by simp, by simp, by simp, by simp, by simp, by omega, (by show P < P + 1; omega), by simp [b0, show ¬ 0 = P by omega], by simp [b1, show ¬ 1 = P by omega], by simp [Phs.enc], by simpa using he⟩ ?_
    clear h2 h3 h4 h13 h14 h15 hnx b0 b1 n0 n1 hP hi σ hp nx
    rintro k σ hp nx hk ⟨h2, h3, h4, h13, h14, h15, h7, h8, h21, h22, h23, hP2, hPn, b0, b1, bP, he⟩
    by_cases hltk : k < b.phases.length
    · obtain ⟨q, hqd⟩ : ∃ q, b.phases[k] = q := ⟨_, rfl⟩
      have hqm := htb q (by rw [← hqd]; exact List.getElem_mem hltk)
      have hsq := sumB_mem (f := Phs.cb) (show q ∈ b.phases by rw [← hqd]; exact List.getElem_mem hltk)
      have hqc : q.cb = 1 + q.spans.length := rfl
      rw [clash2_drop hltk, hqd] at he
      have hwk : IntKind.i64.wrap ((k : Int) + 1) = (k : Int) + 1 := wrap_fit (by omega) (by omega)
      have heb := end_range htb k
      have wa : IntKind.i64.wrap (endF a.phases i + rest) = endF a.phases i + rest := wrap_fit (by omega) (by omega)
      have wb : IntKind.i64.wrap (endF b.phases k + rest) = endF b.phases k + rest := wrap_fit (by omega) (by omega)
      have hce := fun hp nx => FPi2_call (fun l i => int (endF l i)) a.phases i hp nx ⟨by unfold lim; omega, by unfold lim; omega⟩
      have hcf := fun hp nx => FPi2_call (fun l i => int (endF l i)) b.phases k hp nx ⟨by unfold lim; omega, by unfold lim; omega⟩
      have hcm := fun hp nx => FPP_call (fun a b => boo (meetsB a b)) (fun a b => a.length ≤ lim ∧ b.length ≤ lim) p.spans q.spans hp nx ⟨by unfold lim; omega, by unfold lim; omega⟩
      have n0 : ¬ 0 = nx := by omega
      have n1 : ¬ 1 = nx := by omega
      have nP : ¬ P = nx := by omega
      have hnear : ((decide (p.at_ ≤ q.at_) && decide (q.at_ < endF a.phases i + rest)) || (decide (q.at_ ≤ p.at_) && decide (p.at_ < endF b.phases k + rest))) = nearB a.phases b.phases i k p q rest := rfl
      have hhit : (nearB a.phases b.phases i k p q rest && meetsB p.spans q.spans) = hitB a.phases b.phases i k p q rest := rfl
      rw [Phs.enc] at bP
      rw [xp_enc] at b0 b1
      cases hh : hitB a.phases b.phases i k p q rest
      · rw [hh] at he
        simp [h2, h3, h4, h7, h8, h13, h14, h15, h21, h22, h23, hltk, hqd, Phs.enc, b0, b1, bP, n0, n1, nP, hce, hcf, hcm, wa, wb, hnear, hhit, hh, hwk]
        exact ⟨by omega, hP2, by omega, (xp_enc a).symm, (xp_enc b).symm, by rw [he]; rfl⟩
      · rw [hh] at he
        simp [h2, h3, h4, h7, h8, h13, h14, h15, h21, h22, h23, hltk, hqd, Phs.enc, b0, b1, bP, n0, n1, nP, hce, hcf, hcm, wa, wb, hnear, hhit, hh, he, Tryz.f184]
    · obtain rfl : k = b.phases.length := by omega
      rw [List.drop_length] at he
      simp only [clash2, Bool.false_or] at he
      simp [h2, h3, h4, h13, h14, h15, h21, h22, h23, hwi]
      exact ⟨by omega, by omega, by rw [← xp_enc]; exact b0, by rw [← xp_enc]; exact b1, he⟩
  · obtain rfl : i = a.phases.length := by omega
    rw [List.drop_length] at he
    simp only [clash1] at he
    simp [h2, h3, h4, h13, h14, h15, he, Tryz.f184]
set_option maxRecDepth 100000 in
theorem clash_sound : SpecSound Tryz.prog 184 (hPure false [] FClash) :=
  pureS (fn := Tryz.f184) goodcla ⟨_, Tryz.func184, by kernel_rfl, rfl, by kernel_rfl⟩ false [] _ fun args r h => by
    obtain ⟨⟨a, b, rest⟩, rfl, ⟨h1, h2, h3⟩, rfl⟩ := specOf_inv h
    exact ⟨by simp [Tryz.f184], _, clash_eval a b rest h1 h2 h3, up_of _⟩
end Go.Proofs.YtfjeckcbnhohmaaGreatDoor
namespace Go.AM
open Go.RowKit
section
variable (C : Ctx) (ρ : Operand → Option PV) (hp : Hp) (nx : Nat)
@[simp] theorem op_lookup (t : TypeId) (x i : Operand) (ok : Bool) : evalOp C ρ hp nx (.lookup t x i ok) = (do let p ← ρ x; let q ← ρ i; let r ← lookupA C.P hp t p q ok; some (r, hp, nx)) := by
  simp only [evalOp]; cases ρ x <;> cases ρ i <;> (try rfl); simp; cases lookupA C.P hp t _ _ ok <;> rfl
@[simp] theorem op_mapUpdate (t : TypeId) (m k x : Operand) : evalOp C ρ hp nx (.mapUpdate t m k x) = (do let p ← ρ m; let q ← ρ k; let y ← ρ x; let h ← mapPutA C.P hp t p q y; some (.tup [], h, nx)) := by
  simp only [evalOp]; cases ρ m <;> cases ρ k <;> cases ρ x <;> (try rfl); simp; cases mapPutA C.P hp t _ _ _ <;> rfl
@[simp] theorem op_makeMap (t : TypeId) : evalOp C ρ hp nx (.makeMap t none) = (do let _ ← mapKT C.P t; some (.mp nx, upd hp nx (some ⟨t, 0, false, []⟩), nx + 1)) := by
  simp only [evalOp]; cases mapKT C.P t <;> rfl
def nilCkA : PV → Option PV
  | .ref id i j => some (.ref id i j)
  | .ptr cs => some (.ptr cs)
  | _ => none
@[simp] theorem nilCkA_ref (id i j : Nat) : nilCkA (.ref id i j) = some (.ref id i j) := rfl
@[simp] theorem nilCkA_ptr (cs : List PV) : nilCkA (.ptr cs) = some (.ptr cs) := rfl
@[simp] theorem op_nilCheck (x : Operand) : evalOp C ρ hp nx (.nilCheck x) = (do let p ← ρ x; let r ← nilCkA p; some (r, hp, nx)) := by
  simp only [evalOp]
  cases ρ x with
  | none => rfl
  | some p => cases p <;> rfl
end
theorem upd_id {α : Type} (f : Nat → α) (k : Nat) (x : α) (h : f k = x) : upd f k x = f := by
  funext i
  by_cases e : i = k
  · subst e; simp [h]
  · simp [e]
@[simp] theorem cells_mp (i : Nat) : PV.cells (.mp i) = [.mp i] := rfl
@[simp] theorem isCell_mp (i : Nat) : PV.isCell (.mp i) = true := rfl
end Go.AM
namespace Go.Proofs.YtfjeckcbnhohmaaGreatDoor
open Go.RowKit Go.AM Go.SpanLaw
/-! ### a set of strings -/
def entM (l : List (List UInt8)) : List (List PV) := l.map fun s => [str s, boo true]
def blkM (l : List (List UInt8)) : Blk := ⟨122, 0, false, entM l⟩
theorem findE_set (s : List UInt8) : ∀ (l : List (List UInt8)) (i : Nat), (s ∉ l → findE (.string ⟨s.toArray⟩) (entM l) i = some none) ∧ (s ∈ l → ∃ j, findE (.string ⟨s.toArray⟩) (entM l) i = some (some (j, boo true)))
  | [], i => ⟨fun _ => rfl, fun h => by simp at h⟩
  | x :: l, i => by
    obtain ⟨h1, h2⟩ := findE_set s l (i + 1)
    by_cases he : s = x
    · refine ⟨fun h => absurd (by simp [he]) h, fun _ => ⟨i, ?_⟩⟩
      subst he
      simp [entM, findE, keySame]
    · have hk : keySame (.string ⟨s.toArray⟩) (.string ⟨x.toArray⟩) = some false := by
        simp only [keySame]
        congr 1
        rw [beq_eq_false_iff_ne]
        intro e
        exact he (by simpa [ByteArray.toList_eq] using e)
      have hf : findE (.string ⟨s.toArray⟩) (entM (x :: l)) i = findE (.string ⟨s.toArray⟩) (entM l) (i + 1) := by
        simp only [entM, List.map_cons, findE, hk]
      refine ⟨fun h => by rw [hf]; exact h1 fun h' => h (List.mem_cons_of_mem _ h'), fun h => ?_⟩
      rcases List.mem_cons.1 h with h | h
      · exact absurd h he
      · rw [hf]; exact h2 h
@[simp] theorem mapKT_set : mapKT Tryz.prog 122 = some (none, 4) := by kernel_rfl
@[simp] theorem zeroV_bool : zeroV Tryz.prog 4 = some (boo false) := by kernel_rfl
theorem look_set {hp : Hp} {id : Nat} {l : List (List UInt8)} (s : List UInt8) (h : hp id = some (blkM l)) : lookupA Tryz.prog hp 122 (.mp id) (str s) false = some (boo (decide (s ∈ l))) := by
  obtain ⟨h1, h2⟩ := findE_set s l 0
  by_cases hm : s ∈ l
  · obtain ⟨j, hj⟩ := h2 hm
    simp [lookupA, entsA, h, blkM, keyOk, hj, hm]
  · simp [lookupA, entsA, h, blkM, keyOk, h1 hm, hm]
theorem put_set {hp : Hp} {id : Nat} {l : List (List UInt8)} (s : List UInt8) (h : hp id = some (blkM l)) (hs : s ∉ l) : mapPutA Tryz.prog hp 122 (.mp id) (str s) (boo true) = some (upd hp id (some (blkM (l ++ [s])))) := by
  obtain ⟨h1, h2⟩ := findE_set s l 0
  simp [mapPutA, h, blkM, keyOk, h1 hs]
  simp [entM]
/-! ### the checker -/
def blkC (b : Bk) (m g : Nat) (any : Bool) : Blk := ⟨124, 6, false, [b.enc ++ [.mp m, .mp g, boo any]]⟩
theorem blkC_eq (b : Bk) (m g : Nat) (any : Bool) : blkC b m g any = ⟨124, 6, false, [[.sl 3 (b.layers.map Lyr.enc), .sl 4 (b.holds.map Hld.enc), .sl 13 (b.exps.map Xp.enc), .mp m, .mp g, boo any]]⟩ := rfl
/-! ### salts -/
def saltF (l : List (List UInt8)) (s : List UInt8) : Int := if saltB s = true then (if s ∈ l then 7 else 0) else 3
def saltS (l : List (List UInt8)) (s : List UInt8) : List (List UInt8) := if saltF l s = 0 then l ++ [s] else l
noncomputable abbrev Csal : Ctx := mkCtx Tryz.prog [(244, hPure false [] (FS saltB))]
theorem goodsal : AM.Good Csal (fun g => ([] : List Nat).contains g) := good_of mixed ⟨isSalt_sound, by simp, trivial⟩
set_option maxRecDepth 100000 in
theorem salt_sound : SpecSound Tryz.prog 178 (hRun Csal Tryz.f178) := hRun_sound (code := _) goodsal ⟨Tryz.func178, by kernel_rfl, rfl, by kernel_rfl⟩
set_option maxRecDepth 8000 in
theorem salt_run (b : Bk) (l : List (List UInt8)) (s : List UInt8) (hs : s.length ≤ lim) (any : Bool) (hp : Hp) (nx id m g : Nat) (hc : hp id = some (blkC b m g any)) (hm : hp m = some (blkM l)) :
    hRun Csal Tryz.f178 [.ref id 0 0, str s] hp nx = some (int (saltF l s), upd hp m (some (blkM (saltS l s))), nx) := by
  unfold hRun
  rw [if_pos (by simp [Tryz.f178])]
  refine evalFunc_eq rfl ?_
  rw [blkC_eq] at hc
  have hl := look_set s hm
  cases hb : saltB s
  · have h0 : saltF l s = 3 := by simp [saltF, hb]
    have hS : upd hp m (some (blkM (saltS l s))) = hp := upd_id _ _ _ (by rw [saltS, h0]; exact hm)
    simp [hs, hb, h0, hS, Tryz.f178]
  · by_cases hx : s ∈ l
    · have h0 : saltF l s = 7 := by simp [saltF, hb, hx]
      have hS : upd hp m (some (blkM (saltS l s))) = hp := upd_id _ _ _ (by rw [saltS, h0]; exact hm)
      rw [decide_eq_true hx] at hl
      simp [hs, hb, h0, hS, hc, hl, Tryz.f178]
    · have h0 : saltF l s = 0 := by simp [saltF, hb, hx]
      have hS : saltS l s = l ++ [s] := by rw [saltS, h0]; rfl
      have hp := put_set s hm hx
      rw [decide_eq_false hx] at hl
      simp [hs, hb, h0, hS, hc, hl, hp, Tryz.f178]
/-- What a method leaves. -/
def KeepM (r : PV) (l : List (List UInt8)) (m : Nat) (hp : Hp) (nx : Nat) (x : PV) (hp' : Hp) (nx' : Nat) : Prop := x = r ∧ nx ≤ nx' ∧ hp' m = some (blkM l) ∧ ∀ j, j < nx → j ≠ m → hp' j = hp j
/-! ### layers -/
def layersF : List UInt8 → List (List UInt8) → List Lyr → Int × List (List UInt8)
  | _, l, [] => (0, l)
  | before, l, x :: xs => if nameF x.name before = 0 then (if saltF l x.salt = 0 then (if inB x.rest 0 100000000 = true then layersF x.name (saltS l x.salt) xs else (1, saltS l x.salt)) else (saltF l x.salt, saltS l x.salt)) else (nameF x.name before, l)
noncomputable abbrev Clay : Ctx := mkCtx Tryz.prog [(177, hPure false [] (FSS2 fun a b => int (nameF a b))), (178, hRun Csal Tryz.f178), (83, hPure false [] (F3 inB))]
theorem goodlay : AM.Good Clay (fun g => ([] : List Nat).contains g) := good_of mixed ⟨nameFault_sound, by simp, salt_sound, by simp, withinL_sound, by simp, trivial⟩
set_option maxRecDepth 100000 in
theorem layers_sound : SpecSound Tryz.prog 131 (hRun Clay Tryz.f131) := hRun_sound (code := _) goodlay ⟨Tryz.func131, by kernel_rfl, rfl, by kernel_rfl⟩
set_option maxRecDepth 8000 in
theorem layers_run (b : Bk) (l : List (List UInt8)) (hb : b.cb ≤ lim) (any : Bool) (hp0 : Hp) (nx0 id m g : Nat) (hid : id < nx0) (hmd : m < nx0) (hne : id ≠ m) (hc0 : hp0 id = some (blkC b m g any)) (hm0 : hp0 m = some (blkM l)) :
    ∃ x hp' nx', hRun Clay Tryz.f131 [.ref id 0 0] hp0 nx0 = some (x, hp', nx') ∧ KeepM (int (layersF [] l b.layers).1) (layersF [] l b.layers).2 m hp0 nx0 x hp' nx' := by
  unfold hRun
  rw [if_pos (by simp [Tryz.f131])]
  refine evalFunc_of rfl ?_
  have hlen := sumB_len lyr_pos b.layers
  have hbc : b.cb = sumB Lyr.cb b.layers + sumB Hld.cb b.holds + sumB Xp.cb b.exps := rfl
  unfold lim at hb
  have hc := hc0
  rw [blkC_eq] at hc
  simp [hc]
  refine EvC_for (fun k σ hp nx => σ 0 = .ref id 0 0 ∧ σ 12 = .sl 3 (b.layers.map Lyr.enc) ∧ σ 13 = int b.layers.length ∧ σ 14 = int k ∧ nx0 ≤ nx ∧ (∀ j, j < nx0 → j ≠ m → hp j = hp0 j) ∧ ∃ (before : List UInt8) (l' : List (List UInt8)), σ 3 = str before ∧ hp m = some (blkM l') ∧ layersF [] l b.layers = layersF before l' (b.layers.drop k)) b.layers.length
    ⟨by simp, by simp, by simp, by simp, Nat.le_refl _, fun _ _ _ => rfl, [], l, by simp, hm0, by simp⟩ ?_
  rintro k σ hp nx hk ⟨h0, h12, h13, h14, hnx, hfr, before, l', h3, hm, he⟩
  by_cases hlt : k < b.layers.length
  · obtain ⟨x, hx⟩ : ∃ x, b.layers[k] = x := ⟨_, rfl⟩
    have hmx := sumB_mem (f := Lyr.cb) (List.getElem_mem hlt)
    rw [hx] at hmx
    have hxc : x.cb = 1 + x.name.length + x.salt.length := rfl
    rw [List.drop_eq_getElem_cons hlt, hx] at he
    simp only [layersF] at he
    have hw : IntKind.i64.wrap ((k : Int) + 1) = (k : Int) + 1 := wrap_fit (by omega) (by omega)
    have hnf := fun hp nx => FSS2_call (fun a b => int (nameF a b)) x.name before hp nx (by unfold lim; omega) (by simp)
    have nm : ¬ m = nx := by omega
    have ni : ¬ id = nx := by omega
    have hci : upd hp nx (some ⟨82, 3, false, [x.enc]⟩) id = some (blkC b m g any) := by rw [upd_miss _ _ _ _ ni, hfr id hid hne]; exact hc0
    have hmi : upd hp nx (some ⟨82, 3, false, [x.enc]⟩) m = some (blkM l') := by rw [upd_miss _ _ _ _ nm]; exact hm
    have hsr := salt_run b l' x.salt (by unfold lim; omega) any _ (nx + 1) id m g hci hmi
    simp only [Lyr.enc] at hsr
    have hnx' : ¬ nx = m := by omega
    by_cases c1 : nameF x.name before = 0
    case neg =>
      rw [if_neg c1] at he
      have c1' : (nameF x.name before != 0) = true := by simpa using c1
      simp [h0, h3, h12, h13, h14, hlt, hx, Lyr.enc, hnf, c1', Tryz.f131, KeepM, he]
      exact ⟨by omega, by rw [upd_miss _ _ _ _ nm]; exact hm, fun j hj hjm => by rw [upd_miss _ _ _ _ (by omega)]; exact hfr j hj hjm⟩
    rw [if_pos c1] at he
    by_cases c2 : saltF l' x.salt = 0
    case neg =>
      rw [if_neg c2] at he
      have c2' : (saltF l' x.salt != 0) = true := by simpa using c2
      simp [h0, h3, h12, h13, h14, hlt, hx, Lyr.enc, hnf, c1, hsr, c2', Tryz.f131, KeepM, he]
      exact ⟨by omega, fun j hj hjm => by rw [upd_miss _ _ _ _ hjm, upd_miss _ _ _ _ (by omega)]; exact hfr j hj hjm⟩
    rw [if_pos c2] at he
    cases c3 : inB x.rest 0 100000000
    · rw [c3, if_neg (by simp)] at he
      simp [h0, h3, h12, h13, h14, hlt, hx, Lyr.enc, hnf, c1, hsr, c2, c3, hnx', Tryz.f131, KeepM, he]
      exact ⟨by omega, fun j hj hjm => by rw [upd_miss _ _ _ _ hjm, upd_miss _ _ _ _ (by omega)]; exact hfr j hj hjm⟩
    · rw [c3, if_pos rfl] at he
      simp [h0, h3, h12, h13, h14, hlt, hx, Lyr.enc, hnf, c1, hsr, c2, c3, hnx', hw]
      exact ⟨by omega, by omega, fun j hj hjm => by rw [upd_miss _ _ _ _ hjm, upd_miss _ _ _ _ (by omega)]; exact hfr j hj hjm, saltS l' x.salt, rfl, he⟩
  · obtain rfl : k = b.layers.length := by omega
    rw [List.drop_length] at he
    simp only [layersF] at he
    simp [h0, h12, h13, h14, Tryz.f131, KeepM, he]
    exact ⟨hnx, hm, hfr⟩
end Go.Proofs.YtfjeckcbnhohmaaGreatDoor
namespace Go.Proofs.YtfjeckcbnhohmaaGreatDoor
open Go.RowKit Go.AM Go.SpanLaw
def leP (p : Option (List UInt8)) (s : List UInt8) : Bool := match p with
  | none => false
  | some q => leB s q
noncomputable def holdLs (L : List Lyr) : Option (List UInt8) → List (List UInt8) → Int
  | _, [] => 0
  | p, s :: l => if (bsN (L.map Lyr.name) s).2 = true then (if leP p s = true then 8 else holdLs L (some s) l) else 9
noncomputable def holdF (L : List Lyr) (x : Hld) : Int := if inB x.buckets 1 100000 = true then (if x.layers.length = 0 then 9 else holdLs L none x.layers) else 1
noncomputable def holdsF (L : List Lyr) : List UInt8 → List (List UInt8) → List Hld → Int × List (List UInt8)
  | _, l, [] => (0, l)
  | before, l, x :: xs => if nameF x.name before = 0 then (if saltF l x.salt = 0 then (if holdF L x = 0 then holdsF L x.name (saltS l x.salt) xs else (holdF L x, saltS l x.salt)) else (saltF l x.salt, saltS l x.salt)) else (nameF x.name before, l)
def prevT (l : List (List UInt8)) (k : Nat) : Option (List UInt8) := if k = 0 then none else l[k - 1]?
noncomputable abbrev Chol : Ctx := mkCtx Tryz.prog [(177, hPure false [] (FSS2 fun a b => int (nameF a b))), (178, hRun Csal Tryz.f178), (83, hPure false [] (F3 inB)), (50, hPure false [] FOfL)]
theorem goodhol : AM.Good Chol (fun g => ([] : List Nat).contains g) := good_of mixed ⟨nameFault_sound, by simp, salt_sound, by simp, withinL_sound, by simp, ofL_sound, by simp, trivial⟩
set_option maxRecDepth 100000 in
theorem holds_sound : SpecSound Tryz.prog 132 (hRun Chol Tryz.f132) := hRun_sound (code := _) goodhol ⟨Tryz.func132, by kernel_rfl, rfl, by kernel_rfl⟩
set_option maxRecDepth 8000 in
set_option maxHeartbeats 2000000 in
theorem holds_run (b : Bk) (l : List (List UInt8)) (hb : b.cb ≤ lim) (any : Bool) (hp0 : Hp) (nx0 id m g : Nat) (hid : id < nx0) (hmd : m < nx0) (hne : id ≠ m) (hc0 : hp0 id = some (blkC b m g any)) (hm0 : hp0 m = some (blkM l)) :
    ∃ x hp' nx', hRun Chol Tryz.f132 [.ref id 0 0] hp0 nx0 = some (x, hp', nx') ∧ KeepM (int (holdsF b.layers [] l b.holds).1) (holdsF b.layers [] l b.holds).2 m hp0 nx0 x hp' nx' := by
  unfold hRun
  rw [if_pos (by simp [Tryz.f132])]
  refine evalFunc_of rfl ?_
  have hlen := sumB_len hld_pos b.holds
  have hleL := sumB_len lyr_pos b.layers
  have hbc : b.cb = sumB Lyr.cb b.layers + sumB Hld.cb b.holds + sumB Xp.cb b.exps := rfl
  unfold lim at hb
  have hc := hc0
  rw [blkC_eq] at hc
  simp [hc]
  refine EvC_for (fun k σ hp nx => σ 0 = .ref id 0 0 ∧ σ 16 = .sl 4 (b.holds.map Hld.enc) ∧ σ 17 = int b.holds.length ∧ σ 18 = int k ∧ nx0 ≤ nx ∧ (∀ j, j < nx0 → j ≠ m → hp j = hp0 j) ∧ ∃ (before : List UInt8) (l' : List (List UInt8)), σ 3 = str before ∧ hp m = some (blkM l') ∧ holdsF b.layers [] l b.holds = holdsF b.layers before l' (b.holds.drop k)) b.holds.length
    ⟨by simp, by simp, by simp, by simp, Nat.le_refl _, fun _ _ _ => rfl, [], l, by simp, hm0, by simp⟩ ?_
  rintro k σ hp nx hk ⟨h0, h16, h17, h18, hnx, hfr, before, l', h3, hm, he⟩
  by_cases hlt : k < b.holds.length
  · obtain ⟨x, hx⟩ : ∃ x, b.holds[k] = x := ⟨_, rfl⟩
    have hmx := sumB_mem (f := Hld.cb) (List.getElem_mem hlt)
    rw [hx] at hmx
    have hxc : x.cb = 1 + x.name.length + x.salt.length + sumB (fun s => 1 + s.length) x.layers := rfl
    have hxl := sumB_len (f := fun s : List UInt8 => 1 + s.length) (fun _ => by omega) x.layers
    rw [List.drop_eq_getElem_cons hlt, hx] at he
    simp only [holdsF] at he
    have hw : IntKind.i64.wrap ((k : Int) + 1) = (k : Int) + 1 := wrap_fit (by omega) (by omega)
    have hnf := fun hp nx => FSS2_call (fun a b => int (nameF a b)) x.name before hp nx (by unfold lim; omega) (by simp)
    have nm : ¬ m = nx := by omega
    have ni : ¬ id = nx := by omega
    have hci : upd hp nx (some ⟨216, 4, false, [x.enc]⟩) id = some (blkC b m g any) := by rw [upd_miss _ _ _ _ ni, hfr id hid hne]; exact hc0
    have hmi : upd hp nx (some ⟨216, 4, false, [x.enc]⟩) m = some (blkM l') := by rw [upd_miss _ _ _ _ nm]; exact hm
    have hsr := salt_run b l' x.salt (by unfold lim; omega) any _ (nx + 1) id m g hci hmi
    simp only [Hld.enc] at hsr
    have hnx' : ¬ nx = m := by omega
    by_cases c1 : nameF x.name before = 0
    case neg =>
      rw [if_neg c1] at he
      have c1' : (nameF x.name before != 0) = true := by simpa using c1
      simp [h0, h3, h16, h17, h18, hlt, hx, Hld.enc, hnf, c1', Tryz.f132, KeepM, he]
      exact ⟨by omega, by rw [upd_miss _ _ _ _ nm]; exact hm, fun j hj hjm => by rw [upd_miss _ _ _ _ (by omega)]; exact hfr j hj hjm⟩
    rw [if_pos c1] at he
    by_cases c2 : saltF l' x.salt = 0
    case neg =>
      rw [if_neg c2] at he
      have c2' : (saltF l' x.salt != 0) = true := by simpa using c2
      simp [h0, h3, h16, h17, h18, hlt, hx, Hld.enc, hnf, c1, hsr, c2', Tryz.f132, KeepM, he]
      exact ⟨by omega, fun j hj hjm => by rw [upd_miss _ _ _ _ hjm, upd_miss _ _ _ _ (by omega)]; exact hfr j hj hjm⟩
    rw [if_pos c2] at he
    cases c3 : inB x.buckets 1 100000
    · have hf : holdF b.layers x = 1 := by unfold holdF; rw [c3, if_neg (by simp)]
      rw [hf, if_neg (by decide)] at he
      simp [h0, h3, h16, h17, h18, hlt, hx, Hld.enc, hnf, c1, hsr, c2, c3, hnx', Tryz.f132, KeepM, he]
      exact ⟨by omega, fun j hj hjm => by rw [upd_miss _ _ _ _ hjm, upd_miss _ _ _ _ (by omega)]; exact hfr j hj hjm⟩
    by_cases c4 : x.layers.length = 0
    · have hf : holdF b.layers x = 9 := by unfold holdF; rw [c3, if_pos rfl, if_pos c4]
      rw [hf, if_neg (by decide)] at he
      have hel : (encT x.layers).length = 0 := by simpa [encT] using c4
      simp [h0, h3, h16, h17, h18, hlt, hx, Hld.enc, hel, hnf, c1, hsr, c2, c3, hnx', Tryz.f132, KeepM, he]
      exact ⟨by omega, fun j hj hjm => by rw [upd_miss _ _ _ _ hjm, upd_miss _ _ _ _ (by omega)]; exact hfr j hj hjm⟩
    have hf : holdF b.layers x = holdLs b.layers none x.layers := by unfold holdF; rw [c3, if_pos rfl, if_neg c4]
    rw [hf] at he
    have c4' : ((x.layers.length : Int) == 0) = false := by rw [beq_eq_false_iff_ne]; omega
    have hel : (encT x.layers).length = x.layers.length := by simp [encT]
    simp [h0, h3, h16, h17, h18, hlt, hx, Hld.enc, hel, hnf, c1, hsr, c2, c3, c4', hnx']
    obtain ⟨P, hP⟩ : ∃ P, nx = P := ⟨_, rfl⟩
    rw [hP]
    refine EvC_for (fun i σ hp nx => σ 0 = .ref id 0 0 ∧ σ 16 = .sl 4 (b.holds.map Hld.enc) ∧ σ 17 = int b.holds.length ∧ σ 18 = int k ∧ σ 5 = .ref P 0 0 ∧ σ 47 = .sl 1 (encT x.layers) ∧ σ 48 = int x.layers.length ∧ σ 49 = int i ∧ nx0 ≤ P ∧ P < nx ∧ hp P = some ⟨216, 4, false, [x.enc]⟩ ∧ (∀ j, j < nx0 → j ≠ m → hp j = hp0 j) ∧ hp m = some (blkM (saltS l' x.salt)) ∧ holdLs b.layers none x.layers = holdLs b.layers (prevT x.layers i) (x.layers.drop i)) x.layers.length
      ⟨by simp [h0], by simp [h16], by simp [h17], by simp [h18], by simp, by simp, by simp, by simp, by omega, (by show P < P + 1; omega), by simp [Hld.enc, show ¬ P = m by omega], fun j hj hjm => by simp only; rw [upd_miss _ _ _ _ hjm, upd_miss _ _ _ _ (by omega)]; exact hfr j hj hjm, by simp, by simp [prevT]⟩ ?_
    clear h0 h3 h16 h17 h18 hnx hfr hm hsr hci hmi hnf nm ni hnx' hP σ hp nx
    rintro i σ hp nx hi ⟨h0, h16, h17, h18, h5, h47, h48, h49, hP, hPn, hbP, hfr, hm, hh⟩
    have hci : hp id = some (blkC b m g any) := by rw [hfr id hid hne]; exact hc0
    rw [blkC_eq] at hci
    by_cases hlti : i < x.layers.length
    · obtain ⟨s, hs⟩ : ∃ s, x.layers[i] = s := ⟨_, rfl⟩
      have hms := sumB_mem (f := fun s : List UInt8 => 1 + s.length) (List.getElem_mem hlti)
      rw [hs] at hms
      have hpn : prevT x.layers (i + 1) = some s := by simp [prevT, hlti, hs]
      rw [List.drop_eq_getElem_cons hlti, hs] at hh
      simp only [holdLs] at hh
      have hke : ∀ h : i < (encT x.layers).length, (encT x.layers)[i] = [str s] := fun h => by simp [encT, hs]
      have hof := fun hp nx => FOfL_call b.layers s hp nx (by unfold lim; omega)
      have hwi : IntKind.i64.wrap ((i : Int) + 1) = (i : Int) + 1 := wrap_fit (by omega) (by omega)
      have hel : i < (encT x.layers).length := by simp [encT, hlti]
      cases d1 : (bsN (b.layers.map Lyr.name) s).2
      · rw [d1, if_neg (by simp)] at hh
        rw [hh, if_neg (by decide)] at he
        simp [h0, h5, h16, h17, h18, h47, h48, h49, hlti, hel, hke, hci, hof, d1, he, Tryz.f132, KeepM]
        exact ⟨by omega, hm, hfr⟩
      rw [d1, if_pos rfl] at hh
      by_cases k0 : i = 0
      · subst k0
        rw [show leP (prevT x.layers 0) s = false from rfl, if_neg (by simp)] at hh
        simp [h0, h5, h16, h17, h18, h47, h48, h49, hlti, hel, hke, hci, hof, d1, hwi]
        exact ⟨by omega, hP, hPn, hbP, hfr, hm, by rw [hh, show prevT x.layers 1 = some s from hpn]; simp⟩
      · obtain ⟨j, rfl⟩ : ∃ j, i = j + 1 := ⟨i - 1, by omega⟩
        have hj : j < x.layers.length := by omega
        have hej : j < (encT x.layers).length := by simp [encT, hj]
        have hkj : ∀ h : j < (encT x.layers).length, (encT x.layers)[j] = [str x.layers[j]] := fun h => by simp [encT]
        have wj : IntKind.i64.wrap ((j : Int) + 1 - 1) = (j : Int) := by rw [wrap_fit (by omega) (by omega)]; omega
        have wj' : IntKind.i64.wrap (j : Int) = (j : Int) := wrap_fit (by omega) (by omega)
        have wk : IntKind.i64.wrap ((j : Int) + 1 + 1) = (j : Int) + 1 + 1 := wrap_fit (by omega) (by omega)
        have j1 : ((j : Int) + 1).toNat = j + 1 := by omega
        have j2 : 0 < (j : Int) + 1 := by omega
        have j3 : 0 ≤ (j : Int) + 1 := by omega
        have j4 : (j : Int) + 1 < x.layers.length := by omega
        have hlp : leP (prevT x.layers (j + 1)) s = leB s x.layers[j] := by simp [prevT, hj, leP]
        rw [hlp] at hh
        have hle : (Op.bytesLess s x.layers[j] || s == x.layers[j]) = leB s x.layers[j] := rfl
        rw [Hld.enc] at hbP
        cases d2 : leB s x.layers[j]
        · rw [d2, if_neg (by simp)] at hh
          simp [h0, h5, h16, h17, h18, h47, h48, h49, hlti, hel, hke, hci, hof, d1, wj, wj', wk, j1, j2, j3, j4, hbP, hej, hkj, hle, d2, hj]
          exact ⟨by omega, hP, hPn, rfl, hfr, hm, by rw [hh, hpn]⟩
        · rw [d2, if_pos rfl] at hh
          rw [hh, if_neg (by decide)] at he
          simp [h0, h5, h16, h17, h18, h47, h48, h49, hlti, hel, hke, hci, hof, d1, wj, wj', wk, j1, j2, j3, j4, hbP, hej, hkj, hle, d2, hj, he, Tryz.f132, KeepM]
          exact ⟨by omega, hm, hfr⟩
    · obtain rfl : i = x.layers.length := by omega
      rw [List.drop_length] at hh
      simp only [holdLs] at hh
      rw [hh, if_pos rfl] at he
      have hnP : ¬ P = m := by omega
      rw [Hld.enc] at hbP
      simp [h0, h5, h16, h17, h18, h47, h48, h49, hbP, hw]
      exact ⟨by omega, by omega, hfr, _, hm, he⟩
  · obtain rfl : k = b.holds.length := by omega
    rw [List.drop_length] at he
    simp only [holdsF] at he
    simp [h0, h16, h17, h18, Tryz.f132, KeepM, he]
    exact ⟨hnx, hm, hfr⟩
end Go.Proofs.YtfjeckcbnhohmaaGreatDoor
namespace Go.Proofs.YtfjeckcbnhohmaaGreatDoor
open Go.RowKit Go.AM Go.SpanLaw
/-! ### names -/
noncomputable abbrev Cnam : Ctx := mkCtx Tryz.prog []
theorem goodnam : AM.Good Cnam (fun g => [245].contains g) := good_of mixed trivial
set_option maxRecDepth 100000 in
theorem names_sound : SpecSound Tryz.prog 179 (hRun Cnam Tryz.f179) := hRun_sound (code := _) goodnam ⟨Tryz.func179, by kernel_rfl, rfl, by kernel_rfl⟩
set_option maxRecDepth 8000 in
theorem names_run (b : Bk) (c : Cnd) (hp : Hp) (nx id m g : Nat) (hid : id < nx) (hc : hp id = some (blkC b m g true)) :
    ∃ hp', hRun Cnam Tryz.f179 [.ref id 0 0, .agg c.enc] hp nx = some (boo true, hp', nx + 2) ∧ ∀ j, j < nx → hp' j = hp j := by
  unfold hRun
  rw [if_pos (by simp [Tryz.f179])]
  refine ⟨upd (upd hp nx (some ⟨120, 1, false, [[.ref id 0 0]]⟩)) (nx + 1) (some ⟨45, 7, false, [c.enc]⟩), ?_, fun j hj => by rw [upd_miss _ _ _ _ (by omega), upd_miss _ _ _ _ (by omega)]⟩
  refine evalFunc_eq rfl ?_
  rw [blkC_eq] at hc
  have n1 : ¬ id = nx := by omega
  have n2 : ¬ id = nx + 1 := by omega
  simp [cenc_eq, hc, n1, n2, Tryz.f179]
/-! ### an experiment -/
noncomputable def expF (L : List Lyr) (before : List UInt8) (l : List (List UInt8)) (x : Xp) : Int × List (List UInt8) :=
  if nameF x.name before = 0 then (if (bsN (L.map Lyr.name) x.layer).2 = true then (if isNameB x.flag = true then (if x.cond.check = 0 then (if saltF l x.salt = 0 then (if rgFault x.arms 20 = 0 then (phasesF x.phases, saltS l x.salt) else (rgFault x.arms 20, saltS l x.salt)) else (saltF l x.salt, saltS l x.salt)) else (x.cond.check, l)) else (5, l)) else (9, l)) else (nameF x.name before, l)
noncomputable abbrev Cexp : Ctx := mkCtx Tryz.prog [(177, hPure false [] (FSS2 fun a b => int (nameF a b))), (50, hPure false [] FOfL), (67, hPure false [] (FS isNameB)), (13, GC fun c => int c.check), (179, hRun Cnam Tryz.f179), (178, hRun Csal Tryz.f178), (180, hPure false [] (FRN (fun l n => int (rgFault l n)) fun _ n => 1 ≤ n ∧ n ≤ 20)), (181, hPure false [] (FPh fun l => int (phasesF l)))]
theorem goodexp : AM.Good Cexp (fun g => [50].contains g) := good_of mixed ⟨nameFault_sound, by simp, ofL_sound, fun _ => hPure_quiet _ _, isName_sound, by simp, ccheck_sound, by simp, names_sound, by simp, salt_sound, by simp, checkRanges_sound, by simp, phases_sound, by simp, trivial⟩
set_option maxRecDepth 100000 in
theorem experiment_sound : SpecSound Tryz.prog 133 (hRun Cexp Tryz.f133) := hRun_sound (code := _) goodexp ⟨Tryz.func133, by kernel_rfl, rfl, by kernel_rfl⟩
set_option maxRecDepth 8000 in
set_option maxHeartbeats 2000000 in
theorem experiment_run (b : Bk) (l : List (List UInt8)) (before : List UInt8) (x : Xp) (hb : b.cb ≤ lim) (hxb : x.cb ≤ lim) (hp0 : Hp) (nx0 id m g : Nat) (hid : id < nx0) (hmd : m < nx0) (hne : id ≠ m) (hc0 : hp0 id = some (blkC b m g true)) (hm0 : hp0 m = some (blkM l)) :
    ∃ x1 hp' nx', hRun Cexp Tryz.f133 [.ref id 0 0, .agg x.enc, str before] hp0 nx0 = some (x1, hp', nx') ∧ KeepM (int (expF b.layers before l x).1) (expF b.layers before l x).2 m hp0 nx0 x1 hp' nx' := by
  unfold hRun
  rw [if_pos (by simp [Tryz.f133])]
  refine evalFunc_of rfl ?_
  have hleL := sumB_len lyr_pos b.layers
  have hbc : b.cb = sumB Lyr.cb b.layers + sumB Hld.cb b.holds + sumB Xp.cb b.exps := rfl
  have hxc : x.cb = x.name.length + x.layer.length + x.flag.length + x.cond.cb + x.salt.length + x.arms.length + sumB Phs.cb x.phases := rfl
  unfold lim at hb hxb
  have nm : ¬ m = nx0 := by omega
  have ni : ¬ id = nx0 := by omega
  have hnf := fun hp nx => FSS2_call (fun a b => int (nameF a b)) x.name before hp nx (by unfold lim; omega) (by simp)
  have hof := fun hp nx => FOfL_call b.layers x.layer hp nx (by unfold lim; omega)
  have hfl : x.flag.length ≤ lim := by unfold lim; omega
  have hcc := fun hp nx => GC_call (fun c => int c.check) x.cond hp nx (by unfold lim; omega)
  have hrg := fun hp nx => FRN_call (fun l n => int (rgFault l n)) (fun _ n => 1 ≤ n ∧ n ≤ 20) x.arms 20 hp nx ⟨by omega, by omega⟩
  have hph := fun hp nx => FPh_call (fun l => int (phasesF l)) x.phases hp nx (by unfold lim; omega)
  obtain ⟨hp1, hnr, hk1⟩ := names_run b x.cond (upd hp0 nx0 (some ⟨58, 13, false, [x.enc]⟩)) (nx0 + 1) id m g (by omega) (by rw [upd_miss _ _ _ _ ni]; exact hc0)
  have hci : hp1 id = some (blkC b m g true) := by rw [hk1 id (by omega), upd_miss _ _ _ _ ni]; exact hc0
  have hmi : hp1 m = some (blkM l) := by rw [hk1 m (by omega), upd_miss _ _ _ _ nm]; exact hm0
  have hxi : hp1 nx0 = some ⟨58, 13, false, [x.enc]⟩ := by rw [hk1 nx0 (by omega)]; simp
  have hfr : ∀ j, j < nx0 → hp1 j = hp0 j := fun j hj => by rw [hk1 j (by omega), upd_miss _ _ _ _ (by omega)]
  have hsr := salt_run b l x.salt (by unfold lim; omega) true hp1 (nx0 + 1 + 2) id m g hci hmi
  have hnx' : ¬ nx0 = m := by omega
  have hc := hc0
  rw [blkC_eq] at hc
  rw [xp_enc] at hnr hxi
  rw [cenc_eq] at hnr
  simp only [cenc_eq] at hcc
  rw [xp_enc]
  by_cases c1 : nameF x.name before = 0
  case neg =>
    have hv : expF b.layers before l x = (nameF x.name before, l) := by unfold expF; rw [if_neg c1]
    have c1' : (nameF x.name before != 0) = true := by simpa using c1
    simp [hnf, c1', hv, Tryz.f133, KeepM]
    exact ⟨by rw [upd_miss _ _ _ _ nm]; exact hm0, fun j hj hjm => by rw [upd_miss _ _ _ _ (by omega)]⟩
  cases c2 : (bsN (b.layers.map Lyr.name) x.layer).2
  · have hv : expF b.layers before l x = (9, l) := by unfold expF; rw [if_pos c1, c2, if_neg (by simp)]
    simp [hnf, c1, ni, hc, hof, c2, hv, Tryz.f133, KeepM]
    exact ⟨by rw [upd_miss _ _ _ _ nm]; exact hm0, fun j hj hjm => by rw [upd_miss _ _ _ _ (by omega)]⟩
  cases c3 : isNameB x.flag
  · have hv : expF b.layers before l x = (5, l) := by unfold expF; rw [if_pos c1, c2, if_pos rfl, c3, if_neg (by simp)]
    simp [hnf, c1, ni, hc, hof, c2, hfl, c3, hv, Tryz.f133, KeepM]
    exact ⟨by rw [upd_miss _ _ _ _ nm]; exact hm0, fun j hj hjm => by rw [upd_miss _ _ _ _ (by omega)]⟩
  by_cases c4 : x.cond.check = 0
  case neg =>
    have hv : expF b.layers before l x = (x.cond.check, l) := by unfold expF; rw [if_pos c1, c2, if_pos rfl, c3, if_pos rfl, if_neg c4]
    have c4' : (x.cond.check != 0) = true := by simpa using c4
    simp [hnf, c1, ni, hc, hof, c2, hfl, c3, hcc, c4', hv, Tryz.f133, KeepM]
    exact ⟨by rw [upd_miss _ _ _ _ nm]; exact hm0, fun j hj hjm => by rw [upd_miss _ _ _ _ (by omega)]⟩
  by_cases c5 : saltF l x.salt = 0
  case neg =>
    have hv : expF b.layers before l x = (saltF l x.salt, saltS l x.salt) := by unfold expF; rw [if_pos c1, c2, if_pos rfl, c3, if_pos rfl, if_pos c4, if_neg c5]
    have c5' : (saltF l x.salt != 0) = true := by simpa using c5
    simp [hnf, c1, ni, hc, hof, c2, hfl, c3, hcc, c4, hnr, hxi, hsr, c5', hv, Tryz.f133, KeepM]
    exact ⟨by omega, fun j hj hjm => by rw [upd_miss _ _ _ _ hjm]; exact hfr j hj⟩
  by_cases c6 : rgFault x.arms 20 = 0
  case neg =>
    have hv : expF b.layers before l x = (rgFault x.arms 20, saltS l x.salt) := by unfold expF; rw [if_pos c1, c2, if_pos rfl, c3, if_pos rfl, if_pos c4, if_pos c5, if_neg c6]
    have c6' : (rgFault x.arms 20 != 0) = true := by simpa using c6
    simp [hnf, c1, ni, hc, hof, c2, hfl, c3, hcc, c4, hnr, hxi, hnx', hsr, c5, hrg, c6', hv, Tryz.f133, KeepM]
    exact ⟨by omega, fun j hj hjm => by rw [upd_miss _ _ _ _ hjm]; exact hfr j hj⟩
  · have hv : expF b.layers before l x = (phasesF x.phases, saltS l x.salt) := by unfold expF; rw [if_pos c1, c2, if_pos rfl, c3, if_pos rfl, if_pos c4, if_pos c5, if_pos c6]
    simp [hnf, c1, ni, hc, hof, c2, hfl, c3, hcc, c4, hnr, hxi, hnx', hsr, c5, hrg, c6, hph, hv, Tryz.f133, KeepM]
    exact ⟨by omega, fun j hj hjm => by rw [upd_miss _ _ _ _ hjm]; exact hfr j hj⟩
end Go.Proofs.YtfjeckcbnhohmaaGreatDoor
namespace Go.Proofs.YtfjeckcbnhohmaaGreatDoor
open Go.RowKit Go.AM Go.SpanLaw
def boxX (x : Xp) : Blk := ⟨58, 13, false, [x.enc]⟩
def boxI (n : Int) : Blk := ⟨3, 1, false, [[int n]]⟩
def cls1 (x : Xp) (rest : Int) (y : Xp) : Bool := decide (y.layer = x.layer) && clashB x y rest
noncomputable abbrev Ccl1 : Ctx := mkCtx Tryz.prog [(184, hPure false [] FClash)]
theorem goodcl1 : AM.Good Ccl1 (fun g => [184].contains g) := good_of mixed ⟨clash_sound, fun _ => hPure_quiet _ _, trivial⟩
@[simp] theorem quietcl1 : QuietIn Ccl1 184 := quietIn_of (by rfl) (hPure_quiet _ _)
set_option maxRecDepth 100000 in
theorem cls1_sound : SpecSound Tryz.prog 183 (hRun Ccl1 Tryz.f183) := hRun_sound (code := _) goodcl1 ⟨Tryz.func183, by kernel_rfl, rfl, by kernel_rfl⟩
set_option maxRecDepth 8000 in
theorem cls1_run (x y : Xp) (rest : Int) (hx : x.okC) (hy : y.okC) (hr : 0 ≤ rest ∧ rest ≤ 100000000) (hp : Hp) (nx xb rb : Nat) (hxb : xb < nx) (hrb : rb < nx) (bx : hp xb = some (boxX x)) (br : hp rb = some (boxI rest)) :
    hRun Ccl1 Tryz.f183 [.agg y.enc, .ref xb 0 0, .ref rb 0 0] hp nx = some (boo (cls1 x rest y), upd hp nx (some (boxX y)), nx + 1) := by
  unfold hRun
  rw [if_pos (by simp [Tryz.f183])]
  refine evalFunc_eq rfl ?_
  have n1 : ¬ xb = nx := by omega
  have n2 : ¬ rb = nx := by omega
  have hcl := fun hp nx => FClash_call x y rest hp nx ⟨hx, hy, hr.1, hr.2⟩
  rw [boxX, xp_enc] at bx
  rw [boxI] at br
  simp only [xp_enc] at hcl
  by_cases he : y.layer = x.layer
  · have hd : (y.layer == x.layer) = true := by simpa using he
    have hv : cls1 x rest y = clashB x y rest := by simp [cls1, he]
    simp [xp_enc, boxX, n1, n2, bx, br, hd, hcl, hv, Tryz.f183]
  · have hd : (y.layer == x.layer) = false := by simpa using he
    have hv : cls1 x rest y = false := by simp [cls1, he]
    simp [xp_enc, boxX, n1, n2, bx, br, hd, hv, Tryz.f183]
/-! ### in a row -/
def clsI (x : Xp) (rest : Int) : Nat → List Xp → Int
  | _, [] => -1
  | k, y :: l => if cls1 x rest y = true then k else clsI x rest (k + 1) l
theorem clsI_any (x : Xp) (rest : Int) : ∀ (l : List Xp) (k : Nat), decide (0 ≤ clsI x rest k l) = l.any (cls1 x rest)
  | [], k => by simp [clsI]
  | s :: l, k => by
    by_cases h : cls1 x rest s = true
    · have e : clsI x rest k (s :: l) = k := by simp only [clsI, if_pos h]
      rw [e, List.any_cons, h]; simp
    · have e : clsI x rest k (s :: l) = clsI x rest (k + 1) l := by simp only [clsI, if_neg h]
      rw [e, clsI_any x rest l (k + 1), List.any_cons, Bool.eq_false_iff.2 h]; rfl
noncomputable abbrev Cxix : Ctx := mkCtx Tryz.prog [(183, hRun Ccl1 Tryz.f183)]
theorem goodxix : AM.Good Cxix (fun g => ([] : List Nat).contains g) := good_of mixed ⟨cls1_sound, by simp, trivial⟩
set_option maxRecDepth 100000 in
theorem xix_sound : SpecSound Tryz.prog 248 (hRun Cxix Tryz.f248) := hRun_sound (code := _) goodxix ⟨Tryz.func248, by kernel_rfl, rfl, by kernel_rfl⟩
def fnX (xb rb : Nat) : PV := .fn (.func 183) [] [.ref xb 0 0, .ref rb 0 0]
/-- What is left alone. -/
def KeepX (r : PV) (hp : Hp) (nx : Nat) (x : PV) (hp' : Hp) (nx' : Nat) : Prop := x = r ∧ nx ≤ nx' ∧ ∀ j, j < nx → hp' j = hp j
set_option maxRecDepth 8000 in
theorem xix_run (l : List Xp) (x : Xp) (rest : Int) (hl : l.length ≤ lim) (hs : ∀ s ∈ l, s.okC) (hx : x.okC) (hr : 0 ≤ rest ∧ rest ≤ 100000000) (hp0 : Hp) (nx0 xb rb : Nat) (hxb : xb < nx0) (hrb : rb < nx0) (bx : hp0 xb = some (boxX x)) (br : hp0 rb = some (boxI rest)) :
    ∃ x1 hp' nx', hRun Cxix Tryz.f248 [.sl 13 (l.map Xp.enc), fnX xb rb] hp0 nx0 = some (x1, hp', nx') ∧ KeepX (int (clsI x rest 0 l)) hp0 nx0 x1 hp' nx' := by
  unfold hRun
  rw [if_pos (by simp [Tryz.f248])]
  refine evalFunc_of rfl ?_
  unfold lim at hl
  simp [fnX]
  refine EvC_for (fun k σ hp nx => σ 0 = .sl 13 (l.map Xp.enc) ∧ σ 1 = fnX xb rb ∧ σ 7 = int l.length ∧ σ 8 = int k ∧ nx0 ≤ nx ∧ (∀ j, j < nx0 → hp j = hp0 j) ∧ clsI x rest 0 l = clsI x rest k (l.drop k)) l.length ⟨by simp, by simp [fnX], by simp, by simp, Nat.le_refl _, fun _ _ => rfl, by simp⟩ ?_
  rintro k σ hp nx hk ⟨h0, h1, h7, h8, hnx, hfr, he⟩
  by_cases hlt : k < l.length
  · have hw : IntKind.i64.wrap ((k : Int) + 1) = (k : Int) + 1 := wrap_fit (by omega) (by omega)
    have hrun := cls1_run x l[k] rest hx (hs _ (List.getElem_mem hlt)) hr hp nx xb rb (by omega) (by omega) (by rw [hfr xb hxb]; exact bx) (by rw [hfr rb hrb]; exact br)
    simp only [xp_enc] at hrun
    rw [List.drop_eq_getElem_cons hlt] at he
    simp only [clsI] at he
    cases hz : cls1 x rest l[k]
    · rw [hz, if_neg (by simp)] at he
      rw [hz] at hrun
      simp [h0, h1, h7, h8, fnX, hlt, xp_enc, hrun, hw]
      exact ⟨hlt, by omega, fun j hj => by rw [upd_miss _ _ _ _ (by omega)]; exact hfr j hj, he⟩
    · rw [hz, if_pos rfl] at he
      rw [hz] at hrun
      simp [h0, h1, h7, h8, fnX, hlt, xp_enc, hrun, hw, Tryz.f248]
      exact ⟨by rw [he], by omega, fun j hj => by rw [upd_miss _ _ _ _ (by omega)]; exact hfr j hj⟩
  · obtain rfl : k = l.length := by omega
    rw [List.drop_length] at he
    simp only [clsI] at he
    simp [h0, h1, h7, h8, Tryz.f248]
    exact ⟨by rw [he], hnx, hfr⟩
noncomputable abbrev Cxtn : Ctx := mkCtx Tryz.prog [(248, hRun Cxix Tryz.f248)]
theorem goodxtn : AM.Good Cxtn (fun g => ([] : List Nat).contains g) := good_of mixed ⟨xix_sound, by simp, trivial⟩
set_option maxRecDepth 100000 in
theorem xtn_sound : SpecSound Tryz.prog 182 (hRun Cxtn Tryz.f182) := hRun_sound (code := _) goodxtn ⟨Tryz.func182, by kernel_rfl, rfl, by kernel_rfl⟩
set_option maxRecDepth 8000 in
theorem xtn_run (l : List Xp) (x : Xp) (rest : Int) (hl : l.length ≤ lim) (hs : ∀ s ∈ l, s.okC) (hx : x.okC) (hr : 0 ≤ rest ∧ rest ≤ 100000000) (hp0 : Hp) (nx0 xb rb : Nat) (hxb : xb < nx0) (hrb : rb < nx0) (bx : hp0 xb = some (boxX x)) (br : hp0 rb = some (boxI rest)) :
    ∃ x1 hp' nx', hRun Cxtn Tryz.f182 [.sl 13 (l.map Xp.enc), fnX xb rb] hp0 nx0 = some (x1, hp', nx') ∧ KeepX (boo (l.any (cls1 x rest))) hp0 nx0 x1 hp' nx' := by
  unfold hRun
  rw [if_pos (by simp [Tryz.f182])]
  refine evalFunc_of rfl ?_
  obtain ⟨x1, hp', nx', h1, h2, h3, h4⟩ := xix_run l x rest hl hs hx hr hp0 nx0 xb rb hxb hrb bx br
  subst h2
  have ha := clsI_any x rest l 0
  simp only [fnX] at h1
  simp [fnX, h1, ha, KeepX, h3, Tryz.f182]
  exact h4
/-! ### all pairs -/
theorem slX (hp : Hp) (l : List Xp) (k : Nat) (h : k ≤ l.length) : sliceA Tryz.prog hp 24 (.sl 13 (l.map Xp.enc)) none (some (some (int k))) = some (.sl 13 ((l.take k).map Xp.enc)) := by
  simp [sliceA, h]
noncomputable def restOf (L : List Lyr) (s : List UInt8) : Int := match L[(bsN (L.map Lyr.name) s).1]? with
  | some y => y.rest
  | none => 0
noncomputable def clsF (L : List Lyr) (all : List Xp) : Nat → List Xp → Bool
  | _, [] => false
  | i, x :: l => (all.take i).any (cls1 x (restOf L x.layer)) || clsF L all (i + 1) l
noncomputable abbrev Ccls : Ctx := mkCtx Tryz.prog [(50, hPure false [] FOfL), (182, hRun Cxtn Tryz.f182)]
theorem goodcls : AM.Good Ccls (fun g => [50].contains g) := good_of mixed ⟨ofL_sound, fun _ => hPure_quiet _ _, xtn_sound, by simp, trivial⟩
set_option maxRecDepth 100000 in
theorem clashes_sound : SpecSound Tryz.prog 134 (hRun Ccls Tryz.f134) := hRun_sound (code := _) goodcls ⟨Tryz.func134, by kernel_rfl, rfl, by kernel_rfl⟩
set_option maxRecDepth 8000 in
set_option maxHeartbeats 2000000 in
theorem clashes_run (b : Bk) (hb : b.cb ≤ lim) (hs : ∀ x ∈ b.exps, x.okC ∧ (bsN (b.layers.map Lyr.name) x.layer).2 = true) (hr : ∀ y ∈ b.layers, 0 ≤ y.rest ∧ y.rest ≤ 100000000) (any : Bool) (hp0 : Hp) (nx0 id m g : Nat) (hid : id < nx0) (hc0 : hp0 id = some (blkC b m g any)) :
    ∃ x1 hp' nx', hRun Ccls Tryz.f134 [.ref id 0 0] hp0 nx0 = some (x1, hp', nx') ∧ KeepX (boo (clsF b.layers b.exps 0 b.exps)) hp0 nx0 x1 hp' nx' := by
  unfold hRun
  rw [if_pos (by simp [Tryz.f134])]
  refine evalFunc_of rfl ?_
  have hlen := sumB_len xp_pos b.exps
  have hleL := sumB_len lyr_pos b.layers
  have hbc : b.cb = sumB Lyr.cb b.layers + sumB Hld.cb b.holds + sumB Xp.cb b.exps := rfl
  unfold lim at hb
  have hc := hc0
  rw [blkC_eq] at hc
  simp [hc]
  refine EvC_for (fun k σ hp nx => σ 0 = .ref id 0 0 ∧ σ 12 = .sl 13 (b.exps.map Xp.enc) ∧ σ 13 = int b.exps.length ∧ σ 14 = int k ∧ nx0 ≤ nx ∧ (∀ j, j < nx0 → hp j = hp0 j) ∧ clsF b.layers b.exps 0 b.exps = clsF b.layers b.exps k (b.exps.drop k)) b.exps.length
    ⟨by simp, by simp, by simp, by simp, Nat.le_refl _, fun _ _ => rfl, by simp⟩ ?_
  rintro k σ hp nx hk ⟨h0, h12, h13, h14, hnx, hfr, he⟩
  by_cases hlt : k < b.exps.length
  · obtain ⟨x, hx⟩ : ∃ x, b.exps[k] = x := ⟨_, rfl⟩
    have hxm : x ∈ b.exps := by rw [← hx]; exact List.getElem_mem hlt
    obtain ⟨hxo, hxl⟩ := hs x hxm
    have hmx := sumB_mem (f := Xp.cb) hxm
    have hxc : x.cb = x.name.length + x.layer.length + x.flag.length + x.cond.cb + x.salt.length + x.arms.length + sumB Phs.cb x.phases := rfl
    rw [List.drop_eq_getElem_cons hlt, hx] at he
    simp only [clsF] at he
    have hw : IntKind.i64.wrap ((k : Int) + 1) = (k : Int) + 1 := wrap_fit (by omega) (by omega)
    have hof := fun hp nx => FOfL_call b.layers x.layer hp nx (by unfold lim; omega)
    obtain ⟨q, hq⟩ : ∃ q, (bsN (b.layers.map Lyr.name) x.layer).1 = q := ⟨_, rfl⟩
    have hql : q < b.layers.length := by have := bsN_lt hxl; rw [hq] at this; simpa using this
    obtain ⟨y, hy⟩ : ∃ y, b.layers[q] = y := ⟨_, rfl⟩
    have hyr := hr y (by rw [← hy]; exact List.getElem_mem hql)
    have hrest : restOf b.layers x.layer = y.rest := by unfold restOf; rw [hq, List.getElem?_eq_getElem hql, hy]
    rw [hrest] at he
    have ni : ¬ id = nx := by omega
    have ni2 : ¬ id = nx + 1 := by omega
    have hci : hp id = some (blkC b m g any) := by rw [hfr id hid]; exact hc0
    rw [blkC_eq] at hci
    obtain ⟨x1, hp', nx', h1, h2, h3, h4⟩ := xtn_run (b.exps.take k) x y.rest (by unfold lim; simp; omega) (fun s hsm => (hs s (List.mem_of_mem_take hsm)).1) hxo hyr (upd (upd hp nx (some (boxX x))) (nx + 1) (some (boxI y.rest))) (nx + 1 + 1) nx (nx + 1) (by omega) (by omega) (by rw [upd_miss _ _ _ _ (by omega)]; simp) (by simp)
    subst h2
    simp only [fnX, boxX, boxI, xp_enc, List.map_take] at h1
    have hfr' : ∀ j, j < nx0 → hp' j = hp0 j := fun j hj => by rw [h4 j (by omega), upd_miss _ _ _ _ (by omega), upd_miss _ _ _ _ (by omega)]; exact hfr j hj
    have hsl := fun hp => slX hp b.exps k (by omega)
    cases hz : (b.exps.take k).any (cls1 x y.rest)
    · rw [hz, Bool.false_or] at he
      rw [hz] at h1
      simp [h0, h12, h13, h14, hlt, hx, xp_enc, ni, ni2, hci, hof, hq, hql, hy, Lyr.enc, hsl, h1, hw]
      exact ⟨by omega, by omega, hfr', he⟩
    · rw [hz, Bool.true_or] at he
      rw [hz] at h1
      simp [h0, h12, h13, h14, hlt, hx, xp_enc, ni, ni2, hci, hof, hq, hql, hy, Lyr.enc, hsl, h1, hw, Tryz.f134, KeepX, he]
      exact ⟨by omega, hfr'⟩
  · obtain rfl : k = b.exps.length := by omega
    rw [List.drop_length] at he
    simp only [clsF] at he
    simp [h0, h12, h13, h14, Tryz.f134, KeepX, he]
    exact ⟨hnx, hfr⟩
end Go.Proofs.YtfjeckcbnhohmaaGreatDoor
namespace Go.Proofs.YtfjeckcbnhohmaaGreatDoor
open Go.RowKit Go.AM Go.SpanLaw
noncomputable def expsF (L : List Lyr) : List UInt8 → List (List UInt8) → List Xp → Int × List (List UInt8)
  | _, l, [] => (0, l)
  | before, l, x :: xs => if (expF L before l x).1 = 0 then expsF L x.name (expF L before l x).2 xs else expF L before l x
noncomputable def checkF (b : Bk) : Int :=
  if (20 : Int) < b.layers.length ∨ (10 : Int) < b.holds.length ∨ (100 : Int) < b.exps.length then 2
  else if (layersF [] [] b.layers).1 = 0 then
    (if (holdsF b.layers [] (layersF [] [] b.layers).2 b.holds).1 = 0 then
      (if (expsF b.layers [] (holdsF b.layers [] (layersF [] [] b.layers).2 b.holds).2 b.exps).1 = 0 then (if clsF b.layers b.exps 0 b.exps = true then 13 else 0)
       else (expsF b.layers [] (holdsF b.layers [] (layersF [] [] b.layers).2 b.holds).2 b.exps).1)
     else (holdsF b.layers [] (layersF [] [] b.layers).2 b.holds).1)
  else (layersF [] [] b.layers).1
theorem inB_iff (n lo hi : Int) : inB n lo hi = true ↔ lo ≤ n ∧ n ≤ hi := by simp [inB]
theorem layers_ok : ∀ {xs : List Lyr} {before : List UInt8} {l : List (List UInt8)}, (layersF before l xs).1 = 0 → ∀ y ∈ xs, 0 ≤ y.rest ∧ y.rest ≤ 100000000
  | [], _, _, _, y, hy => by simp at hy
  | x :: xs, before, l, h, y, hy => by
    simp only [layersF] at h
    split at h
    · split at h
      · split at h
        · rename_i c3
          rcases List.mem_cons.1 hy with rfl | hy
          · exact (inB_iff _ _ _).1 c3
          · exact layers_ok h y hy
        · exact absurd h (by simp)
      · rename_i c; exact absurd h c
    · rename_i c; exact absurd h c
theorem phF_ok : ∀ {xs : List Phs} {p : Option Int} {b : List Sp}, phF p b xs = 0 → timesOk xs
  | [], _, _, _, y, hy => by simp at hy
  | x :: xs, p, b, h, y, hy => by
    simp only [phF] at h
    split at h
    · rename_i c1
      split at h
      · exact absurd h (by simp)
      · split at h
        · split at h
          · exact absurd h (by simp)
          · rcases List.mem_cons.1 hy with rfl | hy
            · exact (inB_iff _ _ _).1 c1
            · exact phF_ok h y hy
        · rename_i c; exact absurd h c
    · exact absurd h (by simp)
theorem phasesF_ok {l : List Phs} (h : phasesF l = 0) : timesOk l := by
  unfold phasesF at h
  split at h
  · exact absurd h (by simp)
  · exact phF_ok h
theorem expF_ok {L : List Lyr} {before : List UInt8} {l : List (List UInt8)} {x : Xp} (h : (expF L before l x).1 = 0) : phasesF x.phases = 0 ∧ (bsN (L.map Lyr.name) x.layer).2 = true ∧ rgFault x.arms 20 = 0 ∧ x.cond.check = 0 ∧ nameF x.name before = 0 := by
  unfold expF at h
  split at h
  · rename_i c1
    split at h
    · rename_i c2
      split at h
      · split at h
        · rename_i c4
          split at h
          · split at h
            · rename_i c6; exact ⟨h, c2, c6, c4, c1⟩
            · rename_i c; exact absurd h c
          · rename_i c; exact absurd h c
        · rename_i c; exact absurd h c
      · exact absurd h (by simp)
    · exact absurd h (by simp)
  · rename_i c; exact absurd h c
theorem exps_ok {L : List Lyr} : ∀ {xs : List Xp} {before : List UInt8} {l : List (List UInt8)}, (expsF L before l xs).1 = 0 → ∀ y ∈ xs, phasesF y.phases = 0 ∧ (bsN (L.map Lyr.name) y.layer).2 = true
  | [], _, _, _, y, hy => by simp at hy
  | x :: xs, before, l, h, y, hy => by
    simp only [expsF] at h
    split at h
    · rename_i c
      rcases List.mem_cons.1 hy with rfl | hy
      · exact ⟨(expF_ok c).1, (expF_ok c).2.1⟩
      · exact exps_ok h y hy
    · rename_i c; exact absurd h c
/-! ### check -/
noncomputable abbrev Cchk : Ctx := mkCtx Tryz.prog [(131, hRun Clay Tryz.f131), (132, hRun Chol Tryz.f132), (133, hRun Cexp Tryz.f133), (134, hRun Ccls Tryz.f134)]
theorem goodchk : AM.Good Cchk (fun g => ([] : List Nat).contains g) := good_of mixed ⟨layers_sound, by simp, holds_sound, by simp, experiment_sound, by simp, clashes_sound, by simp, trivial⟩
set_option maxRecDepth 100000 in
theorem bkCheck_sound : SpecSound Tryz.prog 85 (hRun Cchk Tryz.f85) := hRun_sound (code := _) goodchk ⟨Tryz.func85, by kernel_rfl, rfl, by kernel_rfl⟩
set_option maxRecDepth 8000 in
set_option maxHeartbeats 2000000 in
theorem check_run (b : Bk) (hb : b.cb ≤ lim) (hp0 : Hp) (nx0 id m g : Nat) (hid : id < nx0) (hmd : m < nx0) (hne : id ≠ m) (hc0 : hp0 id = some (blkC b m g true)) (hm0 : hp0 m = some (blkM [])) :
    ∃ x1 hp' nx', hRun Cchk Tryz.f85 [.ref id 0 0] hp0 nx0 = some (x1, hp', nx') ∧ x1 = int (checkF b) := by
  unfold hRun
  rw [if_pos (by simp [Tryz.f85])]
  refine evalFunc_of rfl ?_
  have hlen := sumB_len xp_pos b.exps
  have hleL := sumB_len lyr_pos b.layers
  have hleH := sumB_len hld_pos b.holds
  have hbc : b.cb = sumB Lyr.cb b.layers + sumB Hld.cb b.holds + sumB Xp.cb b.exps := rfl
  have hb' := hb
  unfold lim at hb
  obtain ⟨x1, hp1, nx1, l1, rfl, l3, l4, l5⟩ := layers_run b [] hb' true hp0 nx0 id m g hid hmd hne hc0 hm0
  have hc1 : hp1 id = some (blkC b m g true) := by rw [l5 id hid hne]; exact hc0
  obtain ⟨e1, he1⟩ : ∃ e, layersF [] [] b.layers = e := ⟨_, rfl⟩
  rw [he1] at l1 l4
  obtain ⟨x2, hp2, nx2, g1, rfl, g3, g4, g5⟩ := holds_run b e1.2 hb' true hp1 nx1 id m g (by omega) (by omega) hne hc1 l4
  have hc2 : hp2 id = some (blkC b m g true) := by rw [g5 id (by omega) hne]; exact hc1
  obtain ⟨e2, he2⟩ : ∃ e, holdsF b.layers [] e1.2 b.holds = e := ⟨_, rfl⟩
  rw [he2] at g1 g4
  obtain ⟨e3, he3⟩ : ∃ e, expsF b.layers [] e2.2 b.exps = e := ⟨_, rfl⟩
  have hc := hc0
  rw [blkC_eq] at hc
  have hcc2 := hc2
  rw [blkC_eq] at hcc2
  by_cases a1 : (20 : Int) < b.layers.length
  · have hv : checkF b = 2 := by unfold checkF; rw [if_pos (.inl a1)]
    simp [hc, a1, hv, Tryz.f85]
  by_cases a2 : (10 : Int) < b.holds.length
  · have hv : checkF b = 2 := by unfold checkF; rw [if_pos (.inr (.inl a2))]
    simp [hc, a1, a2, hv, Tryz.f85]
  by_cases a3 : (100 : Int) < b.exps.length
  · have hv : checkF b = 2 := by unfold checkF; rw [if_pos (.inr (.inr a3))]
    simp [hc, a1, a2, a3, hv, Tryz.f85]
  have hv0 : checkF b = if e1.1 = 0 then (if e2.1 = 0 then (if e3.1 = 0 then (if clsF b.layers b.exps 0 b.exps = true then 13 else 0) else e3.1) else e2.1) else e1.1 := by
    unfold checkF; rw [if_neg (by omega), he1, he2, he3]
  by_cases c1 : e1.1 = 0
  case neg =>
    rw [if_neg c1] at hv0
    have c1' : (e1.1 != 0) = true := by simpa using c1
    simp [hc, a1, a2, a3, l1, c1', hv0, Tryz.f85]
  rw [if_pos c1] at hv0
  by_cases c2 : e2.1 = 0
  case neg =>
    rw [if_neg c2] at hv0
    have c2' : (e2.1 != 0) = true := by simpa using c2
    simp [hc, a1, a2, a3, l1, c1, g1, c2', hv0, Tryz.f85]
  rw [if_pos c2] at hv0
  simp [hc, a1, a2, a3, l1, c1, g1, c2, hcc2]
  refine EvC_for (fun k σ hp nx => σ 0 = .ref id 0 0 ∧ σ 48 = .sl 13 (b.exps.map Xp.enc) ∧ σ 49 = int b.exps.length ∧ σ 50 = int k ∧ nx0 ≤ nx ∧ hp id = some (blkC b m g true) ∧ ∃ (before : List UInt8) (l' : List (List UInt8)), σ 5 = str before ∧ hp m = some (blkM l') ∧ e3 = expsF b.layers before l' (b.exps.drop k)) b.exps.length
    ⟨by simp, by simp, by simp, by simp, by simp; omega, hc2, [], e2.2, by simp, g4, by simp [he3]⟩ ?_
  clear l1 l3 l4 l5 hc1 g1 g3 g4 g5 hc2 hcc2 hc
  rintro k σ hp nx hk ⟨h0, h48, h49, h50, hnx, hcn, before, l', h5, hm, he⟩
  by_cases hlt : k < b.exps.length
  · obtain ⟨x, hx⟩ : ∃ x, b.exps[k] = x := ⟨_, rfl⟩
    have hmx := sumB_mem (f := Xp.cb) (List.getElem_mem hlt)
    rw [hx] at hmx
    have nm : ¬ m = nx := by omega
    have ni : ¬ id = nx := by omega
    have hw : IntKind.i64.wrap ((k : Int) + 1) = (k : Int) + 1 := wrap_fit (by omega) (by omega)
    rw [List.drop_eq_getElem_cons hlt, hx] at he
    simp only [expsF] at he
    obtain ⟨x3, hp3, nx3, q1, rfl, q3, q4, q5⟩ := experiment_run b l' before x hb' (by unfold lim; omega) (upd hp nx (some (boxX x))) (nx + 1) id m g (by omega) (by omega) hne (by rw [upd_miss _ _ _ _ ni]; exact hcn) (by rw [upd_miss _ _ _ _ nm]; exact hm)
    have hc3 : hp3 id = some (blkC b m g true) := by rw [q5 id (by omega) hne, upd_miss _ _ _ _ ni]; exact hcn
    have hx3 : hp3 nx = some (boxX x) := by rw [q5 nx (by omega) (by omega)]; simp
    simp only [boxX, xp_enc] at q1 hx3
    by_cases d1 : (expF b.layers before l' x).1 = 0
    case neg =>
      rw [if_neg d1] at he
      have hv : checkF b = (expF b.layers before l' x).1 := by rw [hv0, he, if_neg d1]
      have d1' : ((expF b.layers before l' x).1 != 0) = true := by simpa using d1
      simp [h0, h5, h48, h49, h50, hlt, hx, xp_enc, q1, d1', hv, Tryz.f85]
    · rw [if_pos d1] at he
      simp [h0, h5, h48, h49, h50, hlt, hx, xp_enc, q1, d1, hx3, hw]
      exact ⟨by omega, by omega, hc3, _, q4, he⟩
  · obtain rfl : k = b.exps.length := by omega
    rw [List.drop_length] at he
    simp only [expsF] at he
    have hz : (expsF b.layers [] e2.2 b.exps).1 = 0 := by rw [he3, he]
    have hyr := layers_ok (by rw [he1]; exact c1)
    have hex := exps_ok hz
    obtain ⟨x3, hp3, nx3, q1, rfl, q3, q4⟩ := clashes_run b hb' (fun x hxm => ⟨⟨phasesF_ok (hex x hxm).1, by have := sumB_mem (f := Xp.cb) hxm; unfold lim; omega⟩, (hex x hxm).2⟩) hyr true hp nx id m g (by omega) hcn
    have hv : checkF b = if clsF b.layers b.exps 0 b.exps = true then 13 else 0 := by rw [hv0, he, if_pos rfl]
    cases hcl : clsF b.layers b.exps 0 b.exps
    · rw [hcl, if_neg (by simp)] at hv
      rw [hcl] at q1
      simp [h0, h48, h49, h50, q1, hv, Tryz.f85]
    · rw [hcl, if_pos rfl] at hv
      rw [hcl] at q1
      simp [h0, h48, h49, h50, q1, hv, Tryz.f85]
/-! ### the checker of a book -/
@[simp] theorem get_ptrn (σ : Nat → PV) : AM.get σ (.const (.pointer none)) = some (.v (.pointer none)) := rfl
set_option maxRecDepth 100000 in
theorem checkerOf_sound : SpecSound Tryz.prog 84 (hRun C0 Tryz.f84) := hRun_sound (code := _) good0 ⟨Tryz.func84, by kernel_rfl, rfl, by kernel_rfl⟩
set_option maxRecDepth 8000 in
theorem checkerOf_run (b : Bk) (hp0 : Hp) (nx0 : Nat) : ∃ x1 hp' nx', hRun C0 Tryz.f84 [.nil, .agg b.enc] hp0 nx0 = some (x1, hp', nx') ∧ x1 = .ref (nx0 + 1 + 1 + 1) 0 0 ∧ nx' = nx0 + 1 + 1 + 1 + 1 ∧ hp' (nx0 + 1) = some (blkM []) ∧ hp' (nx0 + 1 + 1 + 1) = some (blkC b (nx0 + 1) (nx0 + 1 + 1) false) := by
  unfold hRun
  rw [if_pos (by simp [Tryz.f84])]
  refine evalFunc_of rfl ?_
  simp [Bk.enc, buildA, fillA]
  refine EvC_for (fun k σ hp nx => σ 14 = int 0 ∧ σ 15 = int k ∧ σ 5 = .ref (nx0 + 1 + 1 + 1) 0 0 ∧ nx = nx0 + 1 + 1 + 1 + 1 ∧ hp (nx0 + 1) = some (blkM []) ∧ hp (nx0 + 1 + 1 + 1) = some (blkC b (nx0 + 1) (nx0 + 1 + 1) false)) 0
    ⟨by simp, by simp, by simp, by simp, by simp [blkM, entM], by simp [blkC_eq]⟩ ?_
  rintro k σ hp nx hk ⟨h14, h15, h5, hnx, hm, hc⟩
  obtain rfl : k = 0 := by omega
  simp [h14, h15, h5, hnx, Tryz.f84]
  exact ⟨hm, hc⟩
noncomputable def FBk (out : Bk → PV) : List PV → Option PV := specOf (α := Bk) (fun b => [.agg b.enc]) (fun b => b.cb ≤ lim) out
theorem FBk_call (out : Bk → PV) (b : Bk) (hp : Hp) (nx : Nat) (h : b.cb ≤ lim) : hPure false [] (FBk out) [.agg b.enc] hp nx = some (out b, hp, nx) :=
  hPure_v (hp1 := hp) (show freezeVals hp [.agg b.enc] = some ([.agg b.enc], hp) by simp [Bk.enc]) (specOf_eq (enc := fun b : Bk => [.agg b.enc]) (a := b) (fun a b e => by simp only [List.cons.injEq, and_true, PV.agg.injEq] at e; exact bk_inj e) h) (.inr (by simp [Bk.enc]))
noncomputable abbrev Cxcb : Ctx := mkCtx Tryz.prog [(84, hRun C0 Tryz.f84), (85, hRun Cchk Tryz.f85)]
set_option maxRecDepth 100000 in
theorem goodxcb : AM.Good Cxcb (fun g => ([] : List Nat).contains g) := good_of mixed ⟨checkerOf_sound, by simp, bkCheck_sound, by simp, trivial⟩
set_option maxRecDepth 20000 in
theorem xcb_eval (b : Bk) (h : b.cb ≤ lim) : evalPure Cxcb Tryz.f49 [.agg b.enc] = some (int (checkF b)) := by
  refine evalPure_of rfl ?_
  obtain ⟨x1, hp1, nx1, l1, rfl, rfl, l4, l5⟩ := checkerOf_run b (upd (fun _ => none) 0 (some ⟨26, 3, false, [b.enc]⟩)) 1
  obtain ⟨x2, hp2, nx2, g1, rfl⟩ := check_run b h (upd hp1 4 (some (blkC b 2 3 true))) 5 4 2 3 (by omega) (by omega) (by omega) (by simp) (by rw [upd_miss _ _ _ _ (by omega)]; exact l4)
  simp only [Bk.enc] at l1
  rw [blkC_eq] at l5 g1
  simp [Bk.enc, l1, l5, g1, pureR, Tryz.f49]
set_option maxRecDepth 100000 in
theorem xcb_sound : SpecSound Tryz.prog 49 (hPure false [] (FBk fun b => int (checkF b))) :=
  pureS (fn := Tryz.f49) goodxcb ⟨_, Tryz.func49, by kernel_rfl, rfl, by kernel_rfl⟩ false [] _ fun args r h => by
    obtain ⟨b, rfl, hx, rfl⟩ := specOf_inv h
    exact ⟨by simp [Tryz.f49], _, xcb_eval b hx, up_of _⟩
end Go.Proofs.YtfjeckcbnhohmaaGreatDoor
namespace Go.AM
open Go.RowKit
/-- append of a whole slice to one of one's own, and what it leaves. -/
theorem OwnS.appendF {P : Program} {hp : Hp} {nx e s by_ : Nat} {v : PV} {xs : List (List PV)} {ys : List (List PV)} {z : List PV} {t : TypeId} (h : OwnS hp nx e s v xs) (ht : elemA P t = some e) (hs : sizeA P e = some s) (hb : bytesA P e = some by_) (hz : zeroA P e = some z)
    (hzl : z.length = s) (h0 : 0 < s) (h1 : xs.length + ys.length ≤ maxLen) (h2 : (xs.length + ys.length) * by_ ≤ 140737488355328) :
    ∃ v' hp' nx', appendA P hp nx t t v (.sl s ys) = some (v', hp', nx') ∧ OwnS hp' nx' e s v' (xs ++ ys) ∧ nx ≤ nx' ∧ ∀ j, j < nx → (∀ n, v ≠ .own j 0 n) → hp' j = hp j := by
  rcases h with ⟨rfl, rfl⟩ | ⟨id, hid, rfl, hh⟩
  · simp at h1 h2
    by_cases hy : ys = []
    · subst hy
      exact ⟨.nil, hp, nx, by simp [appendA, ht, hs, hb, hz, hzl, h0, AM.view, maxLen], .inl ⟨rfl, rfl⟩, Nat.le_refl _, fun _ _ _ => rfl⟩
    · exact ⟨.own nx 0 ys.length, _, nx + 1, by simp [appendA, ht, hs, hb, hz, hzl, h0, h1, h2, AM.view, hy]; rfl, .inr ⟨nx, by omega, by simp, by simp⟩, by omega, fun j hj _ => by rw [upd_miss _ _ _ _ (by omega)]⟩
  · refine ⟨.own nx 0 (xs.length + ys.length), _, nx + 1, by simp [appendA, ht, hs, hb, hz, hzl, h0, h1, h2, AM.view, hh]; rfl, .inr ⟨nx, by omega, by simp, by simp⟩, by omega, fun j hj hv => ?_⟩
    have hji : ¬ j = id := fun e => hv xs.length (by rw [e])
    rw [upd_miss _ _ _ _ (by omega), upd_miss _ _ _ _ hji]
end Go.AM
namespace Go.Proofs.YtfjeckcbnhohmaaGreatDoor
open Go.RowKit Go.AM Go.SpanLaw
/-! ### checkLayer -/
noncomputable def chkL (b : Bk) (s : List UInt8) (n : Int) : Int := if checkF b = 0 then (if (bsN (b.layers.map Lyr.name) s).2 = true then (if timeB n = true then 0 else 1) else 5) else checkF b
noncomputable def FBNI (out : Bk → List UInt8 → Int → PV) : List PV → Option PV := specOf (α := Bk × List UInt8 × Int) (fun a => [.agg a.1.enc, str a.2.1, int a.2.2]) (fun a => a.1.cb ≤ lim) (fun a => out a.1 a.2.1 a.2.2)
theorem freeze_bk (hp : Hp) (b : Bk) : freezeVal hp (.agg b.enc) = some (.agg b.enc, hp) := by simp [Bk.enc]
theorem noOwn_bk (b : Bk) : PV.noOwn (.agg b.enc) = true := by simp [Bk.enc]
theorem FBNI_call (out : Bk → List UInt8 → Int → PV) (b : Bk) (s : List UInt8) (n : Int) (hp : Hp) (nx : Nat) (h : b.cb ≤ lim) : hPure false [] (FBNI out) [.agg b.enc, str s, int n] hp nx = some (out b s n, hp, nx) :=
  hPure_v (hp1 := hp) (show freezeVals hp [.agg b.enc, str s, int n] = some ([.agg b.enc, str s, int n], hp) by simp only [freezeVals, freeze_bk]; rfl) (specOf_eq (enc := fun a : Bk × List UInt8 × Int => [.agg a.1.enc, str a.2.1, int a.2.2]) (a := (b, s, n)) (fun x y e => by
    obtain ⟨x1, x2, x3⟩ := x; obtain ⟨y1, y2, y3⟩ := y
    simp only [List.cons.injEq, and_true, PV.agg.injEq] at e
    rw [bk_inj e.1, str_inj e.2.1, pint_inj e.2.2]) h) (.inr (by simp only [List.all_cons, noOwn_bk]; rfl))
noncomputable abbrev Ccly : Ctx := mkCtx Tryz.prog [(49, hPure false [] (FBk fun b => int (checkF b))), (50, hPure false [] FOfL), (51, hPure false [] (FIb timeB))]
theorem goodcly : AM.Good Ccly (fun g => ([] : List Nat).contains g) := good_of mixed ⟨xcb_sound, by simp, ofL_sound, by simp, isTime_sound, by simp, trivial⟩
set_option maxRecDepth 8000 in
theorem cly_eval (b : Bk) (s : List UInt8) (n : Int) (h : b.cb ≤ lim) : evalPure Ccly Tryz.f21 [.agg b.enc, str s, int n] = some (int (chkL b s n)) := by
  refine evalPure_of rfl ?_
  have hleL := sumB_len lyr_pos b.layers
  have hbc : b.cb = sumB Lyr.cb b.layers + sumB Hld.cb b.holds + sumB Xp.cb b.exps := rfl
  have hk := fun hp nx => FBk_call (fun b => int (checkF b)) b hp nx h
  unfold lim at h
  have hof := fun hp nx => FOfL_call b.layers s hp nx (by unfold lim; omega)
  simp only [Bk.enc] at hk
  by_cases c1 : checkF b = 0
  case neg =>
    have hv : chkL b s n = checkF b := by unfold chkL; rw [if_neg c1]
    have c1' : (checkF b != 0) = true := by simpa using c1
    simp [Bk.enc, hk, c1', hv, Tryz.f21]
  cases c2 : (bsN (b.layers.map Lyr.name) s).2
  · have hv : chkL b s n = 5 := by unfold chkL; rw [if_pos c1, c2, if_neg (by simp)]
    simp [Bk.enc, hk, c1, hof, c2, hv, Tryz.f21]
  cases c3 : timeB n
  · have hv : chkL b s n = 1 := by unfold chkL; rw [if_pos c1, c2, if_pos rfl, c3, if_neg (by simp)]
    simp [Bk.enc, hk, c1, hof, c2, c3, hv, Tryz.f21]
  · have hv : chkL b s n = 0 := by unfold chkL; rw [if_pos c1, c2, if_pos rfl, c3, if_pos rfl]
    simp [Bk.enc, hk, c1, hof, c2, c3, hv, Tryz.f21]
set_option maxRecDepth 100000 in
theorem cly_sound : SpecSound Tryz.prog 21 (hPure false [] (FBNI fun b s n => int (chkL b s n))) :=
  pureS (fn := Tryz.f21) goodcly ⟨_, Tryz.func21, by kernel_rfl, rfl, by kernel_rfl⟩ false [] _ fun args r h => by
    obtain ⟨⟨b, s, n⟩, rfl, hx, rfl⟩ := specOf_inv h
    exact ⟨by simp [Tryz.f21], _, cly_eval b s n hx, up_of _⟩
/-! ### has -/
def hasG (acc : List Sp) (n : Int) : List Phs → List Sp
  | [] => acc
  | p :: l => hasG (if p.at_ ≤ n then p.spans else acc) n l
noncomputable def FXI (out : Xp → Int → PV) (pre : Xp → Int → Prop) : List PV → Option PV := specOf (α := Xp × Int) (fun a => [.agg a.1.enc, int a.2]) (fun a => pre a.1 a.2) (fun a => out a.1 a.2)
theorem FXI_call (out : Xp → Int → PV) (pre : Xp → Int → Prop) (x : Xp) (n : Int) (hp : Hp) (nx : Nat) (h : pre x n) : hPure false [] (FXI out pre) [.agg x.enc, int n] hp nx = some (out x n, hp, nx) :=
  hPure_v (hp1 := hp) (show freezeVals hp [.agg x.enc, int n] = some ([.agg x.enc, int n], hp) by simp only [freezeVals, freeze_xp]; rfl) (specOf_eq (enc := fun a : Xp × Int => [.agg a.1.enc, int a.2]) (a := (x, n)) (fun x y e => by
    obtain ⟨x1, x2⟩ := x; obtain ⟨y1, y2⟩ := y
    simp only [List.cons.injEq, and_true, PV.agg.injEq] at e
    rw [xp_inj e.1, pint_inj e.2]) h) (.inr (by simp only [List.all_cons, noOwn_xp]; rfl))
set_option maxRecDepth 8000 in
theorem hasX_eval (x : Xp) (n : Int) (h : x.phases.length ≤ lim) : ∃ r0, evalPure C0 Tryz.f22 [.agg x.enc, int n] = some r0 ∧ Stands r0 (.sl 2 ((hasG [] n x.phases).map encS)) := by
  refine evalPureU_of rfl ?_
  unfold lim at h
  rw [xp_enc]
  simp
  refine EvC_for (fun k σ hp nx => σ 1 = int n ∧ σ 9 = .sl 2 (x.phases.map Phs.enc) ∧ σ 10 = int x.phases.length ∧ σ 11 = int k ∧ ∃ d, (σ 5 = .sl 2 (d.map encS) ∨ (σ 5 = .nil ∧ d = [])) ∧ hasG [] n x.phases = hasG d n (x.phases.drop k)) x.phases.length
    ⟨by simp, by simp, by simp, by simp, [], .inr ⟨by simp, rfl⟩, by simp⟩ ?_
  rintro k σ hp nx hk ⟨h1, h9, h10, h11, d, hd, he⟩
  by_cases hlt : k < x.phases.length
  · obtain ⟨p, hp0⟩ : ∃ p, x.phases[k] = p := ⟨_, rfl⟩
    rw [List.drop_eq_getElem_cons hlt, hp0] at he
    simp only [hasG] at he
    have hw : IntKind.i64.wrap ((k : Int) + 1) = (k : Int) + 1 := wrap_fit (by omega) (by omega)
    by_cases hc : p.at_ ≤ n
    · rw [if_pos hc] at he
      simp [h1, h9, h10, h11, hlt, hp0, Phs.enc, hc, hw]
      exact ⟨by omega, p.spans, rfl, he⟩
    · rw [if_neg hc] at he
      simp [h1, h9, h10, h11, hlt, hp0, Phs.enc, hc, hw]
      exact ⟨by omega, d, hd, he⟩
  · obtain rfl : k = x.phases.length := by omega
    rw [List.drop_length] at he
    simp only [hasG] at he
    rw [he]
    rcases hd with hd | ⟨hd, rfl⟩
    · simp [h1, h9, h10, h11, hd, Tryz.f22]
      exact ⟨_, by simp, .refl _⟩
    · simp [h1, h9, h10, h11, hd, Tryz.f22]
      exact ⟨_, by simp, .nilOr (.inl ⟨rfl, rfl⟩)⟩
theorem hasX_sound : SpecSound Tryz.prog 22 (hPure false [] (FXI (fun x n => .sl 2 ((hasG [] n x.phases).map encS)) fun x _ => x.phases.length ≤ lim)) :=
  pureG (fn := Tryz.f22) good0 ⟨_, Tryz.func22, by kernel_rfl, rfl, by kernel_rfl⟩ false [] _ fun args r h w S vs hz => by
    obtain ⟨⟨x, n⟩, rfl, hx, rfl⟩ := specOf_inv h
    obtain ⟨r0, h1, h2⟩ := hasX_eval x n hx
    exact ⟨_, r0, hz, by simp [Tryz.f22], h1, h2⟩
/-! ### everything -/
def allS (args : List PV) : Option PV := if args.isEmpty then some (.sl 2 [[int 0, int 100000]]) else none
theorem everythingL_sound : SpecSound Tryz.prog 55 (hPure false [] allS) :=
  pureS (fn := Tryz.f55) good0 ⟨_, Tryz.func55, by kernel_rfl, rfl, by kernel_rfl⟩ false [] _ fun args r h => by
    cases args with
    | nil =>
      injection h with h
      subst h
      have hbs : ∀ hp nx, buildSliceA Tryz.prog hp nx 32 1 [(0, .agg [int 0, int 100000])] = some (.own nx 0 1, upd hp nx (some ⟨36, 2, true, [[int 0, int 100000]]⟩), nx + 1) := fun hp nx => by
        simp [buildSliceA, setElems, freezeParts]
      exact ⟨Nat.zero_le _, _, evalPure_of rfl (by simp [buildA, fillA, hbs, pureR, Tryz.f55]), up_of _⟩
    | cons x l => cases h
theorem everythingL_call (hp : Hp) (nx : Nat) : hPure false [] allS [] hp nx = some (.sl 2 [[int 0, int 100000]], hp, nx) := hPure_v (hp1 := hp) rfl rfl (.inr rfl)
/-! ### together, on what is one's own -/
noncomputable abbrev togF : List PV → Option PV := FP (fun l => .sl 2 ((togL (sorted l)).map encS)) fun l => Small l ∧ l.length ≤ 1048576
theorem togK_sound : SpecSound Tryz.prog 56 (hPure true [2] togF) :=
  pureG (fn := Tryz.f56) (good_of (q := []) mixed ⟨cloneS_sound, by simp, sortS_sound, by simp, trivial⟩ : AM.Good Ctg _) ⟨_, Tryz.func56, by kernel_rfl, rfl, by kernel_rfl⟩ true [2] _ fun args r h w S vs hz => by
    obtain ⟨l, rfl, hx, rfl⟩ := specOf_inv h
    obtain ⟨u, rfl, hr⟩ := zip_one hz
    obtain ⟨y, hy, hr2⟩ := rep_slOf hr
    obtain ⟨r0, h1, h2⟩ := together_eval l (sorted l) hx.1 hx.2 (sorted_spec hx.1).1 y hy
    exact ⟨_, r0, .cons hr2 .nil, Nat.le_trans (Nat.le_refl 1) (by decide), h1, h2⟩
theorem togK_call {hp : Hp} {nx : Nat} {v : PV} {d : List Sp} (hO : OwnS hp nx 36 2 v (d.map encS)) (h : Small d) (hl : d.length ≤ 1048576) : ∃ hp', hPure true [2] togF [v] hp nx = some (.sl 2 ((togL (sorted d)).map encS), hp', nx) := by
  have hs : togF [.sl 2 (d.map encS)] = some (.sl 2 ((togL (sorted d)).map encS)) := specOf_eq (enc := fun l : List Sp => [PV.sl 2 (l.map encS)]) (a := d) (fun a b e => by simp only [List.cons.injEq, and_true] at e; exact spans_inj e) ⟨h, hl⟩
  rcases hO with ⟨rfl, h0⟩ | ⟨id, hid, rfl, hh⟩
  · have hd : d = [] := by simpa using h0
    subst hd
    exact ⟨hp, hPure_v (hp1 := hp) rfl hs (.inr rfl)⟩
  · refine ⟨upd hp id none, ?_⟩
    have hf : freezeVals hp [.own id 0 (d.map encS).length] = some ([.sl 2 (d.map encS)], upd hp id none) := by
      simp [hh]
      rw [List.take_of_length_le (by simp)]
    unfold hPure
    rw [hf]
    simp only
    rw [show normArgs [2] [PV.sl 2 (d.map encS)] = [.sl 2 (d.map encS)] from rfl, hs]
    simp [PV.noOwn]
end Go.Proofs.YtfjeckcbnhohmaaGreatDoor
namespace Go.Proofs.YtfjeckcbnhohmaaGreatDoor
open Go.RowKit Go.AM Go.SpanLaw
/-! ### what a right book says -/
theorem chk_ok {b : Bk} (h : checkF b = 0) : (∀ y ∈ b.layers, 0 ≤ y.rest ∧ y.rest ≤ 100000000) ∧ (∀ x ∈ b.exps, phasesF x.phases = 0 ∧ (bsN (b.layers.map Lyr.name) x.layer).2 = true) ∧ clsF b.layers b.exps 0 b.exps = false := by
  unfold checkF at h
  split at h
  · exact absurd h (by simp)
  split at h
  · rename_i c1
    split at h
    · split at h
      · rename_i c3
        split at h
        · exact absurd h (by simp)
        · rename_i c4
          exact ⟨layers_ok c1, exps_ok c3, by simpa using c4⟩
      · rename_i c; exact absurd h c
    · rename_i c; exact absurd h c
  · rename_i c; exact absurd h c
theorem phF_spans : ∀ {xs : List Phs} {p : Option Int} {b : List Sp}, phF p b xs = 0 → ∀ y ∈ xs, spFault y.spans = 0
  | [], _, _, _, y, hy => by simp at hy
  | x :: xs, p, b, h, y, hy => by
    simp only [phF] at h
    split at h
    · split at h
      · exact absurd h (by simp)
      · split at h
        · rename_i c
          split at h
          · exact absurd h (by simp)
          · rcases List.mem_cons.1 hy with rfl | hy
            · exact c
            · exact phF_spans h y hy
        · rename_i c; exact absurd h c
    · exact absurd h (by simp)
theorem phasesF_spans {l : List Phs} (h : phasesF l = 0) : ∀ y ∈ l, spFault y.spans = 0 := by
  unfold phasesF at h
  split at h
  · exact absurd h (by simp)
  · exact phF_spans h
/-! ### what is not free -/
def unfG (rest n : Int) (all : List Phs) : Nat → List Phs → List Sp
  | _, [] => []
  | k, p :: l => (if n < endF all k + rest then p.spans else []) ++ unfG rest n all (k + 1) l
def unf (layer but : List UInt8) (rest n : Int) : List Xp → List Sp
  | [] => []
  | x :: l => (if x.layer = layer then (if x.name = but then [] else unfG rest n x.phases 0 x.phases) else []) ++ unf layer but rest n l
theorem unfG_len (rest n : Int) (all : List Phs) : ∀ (l : List Phs) (k : Nat), (unfG rest n all k l).length ≤ sumB Phs.cb l
  | [], k => by simp [unfG]
  | p :: l, k => by
    have := unfG_len rest n all l (k + 1)
    have hp : p.cb = 1 + p.spans.length := rfl
    simp only [unfG, List.length_append, sumB, List.map_cons, List.sum_cons] at *
    split <;> simp <;> omega
theorem unf_len (layer but : List UInt8) (rest n : Int) : ∀ l : List Xp, (unf layer but rest n l).length ≤ sumB Xp.cb l
  | [] => by simp [unf]
  | x :: l => by
    have := unf_len layer but rest n l
    have h2 := unfG_len rest n x.phases x.phases 0
    have hx : x.cb = x.name.length + x.layer.length + x.flag.length + x.cond.cb + x.salt.length + x.arms.length + sumB Phs.cb x.phases := rfl
    simp only [unf, List.length_append, sumB, List.map_cons, List.sum_cons] at *
    split
    · split <;> simp <;> omega
    · simp; omega
theorem unfG_mem (rest n : Int) (all : List Phs) : ∀ (l : List Phs) (k : Nat) (s : Sp), s ∈ unfG rest n all k l → ∃ p ∈ l, s ∈ p.spans
  | [], k, s, h => by simp [unfG] at h
  | p :: l, k, s, h => by
    simp only [unfG, List.mem_append] at h
    rcases h with h | h
    · split at h
      · exact ⟨p, by simp, h⟩
      · simp at h
    · obtain ⟨q, hq, hs⟩ := unfG_mem rest n all l (k + 1) s h
      exact ⟨q, by simp [hq], hs⟩
theorem unf_mem (layer but : List UInt8) (rest n : Int) : ∀ (l : List Xp) (s : Sp), s ∈ unf layer but rest n l → ∃ x ∈ l, ∃ p ∈ x.phases, s ∈ p.spans
  | [], s, h => by simp [unf] at h
  | x :: l, s, h => by
    simp only [unf, List.mem_append] at h
    rcases h with h | h
    · split at h
      · split at h
        · simp at h
        · obtain ⟨p, hp, hs⟩ := unfG_mem rest n x.phases x.phases 0 s h
          exact ⟨x, by simp, p, hp, hs⟩
      · simp at h
    · obtain ⟨q, hq, hs⟩ := unf_mem layer but rest n l s h
      exact ⟨q, by simp [hq], hs⟩
def okU (l : List Sp) : Prop := ∀ s ∈ l, 0 ≤ s.1 ∧ s.1 < s.2 ∧ s.2 ≤ 100000
theorem span_ok {a : List Sp} (ha : spFault a = 0) : okU a := by
  obtain ⟨c1, b1, p1, _⟩ := spFault_right ha
  exact fun s hs => ⟨p1 s hs, canon_pos c1 s hs, b1 s hs⟩
theorem unf_ok {b : Bk} (h : checkF b = 0) (layer but : List UInt8) (rest n : Int) : okU (unf layer but rest n b.exps) := fun s hs => by
  obtain ⟨x, hx, p, hp, hs⟩ := unf_mem layer but rest n b.exps s hs
  exact span_ok (phasesF_spans ((chk_ok h).2.1 x hx).1 p hp) s hs
theorem okU_small {l : List Sp} (h : okU l) : Small l := fun s hs => by have := h s hs; omega
theorem canon_len : ∀ {lo hi : Int} {l : List Sp}, Canon lo l → Below hi l → lo ≤ hi → (l.length : Int) ≤ hi - lo
  | lo, hi, [], _, _, h => by simp; omega
  | lo, hi, s :: l, hc, hb, h => by
    have hs := hb s (by simp)
    have := canon_len hc.2.2 (fun x hx => hb x (by simp [hx])) hs
    have := hc.1
    have := hc.2.1
    simp only [List.length_cons]
    omega
theorem tog_okS {l : List Sp} (h : okU l) : okS (togL (sorted l)) ∧ ∀ k, mem (togL (sorted l)) k ↔ mem l k := by
  obtain ⟨_, s2, s3⟩ := sorted_spec (okU_small h)
  have hs : Sorted 0 (sorted l) := sorted_of (fun s hs => by have := h s (s2.mem_iff.1 hs); exact ⟨this.1, this.2.1⟩) s3
  have hc : Canon (-1) (togL (sorted l)) := togL_canon (lo := -1) (by simpa using hs)
  have hm : ∀ k, mem (togL (sorted l)) k ↔ mem l k := fun k => by rw [togL_mem hs, mem_perm s2]
  have hpos := canon_pos hc
  have hb : Below 100000 (togL (sorted l)) := fun s hs => by
    have hp := hpos s hs
    obtain ⟨t, ht, g1, g2⟩ := (hm (s.2 - 1)).1 ⟨s, hs, by omega, by omega⟩
    have := h t ht
    omega
  refine ⟨⟨hc, hb, fun s hs => ?_, ?_⟩, hm⟩
  · have := canon_mem hc ⟨s, hs, Int.le_refl _, hpos s hs⟩
    omega
  · have := canon_len hc hb (by omega)
    have h2 : ¬ (togL (sorted l)).length = 100001 := fun e => by
      rcases hL : togL (sorted l) with _ | ⟨s, m⟩
      · rw [hL] at e; simp at e
      · rw [hL] at hc hb e
        have h1 := canon_len hc.2.2 (fun x hx => hb x (by simp [hx])) (hb s (by simp))
        have h3 := hc.1
        have h4 := hc.2.1
        simp only [List.length_cons] at e
        omega
    omega
noncomputable def freeB (b : Bk) (layer but : List UInt8) (n : Int) : List Sp := mins [(0, 100000)] (togL (sorted (unf layer but (restOf b.layers layer) n b.exps)))
/-! ### freeBut -/
def okB (b : Bk) (layer : List UInt8) : Prop := b.cb ≤ lim ∧ checkF b = 0 ∧ (bsN (b.layers.map Lyr.name) layer).2 = true
noncomputable def FBut (out : Bk → List UInt8 → List UInt8 → Int → PV) : List PV → Option PV := specOf (α := Bk × List UInt8 × List UInt8 × Int) (fun a => [.agg a.1.enc, str a.2.1, str a.2.2.1, int a.2.2.2]) (fun a => okB a.1 a.2.1) (fun a => out a.1 a.2.1 a.2.2.1 a.2.2.2)
theorem FBut_call (out : Bk → List UInt8 → List UInt8 → Int → PV) (b : Bk) (s t : List UInt8) (n : Int) (hp : Hp) (nx : Nat) (h : okB b s) : hPure false [] (FBut out) [.agg b.enc, str s, str t, int n] hp nx = some (out b s t n, hp, nx) :=
  hPure_v (hp1 := hp) (show freezeVals hp [.agg b.enc, str s, str t, int n] = some ([.agg b.enc, str s, str t, int n], hp) by simp only [freezeVals, freeze_bk]; rfl) (specOf_eq (enc := fun a : Bk × List UInt8 × List UInt8 × Int => [.agg a.1.enc, str a.2.1, str a.2.2.1, int a.2.2.2]) (a := (b, s, t, n)) (fun x y e => by
    obtain ⟨x1, x2, x3, x4⟩ := x; obtain ⟨y1, y2, y3, y4⟩ := y
    simp only [List.cons.injEq, and_true, PV.agg.injEq] at e
    rw [bk_inj e.1, str_inj e.2.1, str_inj e.2.2.1, pint_inj e.2.2.2]) h) (.inr (by simp only [List.all_cons, noOwn_bk]; rfl))
noncomputable abbrev Cfb : Ctx := mkCtx Tryz.prog [(50, hPure false [] FOfL), (54, hPure false [] (FPi2 fun l i => int (endF l i))), (55, hPure false [] allS), (56, hPure true [2] togF), (28, hPure false [] (FPP (fun a b => .sl 2 ((mins a b).map encS)) fun a b => spFault a = 0 ∧ okS b))]
theorem goodfb : AM.Good Cfb (fun g => ([] : List Nat).contains g) := good_of mixed ⟨ofL_sound, by simp, end_sound, by simp, everythingL_sound, by simp, togK_sound, by simp, minus2_sound, by simp, trivial⟩
theorem unfG_drop {rest n : Int} {l : List Phs} {k : Nat} (h : k < l.length) : unfG rest n l k (l.drop k) = (if n < endF l k + rest then l[k].spans else []) ++ unfG rest n l (k + 1) (l.drop (k + 1)) := by
  rw [List.drop_eq_getElem_cons h, unfG]
theorem unf_drop {layer but : List UInt8} {rest n : Int} {l : List Xp} {k : Nat} (h : k < l.length) : unf layer but rest n (l.drop k) = (if l[k].layer = layer then (if l[k].name = but then [] else unfG rest n l[k].phases 0 l[k].phases) else []) ++ unf layer but rest n (l.drop (k + 1)) := by
  rw [List.drop_eq_getElem_cons h, unf]
set_option maxRecDepth 8000 in
set_option maxHeartbeats 4000000 in
theorem freeBut_eval (b : Bk) (layer but : List UInt8) (n : Int) (h : okB b layer) : evalPure Cfb Tryz.f26 [.agg b.enc, str layer, str but, int n] = some (.sl 2 ((freeB b layer but n).map encS)) := by
  obtain ⟨hb, hchk, hfl⟩ := h
  obtain ⟨hyr, hex, _⟩ := chk_ok hchk
  refine evalPure_of rfl ?_
  have hlen := sumB_len xp_pos b.exps
  have hleL := sumB_len lyr_pos b.layers
  have hbc : b.cb = sumB Lyr.cb b.layers + sumB Hld.cb b.holds + sumB Xp.cb b.exps := rfl
  unfold lim at hb
  have hof := fun hp nx => FOfL_call b.layers layer hp nx (by unfold lim; omega)
  obtain ⟨q, hq⟩ : ∃ q, (bsN (b.layers.map Lyr.name) layer).1 = q := ⟨_, rfl⟩
  have hql : q < b.layers.length := by have := bsN_lt hfl; rw [hq] at this; simpa using this
  obtain ⟨y, hy⟩ : ∃ y, b.layers[q] = y := ⟨_, rfl⟩
  have hyr := hyr y (by rw [← hy]; exact List.getElem_mem hql)
  have hrest : restOf b.layers layer = y.rest := by unfold restOf; rw [hq, List.getElem?_eq_getElem hql, hy]
  obtain ⟨T, hT⟩ : ∃ T, unf layer but y.rest n b.exps = T := ⟨_, rfl⟩
  have hTl : T.length ≤ 1048576 := by have := unf_len layer but y.rest n b.exps; rw [hT] at this; omega
  have hTok : okU T := by rw [← hT]; exact unf_ok hchk layer but y.rest n
  have hfv : freeB b layer but n = mins [(0, 100000)] (togL (sorted T)) := by unfold freeB; rw [hrest, hT]
  rw [hfv]
  simp [Bk.enc, hof, hq, hql, hy, Lyr.enc]
  refine EvC_for (fun k σ hp nx => σ 1 = str layer ∧ σ 2 = str but ∧ σ 3 = int n ∧ σ 11 = int y.rest ∧ σ 31 = .sl 13 (b.exps.map Xp.enc) ∧ σ 32 = int b.exps.length ∧ σ 33 = int k ∧ ∃ d, OwnS hp nx 36 2 (σ 12) (d.map encS) ∧ d ++ unf layer but y.rest n (b.exps.drop k) = T) b.exps.length
    ⟨by simp, by simp, by simp, by simp, by simp, by simp, by simp, [], .inl (by simp), by simpa using hT⟩ ?_
  rintro k σ hp nx hk ⟨h1, h2, h3, h11, h31, h32, h33, d, hO, hd⟩
  by_cases hlt : k < b.exps.length
  · obtain ⟨x, hx⟩ : ∃ x, b.exps[k] = x := ⟨_, rfl⟩
    have hxm : x ∈ b.exps := by rw [← hx]; exact List.getElem_mem hlt
    have hmx := sumB_mem (f := Xp.cb) hxm
    have hxc : x.cb = x.name.length + x.layer.length + x.flag.length + x.cond.cb + x.salt.length + x.arms.length + sumB Phs.cb x.phases := rfl
    have hxpl := sumB_len phs_pos x.phases
    have hto := phasesF_ok (hex x hxm).1
    rw [unf_drop hlt, hx] at hd
    have hw : IntKind.i64.wrap ((k : Int) + 1) = (k : Int) + 1 := wrap_fit (by omega) (by omega)
    have hO1 := hO.more (some (boxX x))
    by_cases c1 : x.layer = layer
    case neg =>
      have c1' : (x.layer == layer) = false := by simpa using c1
      rw [if_neg c1, List.nil_append] at hd
      simp [h1, h2, h3, h11, h31, h32, h33, hlt, hx, xp_enc, c1', hw]
      rw [boxX, xp_enc] at hO1
      exact ⟨by omega, d, hO1, hd⟩
    have c1' : (x.layer == layer) = true := by simpa using c1
    rw [if_pos c1] at hd
    by_cases c2 : x.name = but
    · have c2' : (x.name == but) = true := by simpa using c2
      rw [if_pos c2, List.nil_append] at hd
      simp [h1, h2, h3, h11, h31, h32, h33, hlt, hx, xp_enc, c1', c2', hw]
      rw [boxX, xp_enc] at hO1
      exact ⟨by omega, d, hO1, hd⟩
    have c2' : (x.name == but) = false := by simpa using c2
    rw [if_neg c2] at hd
    simp [h1, h2, h3, h11, h31, h32, h33, hlt, hx, xp_enc, c1', c2']
    obtain ⟨P, hP⟩ : ∃ P, nx = P := ⟨_, rfl⟩
    rw [hP] at hO1 ⊢
    rw [boxX, xp_enc] at hO1
    refine EvC_for (fun i σ hp nx => σ 1 = str layer ∧ σ 2 = str but ∧ σ 3 = int n ∧ σ 11 = int y.rest ∧ σ 31 = .sl 13 (b.exps.map Xp.enc) ∧ σ 32 = int b.exps.length ∧ σ 33 = int k ∧ σ 14 = .ref P 0 0 ∧ σ 48 = .sl 2 (x.phases.map Phs.enc) ∧ σ 49 = int x.phases.length ∧ σ 50 = int i ∧ P < nx ∧ hp P = some ⟨58, 13, false, [x.enc]⟩ ∧ ∃ d, OwnS hp nx 36 2 (σ 12) (d.map encS) ∧ d ++ (unfG y.rest n x.phases i (x.phases.drop i) ++ unf layer but y.rest n (b.exps.drop (k + 1))) = T) x.phases.length
      ⟨by simp [h1], by simp [h2], by simp [h3], by simp [h11], by simp [h31], by simp [h32], by simp [h33], by simp, by simp, by simp, by simp, (by show P < P + 1; omega), by simp [xp_enc], d, by simpa using hO1, by simpa using hd⟩ ?_
    clear h1 h2 h3 h11 h31 h32 h33 hO hd hO1 hP d hk σ hp nx
    rintro i σ hp nx hi ⟨h1, h2, h3, h11, h31, h32, h33, h14, h48, h49, h50, hPn, hbP, d, hO, hd⟩
    by_cases hlti : i < x.phases.length
    · obtain ⟨p, hpd⟩ : ∃ p, x.phases[i] = p := ⟨_, rfl⟩
      rw [unfG_drop hlti, hpd] at hd
      have hwi : IntKind.i64.wrap ((i : Int) + 1) = (i : Int) + 1 := wrap_fit (by omega) (by omega)
      have hea := end_range hto i
      have wa : IntKind.i64.wrap (endF x.phases i + y.rest) = endF x.phases i + y.rest := wrap_fit (by omega) (by omega)
      have hce := fun hp nx => FPi2_call (fun l i => int (endF l i)) x.phases i hp nx ⟨by unfold lim; omega, by unfold lim; omega⟩
      have nP : ¬ P = nx := by omega
      have hO1 := hO.more (some ⟨92, 2, false, [p.enc]⟩)
      have hbP' := hbP
      rw [xp_enc] at hbP'
      by_cases hc : n < endF x.phases i + y.rest
      case neg =>
        rw [if_neg hc, List.nil_append] at hd
        rw [Phs.enc] at hO1
        simp [h1, h2, h3, h11, h31, h32, h33, h14, h48, h49, h50, hlti, hpd, Phs.enc, hbP', nP, hce, wa, hc, hwi]
        exact ⟨by omega, by omega, (xp_enc x).symm, d, hO1, hd⟩
      rw [if_pos hc] at hd
      have hdl : d.length + p.spans.length ≤ 1048576 := by
        have := congrArg List.length hd
        simp only [List.length_append] at this
        omega
      obtain ⟨v', hp', nx', ha1, hO', hnx', hfr⟩ := hO1.appendF (P := Tryz.prog) (t := 32) (ys := p.spans.map encS) el32 sz36 by36 ze36 rfl (by omega) (by simp [maxLen]; omega) (by simp; omega)
      have hbP2 : hp' P = some ⟨58, 13, false, [x.enc]⟩ := by
        rw [hfr P (by omega) (ownS_box hO hbP rfl), upd_miss _ _ _ _ nP]; exact hbP
      rw [Phs.enc] at ha1
      simp [h1, h2, h3, h11, h31, h32, h33, h14, h48, h49, h50, hlti, hpd, Phs.enc, hbP', nP, hce, wa, hc, hwi, ha1]
      exact ⟨by omega, by omega, hbP2, d ++ p.spans, by rw [List.map_append]; exact hO', by rw [List.append_assoc, ← List.append_assoc p.spans]; exact hd⟩
    · obtain rfl : i = x.phases.length := by omega
      rw [List.drop_length, unfG, List.nil_append] at hd
      simp [h1, h2, h3, h11, h31, h32, h33, h14, h48, h49, h50, hw]
      exact ⟨by omega, d, hO, hd⟩
  · obtain rfl : k = b.exps.length := by omega
    rw [List.drop_length, unf, List.append_nil] at hd
    subst hd
    obtain ⟨hp', htc⟩ := togK_call hO (okU_small hTok) hTl
    have hmc := fun hp nx => FPP_call (fun a b => .sl 2 ((mins a b).map encS)) (fun a b => spFault a = 0 ∧ okS b) [(0, 100000)] (togL (sorted d)) hp nx ⟨by decide, (tog_okS hTok).1⟩
    have hec := fun hp nx => everythingL_call hp nx
    simp only [List.map_cons, List.map_nil, encS] at hmc
    simp [h1, h2, h3, h11, h31, h32, h33, hec, htc, hmc, pureR, Tryz.f26]
set_option maxRecDepth 100000 in
theorem freeBut_sound : SpecSound Tryz.prog 26 (hPure false [] (FBut fun b s t n => .sl 2 ((freeB b s t n).map encS))) :=
  pureS (fn := Tryz.f26) goodfb ⟨_, Tryz.func26, by kernel_rfl, rfl, by kernel_rfl⟩ false [] _ fun args r h => by
    obtain ⟨⟨b, s, t, n⟩, rfl, hx, rfl⟩ := specOf_inv h
    exact ⟨by simp [Tryz.f26], _, freeBut_eval b s t n hx, up_of _⟩
/-! ### Free -/
noncomputable def freeR (b : Bk) (s : List UInt8) (n : Int) : List Sp × Int := if chkL b s n = 0 then limR (freeB b s [] n) else ([], chkL b s n)
theorem chkL_ok {b : Bk} {s : List UInt8} {n : Int} (hb : b.cb ≤ lim) (h : chkL b s n = 0) : okB b s ∧ timeB n = true := by
  unfold chkL at h
  split at h
  · rename_i c1
    split at h
    · rename_i c2
      split at h
      · rename_i c3; exact ⟨⟨hb, c1, c2⟩, c3⟩
      · exact absurd h (by simp)
    · exact absurd h (by simp)
  · rename_i c; exact absurd h c
noncomputable abbrev Cfr : Ctx := mkCtx Tryz.prog [(21, hPure false [] (FBNI fun b s n => int (chkL b s n))), (26, hPure false [] (FBut fun b s t n => .sl 2 ((freeB b s t n).map encS))), (25, hPure false [] (FP (fun l => spTup (limR l)) fun _ => True))]
theorem goodfr : AM.Good Cfr (fun g => ([] : List Nat).contains g) := good_of mixed ⟨cly_sound, by simp, freeBut_sound, by simp, limited_sound, by simp, trivial⟩
set_option maxRecDepth 8000 in
theorem Free_eval (b : Bk) (s : List UInt8) (n : Int) (hb : b.cb ≤ lim) : ∃ r0, evalPure Cfr Tryz.f8 [.agg b.enc, str s, int n] = some r0 ∧ Stands r0 (spTup (freeR b s n)) := by
  refine evalPureU_of rfl ?_
  have hcl := fun hp nx => FBNI_call (fun b s n => int (chkL b s n)) b s n hp nx hb
  simp only [Bk.enc] at hcl
  by_cases c1 : chkL b s n = 0
  case neg =>
    have hv : freeR b s n = ([], chkL b s n) := by unfold freeR; rw [if_neg c1]
    have c1' : (chkL b s n != 0) = true := by simpa using c1
    rw [hv]
    simp [Bk.enc, hcl, c1', Tryz.f8]
    exact ⟨_, by simp, stands_nilS _⟩
  · have hv : freeR b s n = limR (freeB b s [] n) := by unfold freeR; rw [if_pos c1]
    have hfb : ∀ hp nx, hPure false [] (FBut fun b s t n => .sl 2 ((freeB b s t n).map encS)) [.agg b.enc, str s, .v (.string ⟨#[]⟩), int n] hp nx = some (.sl 2 ((freeB b s [] n).map encS), hp, nx) := fun hp nx => FBut_call (fun b s t n => .sl 2 ((freeB b s t n).map encS)) b s [] n hp nx (chkL_ok hb c1).1
    have hli : ∀ hp nx, hPure false [] (FP (fun l => spTup (limR l)) fun _ => True) [.sl 2 ((freeB b s [] n).map encS)] hp nx = some (.tup [.sl 2 ((limR (freeB b s [] n)).1.map encS), int (limR (freeB b s [] n)).2], hp, nx) := fun hp nx => FP_call (fun l => spTup (limR l)) (fun _ => True) (freeB b s [] n) hp nx trivial
    simp only [Bk.enc] at hfb
    rw [hv]
    simp [Bk.enc, hcl, c1, hfb, hli, Tryz.f8]
    exact ⟨spTup (limR (freeB b s [] n)), by simp [spTup], .refl _⟩
set_option maxRecDepth 100000 in
theorem Free_sound : SpecSound Tryz.prog 8 (hPure false [] (FBNI fun b s n => spTup (freeR b s n))) :=
  pureG (fn := Tryz.f8) goodfr ⟨_, Tryz.func8, by kernel_rfl, rfl, by kernel_rfl⟩ false [] _ fun args r h w S vs hz => by
    obtain ⟨⟨b, s, n⟩, rfl, hx, rfl⟩ := specOf_inv h
    obtain ⟨r0, h1, h2⟩ := Free_eval b s n hx
    exact ⟨_, r0, hz, by simp [Tryz.f8], h1, h2⟩
end Go.Proofs.YtfjeckcbnhohmaaGreatDoor
