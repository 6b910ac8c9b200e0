/-
  The reference's Check of a value: what it computes, and that it is value.Check's.
-/
import Derived.Test.YtphmgjcjcdodhaaClone
namespace Go.Proofs.Ytphmgjcjcdodhaa
open Go.RowKit Go.AM

def cutB (s : Int × Bool) : Bool := s.2 || decide (1000 < s.1)
def stepR (s r : Int × Bool) : Int × Bool := if cutB s then s else (s.1 + r.1, s.2 || r.2)
mutual
def Val.rp : Val → Int → Int × Bool
  | .mk _ _ _ is fs, l => rpF fs l (rpV is l (1, decide (8 < l)))
def rpV : List Val → Int → Int × Bool → Int × Bool
  | [], _, s => s
  | v :: vs, l, s => rpV vs l (stepR s (v.rp (l + 1)))
def rpF : List (List UInt8 × Val) → Int → Int × Bool → Int × Bool
  | [], _, s => s
  | (_, v) :: vs, l, s => rpF vs l (stepR s (v.rp (l + 1)))
end
def rpI (xs : List Val) (l : Int) (s : Int × Bool) : Int × Bool := xs.foldl (fun s x => stepR s (x.rp (l + 1))) s
theorem rpV_eq : ∀ (xs : List Val) (l : Int) (s : Int × Bool), rpV xs l s = rpI xs l s
  | [], _, _ => rfl
  | v :: vs, l, s => by simp only [rpV, rpI, List.foldl_cons]; exact rpV_eq vs l _
theorem rpF_eq : ∀ (xs : List (List UInt8 × Val)) (l : Int) (s : Int × Bool), rpF xs l s = rpI (xs.map (·.2)) l s
  | [], _, _ => rfl
  | (a, v) :: vs, l, s => by simp only [rpF, rpI, List.map_cons, List.foldl_cons]; exact rpF_eq vs l _
theorem rp_eq (v : Val) (l : Int) : v.rp l = rpI v.inner l (1, decide (8 < l)) := by
  cases v with
  | mk k n s is fs => simp only [Val.rp, rpV_eq, rpF_eq, Val.inner, Val.items, Val.fields, rpI, List.foldl_append]
theorem rpI_stop {xs : List Val} {l : Int} {s : Int × Bool} (h : cutB s = true) : rpI xs l s = s := by
  induction xs with
  | nil => rfl
  | cons x xs ih => simp only [rpI, List.foldl_cons, stepR, h, if_true]; exact ih
theorem rpI_drop {xs : List Val} {l : Int} {s : Int × Bool} {k : Nat} (h : k < xs.length) : rpI (xs.drop k) l s = rpI (xs.drop (k + 1)) l (stepR s (xs[k].rp (l + 1))) := by
  rw [List.drop_eq_getElem_cons h]; rfl

def partsI (xs : List Val) : Nat := (xs.map Val.parts).sum
def levelsI : List Val → Nat
  | [] => 0
  | v :: l => max v.levels (levelsI l)
theorem partsI_eq (v : Val) : v.parts = 1 + partsI v.inner := by
  rw [parts_eq]
  have h1 : ∀ l : List Val, partsV l = partsI l := by
    intro l; induction l with
    | nil => rfl
    | cons v l ih => simp [partsV, partsI, ih]
  have h2 : ∀ l : List (List UInt8 × Val), partsF l = partsI (l.map (·.2)) := by
    intro l; induction l with
    | nil => rfl
    | cons v l ih => obtain ⟨a, v⟩ := v; simp [partsF, partsI] at ih ⊢; rw [ih]
  rw [h1, h2]
  simp [partsI, Val.inner, Nat.add_assoc]
theorem levelsI_eq (v : Val) : v.levels = levelsI v.inner + 1 := by
  rw [levels_eq]
  have h1 : ∀ l : List Val, levelsV l = levelsI l := by
    intro l; induction l with
    | nil => rfl
    | cons v l ih => simp [levelsV, levelsI, ih]
  have h2 : ∀ l : List (List UInt8 × Val), levelsF l = levelsI (l.map (·.2)) := by
    intro l; induction l with
    | nil => rfl
    | cons v l ih => obtain ⟨a, v⟩ := v; simp [levelsF, levelsI, ih]
  have h3 : ∀ a b : List Val, levelsI (a ++ b) = max (levelsI a) (levelsI b) := by
    intro a b; induction a with
    | nil => simp [levelsI]
    | cons v a ih => simp only [List.cons_append, levelsI, ih]; omega
  rw [h1, h2, Val.inner, h3]
theorem inner_mem {v x : Val} (h : x ∈ v.inner) : x.vb < v.vb := by
  have hvb := vb_eq v
  rcases List.mem_append.1 h with h | h
  · have := vbs_mem h; omega
  · obtain ⟨f, hf, rfl⟩ := List.mem_map.1 h
    have := fbs_mem hf; omega

/-- What is known of the count with its end ahead. -/
structure RP (xs : List Val) (l : Int) (s r : Int × Bool) : Prop where
  lo : s.1 ≤ r.1
  hi : r.1 ≤ s.1 + partsI xs
  deep : r.2 = true → s.2 = true ∨ 8 < l + (levelsI xs : Int)
  all : cutB r = false → r.1 = s.1 + partsI xs ∧ (xs ≠ [] → l + (levelsI xs : Int) ≤ 8)
theorem rp_spec : ∀ (b : Nat) (v : Val), v.vb ≤ b → ∀ l, 0 ≤ (v.rp l).1 ∧ (v.rp l).1 ≤ v.parts ∧ ((v.rp l).2 = true → 8 < l + (v.levels : Int) - 1) ∧ (cutB (v.rp l) = false → (v.rp l).1 = v.parts ∧ l + (v.levels : Int) - 1 ≤ 8) := by
  intro b
  induction b with
  | zero => intro v hv; have := vb_pos v; omega
  | succ b ih =>
    intro v hv l
    have key : ∀ (xs : List Val) (s : Int × Bool), 0 ≤ s.1 → (∀ x ∈ xs, x.vb ≤ b) → RP xs l s (rpI xs l s) := by
      intro xs
      induction xs with
      | nil => intro s _ _; exact ⟨by simp [rpI], by simp [rpI, partsI], fun h => .inl (by simpa [rpI] using h), fun _ => ⟨by simp [rpI, partsI], fun h => absurd rfl h⟩⟩
      | cons x xs ihx =>
        intro s h0 hm
        by_cases hc : cutB s = true
        · rw [rpI_stop hc]
          exact ⟨by omega, by omega, fun h => .inl h, fun h => by rw [hc] at h; cases h⟩
        · have e : rpI (x :: xs) l s = rpI xs l (s.1 + (x.rp (l + 1)).1, s.2 || (x.rp (l + 1)).2) := by
            simp only [rpI, List.foldl_cons, stepR, hc]; rfl
          rw [e]
          obtain ⟨g1, g2, g3, g4⟩ := ih x (hm x (by simp)) (l + 1)
          have hr := ihx (s.1 + (x.rp (l + 1)).1, s.2 || (x.rp (l + 1)).2) (by simp only; omega) (fun y hy => hm y (by simp [hy]))
          have hpi : partsI (x :: xs) = x.parts + partsI xs := by simp [partsI]
          have hlo := hr.lo
          have hhi := hr.hi
          simp only at hlo hhi
          refine ⟨by omega, by rw [hpi]; omega, fun h => ?_, fun h => ?_⟩
          · simp only [levelsI]
            rcases hr.deep h with h | h
            · simp only [Bool.or_eq_true] at h
              rcases h with h | h
              · exact .inl h
              · right; have := g3 h; omega
            · right; omega
          · obtain ⟨a1, a2⟩ := hr.all h
            have hx : cutB (x.rp (l + 1)) = false := by
              simp only [cutB, Bool.or_eq_false_iff, decide_eq_false_iff_not] at h hc ⊢
              refine ⟨?_, by omega⟩
              cases hd : (x.rp (l + 1)).2 with
              | false => rfl
              | true =>
                exfalso
                have hst : cutB (s.1 + (x.rp (l + 1)).1, s.2 || (x.rp (l + 1)).2) = true := by simp [cutB, hd]
                rw [rpI_stop hst] at h
                simp [hd] at h
            obtain ⟨b1, b2⟩ := g4 hx
            simp only at a1
            refine ⟨by rw [hpi]; omega, fun _ => ?_⟩
            simp only [levelsI]
            by_cases hn : xs = []
            · subst hn; simp only [levelsI]; omega
            · have := a2 hn; omega
    have hk := key v.inner (1, decide (8 < l)) (by simp) fun x hx => by have := inner_mem hx; omega
    rw [rp_eq, partsI_eq, levelsI_eq]
    have k1 := hk.lo
    have k2 := hk.hi
    simp only at k1 k2
    refine ⟨by omega, by omega, fun h => ?_, fun h => ?_⟩
    · rcases hk.deep h with h | h
      · simp at h; omega
      · omega
    · obtain ⟨a1, a2⟩ := hk.all h
      simp only at a1
      refine ⟨by omega, ?_⟩
      by_cases hn : v.inner = []
      · rw [hn] at h ⊢
        simp [rpI, cutB] at h
        simp only [levelsI]
        omega
      · have := a2 hn; omega
/-- The two counts agree on what is too large. -/
theorem large_eq (v : Val) : cutB (v.rp 1) = (decide ((1000 : Int) < v.parts) || decide ((8 : Int) < v.levels)) := by
  obtain ⟨h1, h2, h3, h4⟩ := rp_spec v.vb v (Nat.le_refl _) 1
  cases hc : cutB (v.rp 1) with
  | false =>
    obtain ⟨a, b⟩ := h4 hc
    simp only [cutB, Bool.or_eq_false_iff, decide_eq_false_iff_not] at hc
    symm
    simp only [Bool.or_eq_false_iff, decide_eq_false_iff_not]
    omega
  | true =>
    symm
    simp only [cutB, Bool.or_eq_true, decide_eq_true_eq] at hc ⊢
    rcases hc with hc | hc
    · right; have := h3 hc; omega
    · left; omega

/-- A function of a value and a number. -/
noncomputable def FV2 (out : Val → Int → PV) (lo hi : Int) (n : Nat) : List PV → Option PV := specOf (α := Val × Int) (fun a => [.agg a.1.enc, int a.2]) (fun a => a.1.vb ≤ lim ∧ a.1.vb ≤ n ∧ lo ≤ a.2 ∧ a.2 ≤ hi) (fun a => out a.1 a.2)
theorem FV2_call (out : Val → Int → PV) (lo hi : Int) (n : Nat) (v : Val) (i : Int) (hp : Hp) (nx : Nat) (h : v.vb ≤ lim ∧ v.vb ≤ n ∧ lo ≤ i ∧ i ≤ hi) : hPure false [] (FV2 out lo hi n) [.agg v.enc, int i] hp nx = some (out v i, hp, nx) :=
  hPure_v (hp1 := hp) (show freezeVals hp [.agg v.enc, int i] = some ([.agg v.enc, int i], hp) by simp only [freezeVals, freeze_enc]; simp)
    (specOf_eq (enc := fun a : Val × Int => [.agg a.1.enc, int a.2]) (a := (v, i)) (fun a b e => by
      obtain ⟨a1, a2⟩ := a; obtain ⟨b1, b2⟩ := b
      simp only [List.cons.injEq, and_true, PV.agg.injEq] at e
      rw [enc_inj e.1, pint_inj e.2]) h) (.inr (by simp only [List.all_cons, noOwn_enc, List.all_nil]; rfl))
noncomputable abbrev Crp (n : Nat) : Ctx := mkCtx Try.prog [(84, hPure false [] (FV2 (fun v l => .tup [int (v.rp l).1, boo (v.rp l).2]) 1 9 n)), (106, GV fun v => .sl 5 (v.inner.map Val.enc))]
theorem inner_length (v : Val) : v.inner.length < v.vb := by
  have := vb_eq v
  have := vbs_length v.items
  have := fbs_length v.fields
  simp [Val.inner]
  omega
set_option maxRecDepth 8000 in
theorem rparts_eval (n : Nat) (v : Val) (l : Int) (h : v.vb ≤ lim ∧ v.vb ≤ n + 1 ∧ 1 ≤ l ∧ l ≤ 9) : evalPure (Crp n) Try.f84 [.agg v.enc, int l] = some (.tup [int (v.rp l).1, boo (v.rp l).2]) := by
  obtain ⟨ha, hb, hl1, hl2⟩ := h
  have hil := inner_length v
  have hin := fun hp nx => GV_call (fun v => .sl 5 (v.inner.map Val.enc)) v hp nx ha
  unfold lim at ha
  refine evalPure_of rfl ?_
  simp [hin]
  refine EvC_for (fun k σ hp nx => σ 1 = int l ∧ σ 15 = .sl 5 (v.inner.map Val.enc) ∧ σ 16 = int v.inner.length ∧ σ 17 = int k ∧ ∃ s : Int × Bool, σ 6 = int s.1 ∧ σ 7 = boo s.2 ∧ 0 ≤ s.1 ∧ s.1 ≤ 2000000 ∧ (s.2 = false → l ≤ 8) ∧ v.rp l = rpI (v.inner.drop k) l s) v.inner.length
    ⟨by simp, by simp, by simp, by simp, (1, decide (8 < l)), by simp, by simp, by simp, by simp, by simp, by rw [rp_eq]; simp⟩ ?_
  rintro k σ hp nx hk ⟨h1, h15, h16, h17, s, h6, h7, s0, s1, s2, he⟩
  by_cases hlt : k < v.inner.length
  · have hw : IntKind.i64.wrap ((k : Int) + 1) = (k : Int) + 1 := wrap_fit (by omega) (by omega)
    have hm := inner_mem (List.getElem_mem hlt)
    have hec : (s.2 || decide (1000 < s.1)) = cutB s := rfl
    cases hc : cutB s
    · have hs2 : s.2 = false := by cases h : s.2 <;> simp_all [cutB]
      have hl8 := s2 hs2
      have wl : IntKind.i64.wrap (l + 1) = l + 1 := wrap_fit (by omega) (by omega)
      have hcall := fun hp nx => FV2_call (fun v l => .tup [int (v.rp l).1, boo (v.rp l).2]) 1 9 n v.inner[k] (l + 1) hp nx ⟨by unfold lim; omega, by omega, by omega, by omega⟩
      obtain ⟨g1, g2, g3, g4⟩ := rp_spec _ v.inner[k] (Nat.le_refl _) (l + 1)
      have hpl := parts_le v.inner[k]
      have hs1 : s.1 ≤ 1000 := by simp [cutB] at hc; omega
      have ws : IntKind.i64.wrap (s.1 + (v.inner[k].rp (l + 1)).1) = s.1 + (v.inner[k].rp (l + 1)).1 := wrap_fit (by omega) (by omega)
      rw [rpI_drop hlt] at he
      simp only [stepR, hc, Bool.false_eq_true, if_false] at he
      simp [h1, h15, h16, h17, h6, h7, hlt, hec, hc, hcall, wl, ws, hw]
      refine ⟨hlt, ?_⟩
      rw [he, hs2]
      cases hd : (v.inner[k].rp (l + 1)).2 <;> simp [hd] <;> omega
    · rw [rpI_stop hc] at he
      simp [h1, h15, h16, h17, h6, h7, hlt, hec, hc, he, Try.f84, pureR]
  · obtain rfl : k = v.inner.length := by omega
    rw [List.drop_length] at he
    have he : v.rp l = s := he
    simp [h1, h15, h16, h17, h6, h7, he, Try.f84, pureR]
theorem FV2_inv {out : Val → Int → PV} {lo hi : Int} {n : Nat} {args : List PV} {r : PV} (h : FV2 out lo hi n args = some r) : ∃ (v : Val) (i : Int), args = [.agg v.enc, int i] ∧ (v.vb ≤ lim ∧ v.vb ≤ n ∧ lo ≤ i ∧ i ≤ hi) ∧ r = out v i := by
  obtain ⟨⟨v, i⟩, h1, h2, h3⟩ := specOf_inv h
  exact ⟨v, i, h1, h2, h3⟩
theorem FV2_zero {out : Val → Int → PV} {lo hi : Int} {f : FuncId} (hfn : ∃ fn, Try.prog.funcs[f]? = some fn ∧ (fn.name == "runtime.NumGoroutine") = false ∧ fn.body.isNone = false) : SpecSound Try.prog f (hPure false [] (FV2 out lo hi 0)) := by
  refine ⟨hfn, fun args hp nx r hp' nx' h => ?_⟩
  unfold hPure at h
  split at h
  · split at h
    · rename_i r0 hF
      obtain ⟨v, i, _, hv, _⟩ := FV2_inv hF
      have := vb_pos v
      omega
    · cases h
  · cases h
set_option maxRecDepth 100000 in
theorem rparts_sound : ∀ n, SpecSound Try.prog 84 (hPure false [] (FV2 (fun v l => .tup [int (v.rp l).1, boo (v.rp l).2]) 1 9 n)) := by
  intro n
  induction n with
  | zero => exact FV2_zero ⟨_, Try.func84, by kernel_rfl, by kernel_rfl⟩
  | succ n ih =>
    have hg : AM.Good (Crp n) (fun g => ([] : List Nat).contains g) := good_of mixed ⟨ih, by simp, inner_sound, by simp, trivial⟩
    exact pureS (fn := Try.f84) hg ⟨_, Try.func84, by kernel_rfl, rfl, by kernel_rfl⟩ false [] _ fun args r h => by
      obtain ⟨v, l, rfl, hv, rfl⟩ := FV2_inv h
      exact ⟨Nat.le_trans (Nat.le_refl 2) (by decide), _, rparts_eval n v l hv, up_of _⟩

/-! ### the reference's checkPart -/
noncomputable abbrev Crc : Ctx := mkCtx Try.prog [(108, hPure false [] (F3 inB)), (109, hPure false [] (FS (bytesIn 32 126)))]
@[simp] theorem qrc1 : QuietIn Crc 108 := quietIn_of (by rfl) (hPure_quiet _ _)
@[simp] theorem qrc2 : QuietIn Crc 109 := quietIn_of (by rfl) (hPure_quiet _ _)
def headV (v : Val) : Int := headF v.kind v.n v.s v.items.length v.fields.length
theorem headV_eq (v : Val) : headV v = if (!inB v.kind 0 5) then 4 else if (v.kind != 1 && v.kind != 2 && v.n != 0) then 3 else if (v.kind != 3 && !v.s.isEmpty) then 3 else if (v.kind != 4 && decide (0 < v.items.length)) then 3 else if (v.kind != 5 && decide (0 < v.fields.length)) then 3 else if (v.kind == 1 && !inB v.n 0 1) then 1 else if (v.kind == 2 && !inB v.n (-999999999999999) 999999999999999) then 1 else if (decide ((500 : Int) < v.s.length)) then 2 else if (!bytesIn 32 126 v.s) then 1 else if (decide ((100 : Int) < v.items.length) || decide ((100 : Int) < v.fields.length)) then 2 else 0 := by
  unfold headV headF
  have q1 : cKind v.kind = !inB v.kind 0 5 := by rw [Bool.eq_iff_iff]; simp [cKind, inB]
  have q2 : cSpare v.kind v.n v.s v.items.length v.fields.length = ((v.kind != 1 && v.kind != 2 && v.n != 0) || (v.kind != 3 && !v.s.isEmpty) || (v.kind != 4 && decide (0 < v.items.length)) || (v.kind != 5 && decide (0 < v.fields.length))) := by
    unfold cSpare
    have : (v.s == []) = v.s.isEmpty := by cases v.s <;> rfl
    rw [this]
    generalize (v.kind != 1) = x1
    generalize (v.kind != 2) = x2
    generalize (v.kind != 3) = x3
    generalize (v.kind != 4) = x4
    generalize (v.kind != 5) = x5
    generalize (v.n != 0) = x6
    generalize v.s.isEmpty = x7
    generalize decide (0 < v.items.length) = x8
    generalize decide (0 < v.fields.length) = x9
    cases x1 <;> cases x2 <;> cases x3 <;> cases x4 <;> cases x5 <;> cases x6 <;> cases x7 <;> cases x8 <;> cases x9 <;> rfl
  have q3 : cRange1 v.kind v.n = (v.kind == 1 && !inB v.n 0 1) := by rw [Bool.eq_iff_iff]; simp [cRange1, inB]; omega
  have q4 : cRange2 v.kind v.n = (v.kind == 2 && !inB v.n (-999999999999999) 999999999999999) := by rw [Bool.eq_iff_iff]; simp [cRange2, inB]; omega
  rw [q1, q2, q3, q4, cLong, cMany]
  generalize (!inB v.kind 0 5) = b1
  generalize (v.kind != 1 && v.kind != 2 && v.n != 0) = b2
  generalize (v.kind != 3 && !v.s.isEmpty) = b3
  generalize (v.kind != 4 && decide (0 < v.items.length)) = b4
  generalize (v.kind != 5 && decide (0 < v.fields.length)) = b5
  generalize (v.kind == 1 && !inB v.n 0 1) = b6
  generalize (v.kind == 2 && !inB v.n (-999999999999999) 999999999999999) = b7
  cases b1 <;> cases b2 <;> cases b3 <;> cases b4 <;> cases b5 <;> cases b6 <;> cases b7 <;> cases bytesIn 32 126 v.s <;> rfl
set_option maxRecDepth 8000 in
theorem rcheckPart_eval (v : Val) (h : v.vb ≤ lim) : evalPure Crc Try.f107 [.agg v.enc] = some (int (headV v)) := by
  have hvb := vb_eq v
  have hsl : v.s.length ≤ lim := by omega
  refine evalPure_of rfl ?_
  have hh := headV_eq v
  obtain ⟨a1, ea1⟩ : ∃ b, (!inB v.kind 0 5) = b := ⟨_, rfl⟩
  obtain ⟨a2, ea2⟩ : ∃ b, (v.kind != 1 && v.kind != 2 && v.n != 0) = b := ⟨_, rfl⟩
  obtain ⟨a3, ea3⟩ : ∃ b, (v.kind != 3 && !v.s.isEmpty) = b := ⟨_, rfl⟩
  obtain ⟨a4, ea4⟩ : ∃ b, (v.kind != 4 && decide (0 < v.items.length)) = b := ⟨_, rfl⟩
  obtain ⟨a5, ea5⟩ : ∃ b, (v.kind != 5 && decide (0 < v.fields.length)) = b := ⟨_, rfl⟩
  obtain ⟨a6, ea6⟩ : ∃ b, (v.kind == 1 && !inB v.n 0 1) = b := ⟨_, rfl⟩
  obtain ⟨a7, ea7⟩ : ∃ b, (v.kind == 2 && !inB v.n (-999999999999999) 999999999999999) = b := ⟨_, rfl⟩
  obtain ⟨a8, ea8⟩ : ∃ b, (decide ((500 : Int) < v.s.length)) = b := ⟨_, rfl⟩
  obtain ⟨a9, ea9⟩ : ∃ b, (!bytesIn 32 126 v.s) = b := ⟨_, rfl⟩
  obtain ⟨a10, ea10⟩ : ∃ b, (decide ((100 : Int) < v.items.length) || decide ((100 : Int) < v.fields.length)) = b := ⟨_, rfl⟩
  rw [ea1, ea2, ea3, ea4, ea5, ea6, ea7, ea8, ea9, ea10] at hh
  cases a1
  case true => simp [hsl, ea1, ea2, ea3, ea4, ea5, ea6, ea7, ea8, ea9, ea10, hh, Try.f107]
  cases a2
  case true => simp [hsl, ea1, ea2, ea3, ea4, ea5, ea6, ea7, ea8, ea9, ea10, hh, Try.f107]
  cases a3
  case true => simp [hsl, ea1, ea2, ea3, ea4, ea5, ea6, ea7, ea8, ea9, ea10, hh, Try.f107]
  cases a4
  case true => simp [hsl, ea1, ea2, ea3, ea4, ea5, ea6, ea7, ea8, ea9, ea10, hh, Try.f107]
  cases a5
  case true => simp [hsl, ea1, ea2, ea3, ea4, ea5, ea6, ea7, ea8, ea9, ea10, hh, Try.f107]
  cases a6
  case true => simp [hsl, ea1, ea2, ea3, ea4, ea5, ea6, ea7, ea8, ea9, ea10, hh, Try.f107]
  cases a7
  case true => simp [hsl, ea1, ea2, ea3, ea4, ea5, ea6, ea7, ea8, ea9, ea10, hh, Try.f107]
  cases a8
  case true => simp [hsl, ea1, ea2, ea3, ea4, ea5, ea6, ea7, ea8, ea9, ea10, hh, Try.f107]
  cases a9
  case true => simp [hsl, ea1, ea2, ea3, ea4, ea5, ea6, ea7, ea8, ea9, ea10, hh, Try.f107]
  cases a10
  case true => simp [hsl, ea1, ea2, ea3, ea4, ea5, ea6, ea7, ea8, ea9, ea10, hh, Try.f107]
  simp [hsl, ea1, ea2, ea3, ea4, ea5, ea6, ea7, ea8, ea9, ea10, hh, Try.f107]
theorem rcheckPart_sound : SpecSound Try.prog 107 (GV fun v => int (headV v)) :=
  pureS (fn := Try.f107) (good_of (q := [108, 109]) mixed ⟨rWithin_sound, fun _ => hPure_quiet _ _, printable_sound, fun _ => hPure_quiet _ _, trivial⟩ : AM.Good Crc _) ⟨_, Try.func107, by kernel_rfl, rfl, by kernel_rfl⟩ false [] _ fun args r h => by
    obtain ⟨v, rfl, hv, rfl⟩ := FV_inv h
    exact ⟨by simp [Try.f107], _, rcheckPart_eval v hv.1, up_of _⟩
end Go.Proofs.Ytphmgjcjcdodhaa
