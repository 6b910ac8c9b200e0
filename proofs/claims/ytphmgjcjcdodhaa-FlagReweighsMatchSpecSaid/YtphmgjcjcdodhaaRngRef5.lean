/-
  Ranges: the reference's cuts, moved, step.
-/
import Derived.Test.YtphmgjcjcdodhaaRngRef4
namespace Go.Proofs.Ytphmgjcjcdodhaa
open Go.RowKit Go.AM

abbrev sortF (zs : List Int) : List Int := zs.mergeSort fun x y => decide (x ≤ y)
theorem rowI_map (zs : List Int) : rowI zs = zs.map encI := rfl
theorem ends_append (a b : List Rg) : ends (a ++ b) = ends a ++ ends b := by simp [ends]
theorem ends_length : ∀ l : List Rg, (ends l).length = 2 * l.length
  | [] => rfl
  | r :: l => by
    have := ends_length l
    show (r.1 :: r.2.1 :: ends l).length = _
    simp only [List.length_cons]
    omega
theorem ends_step {l : List Rg} {k : Nat} (h : k < l.length) : ends (l.take (k + 1)) = ends (l.take k) ++ [l[k].1, l[k].2.1] := by
  rw [List.take_succ_eq_append_getElem h, ends_append]
  rfl
def endsUp (a b : List Rg) (k : Nat) : List Int := [0, 100000] ++ (if k = 0 then [] else if k = 1 then ends a else ends a ++ ends b)
noncomputable abbrev Cct : Ctx := mkCtx Try.prog [(115, hRowI sortF false), (116, hRowI Lib.compact true)]
/-- Ranges in a cell: nil if there are none. -/
def encRn (b : List Rg) : List PV := if b = [] then [.nil] else encRs b
theorem encRn_inj {a b : List Rg} (h : encRn a = encRn b) : a = b := by
  unfold encRn at h
  split at h <;> split at h
  · rename_i h1 h2; rw [h1, h2]
  · simp at h
  · simp at h
  · simp only [List.cons.injEq, and_true] at h
    exact ranges_inj h
set_option maxRecDepth 8000 in
set_option maxHeartbeats 1600000 in
theorem cuts_eval (a b : List Rg) (ha : a.length ≤ 1000) (hb : b.length ≤ 1000) : ∃ r0, evalPure Cct Try.f99 [.sl 1 [encRs a, encRn b]] = some r0 ∧ Stands r0 (.sl 1 ((cutL a b).map encI)) := by
  refine evalPureU_of rfl ?_
  have hbs0 : buildSliceA Try.prog (fun _ => none) 0 48 2 [(0, int 0), (1, int 100000)] = some (.own 0 0 2, upd (fun _ => none) 0 (some ⟨3, 1, true, [[int 0], [int 100000]]⟩), 1) := by
    simp [buildSliceA, setElems, freezeParts]
  have hbs : ∀ (x y : Int) (hp : Hp) (nx : Nat), buildSliceA Try.prog hp nx 48 2 [(0, int x), (1, int y)] = some (.own nx 0 2, upd hp nx (some ⟨3, 1, true, [[int x], [int y]]⟩), nx + 1) := fun x y hp nx => by
    simp [buildSliceA, setElems, freezeParts]
  have hap : ∀ (hp : Hp) (nx i : Nat) (B : List Int) (x y : Int), i < nx → B.length ≤ 100000 → hp i = some ⟨3, 1, true, B.map encI⟩ →
      appendA Try.prog (upd hp nx (some ⟨3, 1, true, [[int x], [int y]]⟩)) (nx + 1) 48 48 (.own i 0 B.length) (.own nx 0 2) =
        some (.own (nx + 1) 0 (B.length + 2), upd (upd (upd hp nx (some ⟨3, 1, true, [[int x], [int y]]⟩)) i none) (nx + 1) (some ⟨3, 1, true, (B ++ [x, y]).map encI⟩), nx + 2) := fun hp nx i B x y hi hB hh => by
    have n1 : ¬ i = nx := by omega
    have n2 : B.length + 2 ≤ maxLen := by unfold maxLen; omega
    have n3 : (B.length + 2) * 8 ≤ 140737488355328 := by omega
    simp [appendA, AM.view, n1, hh, n2, n3]
  have h00 : ([0, 100000] : List Int).map encI = [[int 0], [int 100000]] := rfl
  simp [hbs0]
  refine EvC_for (fun k σ hp nx => σ 9 = .sl 1 [encRs a, encRn b] ∧ σ 10 = int 2 ∧ σ 11 = int k ∧ ∃ i, i < nx ∧ σ 3 = .own i 0 (endsUp a b k).length ∧ hp i = some ⟨3, 1, true, (endsUp a b k).map encI⟩) 2
    ⟨by simp, by simp, by simp, 0, by simp, by simp [endsUp], by simp [endsUp]⟩ ?_
  rintro k σ hp nx hk ⟨h9, h10, h11, i, hi, h3, hh⟩
  by_cases hlt : k < 2
  · obtain ⟨l, c, hl1, hcl, hl2, hl3⟩ : ∃ (l : List Rg) (c : PV), ([encRs a, encRn b] : List (List PV))[k]? = some [c] ∧ (c = .sl 3 (l.map encR) ∨ c = .nil ∧ l = []) ∧ l.length ≤ 1000 ∧ endsUp a b (k + 1) = endsUp a b k ++ ends l := by
      have hc : k = 0 ∨ k = 1 := by omega
      rcases hc with rfl | rfl
      · exact ⟨a, _, rfl, .inl rfl, ha, by simp [endsUp]⟩
      · by_cases hb0 : b = []
        · exact ⟨b, .nil, by simp [encRn, hb0], .inr ⟨rfl, hb0⟩, hb, by simp [endsUp]⟩
        · exact ⟨b, .sl 3 (b.map encR), by simp [encRn, hb0], .inl rfl, hb, by simp [endsUp]⟩
    have hcn : lenA Try.prog 47 c = some (int l.length) := by
      rcases hcl with rfl | ⟨rfl, rfl⟩
      · simp
      · simp
    have hBl : (endsUp a b k).length ≤ 10000 := by
      have h1 := ends_length a
      have h2 := ends_length b
      unfold endsUp
      split
      · simp
      split
      · simp; omega
      · simp; omega
    have hk2 : (k : Int) < 2 := by omega
    generalize endsUp a b k = B at h3 hh hBl hl3
    simp [h9, h10, h11, h3, hk2, hl1, hcn]
    refine EvC_for (fun j σ hp nx => σ 9 = .sl 1 [encRs a, encRn b] ∧ σ 10 = int 2 ∧ σ 11 = int k ∧ σ 15 = c ∧ σ 16 = int l.length ∧ σ 17 = int j ∧ ∃ i, i < nx ∧ σ 3 = .own i 0 (B ++ ends (l.take j)).length ∧ hp i = some ⟨3, 1, true, (B ++ ends (l.take j)).map encI⟩) l.length
      ⟨by simp [h9], by simp [h10], by simp [h11], by simp, by simp, by simp, i, by simpa using hi, by simp [h3, ends], by simpa [ends] using hh⟩ ?_
    clear h9 h10 h11 h3 hh hi
    rintro j σ hp nx hj ⟨h9, h10, h11, h15, h16, h17, i, hi, h3, hh⟩
    by_cases hjl : j < l.length
    · obtain rfl : c = .sl 3 (l.map encR) := by
        rcases hcl with e | ⟨_, e⟩
        · exact e
        · subst e; simp at hjl
      have hwj : IntKind.i64.wrap ((j : Int) + 1) = (j : Int) + 1 := wrap_fit (by omega) (by omega)
      have hst2 : B ++ ends (l.take (j + 1)) = B ++ (ends (l.take j) ++ [l[j].1, l[j].2.1]) := by rw [ends_step hjl]
      have hel := ends_length (l.take j)
      have htk : (l.take j).length ≤ 1000 := by rw [List.length_take]; omega
      rw [← List.append_assoc] at hst2
      have hBB : (B ++ ends (l.take j)).length ≤ 100000 := by simp; omega
      generalize B ++ ends (l.take j) = D at h3 hh hBB hst2
      have hh' : upd hp nx (some ⟨61, 3, false, [[int l[j].1, int l[j].2.1, int l[j].2.2]]⟩) i = some ⟨3, 1, true, D.map encI⟩ := by rw [upd_miss _ _ _ _ (by omega)]; exact hh
      have ha1 := hap _ (nx + 1) i D l[j].1 l[j].2.1 (by omega) hBB hh'
      have n7 : ¬ nx = nx + 1 := by omega
      simp [h9, h10, h11, h15, h16, h17, h3, hjl, hwj, hbs, ha1, n7]
      have hst3 := congrArg List.length hst2
      have hst4 := congrArg (List.map encI) hst2
      simp only [List.length_append, List.map_append, List.length_cons, List.length_nil, List.map_cons, List.map_nil] at hst3 hst4
      exact ⟨hjl, nx + 1 + 1, by omega, ⟨rfl, by omega⟩, by rw [hst4]; simp⟩
    · obtain rfl : j = l.length := by omega
      rw [List.take_length] at h3 hh
      have hwk : IntKind.i64.wrap ((k : Int) + 1) = (k : Int) + 1 := wrap_fit (by omega) (by omega)
      simp [h9, h10, h11, h15, h16, h17, h3, hwk]
      rw [hl3]
      exact ⟨by omega, i, hi, by simp, hh⟩
  · obtain rfl : k = 2 := by omega
    have hcb : endsUp a b 2 = cutB a b := by simp [endsUp, cutB]
    rw [hcb] at h3 hh
    have hcl : (cutB a b).length < 4611686018427387904 := by
      have h1 := ends_length a
      have h2 := ends_length b
      unfold cutB
      simp; omega
    have hc1 := hRowI_call sortF false (nx := nx) (by rw [rowI_map]; exact hh) hcl
    have hc2 := hRowI_call Lib.compact true (hp := upd hp i (some ⟨3, 1, true, rowI (sortF (cutB a b))⟩)) (id := i) (e := 3) (zs := sortF (cutB a b)) (nx := nx) (by simp) (by rw [List.length_mergeSort]; exact hcl)
    simp only [Bool.false_eq_true, if_false] at hc1
    simp only [if_true] at hc2
    have hsl : (sortF (cutB a b)).length = (cutB a b).length := List.length_mergeSort _
    rw [hsl] at hc2
    simp [h9, h10, h11, h3, hc1, hc2, Try.f99]
    have hO : OwnS (upd hp i (some ⟨3, 1, true, rowI (Lib.compact (sortF (cutB a b)))⟩)) nx 3 1 (.own i 0 (Lib.compact (sortF (cutB a b))).length) ((cutL a b).map encI) := .inr ⟨i, hi, by simp [cutL], by simp [rowI_map, cutL]⟩
    obtain ⟨r0, q1, q2⟩ := hO.freeze nx
    exact ⟨r0, q1, fun w S u hr => up_rep hr q2⟩
noncomputable def FCT : List PV → Option PV := specOf (α := List Rg × List Rg) (fun p => [.sl 1 [encRs p.1, encRn p.2]]) (fun p => p.1.length ≤ 1000 ∧ p.2.length ≤ 1000) (fun p => .sl 1 ((cutL p.1 p.2).map encI))
theorem cuts_sound : SpecSound Try.prog 99 (hPure true [] FCT) :=
  pureG (fn := Try.f99) (good_of (q := []) mixed ⟨sortI_sound, by simp, compactI_sound, by simp, trivial⟩ : AM.Good Cct _) ⟨_, Try.func99, by kernel_rfl, rfl, by kernel_rfl⟩ true [] _ fun args r h w S vs hz => by
    obtain ⟨⟨a, b⟩, rfl, hx, rfl⟩ := specOf_inv h
    obtain ⟨r0, h1, h2⟩ := cuts_eval a b hx.1 hx.2
    exact ⟨_, r0, hz, Nat.le_trans (Nat.le_refl 1) (by decide), h1, h2⟩
theorem cuts_call {a b : List Rg} (ha : a.length ≤ 1000) (hb : b.length ≤ 1000) {id : Nat} {hp : Hp} (nx : Nat) (h : hp id = some ⟨47, 1, true, [encRs a, encRn b]⟩) : hPure true [] FCT [.own id 0 2] hp nx = some (.sl 1 ((cutL a b).map encI), upd hp id none, nx) := by
  refine hPure_k (show freezeVals hp [.own id 0 2] = some ([.sl 1 [encRs a, encRn b]], upd hp id none) by simp [freezeVals, freezeVal, freezeCell, h]) ?_ rfl rfl
  exact specOf_eq (enc := fun p : List Rg × List Rg => [PV.sl 1 [encRs p.1, encRn p.2]]) (a := (a, b)) (fun p q e => by
    obtain ⟨p1, p2⟩ := p; obtain ⟨q1, q2⟩ := q
    simp only [List.cons.injEq, and_true, PV.sl.injEq, true_and] at e
    rw [map_inj (fun _ _ => encR_inj) e.1, encRn_inj e.2]) ⟨ha, hb⟩
theorem cutL_length (a b : List Rg) : (cutL a b).length ≤ 2 + 2 * a.length + 2 * b.length := by
  have h0 := compact_le ((cutB a b).mergeSort fun x y => decide (x ≤ y))
  rw [List.length_mergeSort] at h0
  have h1 := ends_length a
  have h2 := ends_length b
  have h3 : (cutB a b).length = 2 + (ends a).length + (ends b).length := by unfold cutB; simp; omega
  unfold cutL
  omega
/-! ### moved -/
noncomputable abbrev Crm : Ctx := mkCtx Try.prog [(98, hMove [] putRM), (99, hPure true [] FCT), (100, hPure false [] (FRN (fun l x => int (varAt l x)) fun l _ => l.length ≤ 100000))]
set_option maxRecDepth 8000 in
set_option maxHeartbeats 1600000 in
theorem rmoved_eval (a b : List Rg) (h : Cut a b) : ∃ r0, evalPure Crm Try.f71 [.sl 3 (a.map encR), .sl 3 (b.map encR)] = some r0 ∧ Stands r0 (.sl 3 ((rmoved a b).map encR)) := by
  obtain ⟨⟨la, ha⟩, lb, hb⟩ := h
  refine evalPureU_of rfl ?_
  have hb0 : ¬ b = [] := by rintro rfl; cases lb
  have hbs : ∀ hp nx, buildSliceA Try.prog hp nx 56 2 [(0, .sl 3 (a.map encR)), (1, .sl 3 (b.map encR))] = some (.own nx 0 2, upd hp nx (some ⟨47, 1, true, [encRs a, encRs b]⟩), nx + 1) := fun hp nx => by
    simp [buildSliceA, setElems, freezeParts, freezeVal, freezeCell]
  have c1 : ∀ hp nx, hPure true [] FCT [.own nx 0 2] (upd hp nx (some ⟨47, 1, true, [encRs a, encRs b]⟩)) (nx + 1) = some (.sl 1 ((cutL a b).map encI), upd (upd hp nx (some ⟨47, 1, true, [encRs a, encRs b]⟩)) nx none, nx + 1) := fun hp nx => cuts_call (by omega) (by omega) (nx + 1) (by simp [encRn, hb0])
  have cv : ∀ (l : List Rg), l.length ≤ 200 → ∀ x hp nx, hPure false [] (FRN (fun l x => int (varAt l x)) fun l _ => l.length ≤ 100000) [.sl 3 (l.map encR), int x] hp nx = some (int (varAt l x), hp, nx) := fun l hl x hp nx => FRN_call (fun l x => int (varAt l x)) (fun l _ => l.length ≤ 100000) l x hp nx (by omega)
  have ca := cv a ha
  have cb := cv b hb
  have hL := cuts_ok (line_bnd la) (line_bnd lb)
  have hLl := cutL_length a b
  have hmany := hL.many
  unfold rmoved
  generalize cutL a b = L at c1 hL hLl hmany
  have wl : IntKind.i64.wrap ((L.length : Int) - 1) = ((L.length - 1 : Nat) : Int) := by rw [wrap_fit (by omega) (by omega)]; omega
  simp [hbs, c1, wl]
  refine EvC_for (fun k σ hp nx => σ 0 = .sl 3 (a.map encR) ∧ σ 1 = .sl 3 (b.map encR) ∧ σ 6 = .sl 1 (L.map encI) ∧ σ 15 = int ((L.length - 1 : Nat) : Int) ∧ σ 16 = int k ∧ OwnRg hp nx (σ 5) (rmv a b L k)) (L.length - 1)
    ⟨by simp, by simp, by simp, by simp, by simp, .inl (by simp [rmv])⟩ ?_
  rintro k σ hp nx hk ⟨h0, h1, h6, h15, h16, hO⟩
  by_cases hlt : k < L.length - 1
  · have hwk : IntKind.i64.wrap ((k : Int) + 1) = (k : Int) + 1 := wrap_fit (by omega) (by omega)
    have k0 : k < L.length := by omega
    have k1 : k + 1 < L.length := by omega
    have hki : (k : Int) < ((L.length - 1 : Nat) : Int) := by omega
    have kn : ((k : Int) + 1).toNat = k + 1 := by omega
    have kp : 0 ≤ (k : Int) + 1 := by omega
    have d0 : L.getD k 0 = L[k] := by simp [List.getD_eq_getElem?_getD, k0]
    have d1 : L.getD (k + 1) 0 = L[k + 1] := by simp [List.getD_eq_getElem?_getD, k1]
    have hln := rmv_length a b L k
    have hrm : rmv a b L (k + 1) = if varAt b (L.getD k 0) = varAt a (L.getD k 0) then rmv a b L k else putR (rmv a b L k) (L.getD k 0) (L.getD (k + 1) 0) (varAt b (L.getD k 0)) := rfl
    rw [d0, d1] at hrm
    by_cases hc : varAt b L[k] = varAt a L[k]
    · rw [if_pos hc] at hrm
      have hc' : (varAt b L[k] != varAt a L[k]) = false := by simp [hc]
      simp [h0, h1, h6, h15, h16, hlt, hki, k0, ca, cb, hc', hwk]
      rw [hrm]
      exact ⟨by omega, hO⟩
    · rw [if_neg hc] at hrm
      have hc' : (varAt b L[k] != varAt a L[k]) = true := by simpa using hc
      obtain ⟨x1, hp1, nx1, p1, p2, p3, p4, p5⟩ := putR_call hO (f := L[k]) (t := L[k + 1]) (v := varAt b L[k]) (by omega)
      simp [h0, h1, h6, h15, h16, hlt, hki, k0, k1, kn, kp, ca, cb, hc', hwk, p1]
      rw [hrm]
      exact ⟨by omega, p2⟩
  · obtain rfl : k = L.length - 1 := by omega
    simp [h0, h1, h6, h15, h16, Try.f71]
    obtain ⟨r0, q1, q2⟩ := hO.ownS.freeze nx
    exact ⟨r0, q1, fun w S u hr => up_rep hr q2⟩
theorem rmoved_sound : SpecSound Try.prog 71 (hPure false [] (FRR (fun a b => .sl 3 ((rmoved a b).map encR)) Cut)) :=
  pureG (fn := Try.f71) (good_of (q := []) mixed ⟨rputR_sound, by simp, cuts_sound, by simp, varAt_sound, by simp, trivial⟩ : AM.Good Crm _) ⟨_, Try.func71, by kernel_rfl, rfl, by kernel_rfl⟩ false [] _ fun args r h w S vs hz => by
    obtain ⟨⟨a, b⟩, rfl, hx, rfl⟩ := specOf_inv h
    obtain ⟨r0, h1, h2⟩ := rmoved_eval a b hx
    exact ⟨_, r0, hz, Nat.le_trans (Nat.le_refl 2) (by decide), h1, h2⟩
end Go.Proofs.Ytphmgjcjcdodhaa
