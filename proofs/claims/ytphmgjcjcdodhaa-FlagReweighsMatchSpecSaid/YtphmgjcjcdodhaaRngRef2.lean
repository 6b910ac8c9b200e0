/-
  Ranges: the reference's checks, put, kept.
-/
import Derived.Test.YtphmgjcjcdodhaaRngRef
namespace Go.Proofs.Ytphmgjcjcdodhaa
open Go.RowKit Go.AM

set_option maxRecDepth 8000 in
theorem rcheckRanges_eval (l : List Rg) (n : Int) (hn : 1 ≤ n ∧ n ≤ 20) : evalPure C0 Try.f68 [.sl 3 (l.map encR), int n] = some (int (rgFault l n)) := by
  refine evalPure_of rfl ?_
  rw [rgFault]
  by_cases c1 : l.length = 0
  · have : l = [] := List.length_eq_zero_iff.1 c1
    subst this
    simp [Try.f68]
  have c1' : ¬ l = [] := fun h => c1 (by rw [h]; rfl)
  have c0 : ((l.length : Int) == 0) = false := by simpa using c1'
  by_cases c2 : (200 : Int) < l.length
  · simp [c0, c1, c1', c2, Try.f68]
  simp [c0, c1, c1', c2]
  refine EvC_for (fun k σ hp nx => σ 0 = .sl 3 (l.map encR) ∧ σ 1 = int n ∧ σ 16 = .sl 3 (l.map encR) ∧ σ 17 = int l.length ∧ σ 18 = int k ∧ ∃ a : Int, σ 5 = int a ∧ rgF n 0 none l = rgF n a (prevV l k) (l.drop k)) l.length
    ⟨by simp, by simp, by simp, by simp, by simp, 0, by simp, by simp [prevV]⟩ ?_
  rintro k σ hp nx hk ⟨h0, h1, h16, h17, h18, a, h5, hf⟩
  by_cases hlt : k < l.length
  · have hw : IntKind.i64.wrap ((k : Int) + 1) = (k : Int) + 1 := wrap_fit (by omega) (by omega)
    rw [rgF_drop hlt] at hf
    have ed : (decide (l[k].2.2 < 0) || decide (n ≤ l[k].2.2)) = !inB l[k].2.2 0 (n - 1) := by
      simp only [inB]
      by_cases a1 : l[k].2.2 < 0 <;> by_cases a2 : n ≤ l[k].2.2 <;> simp [a1, a2] <;> omega
    cases d1 : inB l[k].2.2 0 (n - 1)
    case false =>
      rw [d1] at hf ed
      simp at hf
      simp only [Bool.not_false] at ed
      simp [h0, h1, h5, h16, h17, h18, hlt, ed, hf, Try.f68]
    rw [d1] at ed
    simp only [Bool.not_true] at ed
    simp only [d1, if_true] at hf
    have eo : ((l[k].1 != a) || decide (l[k].2.1 ≤ l[k].1)) = rgO a l[k] := rfl
    cases d2 : rgO a l[k]
    case true =>
      rw [d2] at eo hf
      simp only [if_true] at hf
      simp [h0, h1, h5, h16, h17, h18, hlt, ed, eo, hf, Try.f68]
    rw [d2] at eo
    simp only [d2, Bool.false_eq_true, if_false] at hf
    by_cases d3 : (100000 : Int) < l[k].2.1
    · rw [if_pos d3] at hf
      simp [h0, h1, h5, h16, h17, h18, hlt, ed, eo, d3, hf, Try.f68]
    rw [if_neg d3] at hf
    have hpv : prevV l (k + 1) = some l[k].2.2 := by simp [prevV, hlt]
    by_cases k0 : k = 0
    · subst k0
      simp only [prevV, if_true, rgT, Bool.false_eq_true, if_false] at hf
      have w1 : IntKind.i64.wrap 1 = 1 := wrap_fit (by omega) (by omega)
      simp [h0, h1, h5, h16, h17, h18, hlt, ed, eo, d3, w1]
      exact ⟨hlt, by rw [hf, hpv]; simp⟩
    · obtain ⟨j, rfl⟩ : ∃ j, k = j + 1 := ⟨k - 1, by omega⟩
      have hj : j < l.length := by omega
      have wj : IntKind.i64.wrap ((j : Int) + 1 - 1) = (j : Int) := by rw [wrap_fit (by omega) (by omega)]; omega
      have wj' : IntKind.i64.wrap (j : Int) = (j : Int) := wrap_fit (by omega) (by omega)
      have j1 : ((j : Int) + 1).toNat = j + 1 := by omega
      have j2 : 0 < (j : Int) + 1 := by omega
      have j3 : 0 ≤ (j : Int) + 1 := by omega
      have j4 : (j : Int) + 1 < l.length := by omega
      have wk : IntKind.i64.wrap ((j : Int) + 1 + 1) = (j : Int) + 1 + 1 := wrap_fit (by omega) (by omega)
      have hpj : prevV l (j + 1) = some l[j].2.2 := by simp [prevV, hj]
      have et : (l[j + 1].2.2 == l[j].2.2) = rgT (some l[j].2.2) l[j + 1] := BEq.comm
      rw [hpj] at hf
      cases d4 : rgT (some l[j].2.2) l[j + 1]
      · rw [d4] at et
        simp only [d4, Bool.false_eq_true, if_false] at hf
        simp [h0, h1, h5, h16, h17, h18, hlt, hj, ed, eo, d3, et, wj, wj', j1, j2, j3, j4, wk]
        exact ⟨by omega, by rw [hf, hpv]⟩
      · rw [d4] at et
        simp only [d4, if_true] at hf
        simp [h0, h1, h5, h16, h17, h18, hlt, hj, ed, eo, d3, et, wj, wj', j1, j2, j3, j4, hf, Try.f68]
  · obtain rfl : k = l.length := by omega
    rw [List.drop_length, rgF] at hf
    by_cases ha : a = 100000
    · rw [if_pos ha] at hf
      simp [h0, h1, h5, h16, h17, h18, ha, hf, Try.f68]
    · rw [if_neg ha] at hf
      have ha' : (a != 100000) = true := by simpa using ha
      simp [h0, h1, h5, h16, h17, h18, ha', hf, Try.f68]
theorem rcheckRanges_sound : SpecSound Try.prog 68 (hPure false [] (FRN (fun l n => int (rgFault l n)) fun _ n => 1 ≤ n ∧ n ≤ 20)) :=
  pureS (fn := Try.f68) good0 ⟨_, Try.func68, by kernel_rfl, rfl, by kernel_rfl⟩ false [] _ fun args r h => by
    obtain ⟨⟨l, n⟩, rfl, hn, rfl⟩ := specOf_inv h
    exact ⟨Nat.le_trans (Nat.le_refl 2) (by decide), _, rcheckRanges_eval l n hn, up_of _⟩
set_option maxRecDepth 8000 in
theorem rcheckWeights_eval (l : List Int) : evalPure C0 Try.f69 [.sl 1 (l.map encI)] = some (int (wtFault l)) := by
  refine evalPure_of rfl ?_
  rw [wtFault]
  by_cases c1 : l.length = 0
  · have : l = [] := List.length_eq_zero_iff.1 c1
    subst this
    simp [Try.f69]
  have c1' : ¬ l = [] := fun h => c1 (by rw [h]; rfl)
  have c0 : ((l.length : Int) == 0) = false := by simpa using c1'
  by_cases c2 : (20 : Int) < l.length
  · simp [c0, c1, c1', c2, Try.f69]
  simp [c0, c1, c1', c2]
  refine EvC_for (fun k σ hp nx => σ 14 = .sl 1 (l.map encI) ∧ σ 15 = int l.length ∧ σ 16 = int k ∧ ∃ a : Int, σ 3 = int a ∧ 0 ≤ a ∧ a ≤ 100000 * k ∧ wtF 0 l = wtF a (l.drop k)) l.length
    ⟨by simp, by simp, by simp, 0, by simp, by simp, by simp, by simp⟩ ?_
  rintro k σ hp nx hk ⟨h12, h13, h14, a, h3, ha0, ha1, hf⟩
  by_cases hlt : k < l.length
  · have hw : IntKind.i64.wrap ((k : Int) + 1) = (k : Int) + 1 := wrap_fit (by omega) (by omega)
    rw [wtF_drop hlt] at hf
    have ed : (decide (l[k] < 0) || decide (100000 < l[k])) = !inB l[k] 0 100000 := by
      simp only [inB]
      by_cases a1 : l[k] < 0 <;> by_cases a2 : 100000 < l[k] <;> simp [a1, a2] <;> omega
    cases d1 : inB l[k] 0 100000
    case false =>
      rw [d1] at hf ed
      simp at hf
      simp only [Bool.not_false] at ed
      simp [h3, h12, h13, h14, hlt, ed, hf, Try.f69]
    rw [d1] at ed
    simp only [Bool.not_true] at ed
    simp only [d1, if_true] at hf
    have hb : 0 ≤ l[k] ∧ l[k] ≤ 100000 := by simpa [inB] using d1
    have w1 : IntKind.i64.wrap (a + l[k]) = a + l[k] := wrap_fit (by omega) (by omega)
    simp [h3, h12, h13, h14, hlt, ed, w1, hw]
    exact ⟨hlt, by omega, by omega, hf⟩
  · obtain rfl : k = l.length := by omega
    rw [List.drop_length, wtF] at hf
    by_cases ha : a = 100000
    · rw [if_pos ha] at hf
      simp [h3, h12, h13, h14, ha, hf, Try.f69]
    · rw [if_neg ha] at hf
      have ha' : (a != 100000) = true := by simpa using ha
      simp [h3, h12, h13, h14, ha', hf, Try.f69]
theorem rcheckWeights_sound : SpecSound Try.prog 69 (hPure false [] (FI (fun l => int (wtFault l)) fun _ => True)) :=
  pureS (fn := Try.f69) good0 ⟨_, Try.func69, by kernel_rfl, rfl, by kernel_rfl⟩ false [] _ fun args r h => by
    obtain ⟨l, rfl, _, rfl⟩ := specOf_inv h
    exact ⟨Nat.le_trans (Nat.le_refl 1) (by decide), _, rcheckWeights_eval l, up_of _⟩

/-! ### put -/
set_option maxRecDepth 8000 in
theorem rputR_nil (f t v : Int) : ∃ x hp nx, evalFunc C0 Try.f98 [.nil, int f, int t, int v] (fun _ => none) 0 = some (x, hp, nx) ∧ OwnR (blkR (putR [] f t v)) x hp nx := by
  refine evalFunc_of rfl ?_
  have w0 : IntKind.i64.wrap (-1) = -1 := wrap_fit (by omega) (by omega)
  by_cases hc : t ≤ f
  · simp [hc, w0, putR, Try.f98, OwnR, blkR]
  · simp [hc, w0, putR, Try.f98, OwnR, buildSliceA, appendA, AM.view, maxLen, setElems, freezeParts, buildA, fillA, blkR]
set_option maxRecDepth 8000 in
theorem rputR_own (l : List Rg) (s : Rg) (f t v : Int) (hl : l.length < 100000) : ∃ x hp nx, evalFunc C0 Try.f98 [.own 0 0 (l.length + 1), int f, int t, int v] (upd (fun _ => none) 0 (some ⟨61, 3, true, (l ++ [s]).map encR⟩)) 1 = some (x, hp, nx) ∧ OwnR (blkR (putR (l ++ [s]) f t v)) x hp nx := by
  refine evalFunc_of rfl ?_
  have w1 : IntKind.i64.wrap (l.length : Int) = l.length := wrap_fit (by omega) (by omega)
  have w2 : (l.length : Int) < l.length + 1 := by omega
  have w3 : (0 : Int) < (l.length : Int) + 1 := by omega
  unfold putR
  by_cases hc : t ≤ f
  · rw [if_pos hc, blkR_some]
    simp [hc, w1, Try.f98]
    exact ⟨0, by simp, by simp, rfl⟩
  rw [if_neg hc]
  have key : s.2.1 = f ∧ s.2.2 = v ∨ ((s.2.1 == f) && (s.2.2 == v)) = false ∧ ¬ (s.2.1 = f ∧ s.2.2 = v) := by
    by_cases h1 : s.2.1 = f <;> by_cases h2 : s.2.2 = v <;> simp [h1, h2]
  rcases key with ⟨e1, e2⟩ | ⟨e1, e2⟩
  · simp [w1, w2, w3, hc, e1, e2, Try.f98]
    rw [blkR_some]
    exact ⟨0, by simp, by simp, rfl⟩
  · have hO : OwnS (upd (fun _ => none) 0 (some ⟨61, 3, true, l.map encR ++ [encR s]⟩)) 1 61 3 (.own 0 0 (l.length + 1)) (l.map encR ++ [encR s]) := .inr ⟨0, by omega, by simp, by simp⟩
    have hap := hO.append1 (P := Try.prog) (t := 47) (c := encR (f, t, v)) el47 sz61 by61 ze61 rfl (by omega) (by simp [maxLen]; omega) (by simp; omega)
    have hbs : ∀ hp nx, buildSliceA Try.prog hp nx 47 1 [(0, .agg (encR (f, t, v)))] = some (.own nx 0 1, upd hp nx (some ⟨61, 3, true, [encR (f, t, v)]⟩), nx + 1) := fun hp nx => by
      simp [buildSliceA, setElems, freezeParts]
    simp only [encR] at hap hbs
    simp [w1, w2, w3, hc, e1, e2, buildA, fillA, hbs, hap, Try.f98]
    rw [show l ++ [s, (f, t, v)] = (l ++ [s]) ++ [(f, t, v)] by simp, blkR_some]
    exact ⟨2, by simp, by simp, rfl⟩
theorem rputR_sound : SpecSound Try.prog 98 (hMove [] putRM) :=
  hMove_sound (fn := Try.f98) (code := _) good0 ⟨Try.func98, by kernel_rfl, rfl, by kernel_rfl⟩ [] _
    (fun args r h => by
      obtain ⟨l, f, t, v, h1, rfl, _, rfl⟩ := putRM_inv h
      obtain rfl : l = [] := blkR_inj (h1.symm.trans (by rfl))
      exact ⟨Nat.le_trans (Nat.le_refl 4) (by decide), rputR_nil f t v⟩)
    (fun b args r h => by
      obtain ⟨l, f, t, v, h1, rfl, hl, rfl⟩ := putRM_inv h
      refine ⟨Nat.le_trans (Nat.le_refl 4) (by decide), fun _ => ?_⟩
      rcases List.eq_nil_or_concat l with rfl | ⟨m, s, rfl⟩
      · cases h1
      · rw [List.concat_eq_append] at h1 hl ⊢
        rw [blkR_some] at h1
        injection h1 with h1
        subst h1
        have := rputR_own m s f t v (by simp at hl; omega)
        simpa using this)

/-! ### kept -/
noncomputable abbrev Ckp : Ctx := mkCtx Try.prog [(98, hMove [] putRM)]
structure KpOut (hp : Hp) (nx id : Nat) (d : List Rg) (u : List Int) (x : PV) (hp' : Hp) (nx' : Nat) : Prop where
  up : nx ≤ nx'
  own : OwnRg hp' nx' x d
  here : hp' id = some ⟨3, 1, true, u.map encI⟩
  rest : ∀ j, j < nx → j ≠ id → hp' j = hp j
  new : ∀ j m, x = .own j 0 m → nx ≤ j
set_option maxRecDepth 8000 in
theorem kept_eval (l : List Rg) (w : List Int) (hl : Chain 20 0 100000 none l) (hll : l.length ≤ 200) (hw : ∀ v, 0 ≤ nd w v ∧ nd w v ≤ 100000) (hwl : w.length = 20) {hp0 : Hp} {nx0 id : Nat} (hid : id < nx0) (hh0 : hp0 id = some ⟨3, 1, true, w.map encI⟩) :
    ∃ x hp' nx', evalFunc Ckp Try.f97 [.sl 3 (l.map encR), .own id 0 20] hp0 nx0 = some (x, hp', nx') ∧ KpOut hp0 nx0 id (kpL l w).1 (l.foldl keepW w) x hp' nx' := by
  refine evalFunc_of rfl ?_
  have hline := chain_line hl
  have hvars := chain_vars hl
  simp
  refine EvC_for (fun k σ hp nx => σ 1 = .own id 0 20 ∧ σ 9 = .sl 3 (l.map encR) ∧ σ 10 = int l.length ∧ σ 11 = int k ∧ KpOut hp0 nx0 id (kpL (l.take k) w).1 ((l.take k).foldl keepW w) (σ 5) hp nx) l.length
    ⟨by simp, by simp, by simp, by simp, ⟨by simp, .inl (by simp [kpL]), by simpa using hh0, by simp, by simp⟩⟩ ?_
  rintro k σ hp nx hk ⟨h1, h9, h10, h11, hK⟩
  by_cases hlt : k < l.length
  · have hwk : IntKind.i64.wrap ((k : Int) + 1) = (k : Int) + 1 := wrap_fit (by omega) (by omega)
    have hb := hline.mem _ (List.getElem_mem hlt)
    have hv := hvars _ (List.getElem_mem hlt)
    obtain ⟨v, hv1⟩ : ∃ v : Nat, l[k].2.2 = v := ⟨l[k].2.2.toNat, by omega⟩
    have hst := kpL_step (w := w) hlt
    have hfw : (l.take (k + 1)).foldl keepW w = keepW ((l.take k).foldl keepW w) l[k] := by
      rw [List.take_succ_eq_append_getElem hlt, List.foldl_append]; rfl
    have hsn : (kpL (l.take k) w).2 = (l.take k).foldl keepW w := kp_snd _ _
    have hkl : (kpL (l.take k) w).1.length ≤ 2 * (l.take k).length := by have := kp_length (l.take k) ([], w); simp only [List.length_nil, Nat.zero_add] at this; exact this
    have hul : ((l.take k).foldl keepW w).length = 20 := by
      have : ∀ (l : List Rg) (w : List Int), (l.foldl keepW w).length = w.length := by
        intro l
        induction l with
        | nil => intro w; rfl
        | cons r l ih => intro w; rw [List.foldl_cons, ih]; simp [keepW]
      rw [this, hwl]
    have hub : ∀ v, 0 ≤ nd ((l.take k).foldl keepW w) v ∧ nd ((l.take k).foldl keepW w) v ≤ 100000 := by
      have : ∀ (l : List Rg) (w : List Int), (∀ r ∈ l, r.1 ≤ r.2.1) → (∀ v, 0 ≤ nd w v ∧ nd w v ≤ 100000) → ∀ v, 0 ≤ nd (l.foldl keepW w) v ∧ nd (l.foldl keepW w) v ≤ 100000 := by
        intro l
        induction l with
        | nil => intro w _ h; exact h
        | cons r l ih =>
          intro w hr h
          rw [List.foldl_cons]
          refine ih _ (fun s hs => hr s (by simp [hs])) fun v => ?_
          have := keepW_pos (r := r) (fun v => (h v).1) (hr r (by simp)) v
          have := h v
          omega
      exact this _ _ (fun r hr => by have := hline.mem r (List.mem_of_mem_take hr); omega) hw
    have hT : (kpL (l.take (k + 1)) w).1 = putR (putR (kpL (l.take k) w).1 l[k].1 (l[k].1 + min (nd ((l.take k).foldl keepW w) l[k].2.2.toNat) (l[k].2.1 - l[k].1)) l[k].2.2) (l[k].1 + min (nd ((l.take k).foldl keepW w) l[k].2.2.toNat) (l[k].2.1 - l[k].1)) l[k].2.1 (-1) := by
      rw [hst]; unfold kpS; rw [hsn]
    have htk : (l.take k).length ≤ 200 := by rw [List.length_take]; omega
    generalize (kpL (l.take k) w).1 = d at hK hkl hT
    generalize (l.take k).foldl keepW w = u at hK hul hub hT hfw
    obtain ⟨a1, a2, a3, a4, a5⟩ := hK
    have hvl : v < u.length := by omega
    have hv20 : v < 20 := by omega
    have hubv := hub v
    rw [nd_at hvl] at hubv
    obtain ⟨st, hst1⟩ : ∃ st, min u[v] (l[k].2.1 - l[k].1) = st := ⟨_, rfl⟩
    have hmin : (if l[k].2.1 - l[k].1 < u[v] then l[k].2.1 - l[k].1 else u[v]) = st := by split <;> omega
    have w1 : IntKind.i64.wrap (l[k].2.1 - l[k].1) = l[k].2.1 - l[k].1 := wrap_fit (by omega) (by omega)
    have w2 : IntKind.i64.wrap (u[v] - st) = u[v] - st := wrap_fit (by omega) (by omega)
    have w3 : IntKind.i64.wrap (l[k].1 + st) = l[k].1 + st := wrap_fit (by omega) (by omega)
    have hnv : nd u l[k].2.2.toNat = u[v] := by rw [hv1, Int.toNat_natCast, nd_at hvl]
    have hKW : keepW u l[k] = u.set v (u[v] - st) := by unfold keepW; rw [hnv, hst1, hv1]; rfl
    have n0 : ¬ id = nx := by omega
    have n1 : ¬ nx = id := by omega
    have hne : ∀ m, σ 5 ≠ .own id 0 m := fun m e => by have := a5 id m e; omega
    have hhp : OwnRg (upd (upd hp nx (some ⟨61, 3, false, [[int l[k].1, int l[k].2.1, int v]]⟩)) id (some ⟨3, 1, true, (u.set v (u[v] - st)).map encI⟩)) (nx + 1) (σ 5) d := (a2.more _).upd hne
    obtain ⟨x1, hp1, nx1, p1, p2, p3, p4, p5⟩ := putR_call hhp (f := l[k].1) (t := l[k].1 + st) (v := v) (by omega)
    have q0 : hp1 id = some ⟨3, 1, true, (u.set v (u[v] - st)).map encI⟩ := by rw [p4 id (by omega) hne]; simp
    have qn : hp1 nx = some ⟨61, 3, false, [[int l[k].1, int l[k].2.1, int v]]⟩ := by rw [p4 nx (by omega) (a2.fresh (Nat.le_refl _))]; simp [n1]
    have hl1 := putR_len d l[k].1 (l[k].1 + st) v
    obtain ⟨x2, hp2, nx2, r1, r2, r3, r4, r5⟩ := putR_call p2 (f := l[k].1 + st) (t := l[k].2.1) (v := -1) (by omega)
    have e0 : hp2 id = some ⟨3, 1, true, (u.set v (u[v] - st)).map encI⟩ := by rw [r4 id (by omega) (fun m e => by have := p5 id m e; omega)]; exact q0
    have e1 : ∀ j, j < nx0 → j ≠ id → hp2 j = hp0 j := fun j hj hji => by
      rw [r4 j (by omega) (fun m e => by have := p5 j m e; omega), p4 j (by omega) (fun m e => by have := a5 j m e; omega), upd_miss _ _ _ _ hji, upd_miss _ _ _ _ (by omega)]
      exact a4 j hj hji
    rw [List.map_set] at p1
    simp [h1, h9, h10, h11, hlt, a3, n0, n1, qn, hv1, hvl, hv20, hul, w1, w2, w3, hwk, hmin, p1, r1]
    rw [hT, hfw, hKW, hnv, hst1, hv1]
    exact ⟨hlt, ⟨by omega, r2, e0, e1, fun j m e => by have := r5 j m e; omega⟩⟩
  · obtain rfl : k = l.length := by omega
    rw [List.take_length] at hK
    simp [h1, h9, h10, h11, Try.f97]
    exact hK
end Go.Proofs.Ytphmgjcjcdodhaa
