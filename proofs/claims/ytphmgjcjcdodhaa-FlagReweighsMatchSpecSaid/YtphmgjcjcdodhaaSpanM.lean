/-
  Spans: sizes, first.
  Spans: first.
  Spans: First of the program and of the reference.
  Spans: the reference's next and has.
  Spans: checks of two, limits.
-/
import Derived.Test.YtphmgjcjcdodhaaSpan
import Derived.Test.YtphmgjcjcdodhaaClone
namespace Go.Proofs.Ytphmgjcjcdodhaa
open Go.RowKit Go.AM Go.SpanLaw

theorem size_drop {l : List Sp} {k : Nat} (h : k < l.length) : sizeL (l.drop k) = (l[k].2 - l[k].1) + sizeL (l.drop (k + 1)) := by
  rw [List.drop_eq_getElem_cons h, sizeL]
theorem canon_pos : ∀ {lo : Int} {l : List Sp}, Canon lo l → ∀ s ∈ l, s.1 < s.2
  | _, r :: l, h, s, hs => by
    rcases List.mem_cons.1 hs with rfl | hs
    · exact h.2.1
    · exact canon_pos h.2.2 s hs
theorem size_bound : ∀ {lo hi : Int} {l : List Sp}, Canon lo l → lo ≤ hi → Below hi l → 0 ≤ sizeL l ∧ sizeL l ≤ hi - lo
  | lo, hi, [], _, h, _ => by simp [sizeL]; omega
  | lo, hi, s :: l, hc, h, hb => by
    have g := size_bound hc.2.2 (hb s (by simp)) (fun x hx => hb x (by simp [hx]))
    have := hc.1; have := hc.2.1
    simp only [sizeL]
    omega
set_option maxRecDepth 8000 in
theorem size_eval (l : List Sp) (h : spFault l = 0) : evalPure C0 Try.f51 [.sl 2 (l.map encS)] = some (int (sizeL l)) := by
  obtain ⟨hc, hb, hp0, hl⟩ := spFault_right h
  refine evalPure_of rfl ?_
  simp
  refine EvC_for (fun k σ hp nx => σ 6 = .sl 2 (l.map encS) ∧ σ 7 = int l.length ∧ σ 8 = int k ∧ ∃ acc : Int, σ 3 = int acc ∧ acc + sizeL (l.drop k) = sizeL l ∧ 0 ≤ acc ∧ acc ≤ 100000 * k) l.length
    ⟨by simp, by simp, by simp, 0, by simp, by simp, by simp, by simp⟩ ?_
  rintro k σ hp nx hk ⟨h6, h7, h8, acc, h3, ha, ha0, ha1⟩
  by_cases hlt : k < l.length
  · have hw : IntKind.i64.wrap ((k : Int) + 1) = (k : Int) + 1 := wrap_fit (by omega) (by omega)
    have hm := List.getElem_mem hlt
    have b1 := hb _ hm
    have b2 := hp0 _ hm
    have b3 := canon_pos hc _ hm
    have w1 : IntKind.i64.wrap (l[k].2 - l[k].1) = l[k].2 - l[k].1 := wrap_fit (by omega) (by omega)
    have w2 : IntKind.i64.wrap (acc + (l[k].2 - l[k].1)) = acc + (l[k].2 - l[k].1) := wrap_fit (by omega) (by omega)
    rw [size_drop hlt] at ha
    simp [h3, h6, h7, h8, hlt, hw, w1, w2]
    omega
  · obtain rfl : k = l.length := by omega
    rw [List.drop_length, sizeL] at ha
    have ha : acc = sizeL l := by omega
    simp [h3, h6, h7, h8, ha, Try.f51]
set_option maxRecDepth 8000 in
theorem rsize_eval (l : List Sp) (h : spFault l = 0) : evalPure C0 Try.f57 [.sl 2 (l.map encS)] = some (int (sizeL l)) := by
  obtain ⟨hc, hb, hp0, hl⟩ := spFault_right h
  refine evalPure_of rfl ?_
  simp
  refine EvC_for (fun k σ hp nx => σ 6 = .sl 2 (l.map encS) ∧ σ 7 = int l.length ∧ σ 8 = int k ∧ ∃ acc : Int, σ 3 = int acc ∧ acc + sizeL (l.drop k) = sizeL l ∧ 0 ≤ acc ∧ acc ≤ 100000 * k) l.length
    ⟨by simp, by simp, by simp, 0, by simp, by simp, by simp, by simp⟩ ?_
  rintro k σ hp nx hk ⟨h6, h7, h8, acc, h3, ha, ha0, ha1⟩
  by_cases hlt : k < l.length
  · have hw : IntKind.i64.wrap ((k : Int) + 1) = (k : Int) + 1 := wrap_fit (by omega) (by omega)
    have hm := List.getElem_mem hlt
    have b1 := hb _ hm
    have b2 := hp0 _ hm
    have b3 := canon_pos hc _ hm
    have w1 : IntKind.i64.wrap (l[k].2 - l[k].1) = l[k].2 - l[k].1 := wrap_fit (by omega) (by omega)
    have w2 : IntKind.i64.wrap (acc + (l[k].2 - l[k].1)) = acc + (l[k].2 - l[k].1) := wrap_fit (by omega) (by omega)
    rw [size_drop hlt] at ha
    simp [h3, h6, h7, h8, hlt, hw, w1, w2]
    omega
  · obtain rfl : k = l.length := by omega
    rw [List.drop_length, sizeL] at ha
    have ha : acc = sizeL l := by omega
    simp [h3, h6, h7, h8, ha, Try.f57]
theorem size_sound : SpecSound Try.prog 51 (hPure false [] (FP (fun l => int (sizeL l)) fun l => spFault l = 0)) :=
  pureS (fn := Try.f51) good0 ⟨_, Try.func51, by kernel_rfl, rfl, by kernel_rfl⟩ false [] _ fun args r h => by
    obtain ⟨l, rfl, hl, rfl⟩ := specOf_inv h
    exact ⟨Nat.le_trans (Nat.le_refl 1) (by decide), _, size_eval l hl, up_of _⟩
theorem rsize_sound : SpecSound Try.prog 57 (hPure false [] (FP (fun l => int (sizeL l)) fun l => spFault l = 0)) :=
  pureS (fn := Try.f57) good0 ⟨_, Try.func57, by kernel_rfl, rfl, by kernel_rfl⟩ false [] _ fun args r h => by
    obtain ⟨l, rfl, hl, rfl⟩ := specOf_inv h
    exact ⟨Nat.le_trans (Nat.le_refl 1) (by decide), _, rsize_eval l hl, up_of _⟩
/-- Size. -/
def sizeR (l : List Sp) : Int × Int := if spFault l = 0 then (sizeL l, 0) else (0, spFault l)
def twoI (r : Int × Int) : PV := .tup [int r.1, int r.2]
noncomputable abbrev Csz : Ctx := mkCtx Try.prog [(20, hPure false [] (FP (fun l => int (spFault l)) fun _ => True)), (51, hPure false [] (FP (fun l => int (sizeL l)) fun l => spFault l = 0))]
noncomputable abbrev Crz : Ctx := mkCtx Try.prog [(21, hPure false [] (FP (fun l => int (spFault l)) fun _ => True)), (57, hPure false [] (FP (fun l => int (sizeL l)) fun l => spFault l = 0))]
set_option maxRecDepth 8000 in
theorem Size_eval (l : List Sp) : evalPure Csz Try.f17 [.sl 2 (l.map encS)] = some (twoI (sizeR l)) := by
  have c1 := fun hp nx => FP_call (fun l => int (spFault l)) (fun _ => True) l hp nx trivial
  refine evalPure_of rfl ?_
  unfold sizeR
  by_cases hf : spFault l = 0
  · have c2 := fun hp nx => FP_call (fun l => int (sizeL l)) (fun l => spFault l = 0) l hp nx hf
    simp [c1, c2, hf, twoI, pureR, Try.f17]
  · have hf' : (spFault l != 0) = true := by simpa using hf
    simp [c1, hf, hf', twoI, pureR, Try.f17]
set_option maxRecDepth 8000 in
theorem rSize_eval (l : List Sp) : evalPure Crz Try.f23 [.sl 2 (l.map encS)] = some (twoI (sizeR l)) := by
  have c1 := fun hp nx => FP_call (fun l => int (spFault l)) (fun _ => True) l hp nx trivial
  refine evalPure_of rfl ?_
  unfold sizeR
  by_cases hf : spFault l = 0
  · have c2 := fun hp nx => FP_call (fun l => int (sizeL l)) (fun l => spFault l = 0) l hp nx hf
    simp [c1, c2, hf, twoI, pureR, Try.f23]
  · have hf' : (spFault l != 0) = true := by simpa using hf
    simp [c1, hf, hf', twoI, pureR, Try.f23]
theorem Size_sound : SpecSound Try.prog 17 (hPure false [] (FP (fun l => twoI (sizeR l)) fun _ => True)) :=
  pureS (fn := Try.f17) (good_of (q := []) mixed ⟨checkSpans_sound, by simp, size_sound, by simp, trivial⟩ : AM.Good Csz _) ⟨_, Try.func17, by kernel_rfl, rfl, by kernel_rfl⟩ false [] _ fun args r h => by
    obtain ⟨l, rfl, _, rfl⟩ := specOf_inv h
    exact ⟨Nat.le_trans (Nat.le_refl 1) (by decide), _, Size_eval l, up_of _⟩
theorem rSize_sound : SpecSound Try.prog 23 (hPure false [] (FP (fun l => twoI (sizeR l)) fun _ => True)) :=
  pureS (fn := Try.f23) (good_of (q := []) mixed ⟨rcheckSpans_sound, by simp, rsize_sound, by simp, trivial⟩ : AM.Good Crz _) ⟨_, Try.func23, by kernel_rfl, rfl, by kernel_rfl⟩ false [] _ fun args r h => by
    obtain ⟨l, rfl, _, rfl⟩ := specOf_inv h
    exact ⟨Nat.le_trans (Nat.le_refl 1) (by decide), _, rSize_eval l, up_of _⟩
end Go.Proofs.Ytphmgjcjcdodhaa
namespace Go.Proofs.Ytphmgjcjcdodhaa
open Go.RowKit Go.AM Go.SpanLaw

/-- The first n. -/
def firstL : List Sp → Int → List Sp
  | [], _ => []
  | s :: l, n => if n = 0 then [] else (s.1, s.1 + min n (s.2 - s.1)) :: firstL l (n - min n (s.2 - s.1))
theorem firstL_drop {l : List Sp} {k : Nat} (h : k < l.length) (n : Int) : firstL (l.drop k) n = if n = 0 then [] else (l[k].1, l[k].1 + min n (l[k].2 - l[k].1)) :: firstL (l.drop (k + 1)) (n - min n (l[k].2 - l[k].1)) := by
  rw [List.drop_eq_getElem_cons h, firstL]
set_option maxRecDepth 8000 in
theorem first_eval (l : List Sp) (n : Int) (h : spFault l = 0) (hn : 0 ≤ n ∧ n ≤ 100000) : ∃ r0, evalPure C0 Try.f58 [.sl 2 (l.map encS), int n] = some r0 ∧ Stands r0 (.sl 2 ((firstL l n).map encS)) := by
  obtain ⟨hc, hb, hp0, hl⟩ := spFault_right h
  have hfin : ∀ {code}, Try.f58.body = some code → EvC C0 code ⟨startσ [.sl 2 (l.map encS), int n], fun _ => none, 0⟩ (retK C0.P Try.f58 (pureN (.sl 2 ((firstL l n).map encS)))) → ∃ r0, evalPure C0 Try.f58 [.sl 2 (l.map encS), int n] = some r0 ∧ Stands r0 (.sl 2 ((firstL l n).map encS)) := by
    intro code hb h
    obtain ⟨r0, h1, h2⟩ := evalPureN_of hb h
    exact ⟨r0, h1, fun w S u hr => up_rep hr h2⟩
  refine hfin rfl ?_
  simp
  refine EvC_for (fun k σ hp nx => σ 9 = .sl 2 (l.map encS) ∧ σ 10 = int l.length ∧ σ 11 = int k ∧ ∃ (m : Int) (d : List Sp), σ 1 = int m ∧ OwnS hp nx 43 2 (σ 5) (d.map encS) ∧ d ++ firstL (l.drop k) m = firstL l n ∧ 0 ≤ m ∧ m ≤ 100000 ∧ d.length ≤ k) l.length
    ⟨by simp, by simp, by simp, n, [], by simp, .inl (by simp), by simp, hn.1, hn.2, by simp⟩ ?_
  rintro k σ hp nx hk ⟨h9, h10, h11, m, d, h1, hO, hd, hm0, hm1, hdl⟩
  by_cases hlt : k < l.length
  · have hw : IntKind.i64.wrap ((k : Int) + 1) = (k : Int) + 1 := wrap_fit (by omega) (by omega)
    have hmm := List.getElem_mem hlt
    have b1 := hb _ hmm
    have b2 := hp0 _ hmm
    have b3 := canon_pos hc _ hmm
    rw [firstL_drop hlt] at hd
    have hO1 := hO.more (some ⟨43, 2, false, [encS l[k]]⟩)
    by_cases hz : m = 0
    · subst hz
      rw [if_pos rfl, List.append_nil] at hd
      rw [hd] at hO1
      have := hO1.freeze (nx + 1)
      simp [h1, h9, h10, h11, hlt, Try.f58]
      exact this
    · rw [if_neg hz] at hd
      have hz' : (m == 0) = false := by simpa using hz
      have w1 : IntKind.i64.wrap (l[k].2 - l[k].1) = l[k].2 - l[k].1 := wrap_fit (by omega) (by omega)
      obtain ⟨tk, htk⟩ : ∃ tk, tk = min m (l[k].2 - l[k].1) := ⟨_, rfl⟩
      have ht0 : 0 ≤ tk ∧ tk ≤ m ∧ tk ≤ 100000 := by omega
      have w2 : IntKind.i64.wrap (l[k].1 + tk) = l[k].1 + tk := wrap_fit (by omega) (by omega)
      have w3 : IntKind.i64.wrap (m - tk) = m - tk := wrap_fit (by omega) (by omega)
      rw [← htk] at hd
      have htk' : (if l[k].2 - l[k].1 < m then l[k].2 - l[k].1 else m) = tk := by split <;> omega
      have hap := hO1.append1 (P := Try.prog) (t := 35) (c := encS (l[k].1, l[k].1 + tk)) el35 sz43 by43 ze43 rfl (by omega) (by rw [List.length_map]; unfold maxLen; omega) (by rw [List.length_map]; omega)
      have hbs : ∀ hp nx, buildSliceA Try.prog hp nx 35 1 [(0, .agg (encS (l[k].1, l[k].1 + tk)))] = some (.own nx 0 1, upd hp nx (some ⟨43, 2, true, [encS (l[k].1, l[k].1 + tk)]⟩), nx + 1) := fun hp nx => by
        simp [buildSliceA, setElems, freezeParts]
      simp only [encS] at hap hbs
      simp [h1, h9, h10, h11, hlt, hz', w1, htk', w2, w3, hw, buildA, fillA, hbs, hap]
      refine ⟨hlt, d ++ [(l[k].1, l[k].1 + tk)], ?_, by rw [List.append_assoc]; exact hd, ht0.2.1, by omega, by simp; omega⟩
      rw [List.map_append, List.map_singleton]
      exact .inr ⟨nx + 1 + 1, by omega, by simp, by simp⟩
  · obtain rfl : k = l.length := by omega
    rw [List.drop_length, firstL, List.append_nil] at hd
    rw [hd] at hO
    have := hO.freeze nx
    simp [h1, h9, h10, h11, Try.f58]
    exact this
theorem firstL_zero (l : List Sp) : firstL l 0 = [] := by cases l <;> simp [firstL]
set_option maxRecDepth 8000 in
theorem rfirst_eval (l : List Sp) (n : Int) (h : spFault l = 0) (hn : 0 ≤ n ∧ n ≤ 100000) : ∃ r0, evalPure C0 Try.f59 [.sl 2 (l.map encS), int n] = some r0 ∧ Stands r0 (.sl 2 ((firstL l n).map encS)) := by
  obtain ⟨hc, hb, hp0, hl⟩ := spFault_right h
  have hfin : ∀ {code}, Try.f59.body = some code → EvC C0 code ⟨startσ [.sl 2 (l.map encS), int n], fun _ => none, 0⟩ (retK C0.P Try.f59 (pureN (.sl 2 ((firstL l n).map encS)))) → ∃ r0, evalPure C0 Try.f59 [.sl 2 (l.map encS), int n] = some r0 ∧ Stands r0 (.sl 2 ((firstL l n).map encS)) := by
    intro code hb h
    obtain ⟨r0, h1, h2⟩ := evalPureN_of hb h
    exact ⟨r0, h1, fun w S u hr => up_rep hr h2⟩
  refine hfin rfl ?_
  simp
  refine EvC_for (fun k σ hp nx => σ 9 = .sl 2 (l.map encS) ∧ σ 10 = int l.length ∧ σ 11 = int k ∧ ∃ (m : Int) (d : List Sp), σ 1 = int m ∧ OwnS hp nx 43 2 (σ 5) (d.map encS) ∧ d ++ firstL (l.drop k) m = firstL l n ∧ 0 ≤ m ∧ m ≤ 100000 ∧ d.length ≤ k) l.length
    ⟨by simp, by simp, by simp, n, [], by simp, .inl (by simp), by simp, hn.1, hn.2, by simp⟩ ?_
  rintro k σ hp nx hk ⟨h9, h10, h11, m, d, h1, hO, hd, hm0, hm1, hdl⟩
  by_cases hlt : k < l.length
  · have hw : IntKind.i64.wrap ((k : Int) + 1) = (k : Int) + 1 := wrap_fit (by omega) (by omega)
    have hmm := List.getElem_mem hlt
    have b1 := hb _ hmm
    have b2 := hp0 _ hmm
    have b3 := canon_pos hc _ hmm
    rw [firstL_drop hlt] at hd
    have hO1 := hO.more (some ⟨43, 2, false, [encS l[k]]⟩)
    have w1 : IntKind.i64.wrap (l[k].2 - l[k].1) = l[k].2 - l[k].1 := wrap_fit (by omega) (by omega)
    by_cases hz : m = 0
    · subst hz
      rw [if_pos rfl, List.append_nil] at hd
      have htk' : (if l[k].2 - l[k].1 < 0 then l[k].2 - l[k].1 else 0) = 0 := by split <;> omega
      have w0 : IntKind.i64.wrap 0 = 0 := wrap_fit (by omega) (by omega)
      simp [h1, h9, h10, h11, hlt, w1, htk', w0, hw]
      exact ⟨hlt, d, hO1, by rw [firstL_zero, List.append_nil]; exact hd, by omega⟩
    · rw [if_neg hz] at hd
      obtain ⟨tk, htk⟩ : ∃ tk, tk = min m (l[k].2 - l[k].1) := ⟨_, rfl⟩
      have htp : 0 < tk := by omega
      have ht0 : 0 ≤ tk ∧ tk ≤ m ∧ tk ≤ 100000 := by omega
      have w2 : IntKind.i64.wrap (l[k].1 + tk) = l[k].1 + tk := wrap_fit (by omega) (by omega)
      have w3 : IntKind.i64.wrap (m - tk) = m - tk := wrap_fit (by omega) (by omega)
      rw [← htk] at hd
      have htk' : (if l[k].2 - l[k].1 < m then l[k].2 - l[k].1 else m) = tk := by split <;> omega
      have hap := hO1.append1 (P := Try.prog) (t := 35) (c := encS (l[k].1, l[k].1 + tk)) el35 sz43 by43 ze43 rfl (by omega) (by rw [List.length_map]; unfold maxLen; omega) (by rw [List.length_map]; omega)
      have hbs : ∀ hp nx, buildSliceA Try.prog hp nx 35 1 [(0, .agg (encS (l[k].1, l[k].1 + tk)))] = some (.own nx 0 1, upd hp nx (some ⟨43, 2, true, [encS (l[k].1, l[k].1 + tk)]⟩), nx + 1) := fun hp nx => by
        simp [buildSliceA, setElems, freezeParts]
      simp only [encS] at hap hbs
      simp [h1, h9, h10, h11, hlt, htp, w1, htk', w2, w3, hw, buildA, fillA, hbs, hap]
      refine ⟨hlt, d ++ [(l[k].1, l[k].1 + tk)], ?_, by rw [List.append_assoc]; exact hd, ht0.2.1, by omega, by simp; omega⟩
      rw [List.map_append, List.map_singleton]
      exact .inr ⟨nx + 1 + 1, by omega, by simp, by simp⟩
  · obtain rfl : k = l.length := by omega
    rw [List.drop_length, firstL, List.append_nil] at hd
    rw [hd] at hO
    have := hO.freeze nx
    simp [h1, h9, h10, h11, Try.f59]
    exact this
end Go.Proofs.Ytphmgjcjcdodhaa
namespace Go.Proofs.Ytphmgjcjcdodhaa
open Go.RowKit Go.AM Go.SpanLaw

/-- Spans and a number. -/
noncomputable def FPN (out : List Sp → Int → PV) (pre : List Sp → Int → Prop) : List PV → Option PV := specOf (α := List Sp × Int) (fun a => [.sl 2 (a.1.map encS), int a.2]) (fun a => pre a.1 a.2) (fun a => out a.1 a.2)
theorem FPN_call (out : List Sp → Int → PV) (pre : List Sp → Int → Prop) (l : List Sp) (n : Int) (hp : Hp) (nx : Nat) (h : pre l n) : hPure false [] (FPN out pre) [.sl 2 (l.map encS), int n] hp nx = some (out l n, hp, nx) :=
  hPure_v rfl (specOf_eq (enc := fun a : List Sp × Int => [PV.sl 2 (a.1.map encS), int a.2]) (a := (l, n)) (fun a b e => by
    obtain ⟨a1, a2⟩ := a; obtain ⟨b1, b2⟩ := b
    simp only [List.cons.injEq, and_true] at e
    obtain ⟨e1, e2⟩ := e
    injection e2 with e2
    injection e2 with _ e2
    rw [spans_inj e1, e2]) h) (.inr rfl)
theorem first_sound : SpecSound Try.prog 58 (hPure false [] (FPN (fun l n => .sl 2 ((firstL l n).map encS)) fun l n => spFault l = 0 ∧ 0 ≤ n ∧ n ≤ 100000)) :=
  pureG (fn := Try.f58) good0 ⟨_, Try.func58, by kernel_rfl, rfl, by kernel_rfl⟩ false [] _ fun args r h w S vs hz => by
    obtain ⟨⟨l, n⟩, rfl, hx, rfl⟩ := specOf_inv h
    obtain ⟨r0, h1, h2⟩ := first_eval l n hx.1 hx.2
    exact ⟨_, r0, hz, Nat.le_trans (Nat.le_refl 2) (by decide), h1, h2⟩
theorem rfirst_sound : SpecSound Try.prog 59 (hPure false [] (FPN (fun l n => .sl 2 ((firstL l n).map encS)) fun l n => spFault l = 0 ∧ 0 ≤ n ∧ n ≤ 100000)) :=
  pureG (fn := Try.f59) good0 ⟨_, Try.func59, by kernel_rfl, rfl, by kernel_rfl⟩ false [] _ fun args r h w S vs hz => by
    obtain ⟨⟨l, n⟩, rfl, hx, rfl⟩ := specOf_inv h
    obtain ⟨r0, h1, h2⟩ := rfirst_eval l n hx.1 hx.2
    exact ⟨_, r0, hz, Nat.le_trans (Nat.le_refl 2) (by decide), h1, h2⟩
/-- First. -/
def firstR (l : List Sp) (n : Int) : List Sp × Int := if spFault l = 0 then (if 0 ≤ n ∧ n ≤ sizeL l then (firstL l n, 0) else ([], 1)) else ([], spFault l)
def spTup (r : List Sp × Int) : PV := .tup [.sl 2 (r.1.map encS), int r.2]
theorem stands_nilS (k : Int) : Stands (.tup [.nil, int k]) (spTup ([], k)) :=
  StandsL.tup (.cons (.nilOr (.inl ⟨rfl, rfl⟩)) (.cons (.refl _) .nil))
theorem size_le {l : List Sp} (h : spFault l = 0) : sizeL l ≤ 100000 := by
  obtain ⟨hc, hb, hp0, _⟩ := spFault_right h
  cases l with
  | nil => simp [sizeL]
  | cons s l =>
    have g := size_bound hc.2.2 (hb s (by simp)) (fun x hx => hb x (by simp [hx]))
    have := hp0 s (by simp)
    simp only [sizeL]
    omega
noncomputable abbrev Cft : Ctx := mkCtx Try.prog [(20, hPure false [] (FP (fun l => int (spFault l)) fun _ => True)), (51, hPure false [] (FP (fun l => int (sizeL l)) fun l => spFault l = 0)), (55, hPure false [] (F3 inB)), (58, hPure false [] (FPN (fun l n => .sl 2 ((firstL l n).map encS)) fun l n => spFault l = 0 ∧ 0 ≤ n ∧ n ≤ 100000))]
noncomputable abbrev Crf : Ctx := mkCtx Try.prog [(21, hPure false [] (FP (fun l => int (spFault l)) fun _ => True)), (57, hPure false [] (FP (fun l => int (sizeL l)) fun l => spFault l = 0)), (59, hPure false [] (FPN (fun l n => .sl 2 ((firstL l n).map encS)) fun l n => spFault l = 0 ∧ 0 ≤ n ∧ n ≤ 100000))]
@[simp] theorem quietrf_1 : QuietIn Crf 57 := quietIn_of (by rfl) (hPure_quiet _ _)
set_option maxRecDepth 8000 in
theorem First_eval (l : List Sp) (n : Int) : ∃ r0, evalPure Cft Try.f24 [.sl 2 (l.map encS), int n] = some r0 ∧ Stands r0 (spTup (firstR l n)) := by
  have c1 := fun hp nx => FP_call (fun l => int (spFault l)) (fun _ => True) l hp nx trivial
  refine evalPureU_of rfl ?_
  unfold firstR
  by_cases hf : spFault l = 0
  · have c2 := fun hp nx => FP_call (fun l => int (sizeL l)) (fun l => spFault l = 0) l hp nx hf
    have hs := size_le hf
    by_cases hn : 0 ≤ n ∧ n ≤ sizeL l
    · have c3 := fun hp nx => FPN_call (fun l n => .sl 2 ((firstL l n).map encS)) (fun l n => spFault l = 0 ∧ 0 ≤ n ∧ n ≤ 100000) l n hp nx ⟨hf, hn.1, by omega⟩
      have hi : inB n 0 (sizeL l) = true := by simp [inB, hn.1, hn.2]
      rw [if_pos hf, if_pos hn]
      simp [c1, c2, c3, hf, hi, Try.f24]
      exact ⟨spTup (firstL l n, 0), by simp [spTup], .refl _⟩
    · have hi : inB n 0 (sizeL l) = false := by
        simp only [inB, Bool.and_eq_false_iff, decide_eq_false_iff_not]
        omega
      rw [if_pos hf, if_neg hn]
      simp [c1, c2, hf, hi, Try.f24]
      exact ⟨_, by simp, stands_nilS 1⟩
  · have hf' : (spFault l != 0) = true := by simpa using hf
    rw [if_neg hf]
    simp [c1, hf', Try.f24]
    exact ⟨_, by simp, stands_nilS (spFault l)⟩
set_option maxRecDepth 8000 in
theorem rFirst_eval (l : List Sp) (n : Int) : ∃ r0, evalPure Crf Try.f25 [.sl 2 (l.map encS), int n] = some r0 ∧ Stands r0 (spTup (firstR l n)) := by
  have c1 := fun hp nx => FP_call (fun l => int (spFault l)) (fun _ => True) l hp nx trivial
  refine evalPureU_of rfl ?_
  unfold firstR
  by_cases hf : spFault l = 0
  · have c2 := fun hp nx => FP_call (fun l => int (sizeL l)) (fun l => spFault l = 0) l hp nx hf
    have hs := size_le hf
    by_cases hn : 0 ≤ n ∧ n ≤ sizeL l
    · have c3 := fun hp nx => FPN_call (fun l n => .sl 2 ((firstL l n).map encS)) (fun l n => spFault l = 0 ∧ 0 ≤ n ∧ n ≤ 100000) l n hp nx ⟨hf, hn.1, by omega⟩
      have hi : (decide (n < 0) || decide (sizeL l < n)) = false := by
        simp only [Bool.or_eq_false_iff, decide_eq_false_iff_not]
        omega
      rw [if_pos hf, if_pos hn]
      simp [c1, c2, c3, hf, hi, Try.f25]
      exact ⟨spTup (firstL l n, 0), by simp [spTup], .refl _⟩
    · have hi : (decide (n < 0) || decide (sizeL l < n)) = true := by
        simp only [Bool.or_eq_true, decide_eq_true_eq]
        omega
      rw [if_pos hf, if_neg hn]
      simp [c1, c2, hf, hi, Try.f25]
      exact ⟨_, by simp, stands_nilS 1⟩
  · have hf' : (spFault l != 0) = true := by simpa using hf
    rw [if_neg hf]
    simp [c1, hf', Try.f25]
    exact ⟨_, by simp, stands_nilS (spFault l)⟩
theorem First_sound : SpecSound Try.prog 24 (hPure false [] (FPN (fun l n => spTup (firstR l n)) fun _ _ => True)) :=
  pureG (fn := Try.f24) (good_of (q := []) mixed ⟨checkSpans_sound, by simp, size_sound, by simp, withinL_sound, by simp, first_sound, by simp, trivial⟩ : AM.Good Cft _) ⟨_, Try.func24, by kernel_rfl, rfl, by kernel_rfl⟩ false [] _ fun args r h w S vs hz => by
    obtain ⟨⟨l, n⟩, rfl, _, rfl⟩ := specOf_inv h
    obtain ⟨r0, h1, h2⟩ := First_eval l n
    exact ⟨_, r0, hz, Nat.le_trans (Nat.le_refl 2) (by decide), h1, h2⟩
theorem rFirst_sound : SpecSound Try.prog 25 (hPure false [] (FPN (fun l n => spTup (firstR l n)) fun _ _ => True)) :=
  pureG (fn := Try.f25) (good_of (q := [57]) mixed ⟨rcheckSpans_sound, by simp, rsize_sound, fun _ => hPure_quiet _ _, rfirst_sound, by simp, trivial⟩ : AM.Good Crf _) ⟨_, Try.func25, by kernel_rfl, rfl, by kernel_rfl⟩ false [] _ fun args r h w S vs hz => by
    obtain ⟨⟨l, n⟩, rfl, _, rfl⟩ := specOf_inv h
    obtain ⟨r0, h1, h2⟩ := rFirst_eval l n
    exact ⟨_, r0, hz, Nat.le_trans (Nat.le_refl 2) (by decide), h1, h2⟩
end Go.Proofs.Ytphmgjcjcdodhaa
namespace Go.Proofs.Ytphmgjcjcdodhaa
open Go.RowKit Go.AM Go.SpanLaw

/-- has. -/
def hasB (l : List Sp) (k : Int) : Bool := match l with
  | [] => false
  | s :: l => (decide (s.1 ≤ k) && decide (k < s.2)) || hasB l k
theorem hasB_mem : ∀ (l : List Sp) (k : Int), hasB l k = true ↔ mem l k
  | [], k => by simp [hasB, mem]
  | s :: l, k => by rw [hasB, Bool.or_eq_true, mem_cons, hasB_mem l k]; simp
theorem hasB_drop {l : List Sp} {k : Nat} (h : k < l.length) (x : Int) : hasB (l.drop k) x = ((decide (l[k].1 ≤ x) && decide (x < l[k].2)) || hasB (l.drop (k + 1)) x) := by
  rw [List.drop_eq_getElem_cons h, hasB]
theorem nextF_drop {l : List Sp} {k : Nat} (h : k < l.length) (a o : Int) : nextF a o (l.drop k) = nextF a (if a < l[k].2 then min (if a < l[k].1 then min o l[k].1 else o) l[k].2 else (if a < l[k].1 then min o l[k].1 else o)) (l.drop (k + 1)) := by
  rw [List.drop_eq_getElem_cons h, nextF]
set_option maxRecDepth 8000 in
theorem has_eval (l : List Sp) (x : Int) (h : l.length ≤ 100) : evalPure C0 Try.f93 [.sl 2 (l.map encS), int x] = some (boo (hasB l x)) := by
  refine evalPure_of rfl ?_
  simp
  refine EvC_for (fun k σ hp nx => σ 1 = int x ∧ σ 7 = .sl 2 (l.map encS) ∧ σ 8 = int l.length ∧ σ 9 = int k ∧ hasB l x = hasB (l.drop k) x) l.length
    ⟨by simp, by simp, by simp, by simp, by simp⟩ ?_
  rintro k σ hp nx hk ⟨h1, h7, h8, h9, hf⟩
  by_cases hlt : k < l.length
  · have hw : IntKind.i64.wrap ((k : Int) + 1) = (k : Int) + 1 := wrap_fit (by omega) (by omega)
    rw [hasB_drop hlt] at hf
    cases d1 : (decide (l[k].1 ≤ x) && decide (x < l[k].2))
    · rw [d1, Bool.false_or] at hf
      simp [h1, h7, h8, h9, hlt, d1, hw]
      exact ⟨hlt, hf⟩
    · rw [d1, Bool.true_or] at hf
      simp [h1, h7, h8, h9, hlt, d1, hf, Try.f93]
  · obtain rfl : k = l.length := by omega
    rw [List.drop_length, hasB] at hf
    simp [h1, h7, h8, h9, hf, Try.f93]
set_option maxRecDepth 8000 in
theorem next_eval (l : List Sp) (x : Int) (h : l.length ≤ 100) : evalPure C0 Try.f92 [.sl 2 (l.map encS), int x] = some (int (nextF x 100000 l)) := by
  refine evalPure_of rfl ?_
  simp
  refine EvC_for (fun k σ hp nx => σ 1 = int x ∧ σ 8 = .sl 2 (l.map encS) ∧ σ 9 = int l.length ∧ σ 10 = int k ∧ ∃ o : Int, σ 5 = int o ∧ nextF x 100000 l = nextF x o (l.drop k)) l.length
    ⟨by simp, by simp, by simp, by simp, 100000, by simp, by simp⟩ ?_
  rintro k σ hp nx hk ⟨h1, h8, h9, h10, o, h5, hf⟩
  by_cases hlt : k < l.length
  · have hw : IntKind.i64.wrap ((k : Int) + 1) = (k : Int) + 1 := wrap_fit (by omega) (by omega)
    rw [nextF_drop hlt] at hf
    have m1 : ∀ a b : Int, (if b < a then b else a) = min a b := fun a b => by split <;> omega
    by_cases d1 : x < l[k].1 <;> by_cases d2 : x < l[k].2 <;> simp only [d1, d2, if_true, if_false] at hf <;> simp [h1, h5, h8, h9, h10, hlt, d1, d2, m1, hw] <;> first | exact ⟨hlt, hf⟩ | exact ⟨hlt, by rw [hf]; congr 1; omega⟩
  · obtain rfl : k = l.length := by omega
    rw [List.drop_length, nextF] at hf
    simp [h1, h5, h8, h9, h10, hf, Try.f92]
theorem has_sound : SpecSound Try.prog 93 (hPure false [] (FPN (fun l x => boo (hasB l x)) fun l _ => l.length ≤ 100)) :=
  pureS (fn := Try.f93) good0 ⟨_, Try.func93, by kernel_rfl, rfl, by kernel_rfl⟩ false [] _ fun args r h => by
    obtain ⟨⟨l, x⟩, rfl, hl, rfl⟩ := specOf_inv h
    exact ⟨Nat.le_trans (Nat.le_refl 2) (by decide), _, has_eval l x hl, up_of _⟩
theorem next_sound : SpecSound Try.prog 92 (hPure false [] (FPN (fun l x => int (nextF x 100000 l)) fun l _ => l.length ≤ 100)) :=
  pureS (fn := Try.f92) good0 ⟨_, Try.func92, by kernel_rfl, rfl, by kernel_rfl⟩ false [] _ fun args r h => by
    obtain ⟨⟨l, x⟩, rfl, hl, rfl⟩ := specOf_inv h
    exact ⟨Nat.le_trans (Nat.le_refl 2) (by decide), _, next_eval l x hl, up_of _⟩
end Go.Proofs.Ytphmgjcjcdodhaa
namespace Go.Proofs.Ytphmgjcjcdodhaa
open Go.RowKit Go.AM Go.SpanLaw

/-- Two lists. -/
noncomputable def FPP (out : List Sp → List Sp → PV) (pre : List Sp → List Sp → Prop) : List PV → Option PV := specOf (α := List Sp × List Sp) (fun a => [.sl 2 (a.1.map encS), .sl 2 (a.2.map encS)]) (fun a => pre a.1 a.2) (fun a => out a.1 a.2)
theorem FPP_call (out : List Sp → List Sp → PV) (pre : List Sp → List Sp → Prop) (a b : List Sp) (hp : Hp) (nx : Nat) (h : pre a b) : hPure false [] (FPP out pre) [.sl 2 (a.map encS), .sl 2 (b.map encS)] hp nx = some (out a b, hp, nx) :=
  hPure_v rfl (specOf_eq (enc := fun a : List Sp × List Sp => [PV.sl 2 (a.1.map encS), .sl 2 (a.2.map encS)]) (a := (a, b)) (fun a b e => by
    obtain ⟨a1, a2⟩ := a; obtain ⟨b1, b2⟩ := b
    simp only [List.cons.injEq, and_true] at e
    rw [spans_inj e.1, spans_inj e.2]) h) (.inr rfl)
def bothF (a b : List Sp) : Int := if spFault a = 0 then spFault b else spFault a
noncomputable abbrev Ccb : Ctx := mkCtx Try.prog [(20, hPure false [] (FP (fun l => int (spFault l)) fun _ => True))]
noncomputable abbrev Crb : Ctx := mkCtx Try.prog [(21, hPure false [] (FP (fun l => int (spFault l)) fun _ => True))]
set_option maxRecDepth 8000 in
theorem checkBoth_eval (a b : List Sp) : evalPure Ccb Try.f46 [.sl 2 (a.map encS), .sl 2 (b.map encS)] = some (int (bothF a b)) := by
  have c1 := fun l hp nx => FP_call (fun l => int (spFault l)) (fun _ => True) l hp nx trivial
  refine evalPure_of rfl ?_
  unfold bothF
  by_cases hf : spFault a = 0
  · simp [c1, hf, Try.f46]
  · have hf' : (spFault a != 0) = true := by simpa using hf
    simp [c1, hf, hf', Try.f46]
set_option maxRecDepth 8000 in
theorem two_eval (a b : List Sp) : evalPure Crb Try.f52 [.sl 2 (a.map encS), .sl 2 (b.map encS)] = some (int (bothF a b)) := by
  have c1 := fun l hp nx => FP_call (fun l => int (spFault l)) (fun _ => True) l hp nx trivial
  refine evalPure_of rfl ?_
  unfold bothF
  by_cases hf : spFault a = 0
  · simp [c1, hf, Try.f52]
  · have hf' : (spFault a != 0) = true := by simpa using hf
    simp [c1, hf, hf', Try.f52]
theorem checkBoth_sound : SpecSound Try.prog 46 (hPure false [] (FPP (fun a b => int (bothF a b)) fun _ _ => True)) :=
  pureS (fn := Try.f46) (good_of (q := []) mixed ⟨checkSpans_sound, by simp, trivial⟩ : AM.Good Ccb _) ⟨_, Try.func46, by kernel_rfl, rfl, by kernel_rfl⟩ false [] _ fun args r h => by
    obtain ⟨⟨a, b⟩, rfl, _, rfl⟩ := specOf_inv h
    exact ⟨Nat.le_trans (Nat.le_refl 2) (by decide), _, checkBoth_eval a b, up_of _⟩
theorem two_sound : SpecSound Try.prog 52 (hPure false [] (FPP (fun a b => int (bothF a b)) fun _ _ => True)) :=
  pureS (fn := Try.f52) (good_of (q := []) mixed ⟨rcheckSpans_sound, by simp, trivial⟩ : AM.Good Crb _) ⟨_, Try.func52, by kernel_rfl, rfl, by kernel_rfl⟩ false [] _ fun args r h => by
    obtain ⟨⟨a, b⟩, rfl, _, rfl⟩ := specOf_inv h
    exact ⟨Nat.le_trans (Nat.le_refl 2) (by decide), _, two_eval a b, up_of _⟩
/-- limited, few. -/
def limR (l : List Sp) : List Sp × Int := if (100 : Int) < l.length then ([], 2) else (l, 0)
set_option maxRecDepth 8000 in
theorem limited_eval (l : List Sp) : ∃ r0, evalPure C0 Try.f47 [.sl 2 (l.map encS)] = some r0 ∧ Stands r0 (spTup (limR l)) := by
  refine evalPureU_of rfl ?_
  unfold limR
  by_cases hf : (100 : Int) < l.length
  · rw [if_pos hf]
    simp [hf, Try.f47]
    exact ⟨_, by simp, stands_nilS 2⟩
  · rw [if_neg hf]
    simp [hf, Try.f47]
    exact ⟨spTup (l, 0), by simp [spTup], .refl _⟩
set_option maxRecDepth 8000 in
theorem few_eval (l : List Sp) : ∃ r0, evalPure C0 Try.f53 [.sl 2 (l.map encS)] = some r0 ∧ Stands r0 (spTup (limR l)) := by
  refine evalPureU_of rfl ?_
  unfold limR
  by_cases hf : (100 : Int) < l.length
  · rw [if_pos hf]
    simp [hf, Try.f53]
    exact ⟨_, by simp, stands_nilS 2⟩
  · rw [if_neg hf]
    simp [hf, Try.f53]
    exact ⟨spTup (l, 0), by simp [spTup], .refl _⟩
theorem limited_sound : SpecSound Try.prog 47 (hPure false [] (FP (fun l => spTup (limR l)) fun _ => True)) :=
  pureG (fn := Try.f47) good0 ⟨_, Try.func47, by kernel_rfl, rfl, by kernel_rfl⟩ false [] _ fun args r h w S vs hz => by
    obtain ⟨l, rfl, _, rfl⟩ := specOf_inv h
    obtain ⟨r0, h1, h2⟩ := limited_eval l
    exact ⟨_, r0, hz, Nat.le_trans (Nat.le_refl 1) (by decide), h1, h2⟩
theorem few_sound : SpecSound Try.prog 53 (hPure false [] (FP (fun l => spTup (limR l)) fun _ => True)) :=
  pureG (fn := Try.f53) good0 ⟨_, Try.func53, by kernel_rfl, rfl, by kernel_rfl⟩ false [] _ fun args r h w S vs hz => by
    obtain ⟨l, rfl, _, rfl⟩ := specOf_inv h
    obtain ⟨r0, h1, h2⟩ := few_eval l
    exact ⟨_, r0, hz, Nat.le_trans (Nat.le_refl 1) (by decide), h1, h2⟩
end Go.Proofs.Ytphmgjcjcdodhaa
