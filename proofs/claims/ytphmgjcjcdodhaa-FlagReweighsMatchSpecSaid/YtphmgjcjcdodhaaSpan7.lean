/-
  Spans: minus of the program.
-/
import Derived.Test.YtphmgjcjcdodhaaSpanM
namespace Go.Proofs.Ytphmgjcjcdodhaa
open Go.RowKit Go.AM Go.SpanLaw
theorem mins_drop {a : List Sp} {j : Nat} (h : j < a.length) (b : List Sp) : mins (a.drop j) b = piece a[j].1 a[j].2 (skip a[j].1 b) ++ mins (a.drop (j + 1)) (skip a[j].1 b) := by
  rw [List.drop_eq_getElem_cons h, mins]
theorem skip_drop {b : List Sp} {k : Nat} (h : k < b.length) (x : Int) : skip x (b.drop k) = if b[k].2 ≤ x then skip x (b.drop (k + 1)) else b.drop k := by
  rw [List.drop_eq_getElem_cons h, skip]
theorem piece_drop {b : List Sp} {k : Nat} (h : k < b.length) (f t : Int) : piece f t (b.drop k) = if b[k].1 < t then (if f < b[k].1 then (f, b[k].1) :: piece (max f b[k].2) t (b.drop (k + 1)) else piece (max f b[k].2) t (b.drop (k + 1))) else if f < t then [(f, t)] else [] := by
  rw [List.drop_eq_getElem_cons h, piece]
theorem ownS_ne {hp : Hp} {nx e s id : Nat} {v : PV} {xs : List (List PV)} (h : OwnS hp nx e s v xs) (hi : nx ≤ id) (m : Nat) : v ≠ .own id 0 m := by
  rcases h with ⟨rfl, rfl⟩ | ⟨i, h1, rfl, h2⟩
  · simp
  · intro h; injection h with h; omega
set_option maxRecDepth 8000 in
theorem minus_eval (a b : List Sp) (ha : spFault a = 0) (hb : spFault b = 0) : ∃ r0, evalPure C0 Try.f50 [.sl 2 (a.map encS), .sl 2 (b.map encS)] = some r0 ∧ Stands r0 (.sl 2 ((mins a b).map encS)) := by
  obtain ⟨hc, hbl, hp0, hl⟩ := spFault_right ha
  obtain ⟨hc', hbl', hp0', hl'⟩ := spFault_right hb
  have hfin : ∀ {code}, Try.f50.body = some code → EvC C0 code ⟨startσ [.sl 2 (a.map encS), .sl 2 (b.map encS)], fun _ => none, 0⟩ (retK C0.P Try.f50 (pureN (.sl 2 ((mins a b).map encS)))) → ∃ r0, evalPure C0 Try.f50 [.sl 2 (a.map encS), .sl 2 (b.map encS)] = some r0 ∧ Stands r0 (.sl 2 ((mins a b).map encS)) := by
    intro code hb h
    obtain ⟨r0, h1, h2⟩ := evalPureN_of hb h
    exact ⟨r0, h1, fun w S u hr => up_rep hr h2⟩
  refine hfin rfl ?_
  simp
  refine EvC_for (fun j σ hp nx => σ 1 = .sl 2 (b.map encS) ∧ σ 11 = .sl 2 (a.map encS) ∧ σ 12 = int a.length ∧ σ 13 = int j ∧ ∃ (k : Nat) (d : List Sp), σ 6 = int k ∧ k ≤ b.length ∧ OwnS hp nx 43 2 (σ 5) (d.map encS) ∧ d ++ mins (a.drop j) (b.drop k) = mins a b ∧ d.length ≤ 101 * j) a.length
    ⟨by simp, by simp, by simp, by simp, 0, [], by simp, by simp, .inl (by simp), by simp, by simp⟩ ?_
  rintro j σ hp nx hj ⟨h1, h11, h12, h13, k0, d, h6, hk0, hO, hd, hdl⟩
  by_cases hlt : j < a.length
  · have hw : IntKind.i64.wrap ((j : Int) + 1) = (j : Int) + 1 := wrap_fit (by omega) (by omega)
    have hmm := List.getElem_mem hlt
    have b1 := hbl _ hmm
    have b2 := hp0 _ hmm
    have b3 := canon_pos hc _ hmm
    rw [mins_drop hlt] at hd
    have hO1 := hO.more (some ⟨43, 2, false, [encS a[j]]⟩)
    simp [h1, h11, h12, h13, hlt]
    refine EvC_loop (fun st => st.σ 1 = .sl 2 (b.map encS) ∧ st.σ 11 = .sl 2 (a.map encS) ∧ st.σ 12 = int a.length ∧ st.σ 13 = int j ∧ st.σ 8 = .ref nx 0 0 ∧ st.σ 5 = σ 5 ∧ st.hp = upd hp nx (some ⟨43, 2, false, [encS a[j]]⟩) ∧ st.nx = nx + 1 ∧ ∃ k : Nat, st.σ 6 = int k ∧ k ≤ b.length ∧ skip a[j].1 (b.drop k) = skip a[j].1 (b.drop k0))
      (fun st => b.length - (numAt (st.σ 6)).toNat) ⟨by simp [h1], by simp [h11], by simp [h12], by simp [h13], by simp, by simp, by simp, by simp, k0, by simp [h6], hk0, rfl⟩ ?_
    rintro ⟨σ1, hp1, nx1⟩ ⟨g1, g11, g12, g13, g8, g5, ghp, gnx, k, g6, hk, hs⟩
    simp only at g1 g11 g12 g13 g8 g5 ghp gnx g6
    subst ghp; subst gnx
    by_cases hgo : ∃ hkl : k < b.length, b[k].2 ≤ a[j].1
    · obtain ⟨hkl, hto⟩ := hgo
      have hwk : IntKind.i64.wrap ((k : Int) + 1) = (k : Int) + 1 := wrap_fit (by omega) (by omega)
      rw [skip_drop hkl, if_pos hto] at hs
      simp [g1, g5, g6, g8, g11, g12, g13, hkl, hto, hwk]
      exact ⟨⟨k + 1, by simp, hkl, hs⟩, by omega⟩
    have hsk : b.drop k = skip a[j].1 (b.drop k0) := by
      rw [← hs]
      by_cases hkl : k < b.length
      · rw [skip_drop hkl, if_neg fun h => hgo ⟨hkl, h⟩]
      · rw [List.drop_eq_nil_of_le (by omega)]; rfl
    rw [← hsk] at hd
    by_cases hkl : k < b.length
    · have hto : ¬ b[k].2 ≤ a[j].1 := fun h => hgo ⟨hkl, h⟩
      simp [g1, g5, g6, g8, g11, g12, g13, hkl, hto]
      refine EvC_loop (fun st => st.σ 1 = .sl 2 (b.map encS) ∧ st.σ 11 = .sl 2 (a.map encS) ∧ st.σ 12 = int a.length ∧ st.σ 13 = int j ∧ st.σ 8 = .ref nx 0 0 ∧ st.σ 6 = int k ∧ st.hp nx = some ⟨43, 2, false, [encS a[j]]⟩ ∧ nx < st.nx ∧ ∃ (i : Nat) (f : Int) (d' : List Sp), st.σ 10 = int i ∧ st.σ 9 = int f ∧ k ≤ i ∧ i ≤ b.length ∧ OwnS st.hp st.nx 43 2 (st.σ 5) (d'.map encS) ∧ (∀ m, st.σ 5 ≠ .own nx 0 m) ∧ d' ++ piece f a[j].2 (b.drop i) = d ++ piece a[j].1 a[j].2 (b.drop k) ∧ d'.length ≤ d.length + (i - k) ∧ 0 ≤ f ∧ f ≤ 100000)
        (fun st => b.length - (numAt (st.σ 10)).toNat) ⟨by simp [g1], by simp [g11], by simp [g12], by simp [g13], by simp [g8], by simp [g6], by simp, by simp, k, a[j].1, d, by simp [g6], by simp, by omega, by omega, by simpa [g5] using hO1, by simp only [upd_miss _ _ _ _ (by decide : (5 : Nat) ≠ 10), ne_eq]; simp [g5]; exact fun m => ownS_ne hO (Nat.le_refl _) m, rfl, by omega, b2, by omega⟩ ?_
      rintro ⟨σ2, hp2, nx2⟩ ⟨q1, q11, q12, q13, q8, q6, qhp, qnx, i, f, d', q10, q9, hki, hil, hO2, hne, hp', hdl', hf0, hf1⟩
      simp only at q1 q11 q12 q13 q8 q6 qhp qnx q10 q9 hO2 hne
      by_cases hgo2 : ∃ hib : i < b.length, b[i].1 < a[j].2
      · obtain ⟨hib, hbt⟩ := hgo2
        have hwi : IntKind.i64.wrap ((i : Int) + 1) = (i : Int) + 1 := wrap_fit (by omega) (by omega)
        rw [piece_drop hib, if_pos hbt] at hp'
        have hbi := hbl' _ (List.getElem_mem hib)
        have hbp := hp0' _ (List.getElem_mem hib)
        obtain ⟨mx, hmx, hmx0, hmx1⟩ : ∃ mx, (if f < b[i].2 then b[i].2 else f) = mx ∧ 0 ≤ mx ∧ mx ≤ 100000 := ⟨_, rfl, by split <;> omega, by split <;> omega⟩
        have hmx2 : max f b[i].2 = mx := by rw [← hmx]; split <;> omega
        rw [hmx2] at hp'
        by_cases hfb : f < b[i].1
        · rw [if_pos hfb] at hp'
          have hap := hO2.append1 (P := Try.prog) (t := 35) (c := encS (f, b[i].1)) el35 sz43 by43 ze43 rfl (by omega) (by rw [List.length_map]; unfold maxLen; omega) (by rw [List.length_map]; omega)
          have hbs : ∀ hp nx, buildSliceA Try.prog hp nx 35 1 [(0, .agg (encS (f, b[i].1)))] = some (.own nx 0 1, upd hp nx (some ⟨43, 2, true, [encS (f, b[i].1)]⟩), nx + 1) := fun hp nx => by
            simp [buildSliceA, setElems, freezeParts]
          simp only [encS] at hap hbs
          simp [q1, q6, q8, q9, q10, q11, q12, q13, qhp, hib, hbt, hfb, hwi, hmx, buildA, fillA, hbs, hap]
          refine ⟨⟨?_, by omega, i + 1, by simp, by omega, hib, d' ++ [(f, b[i].1)], ?_, by omega, by rw [List.append_assoc]; exact hp', by simp; omega, hmx0, hmx1⟩, by omega⟩
          · rw [upd_miss _ _ _ _ (by omega), killV_other hO2 _ _ hne, upd_miss _ _ _ _ (by omega)]
            exact qhp
          · rw [List.map_append, List.map_singleton]
            exact .inr ⟨nx2 + 1, by omega, by simp, by simp⟩
        · rw [if_neg hfb] at hp'
          simp [q1, q6, q8, q9, q10, q11, q12, q13, qhp, hib, hbt, hfb, hwi, hmx]
          exact ⟨⟨qnx, i + 1, by simp, by omega, hib, d', hO2, hne, hp', by omega, hmx0, hmx1⟩, by omega⟩
      · have hpe : piece f a[j].2 (b.drop i) = if f < a[j].2 then [(f, a[j].2)] else [] := by
          by_cases hib : i < b.length
          · rw [piece_drop hib, if_neg fun h => hgo2 ⟨hib, h⟩]
          · rw [List.drop_eq_nil_of_le (by omega), piece]
        rw [hpe] at hp'
        have hcond : (∃ hib : i < b.length, ¬ b[i].1 < a[j].2) ∨ ¬ i < b.length := by
          by_cases hib : i < b.length
          · exact .inl ⟨hib, fun h => hgo2 ⟨hib, h⟩⟩
          · exact .inr hib
        by_cases hft : f < a[j].2
        · rw [if_pos hft] at hp'
          have hap := hO2.append1 (P := Try.prog) (t := 35) (c := encS (f, a[j].2)) el35 sz43 by43 ze43 rfl (by omega) (by rw [List.length_map]; unfold maxLen; omega) (by rw [List.length_map]; omega)
          have hbs : ∀ hp nx, buildSliceA Try.prog hp nx 35 1 [(0, .agg (encS (f, a[j].2)))] = some (.own nx 0 1, upd hp nx (some ⟨43, 2, true, [encS (f, a[j].2)]⟩), nx + 1) := fun hp nx => by
            simp [buildSliceA, setElems, freezeParts]
          simp only [encS] at hap hbs
          rcases hcond with ⟨hib, hbt⟩ | hib
          all_goals simp [q1, q6, q8, q9, q10, q11, q12, q13, qhp, hib, hft, hw, buildA, fillA, hbs, hap]
          all_goals try simp [hbt, q1, q6, q8, q9, q10, q11, q12, q13, qhp, hib, hft, hw, buildA, fillA, hbs, hap]
          all_goals refine ⟨hlt, k, rfl, hk, d' ++ [(f, a[j].2)], ?_, by rw [hp', List.append_assoc]; exact hd, by simp; omega⟩
          all_goals rw [List.map_append, List.map_singleton]
          all_goals exact .inr ⟨nx2 + 1, by omega, by simp, by simp⟩
        · rw [if_neg hft, List.append_nil] at hp'
          rcases hcond with ⟨hib, hbt⟩ | hib
          all_goals simp [q1, q6, q8, q9, q10, q11, q12, q13, qhp, hib, hft, hw]
          all_goals try simp [hbt, q1, q6, q8, q9, q10, q11, q12, q13, qhp, hib, hft, hw]
          all_goals exact ⟨hlt, k, rfl, hk, d', hO2, by rw [hp', List.append_assoc]; exact hd, by omega⟩
    · simp [g1, g5, g6, g8, g11, g12, g13, hkl]
      refine EvC_loop (fun st => st.σ 1 = .sl 2 (b.map encS) ∧ st.σ 11 = .sl 2 (a.map encS) ∧ st.σ 12 = int a.length ∧ st.σ 13 = int j ∧ st.σ 8 = .ref nx 0 0 ∧ st.σ 6 = int k ∧ st.hp nx = some ⟨43, 2, false, [encS a[j]]⟩ ∧ nx < st.nx ∧ ∃ (i : Nat) (f : Int) (d' : List Sp), st.σ 10 = int i ∧ st.σ 9 = int f ∧ k ≤ i ∧ i ≤ b.length ∧ OwnS st.hp st.nx 43 2 (st.σ 5) (d'.map encS) ∧ (∀ m, st.σ 5 ≠ .own nx 0 m) ∧ d' ++ piece f a[j].2 (b.drop i) = d ++ piece a[j].1 a[j].2 (b.drop k) ∧ d'.length ≤ d.length + (i - k) ∧ 0 ≤ f ∧ f ≤ 100000)
        (fun st => b.length - (numAt (st.σ 10)).toNat) ⟨by simp [g1], by simp [g11], by simp [g12], by simp [g13], by simp [g8], by simp [g6], by simp, by simp, k, a[j].1, d, by simp [g6], by simp, by omega, by omega, by simpa [g5] using hO1, by simp only [upd_miss _ _ _ _ (by decide : (5 : Nat) ≠ 10), ne_eq]; simp [g5]; exact fun m => ownS_ne hO (Nat.le_refl _) m, rfl, by omega, b2, by omega⟩ ?_
      rintro ⟨σ2, hp2, nx2⟩ ⟨q1, q11, q12, q13, q8, q6, qhp, qnx, i, f, d', q10, q9, hki, hil, hO2, hne, hp', hdl', hf0, hf1⟩
      simp only at q1 q11 q12 q13 q8 q6 qhp qnx q10 q9 hO2 hne
      by_cases hgo2 : ∃ hib : i < b.length, b[i].1 < a[j].2
      · obtain ⟨hib, hbt⟩ := hgo2
        have hwi : IntKind.i64.wrap ((i : Int) + 1) = (i : Int) + 1 := wrap_fit (by omega) (by omega)
        rw [piece_drop hib, if_pos hbt] at hp'
        have hbi := hbl' _ (List.getElem_mem hib)
        have hbp := hp0' _ (List.getElem_mem hib)
        obtain ⟨mx, hmx, hmx0, hmx1⟩ : ∃ mx, (if f < b[i].2 then b[i].2 else f) = mx ∧ 0 ≤ mx ∧ mx ≤ 100000 := ⟨_, rfl, by split <;> omega, by split <;> omega⟩
        have hmx2 : max f b[i].2 = mx := by rw [← hmx]; split <;> omega
        rw [hmx2] at hp'
        by_cases hfb : f < b[i].1
        · rw [if_pos hfb] at hp'
          have hap := hO2.append1 (P := Try.prog) (t := 35) (c := encS (f, b[i].1)) el35 sz43 by43 ze43 rfl (by omega) (by rw [List.length_map]; unfold maxLen; omega) (by rw [List.length_map]; omega)
          have hbs : ∀ hp nx, buildSliceA Try.prog hp nx 35 1 [(0, .agg (encS (f, b[i].1)))] = some (.own nx 0 1, upd hp nx (some ⟨43, 2, true, [encS (f, b[i].1)]⟩), nx + 1) := fun hp nx => by
            simp [buildSliceA, setElems, freezeParts]
          simp only [encS] at hap hbs
          simp [q1, q6, q8, q9, q10, q11, q12, q13, qhp, hib, hbt, hfb, hwi, hmx, buildA, fillA, hbs, hap]
          refine ⟨⟨?_, by omega, i + 1, by simp, by omega, hib, d' ++ [(f, b[i].1)], ?_, by omega, by rw [List.append_assoc]; exact hp', by simp; omega, hmx0, hmx1⟩, by omega⟩
          · rw [upd_miss _ _ _ _ (by omega), killV_other hO2 _ _ hne, upd_miss _ _ _ _ (by omega)]
            exact qhp
          · rw [List.map_append, List.map_singleton]
            exact .inr ⟨nx2 + 1, by omega, by simp, by simp⟩
        · rw [if_neg hfb] at hp'
          simp [q1, q6, q8, q9, q10, q11, q12, q13, qhp, hib, hbt, hfb, hwi, hmx]
          exact ⟨⟨qnx, i + 1, by simp, by omega, hib, d', hO2, hne, hp', by omega, hmx0, hmx1⟩, by omega⟩
      · have hpe : piece f a[j].2 (b.drop i) = if f < a[j].2 then [(f, a[j].2)] else [] := by
          by_cases hib : i < b.length
          · rw [piece_drop hib, if_neg fun h => hgo2 ⟨hib, h⟩]
          · rw [List.drop_eq_nil_of_le (by omega), piece]
        rw [hpe] at hp'
        have hcond : (∃ hib : i < b.length, ¬ b[i].1 < a[j].2) ∨ ¬ i < b.length := by
          by_cases hib : i < b.length
          · exact .inl ⟨hib, fun h => hgo2 ⟨hib, h⟩⟩
          · exact .inr hib
        by_cases hft : f < a[j].2
        · rw [if_pos hft] at hp'
          have hap := hO2.append1 (P := Try.prog) (t := 35) (c := encS (f, a[j].2)) el35 sz43 by43 ze43 rfl (by omega) (by rw [List.length_map]; unfold maxLen; omega) (by rw [List.length_map]; omega)
          have hbs : ∀ hp nx, buildSliceA Try.prog hp nx 35 1 [(0, .agg (encS (f, a[j].2)))] = some (.own nx 0 1, upd hp nx (some ⟨43, 2, true, [encS (f, a[j].2)]⟩), nx + 1) := fun hp nx => by
            simp [buildSliceA, setElems, freezeParts]
          simp only [encS] at hap hbs
          rcases hcond with ⟨hib, hbt⟩ | hib
          all_goals simp [q1, q6, q8, q9, q10, q11, q12, q13, qhp, hib, hft, hw, buildA, fillA, hbs, hap]
          all_goals try simp [hbt, q1, q6, q8, q9, q10, q11, q12, q13, qhp, hib, hft, hw, buildA, fillA, hbs, hap]
          all_goals refine ⟨hlt, k, rfl, hk, d' ++ [(f, a[j].2)], ?_, by rw [hp', List.append_assoc]; exact hd, by simp; omega⟩
          all_goals rw [List.map_append, List.map_singleton]
          all_goals exact .inr ⟨nx2 + 1, by omega, by simp, by simp⟩
        · rw [if_neg hft, List.append_nil] at hp'
          rcases hcond with ⟨hib, hbt⟩ | hib
          all_goals simp [q1, q6, q8, q9, q10, q11, q12, q13, qhp, hib, hft, hw]
          all_goals try simp [hbt, q1, q6, q8, q9, q10, q11, q12, q13, qhp, hib, hft, hw]
          all_goals exact ⟨hlt, k, rfl, hk, d', hO2, by rw [hp', List.append_assoc]; exact hd, by omega⟩
  · obtain rfl : j = a.length := by omega
    rw [List.drop_length, mins, List.append_nil] at hd
    rw [hd] at hO
    have := hO.freeze nx
    simp [h1, h11, h12, h13, Try.f50]
    exact this
theorem minus_sound : SpecSound Try.prog 50 (hPure false [] (FPP (fun a b => .sl 2 ((mins a b).map encS)) fun a b => spFault a = 0 ∧ spFault b = 0)) :=
  pureG (fn := Try.f50) good0 ⟨_, Try.func50, by kernel_rfl, rfl, by kernel_rfl⟩ false [] _ fun args r h w S vs hz => by
    obtain ⟨⟨a, b⟩, rfl, hx, rfl⟩ := specOf_inv h
    obtain ⟨r0, h1, h2⟩ := minus_eval a b hx.1 hx.2
    exact ⟨_, r0, hz, Nat.le_trans (Nat.le_refl 2) (by decide), h1, h2⟩
end Go.Proofs.Ytphmgjcjcdodhaa
