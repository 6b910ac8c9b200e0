/-
  Ranges: the reference's step.
-/
import Derived.Test.YtphmgjcjcdodhaaRngRef5
namespace Go.Proofs.Ytphmgjcjcdodhaa
open Go.RowKit Go.AM

structure StepOk (l mv : List Rg) (m : Int) : Prop where
  line : Line 0 100000 l
  len : l.length ≤ 200
  ord : Ord 100000 mv
  few : mv.length ≤ 900
  pos : 0 ≤ m ∧ m ≤ 100000
noncomputable abbrev Cst : Ctx := mkCtxF Try.prog [(98, hMove [] putRM), (99, hPure true [] FCT), (100, hPure false [] (FRN (fun l x => int (varAt l x)) fun l _ => l.length ≤ 100000))] 10 7
theorem ovr_step {l : List Rg} {k : Nat} (h : k < l.length) (x v : Int) : ovr (l.take (k + 1)) x v = if l[k].1 ≤ x ∧ x < l[k].2.1 then l[k].2.2 else ovr (l.take k) x v := by
  unfold ovr
  rw [List.take_succ_eq_append_getElem h, List.foldl_append]
  rfl
set_option maxRecDepth 8000 in
set_option maxHeartbeats 3200000 in
theorem step_eval (l mv : List Rg) (m : Int) (h : StepOk l mv m) : ∃ r0, evalPure Cst Try.f72 [.sl 3 (l.map encR), .sl 3 (mv.map encR), int m] = some r0 ∧ Stands r0 (.sl 3 ((rstep l mv m).map encR)) := by
  obtain ⟨hl, hll, ho, hml, hm⟩ := h
  refine evalPureU_of rfl ?_
  simp
  refine EvC_for (fun k σ hp nx => σ 0 = .sl 3 (l.map encR) ∧ σ 17 = .sl 3 (mv.map encR) ∧ σ 18 = int mv.length ∧ σ 19 = int k ∧ σ 2 = int (fsL (mv.take k) m).2 ∧ OwnRg hp nx (σ 7) (fsL (mv.take k) m).1) mv.length
    ⟨by simp, by simp, by simp, by simp, by simp [fsL], .inl (by simp [fsL])⟩ ?_
  rintro k σ hp nx hk ⟨h0, h17, h18, h19, h2, hO⟩
  by_cases hlt : k < mv.length
  · have hwk : IntKind.i64.wrap ((k : Int) + 1) = (k : Int) + 1 := wrap_fit (by omega) (by omega)
    have hb := ho.mem _ (List.getElem_mem hlt)
    have hst := fsL_step (m := m) hlt
    have hln : (fsL (mv.take k) m).1.length ≤ (mv.take k).length := by have := fs_length (mv.take k) ([], m); simp only [List.length_nil, Nat.zero_add] at this; exact this
    have htk : (mv.take k).length ≤ 900 := by rw [List.length_take]; omega
    have hlf : 0 ≤ (fsL (mv.take k) m).2 ∧ (fsL (mv.take k) m).2 ≤ m := fs_left (mv.take k) ([], m) (fun r hr => by have := ho.mem r (List.mem_of_mem_take hr); omega) hm.1
    unfold fsS at hst
    generalize fsL (mv.take k) m = s at h2 hO hst hln hlf
    obtain ⟨d, u⟩ := s
    simp only at h2 hO hst hln hlf
    obtain ⟨n, hn⟩ : ∃ n, min u (mv[k].2.1 - mv[k].1) = n := ⟨_, rfl⟩
    rw [hn] at hst
    have hmin : (if mv[k].2.1 - mv[k].1 < u then mv[k].2.1 - mv[k].1 else u) = n := by split <;> omega
    have w1 : IntKind.i64.wrap (mv[k].2.1 - mv[k].1) = mv[k].2.1 - mv[k].1 := wrap_fit (by omega) (by omega)
    have w2 : IntKind.i64.wrap (mv[k].1 + n) = mv[k].1 + n := wrap_fit (by omega) (by omega)
    have w3 : IntKind.i64.wrap (u - n) = u - n := wrap_fit (by omega) (by omega)
    obtain ⟨x1, hp1, nx1, p1, p2, p3, p4, p5⟩ := putR_call (hO.more (some ⟨61, 3, false, [encR mv[k]]⟩)) (f := mv[k].1) (t := mv[k].1 + n) (v := mv[k].2.2) (by omega)
    simp only [encR] at p1
    simp [h0, h17, h18, h19, h2, hlt, w1, w2, w3, hmin, hwk, p1]
    rw [hst]
    exact ⟨hlt, rfl, p2⟩
  obtain rfl : k = mv.length := by omega
  rw [List.take_length] at hO
  have hfl : (fsL mv m).1.length ≤ mv.length := by have := fs_length mv ([], m); simp only [List.length_nil, Nat.zero_add] at this; exact this
  obtain ⟨f1, _⟩ := fsL_ok hm.1 ho
  have hL := cuts_ok (line_bnd hl) (b := (fsL mv m).1) fun r hr => by have := f1.mem r hr; omega
  have hLl := cutL_length l (fsL mv m).1
  have hmany := hL.many
  unfold rstep
  have hL0 : cutL l (fsL mv m).1 = cutL l (fsL mv m).1 := rfl
  generalize (fsL mv m).1 = f at hO hfl f1 hL hLl hmany hL0 ⊢
  have c1 : ∀ hp nx, hPure true [] FCT [.own nx 0 2] (upd hp nx (some ⟨47, 1, true, [encRs l, encRn f]⟩)) (nx + 1) = some (.sl 1 ((cutL l f).map encI), upd (upd hp nx (some ⟨47, 1, true, [encRs l, encRn f]⟩)) nx none, nx + 1) := fun hp nx => cuts_call (by omega) (by omega) (nx + 1) (by simp)
  generalize cutL l f = L at hL hLl hmany c1 ⊢
  obtain ⟨y, hpy, hfr, hy1, hy2, hy3⟩ : ∃ y hpy, freezeVal hp (σ 7) = some (y, hpy) ∧ encRn f = [y] ∧ lenA Try.prog 47 y = some (int f.length) ∧ (0 < f.length → y = .sl 3 (f.map encR)) := by
    rcases hO with ⟨e1, e2⟩ | ⟨e1, id, e2, e3, e4⟩
    · exact ⟨.nil, hp, by rw [e1]; rfl, by simp [encRn, e2], by simp [e2], by simp [e2]⟩
    · rw [blkR, if_neg (by simpa using e1)] at e4
      refine ⟨.sl 3 (f.map encR), upd hp id none, ?_, by simp [encRn, e1], by simp, fun _ => rfl⟩
      have e : List.take f.length (f.map encR) = f.map encR := List.take_of_length_le (by simp)
      rw [e3]
      simp [freezeVal, freezeCell, e4, e]
  have hyc : PV.isCell y = true ∧ y ≠ .agg [] := by
    by_cases h0 : 0 < f.length
    · rw [hy3 h0]; exact ⟨rfl, by simp⟩
    · have : f = [] := List.length_eq_zero_iff.1 (by omega)
      unfold encRn at hy1
      rw [if_pos this] at hy1
      simp only [List.cons.injEq, and_true] at hy1
      rw [← hy1]; exact ⟨rfl, by simp⟩
  have hbs : ∀ hp nx, buildSliceA Try.prog hp nx 56 2 [(0, .sl 3 (l.map encR)), (1, y)] = some (.own nx 0 2, upd hp nx (some ⟨47, 1, true, [encRs l, encRn f]⟩), nx + 1) := fun hp nx => by
    by_cases h0 : 0 < f.length
    · have hf0 : ¬ f = [] := by rintro rfl; simp at h0
      rw [hy3 h0]
      simp [buildSliceA, setElems, freezeParts, freezeVal, freezeCell, encRn, hf0]
    · have hf0 : f = [] := List.length_eq_zero_iff.1 (by omega)
      unfold encRn at hy1 ⊢
      rw [if_pos hf0] at hy1 ⊢
      simp only [List.cons.injEq, and_true] at hy1
      rw [← hy1]
      simp [buildSliceA, setElems, freezeParts, freezeVal, freezeCell]
  have cv : ∀ x hp nx, hPure false [] (FRN (fun l x => int (varAt l x)) fun l _ => l.length ≤ 100000) [.sl 3 (l.map encR), int x] hp nx = some (int (varAt l x), hp, nx) := fun x hp nx => FRN_call (fun l x => int (varAt l x)) (fun l _ => l.length ≤ 100000) l x hp nx (by omega)
  have wl : IntKind.i64.wrap ((L.length : Int) - 1) = ((L.length - 1 : Nat) : Int) := by rw [wrap_fit (by omega) (by omega)]; omega
  simp [h0, h17, h18, h19]
  rw [EvC_region_froze (y := y) (hp1 := hpy) (by simpa using hfr)]
  simp [h0, hbs, c1, wl]
  refine EvC_for (fun k σ hp nx => σ 0 = .sl 3 (l.map encR) ∧ σ 7 = y ∧ σ 12 = .sl 1 (L.map encI) ∧ σ 50 = int ((L.length - 1 : Nat) : Int) ∧ σ 51 = int k ∧ OwnRg hp nx (σ 11) (stpN l f L k)) (L.length - 1)
    ⟨by simp [h0], by simp, by simp, by simp, by simp, .inl (by simp [stpN])⟩ ?_
  clear h0 h17 h18 h19 h2 hO hfr hlt hk hL0 σ hp nx
  rintro k σ hp nx hk ⟨h0, h7, h12, h50, h51, hO⟩
  by_cases hlt : k < L.length - 1
  · have hwk : IntKind.i64.wrap ((k : Int) + 1) = (k : Int) + 1 := wrap_fit (by omega) (by omega)
    have k0 : k < L.length := by omega
    have k1 : k + 1 < L.length := by omega
    have hki : (k : Int) < ((L.length - 1 : Nat) : Int) := by omega
    have kn : ((k : Int) + 1).toNat = k + 1 := by omega
    have kp : 0 ≤ (k : Int) + 1 := by omega
    have d0 : L.getD k 0 = L[k] := by simp [List.getD_eq_getElem?_getD, k0]
    have d1 : L.getD (k + 1) 0 = L[k + 1] := by simp [List.getD_eq_getElem?_getD, k1]
    have hln := stpN_length l f L k
    have hsn : stpN l f L (k + 1) = putR (stpN l f L k) (L.getD k 0) (L.getD (k + 1) 0) (ovr f (L.getD k 0) (varAt l (L.getD k 0))) := rfl
    rw [d0, d1] at hsn
    simp [h0, h7, h12, h50, h51, hlt, hki, k0, cv, hy2]
    refine EvC_for (fun j σ hp nx => σ 0 = .sl 3 (l.map encR) ∧ σ 7 = y ∧ σ 12 = .sl 1 (L.map encI) ∧ σ 50 = int ((L.length - 1 : Nat) : Int) ∧ σ 51 = int k ∧ OwnRg hp nx (σ 11) (stpN l f L k) ∧ σ 13 = int k ∧ σ 60 = y ∧ σ 61 = int f.length ∧ σ 62 = int j ∧ σ 14 = int (ovr (f.take j) L[k] (varAt l L[k]))) f.length
      ⟨by simp [h0], by simp [h7], by simp [h12], by simp [h50], by simp [h51], by simpa using hO, by simp, by simp [h7], by simp, by simp, by simp [ovr]⟩ ?_
    clear h0 h7 h12 h50 h51 hO σ hp nx
    rintro j σ hp nx hj ⟨h0, h7, h12, h50, h51, hO, h13, h60, h61, h62, h14⟩
    by_cases hjl : j < f.length
    · have hwj : IntKind.i64.wrap ((j : Int) + 1) = (j : Int) + 1 := wrap_fit (by omega) (by omega)
      have hst := ovr_step hjl L[k] (varAt l L[k])
      have hy := hy3 (by omega)
      rw [hy] at h60
      have hOm := hO.more (some ⟨61, 3, false, [encR f[j]]⟩)
      by_cases c1 : f[j].1 ≤ L[k] <;> by_cases c2 : L[k] < f[j].2.1 <;> simp only [c1, c2, and_self, and_true, and_false, if_true, if_false] at hst
      · simp [h0, h7, h12, h50, h51, h13, h60, h61, h62, h14, hjl, k0, c1, c2, hwj]
        exact ⟨hjl, hOm, hy.symm, by rw [hst]⟩
      all_goals
        simp [h0, h7, h12, h50, h51, h13, h60, h61, h62, h14, hjl, k0, c1, c2, hwj]
        exact ⟨hjl, hOm, hy.symm, by rw [hst]⟩
    · obtain rfl : j = f.length := by omega
      rw [List.take_length] at h14
      obtain ⟨x1, hp1, nx1, p1, p2, p3, p4, p5⟩ := putR_call hO (f := L[k]) (t := L[k + 1]) (v := ovr f L[k] (varAt l L[k])) (by omega)
      simp [h0, h7, h12, h50, h51, h13, h60, h61, h62, h14, k0, k1, kn, kp, hwk, p1]
      rw [hsn]
      exact ⟨by omega, p2⟩
  · obtain rfl : k = L.length - 1 := by omega
    simp [h0, h7, h12, h50, h51, Try.f72]
    obtain ⟨r0, q1, q2⟩ := hO.ownS.freeze nx
    exact ⟨r0, q1, fun w S u hr => up_rep hr q2⟩
noncomputable def FST : List PV → Option PV := specOf (α := List Rg × List Rg × Int) (fun a => [.sl 3 (a.1.map encR), .sl 3 (a.2.1.map encR), int a.2.2]) (fun a => StepOk a.1 a.2.1 a.2.2) (fun a => .sl 3 ((rstep a.1 a.2.1 a.2.2).map encR))
theorem FST_call {l mv : List Rg} {m : Int} (h : StepOk l mv m) (hp : Hp) (nx : Nat) : hPure false [] FST [.sl 3 (l.map encR), .sl 3 (mv.map encR), int m] hp nx = some (.sl 3 ((rstep l mv m).map encR), hp, nx) :=
  hPure_v rfl (specOf_eq (enc := fun a : List Rg × List Rg × Int => [PV.sl 3 (a.1.map encR), PV.sl 3 (a.2.1.map encR), int a.2.2]) (a := (l, mv, m)) (fun a b e => by
    obtain ⟨a1, a2, a3⟩ := a; obtain ⟨b1, b2, b3⟩ := b
    simp only [List.cons.injEq, and_true] at e
    rw [ranges_inj e.1, ranges_inj e.2.1, pint_inj e.2.2]) h) (.inr rfl)
theorem step_sound : SpecSound Try.prog 72 (hPure false [] FST) :=
  pureG (fn := Try.f72) (good_ofF (q := []) mixed ⟨rputR_sound, by simp, cuts_sound, by simp, varAt_sound, by simp, trivial⟩ : AM.Good Cst _) ⟨_, Try.func72, by kernel_rfl, rfl, by kernel_rfl⟩ false [] _ fun args r h w S vs hz => by
    obtain ⟨⟨a, b, n⟩, rfl, hx, rfl⟩ := specOf_inv h
    obtain ⟨r0, h1, h2⟩ := step_eval a b n hx
    exact ⟨_, r0, hz, Nat.le_trans (Nat.le_refl 3) (by decide), h1, h2⟩
end Go.Proofs.Ytphmgjcjcdodhaa
