/-
  Ranges: the reference's Ramp; slices.EqualFunc; the law FlagReweighsMatchSpec.
-/
import Derived.Test.YtphmgjcjcdodhaaRngRef6
namespace Go.Proofs.Ytphmgjcjcdodhaa
open Go.RowKit Go.AM

theorem ord_rsz : ∀ {lo hi : Int} {d : List Rg}, lo ≤ hi → d.Pairwise (fun a b => a.2.1 ≤ b.1) → (∀ r ∈ d, lo ≤ r.1 ∧ r.1 < r.2.1 ∧ r.2.1 ≤ hi) → 0 ≤ rsz d ∧ rsz d ≤ hi - lo
  | lo, hi, [], h, _, _ => by simp only [rsz]; omega
  | lo, hi, r :: l, h, hp, hr => by
    obtain ⟨q1, q2⟩ := List.pairwise_cons.1 hp
    have h0 := hr r (by simp)
    have := ord_rsz (lo := r.2.1) (hi := hi) (d := l) (by omega) q2 fun s hs => ⟨q1 s hs, (hr s (by simp [hs])).2⟩
    simp only [rsz]; omega
theorem rsz_step {l : List Rg} {k : Nat} (h : k < l.length) : rsz (l.take (k + 1)) = rsz (l.take k) + (l[k].2.1 - l[k].1) := by
  rw [List.take_succ_eq_append_getElem h, rsz_append]
  simp only [rsz]; omega
noncomputable abbrev Crrp : Ctx := mkCtx Try.prog [(33, hPure false [] (FRI (fun l w => rgTup (reweighR l w)) fun _ _ => True)), (71, hPure false [] (FRR (fun a b => .sl 3 ((rmoved a b).map encR)) Cut)), (72, hPure false [] FST)]
set_option maxRecDepth 8000 in
set_option maxHeartbeats 3200000 in
theorem rRamp_eval (l : List Rg) (w : List Int) (n : Int) : ∃ r0, evalPure Crrp Try.f34 [.sl 3 (l.map encR), .sl 1 (w.map encI), int n] = some r0 ∧ Stands r0 (rsTup (rampR l w n)) := by
  refine evalPureU_of rfl ?_
  have c1 : ∀ hp nx, hPure false [] (FRI (fun l w => rgTup (reweighR l w)) fun _ _ => True) [.sl 3 (l.map encR), .sl 1 (w.map encI)] hp nx = some (.tup [.sl 3 ((reweighR l w).1.map encR), int (reweighR l w).2], hp, nx) := fun hp nx => FRI_call (fun l w => rgTup (reweighR l w)) (fun _ _ => True) l w hp nx trivial
  unfold rampR
  rcases reweighR_cases l w with ⟨h1, h2⟩ | ⟨hok, hlen, he⟩
  · have h1' : ((reweighR l w).2 != 0) = true := by simpa using h1
    rw [if_neg h1]
    simp [c1, h1', Try.f34]
    exact ⟨_, by simp, stands_nilRs _⟩
  rw [he] at c1 ⊢
  rw [if_pos rfl]
  have hnb : (decide (n < 1) || decide (100 < n)) = !decide (1 ≤ n ∧ n ≤ 100) := by
    by_cases a1 : n < 1 <;> by_cases a2 : 100 < n <;> simp [a1, a2] <;> omega
  by_cases hn : 1 ≤ n ∧ n ≤ 100
  case neg =>
    have hn' : (decide (n < 1) || decide (100 < n)) = true := by rw [hnb]; simp [hn]
    rw [if_neg hn]
    simp [c1, hn', Try.f34]
    exact ⟨_, by simp, stands_nilRs _⟩
  have hn' : (decide (n < 1) || decide (100 < n)) = false := by rw [hnb]; simp [hn]
  rw [if_pos hn]
  obtain ⟨f1, f2, f3⟩ := rw_facts hok
  have hcut : Cut l (rwR l w) := cut_of hok.1 (rgFault_of f1 hlen)
  have c2 := fun hp nx => FRR_call (fun a b => .sl 3 ((rmoved a b).map encR)) Cut l (rwR l w) hp nx hcut
  obtain ⟨⟨s1, s2⟩, _⟩ := pcsR_spec hcut
  obtain ⟨hvl, hll, _⟩ := rgFault_right hok.1
  obtain ⟨m1, _, _⟩ := rmoved_ok (chain_line hvl) (chain_line f1)
  have hsz := rmoved_size (chain_line hvl) (chain_line f1) s1
  have hmvl : (rmoved l (rwR l w)).length ≤ 900 := by
    have h1 := rmv_length l (rwR l w) (cutL l (rwR l w)) ((cutL l (rwR l w)).length - 1)
    have h2 := cutL_length l (rwR l w)
    show (rmv l (rwR l w) (cutL l (rwR l w)) ((cutL l (rwR l w)).length - 1)).length ≤ 900
    omega
  have hstp : ∀ m, 0 ≤ m → m ≤ 100000 → ∀ hp nx, hPure false [] FST [.sl 3 (l.map encR), .sl 3 ((rmoved l (rwR l w)).map encR), int m] hp nx = some (.sl 3 ((rmL (pcsR l (rwR l w)) m).1.map encR), hp, nx) := fun m h1 h2 hp nx => by
    rw [FST_call ⟨chain_line hvl, hll, m1, hmvl, h1, h2⟩, rstep_eq hvl f1 s1 h1]
  have hvars := pcs_vars hvl f1 s1
  generalize rmoved l (rwR l w) = mv at c2 m1 hsz hmvl hstp
  generalize rwR l w = d0 at c1 c2 s1 s2 hsz hstp hvars
  generalize pcsR l d0 = d at s1 s2 hsz hstp hvars
  have hline := s1.line
  have hT := hline.ptot
  have hbs : ∀ (s : List Rg) hp nx, buildSliceA Try.prog hp nx 56 1 [(0, .sl 3 (s.map encR))] = some (.own nx 0 1, upd hp nx (some ⟨47, 1, true, [encRs s]⟩), nx + 1) := fun s hp nx => by
    simp [buildSliceA, setElems, freezeParts, freezeVal, freezeCell]
  simp [c1, c2, hn']
  refine EvC_for (fun k σ hp nx => σ 0 = .sl 3 (l.map encR) ∧ σ 2 = int n ∧ σ 10 = .sl 3 (mv.map encR) ∧ σ 35 = .sl 3 (mv.map encR) ∧ σ 36 = int mv.length ∧ σ 37 = int k ∧ σ 11 = int (rsz (mv.take k))) mv.length
    ⟨by simp, by simp, by simp, by simp, by simp, by simp, by simp [rsz]⟩ ?_
  rintro k σ hp nx hk ⟨h0, h2, h10, h35, h36, h37, h11⟩
  by_cases hlt : k < mv.length
  · have hwk : IntKind.i64.wrap ((k : Int) + 1) = (k : Int) + 1 := wrap_fit (by omega) (by omega)
    have hm := m1.mem _ (List.getElem_mem hlt)
    have hst := rsz_step hlt
    have b1 := ord_rsz (lo := 0) (hi := 100000) (d := mv.take k) (by omega) (m1.pw.sublist (List.take_sublist _ _)) fun r hr => m1.mem r (List.mem_of_mem_take hr)
    have w1 : IntKind.i64.wrap (mv[k].2.1 - mv[k].1) = mv[k].2.1 - mv[k].1 := wrap_fit (by omega) (by omega)
    have w2 : IntKind.i64.wrap (rsz (mv.take k) + (mv[k].2.1 - mv[k].1)) = rsz (mv.take k) + (mv[k].2.1 - mv[k].1) := wrap_fit (by omega) (by omega)
    simp [h0, h2, h10, h35, h36, h37, h11, hlt, hwk, w1, w2]
    exact ⟨hlt, by rw [hst]⟩
  obtain rfl : k = mv.length := by omega
  rw [List.take_length, hsz] at h11
  simp [h0, h2, h10, h35, h36, h37, h11]
  have hN : (n.toNat : Int) = n := by omega
  refine EvC_for (fun k σ hp nx => σ 0 = .sl 3 (l.map encR) ∧ σ 2 = int n ∧ σ 10 = .sl 3 (mv.map encR) ∧ σ 11 = int (ptot d) ∧ σ 15 = int ((k : Int) + 1) ∧ OwnS hp nx 47 1 (σ 14) ((rampS d n k).map encRs) ∧ ∀ s ∈ rampS d n k, s.length ≤ 200) n.toNat
    ⟨by simp [h0], by simp [h2], by simp [h10], by simp [h11], by simp, .inl (by simp [rampS]), by simp [rampS]⟩ ?_
  clear h0 h2 h10 h35 h36 h37 h11 hk hlt σ hp nx
  rintro k σ hp nx hk ⟨h0, h2, h10, h11, h15, hO, hS⟩
  by_cases hlt : k < n.toNat
  case neg =>
    obtain rfl : k = n.toNat := by omega
    have hle : ¬ ((n.toNat : Int) + 1 ≤ n) := by omega
    have hle' : ¬ (max n 0 + 1 ≤ n) := by omega
    have hle2 : n < (n.toNat : Int) + 1 := by omega
    have hle3 : n < max n 0 + 1 := by omega
    rw [rampL, if_pos hS]
    simp [h0, h2, h10, h11, h15, hle, hle', hle2, hle3, Try.f34]
    obtain ⟨r0, q1, q2⟩ := hO.freeze2 (.int .i64 0) nx
    exact ⟨r0, q1, fun w S u hr => up_rep hr q2⟩
  have hkn : (k : Int) + 1 ≤ n := by omega
  have hm0 : 0 ≤ ptot d * ((k : Int) + 1) := Int.mul_nonneg hT.1 (by omega)
  have hm1 : ptot d * ((k : Int) + 1) ≤ 100000 * 100 := Int.mul_le_mul (by omega) (by omega) (by omega) (by omega)
  have wm : IntKind.i64.wrap (ptot d * ((k : Int) + 1)) = ptot d * ((k : Int) + 1) := wrap_fit (by omega) (by omega)
  have hq0 : 0 ≤ ptot d * ((k : Int) + 1) / n := Int.ediv_nonneg hm0 (by omega)
  have hq1 : ptot d * ((k : Int) + 1) / n ≤ 100000 := by
    have h1 : ptot d * ((k : Int) + 1) ≤ ptot d * n := Int.mul_le_mul_of_nonneg_left hkn hT.1
    have h2 : ptot d * ((k : Int) + 1) / n ≤ ptot d := Int.ediv_le_of_le_mul (by omega) h1
    omega
  have htd : (ptot d * ((k : Int) + 1)).tdiv n = ptot d * ((k : Int) + 1) / n := Int.tdiv_eq_ediv_of_nonneg hm0
  have wq : IntKind.i64.wrap (ptot d * ((k : Int) + 1) / n) = ptot d * ((k : Int) + 1) / n := wrap_fit (by omega) (by omega)
  have hn0 : ¬ n = 0 := by omega
  have hss := rampS_succ d n k
  have hmem := rampS_mem (d := d) (n := n) hlt
  obtain ⟨m, hm⟩ : ∃ m, ptot d * ((k : Int) + 1) / n = m := ⟨_, rfl⟩
  rw [hm] at hq0 hq1 htd wq hss hmem
  have cs := hstp m hq0 hq1
  generalize (rmL d m).1 = s at cs hss hmem
  by_cases hbig : (200 : Int) < s.length
  · have hall : ¬ ∀ s ∈ rampS d n n.toNat, s.length ≤ 200 := fun h => by have := h s hmem; omega
    rw [rampL, if_neg hall]
    simp [h0, h2, h10, h11, h15, hkn, wm, htd, wq, hn0, cs, hbig, Try.f34]
    exact ⟨_, by simp, stands_nilRs 2⟩
  · have hrl := rampS_length d n k
    have hap := hO.append1 (P := Try.prog) (t := 56) (c := encRs s) el56 sz47 by47 ze47 rfl (by omega) (by rw [List.length_map, hrl]; unfold maxLen; omega) (by rw [List.length_map, hrl]; omega)
    have hwk : IntKind.i64.wrap ((k : Int) + 1 + 1) = (k : Int) + 1 + 1 := wrap_fit (by omega) (by omega)
    simp [h0, h2, h10, h11, h15, hkn, wm, htd, wq, hn0, cs, hbig, hbs, hap, hwk]
    rw [hss]
    refine ⟨hlt, ?_, fun t ht => ?_⟩
    · rw [List.map_append, List.map_singleton]
      have := OwnS.after (hp := hp) (nx := nx) (e := 47) (s := 1) (v := σ 14) (xs := (rampS d n k).map encRs) (c := encRs s) (tmp := some ⟨47, 1, true, [encRs s]⟩)
      simpa using this
    · rcases List.mem_append.1 ht with ht | ht
      · exact hS t ht
      · obtain rfl : t = s := by simpa using ht
        omega
theorem rRamp_sound : SpecSound Try.prog 34 (hPure false [] (FRIN fun l w n => rsTup (rampR l w n))) :=
  pureG (fn := Try.f34) (good_of (q := []) mixed ⟨rReweigh_sound, by simp, rmoved_sound, by simp, step_sound, by simp, trivial⟩ : AM.Good Crrp _) ⟨_, Try.func34, by kernel_rfl, rfl, by kernel_rfl⟩ false [] _ fun args r h w S vs hz => by
    obtain ⟨⟨a, b, n⟩, rfl, _, rfl⟩ := specOf_inv h
    obtain ⟨r0, h1, h2⟩ := rRamp_eval a b n
    exact ⟨_, r0, hz, Nat.le_trans (Nat.le_refl 3) (by decide), h1, h2⟩

/-! ### slices.EqualFunc of a list with itself -/
noncomputable abbrev Ceq : Ctx := mkCtx Try.prog [(32, hPure false [] (FRR (fun a b => boo (decide (a = b))) fun a _ => a.length ≤ 100000))]
set_option maxRecDepth 8000 in
theorem equalRs_eval (a : List (List Rg)) (ha : a.length ≤ 100000) (hs : ∀ s ∈ a, s.length ≤ 100000) : evalPure Ceq Try.f35 [.sl 1 (a.map encRs), .sl 1 (a.map encRs), .fn (.func 32) [] []] = some (boo true) := by
  refine evalPure_of rfl ?_
  simp
  refine EvC_for (fun k σ hp nx => σ 1 = .sl 1 (a.map encRs) ∧ σ 2 = .fn (.func 32) [] [] ∧ σ 15 = .sl 1 (a.map encRs) ∧ σ 16 = int a.length ∧ σ 17 = int k) a.length
    ⟨by simp, by simp, by simp, by simp, by simp⟩ ?_
  rintro k σ hp nx hk ⟨h1, h2, h15, h16, h17⟩
  by_cases hlt : k < a.length
  · have hw : IntKind.i64.wrap ((k : Int) + 1) = (k : Int) + 1 := wrap_fit (by omega) (by omega)
    have ceq : ∀ hp nx, hPure false [] (FRR (fun a b => boo (decide (a = b))) fun a _ => a.length ≤ 100000) [.sl 3 (a[k].map encR), .sl 3 (a[k].map encR)] hp nx = some (boo true, hp, nx) := fun hp nx => by
      rw [FRR_call (fun a b => boo (decide (a = b))) (fun a _ => a.length ≤ 100000) a[k] a[k] hp nx (hs _ (List.getElem_mem hlt))]
      simp
    simp [h1, h2, h15, h16, h17, hlt, hw, ceq]
    exact hlt
  · obtain rfl : k = a.length := by omega
    simp [h1, h2, h15, h16, h17, Try.f35]
noncomputable def FEQ : List PV → Option PV := specOf (α := List (List Rg)) (fun a => [.sl 1 (a.map encRs), .sl 1 (a.map encRs), .fn (.func 32) [] []]) (fun a => a.length ≤ 100000 ∧ ∀ s ∈ a, s.length ≤ 100000) (fun _ => boo true)
theorem encRs_inj {a b : List Rg} (h : encRs a = encRs b) : a = b := by
  simp only [List.cons.injEq, and_true] at h
  exact ranges_inj h
theorem FEQ_call {a : List (List Rg)} (h : a.length ≤ 100000 ∧ ∀ s ∈ a, s.length ≤ 100000) (hp : Hp) (nx : Nat) : hPure false [] FEQ [.sl 1 (a.map encRs), .sl 1 (a.map encRs), .fn (.func 32) [] []] hp nx = some (boo true, hp, nx) :=
  hPure_v rfl (specOf_eq (enc := fun a : List (List Rg) => [PV.sl 1 (a.map encRs), PV.sl 1 (a.map encRs), PV.fn (.func 32) [] []]) (a := a) (fun a b e => by
    simp only [List.cons.injEq, and_true, PV.sl.injEq, true_and] at e
    exact map_inj (fun _ _ => encRs_inj) e.1) h) (.inl rfl)
theorem equalRs_sound : SpecSound Try.prog 35 (hPure false [] FEQ) :=
  pureS (fn := Try.f35) (good_of (q := []) mixed ⟨equalR_sound, by simp, trivial⟩ : AM.Good Ceq _) ⟨_, Try.func35, by kernel_rfl, rfl, by kernel_rfl⟩ false [] _ fun args r h => by
    obtain ⟨a, rfl, hx, rfl⟩ := specOf_inv h
    exact ⟨Nat.le_trans (Nat.le_refl 3) (by decide), _, equalRs_eval a hx.1 hx.2, up_of _⟩

/-! ### the law -/
def qrms : List FuncId := [32, 35]
noncomputable abbrev Crms : Ctx := mkCtx Try.prog [(27, hPure false [] (FRI (fun l w => rgTup (reweighR l w)) fun _ _ => True)), (33, hPure false [] (FRI (fun l w => rgTup (reweighR l w)) fun _ _ => True)), (31, hPure false [] (FRIN fun l w n => rsTup (rampR l w n))), (34, hPure false [] (FRIN fun l w n => rsTup (rampR l w n))), (32, hPure false [] (FRR (fun a b => boo (decide (a = b))) fun a _ => a.length ≤ 100000)), (35, hPure false [] FEQ)]
theorem goodrms : AM.Good Crms (fun g => qrms.contains g) := good_of mixed ⟨Reweigh_sound, fun _ => hPure_quiet _ _, rReweigh_sound, fun _ => hPure_quiet _ _, Ramp_sound, fun _ => hPure_quiet _ _, rRamp_sound, fun _ => hPure_quiet _ _, equalR_sound, fun _ => hPure_quiet _ _, equalRs_sound, fun _ => hPure_quiet _ _, trivial⟩
@[simp] theorem quietrms_0 : QuietIn Crms 32 := quietIn_of (by rfl) (hPure_quiet _ _)
@[simp] theorem quietrms_1 : QuietIn Crms 35 := quietIn_of (by rfl) (hPure_quiet _ _)
set_option maxRecDepth 8000 in
theorem rms_eval (l : List Rg) (w : List Int) (n : Int) : evalPure Crms Try.f8 [.sl 3 (l.map encR), .sl 1 (w.map encI), int n] = some (boo true) := by
  have c0 : ∀ hp nx, hPure false [] (FRIN fun l w n => rsTup (rampR l w n)) [.sl 3 (l.map encR), .sl 1 (w.map encI), int n] hp nx = some (.tup [.sl 1 ((rampR l w n).1.map encRs), int (rampR l w n).2], hp, nx) := fun hp nx => FRIN_call (fun l w n => rsTup (rampR l w n)) l w n hp nx
  have c1 : ∀ hp nx, hPure false [] (FRI (fun l w => rgTup (reweighR l w)) fun _ _ => True) [.sl 3 (l.map encR), .sl 1 (w.map encI)] hp nx = some (.tup [.sl 3 ((reweighR l w).1.map encR), int (reweighR l w).2], hp, nx) := fun hp nx => FRI_call (fun l w => rgTup (reweighR l w)) (fun _ _ => True) l w hp nx trivial
  have b1 : (reweighR l w).1.length ≤ 100000 := by
    rcases reweighR_cases l w with ⟨_, h⟩ | ⟨_, h1, h2⟩
    · rw [h]; simp
    · rw [h2]; show (rwR l w).length ≤ 100000; omega
  have b2 : (rampR l w n).1.length ≤ 100000 ∧ ∀ s ∈ (rampR l w n).1, s.length ≤ 100000 := by
    rcases rampR_cases l w n with ⟨_, h⟩ | ⟨_, _, h1, _, h2, h3⟩
    · rw [h]; simp
    · rw [h3]
      refine ⟨?_, fun s hs => ?_⟩
      · show (rampS (pcsR l (rwR l w)) n n.toNat).length ≤ 100000
        rw [rampS_length]; omega
      · have := h2 s hs; omega
  have ceq : ∀ hp nx, hPure false [] (FRR (fun a b => boo (decide (a = b))) fun a _ => a.length ≤ 100000) [.sl 3 ((reweighR l w).1.map encR), .sl 3 ((reweighR l w).1.map encR)] hp nx = some (boo true, hp, nx) := fun hp nx => by
    rw [FRR_call (fun a b => boo (decide (a = b))) (fun a _ => a.length ≤ 100000) _ _ hp nx b1]
    simp
  have ceq2 := FEQ_call b2
  generalize reweighR l w = p at c1 ceq
  generalize rampR l w n = q at c0 ceq2
  refine evalPure_of rfl ?_
  simp [c0, c1, ceq, ceq2, Try.f8]
theorem rms_known : KnownF Crms (fun g => qrms.contains g) 8 Try.f8 := ⟨_, Try.func8, by kernel_rfl, rfl, by kernel_rfl⟩
end Go.Proofs.Ytphmgjcjcdodhaa
