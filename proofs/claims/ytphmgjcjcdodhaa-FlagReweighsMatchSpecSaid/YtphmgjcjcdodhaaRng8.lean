/-
  Ranges: the law FlagReweighMovesLeast.
-/
import Derived.Test.YtphmgjcjcdodhaaRng5
import Derived.Test.YtphmgjcjcdodhaaRngLaw2
namespace Go.Proofs.Ytphmgjcjcdodhaa
open Go.RowKit Go.AM

theorem reweighR_cases (l : List Rg) (w : List Int) : (reweighR l w).2 ≠ 0 ∧ (reweighR l w).1 = [] ∨ RwOk l w ∧ (rwR l w).length ≤ 200 ∧ reweighR l w = (rwR l w, 0) := by
  unfold reweighR
  split
  · rename_i h1
    split
    · rename_i h2
      split
      · exact .inl ⟨by simp, rfl⟩
      · exact .inr ⟨⟨h1, h2⟩, by omega, rfl⟩
    · rename_i h2
      exact .inl ⟨h2, rfl⟩
  · rename_i h1
    exact .inl ⟨h1, rfl⟩
theorem rw_facts {l : List Rg} {w : List Int} (h : RwOk l w) : Chain 20 0 100000 none (rwR l w) ∧ (∀ u, sz u (rwR l w) = nd w u) ∧ cnt (fun x => atv l x != atv (rwR l w) x) 0 100000 = sumN (fun u => max (sz u l - nd w u) 0) 20 := by
  obtain ⟨⟨p, w1, w2, K, F, Fl, S, v, hk, hf, hS, ho, hd⟩, _⟩ := rwR_spec h
  obtain ⟨h1, h2, h3⟩ := rgFault_right h.1
  obtain ⟨g1, g2, g3, g4⟩ := wtFault_right h.2
  have hl := full_length g3
  have hs : (full w).sum = 100000 := by
    unfold full
    rw [List.sum_append, g2]
    simp
  have hv := chain_vars h1
  obtain ⟨e1, e2, e3⟩ := reweigh_law (by rw [hl]; exact hv) (chain_line h1) hs hk hf hS ho
  rw [← hd, hl] at e1 e3
  rw [← hd] at e2
  simp only [full_nd] at e2 e3
  exact ⟨e1, e2, e3⟩
theorem wtsR_ok {l : List Rg} (h : rgFault l 20 = 0) : wtsR l 20 = (weightsL l 20, 0) := by
  unfold wtsR
  rw [if_pos (by omega), if_pos h]
  rfl
theorem movedR_ok {a b : List Rg} (ha : rgFault a 20 = 0) (hb : rgFault b 20 = 0) : movedR a b = (mvL (pcsR a b), 0) := by
  unfold movedR
  rw [if_pos ha, if_pos hb]
theorem sz_bound {l : List Rg} (h : Chain 20 0 100000 none l) (v : Nat) : 0 ≤ sz v l ∧ sz v l ≤ 100000 := by
  have hl := chain_line h
  have e0 : 0 ≤ sz v l := sz_pos fun r hr => by have := hl.mem r hr; omega
  refine ⟨e0, ?_⟩
  have e1 := hl.rsz
  have key : ∀ l : List Rg, (∀ r ∈ l, r.1 ≤ r.2.1) → sz v l ≤ rsz l := by
    intro l
    induction l with
    | nil => intro _; exact Int.le_refl _
    | cons r l ih =>
      intro h
      have h1 := ih fun r hr => h r (by simp [hr])
      have h2 := h r (by simp)
      show szf v r + sz v l ≤ (r.2.1 - r.1) + rsz l
      unfold szf
      split <;> omega
  have := key l fun r hr => by have := hl.mem r hr; omega
  omega
noncomputable abbrev Crml : Ctx := mkCtx Try.prog [(26, hPure false [] yes3), (27, hPure false [] (FRI (fun l w => rgTup (reweighR l w)) fun _ _ => True)), (28, hPure false [] (FRN (fun l n => inTup (wtsR l n)) fun _ _ => True)), (29, hPure false [] (FRR (fun a b => rgTup (movedR a b)) fun _ _ => True)), (30, hPure false [] (FR (fun l => int (rsz l)) fun l => RIn l ∧ l.length ≤ 100000))]
theorem goodrml : AM.Good Crml (fun g => ([] : List FuncId).contains g) := good_of mixed ⟨awake3_sound, by simp, Reweigh_sound, by simp, Weights_sound, by simp, Moved_sound, by simp, size3_sound, by simp, trivial⟩
def lstF (l : List Rg) (w : List Int) (u : Nat) : Int := max (sz u l - nd w u) 0
theorem lst_bound {l : List Rg} {w : List Int} (h : ∀ u, 0 ≤ sz u l ∧ sz u l ≤ 100000) (g : ∀ u, 0 ≤ nd w u) : ∀ k, 0 ≤ sumN (lstF l w) k ∧ sumN (lstF l w) k ≤ 100000 * k
  | 0 => by simp [sumN]
  | k + 1 => by
    have h1 := lst_bound h g k
    have h2 := h k
    have h3 := g k
    have h4 : 0 ≤ lstF l w k ∧ lstF l w k ≤ 100000 := by unfold lstF; omega
    simp only [sumN]
    omega
set_option maxRecDepth 8000 in
theorem rml_eval (l : List Rg) (w : List Int) : evalPure Crml Try.f6 [.sl 3 (l.map encR), .sl 1 (w.map encI)] = some (boo true) := by
  have c0 : ∀ hp nx, hPure false [] yes3 [] hp nx = some (boo true, hp, nx) := fun hp nx => rfl
  have c1 : ∀ hp nx, hPure false [] (FRI (fun l w => rgTup (reweighR l w)) fun _ _ => True) [.sl 3 (l.map encR), .sl 1 (w.map encI)] hp nx = some (.tup [.sl 3 ((reweighR l w).1.map encR), int (reweighR l w).2], hp, nx) := fun hp nx => FRI_call (fun l w => rgTup (reweighR l w)) (fun _ _ => True) l w hp nx trivial
  refine evalPure_of rfl ?_
  rcases reweighR_cases l w with ⟨h1, h2⟩ | ⟨hok, hlen, he⟩
  · have h1' : ((reweighR l w).2 != 0) = true := by simpa using h1
    simp [c0, c1, h1', Try.f6]
  · rw [he] at c1
    obtain ⟨f1, f2, f3⟩ := rw_facts hok
    generalize rwR l w = d at c1 hlen f1 f2 f3
    have hfd : rgFault d 20 = 0 := rgFault_of f1 hlen
    have hfl := hok.1
    obtain ⟨hc, hc2, hc3⟩ := rgFault_right hfl
    obtain ⟨g1, g2, g3, g4⟩ := wtFault_right hok.2
    have hcut := cut_of hfl hfd
    obtain ⟨⟨s1, s2⟩, _⟩ := pcsR_spec hcut
    have c2 : ∀ hp nx, hPure false [] (FRN (fun l n => inTup (wtsR l n)) fun _ _ => True) [.sl 3 (d.map encR), int 20] hp nx = some (.tup [.sl 1 ((weightsL d 20).map encI), int 0], hp, nx) := fun hp nx => by
      rw [FRN_call (fun l n => inTup (wtsR l n)) (fun _ _ => True) d 20 hp nx trivial, wtsR_ok hfd]
      rfl
    have c3 : ∀ hp nx, hPure false [] (FRN (fun l n => inTup (wtsR l n)) fun _ _ => True) [.sl 3 (l.map encR), int 20] hp nx = some (.tup [.sl 1 ((weightsL l 20).map encI), int 0], hp, nx) := fun hp nx => by
      rw [FRN_call (fun l n => inTup (wtsR l n)) (fun _ _ => True) l 20 hp nx trivial, wtsR_ok hfl]
      rfl
    have c4 : ∀ hp nx, hPure false [] (FRR (fun a b => rgTup (movedR a b)) fun _ _ => True) [.sl 3 (l.map encR), .sl 3 (d.map encR)] hp nx = some (.tup [.sl 3 ((mvL (pcsR l d)).map encR), int 0], hp, nx) := fun hp nx => by
      rw [FRR_call (fun a b => rgTup (movedR a b)) (fun _ _ => True) l d hp nx trivial, movedR_ok hfl hfd]
      rfl
    have hml := mvL_length (pcsR l d)
    have c5 := fun hp nx => FR_call (fun l => int (rsz l)) (fun l => RIn l ∧ l.length ≤ 100000) (mvL (pcsR l d)) hp nx ⟨mvL_rin s1.line, by omega⟩
    have e5 : rsz (mvL (pcsR l d)) = sumN (lstF l w) 20 := by
      rw [moved_size hcut, f3]
      rfl
    have en : ∀ v, nd (weightsL d 20) v = nd w v := fun v => by rw [weightsL_nd (chain_vars f1), f2]
    have eo : ∀ v, nd (weightsL l 20) v = sz v l := fun v => weightsL_nd (chain_vars hc) v
    have ln := weightsL_length d 20
    have lo := weightsL_length l 20
    generalize weightsL d 20 = now at c2 en ln
    generalize weightsL l 20 = old at c3 eo lo
    generalize mvL (pcsR l d) = mv at c4 c5 e5
    have hw0 : ∀ v, 0 ≤ nd w v ∧ nd w v ≤ 100000 := fun v => by
      by_cases h : v < w.length
      · rw [nd_at h]; exact g1 _ (List.getElem_mem h)
      · rw [nd_out (by omega)]; omega
    have hb := sz_bound hc
    simp [c0, c1, c2, c3, c4]
    refine EvC_for (fun k σ hp nx => σ 1 = .sl 1 (w.map encI) ∧ σ 8 = .sl 1 (old.map encI) ∧ σ 10 = .sl 3 (mv.map encR) ∧ σ 52 = .sl 1 (now.map encI) ∧ σ 53 = int 20 ∧ σ 54 = int k ∧ σ 12 = int (sumN (lstF l w) k)) 20
      ⟨by simp, by simp, by simp, by simp, by simp [ln], by simp, by simp [sumN]⟩ ?_
    rintro k σ hp nx hk ⟨h1, h8, h10, h52, h53, h54, h12⟩
    by_cases hlt : k < 20
    · have k1 : k < now.length := by omega
      have k2 : k < old.length := by omega
      have hk20 : (k : Int) < 20 := by omega
      have hwk : IntKind.i64.wrap ((k : Int) + 1) = (k : Int) + 1 := wrap_fit (by omega) (by omega)
      have n1 : now[k] = nd w k := by rw [← nd_at k1]; exact en k
      have n2 : old[k] = sz k l := by rw [← nd_at k2]; exact eo k
      have hbk := hb k
      have hwk2 := hw0 k
      have w1 : IntKind.i64.wrap (old[k] - now[k]) = sz k l - nd w k := by rw [n1, n2]; exact wrap_fit (by omega) (by omega)
      have hmx : (if 0 > sz k l - nd w k then 0 else sz k l - nd w k) = lstF l w k := by unfold lstF; split <;> omega
      have hmx' : (if sz k l - nd w k < 0 then 0 else sz k l - nd w k) = lstF l w k := by unfold lstF; split <;> omega
      have hsb := lst_bound (l := l) (w := w) hb (fun u => (hw0 u).1) k
      have hsb1 := lst_bound (l := l) (w := w) hb (fun u => (hw0 u).1) (k + 1)
      have hse : sumN (lstF l w) (k + 1) = sumN (lstF l w) k + lstF l w k := rfl
      have w2 : IntKind.i64.wrap (sumN (lstF l w) k + lstF l w k) = sumN (lstF l w) (k + 1) := by rw [← hse]; exact wrap_fit (by omega) (by omega)
      by_cases hkw : k < w.length
      · have e6 : (now[k] != w[k]) = false := by rw [n1, nd_at hkw]; simp
        simp [h1, h8, h10, h52, h53, h54, h12, hk20, k1, k2, hkw, e6, w1, hmx, hmx', w2, hwk]
        omega
      · have e6 : (now[k] != 0) = false := by rw [n1, nd_out (by omega)]; simp
        simp [h1, h8, h10, h52, h53, h54, h12, hk20, k1, k2, hkw, e6, w1, hmx, hmx', w2, hwk]
        omega
    · obtain rfl : k = 20 := by omega
      simp [h1, h8, h10, h52, h53, h54, h12, c5, e5, Try.f6]
theorem rml_known : KnownF Crml (fun g => ([] : List FuncId).contains g) 6 Try.f6 := ⟨_, Try.func6, by kernel_rfl, rfl, by kernel_rfl⟩
end Go.Proofs.Ytphmgjcjcdodhaa
