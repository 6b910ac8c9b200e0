/-
  Ranges: Ramp.
-/
import Derived.Test.YtphmgjcjcdodhaaRng8
namespace Go.Proofs.Ytphmgjcjcdodhaa
open Go.RowKit Go.AM

abbrev encRs (s : List Rg) : List PV := [.sl 3 (s.map encR)]
def rampS (d : List Pc) (n : Int) (k : Nat) : List (List Rg) := (List.range k).map fun (i : Nat) => (rmL d (ptot d * ((i : Int) + 1) / n)).1
theorem rampS_succ (d : List Pc) (n : Int) (k : Nat) : rampS d n (k + 1) = rampS d n k ++ [(rmL d (ptot d * ((k : Int) + 1) / n)).1] := by
  unfold rampS
  rw [List.range_succ, List.map_append]
  rfl
theorem rampS_length (d : List Pc) (n : Int) (k : Nat) : (rampS d n k).length = k := by simp [rampS]
theorem rampS_mem {d : List Pc} {n : Int} {k j : Nat} (h : k < j) : (rmL d (ptot d * ((k : Int) + 1) / n)).1 ∈ rampS d n j := by
  unfold rampS
  exact List.mem_map.2 ⟨k, by simpa using h, rfl⟩
def rampL (d : List Pc) (n : Int) : List (List Rg) × Int := if ∀ s ∈ rampS d n n.toNat, s.length ≤ 200 then (rampS d n n.toNat, 0) else ([], 2)
noncomputable def rampR (l : List Rg) (w : List Int) (n : Int) : List (List Rg) × Int := if (reweighR l w).2 = 0 then (if 1 ≤ n ∧ n ≤ 100 then rampL (pcsR l (rwR l w)) n else ([], 1)) else ([], (reweighR l w).2)
def rsTup (r : List (List Rg) × Int) : PV := .tup [.sl 1 (r.1.map encRs), int r.2]
theorem stands_nilRs (k : Int) : Stands (.tup [.nil, int k]) (rsTup ([], k)) :=
  StandsL.tup (.cons (.nilOr (.inl ⟨rfl, rfl⟩)) (.cons (.refl _) .nil))
theorem ptot_append : ∀ (a b : List Pc), ptot (a ++ b) = ptot a + ptot b
  | [], b => by simp [ptot]
  | p :: a, b => by rw [List.cons_append, ptot, ptot, ptot_append a b]; omega
theorem ptot_step {l : List Pc} {k : Nat} (h : k < l.length) : ptot (l.take (k + 1)) = ptot (l.take k) + (if l[k].2.2.1 = l[k].2.2.2 then 0 else l[k].2.1 - l[k].1) := by
  rw [List.take_succ_eq_append_getElem h, ptot_append]
  simp only [ptot]; omega
theorem PLine.take_le : ∀ {lo hi : Int} {l : List Pc}, PLine lo hi l → ∀ k, 0 ≤ Go.Proofs.Ytphmgjcjcdodhaa.ptot (l.take k) ∧ Go.Proofs.Ytphmgjcjcdodhaa.ptot (l.take k) ≤ hi - lo
  | lo, hi, [], h, k => by have h : lo = hi := h; simp only [List.take_nil, Go.Proofs.Ytphmgjcjcdodhaa.ptot]; omega
  | lo, hi, p :: l, h, 0 => by have := h.le; simp only [List.take_zero, Go.Proofs.Ytphmgjcjcdodhaa.ptot]; omega
  | lo, hi, p :: l, h, k + 1 => by
    obtain ⟨h1, h2, h3⟩ := h
    have := h3.take_le k
    simp only [List.take_succ_cons, Go.Proofs.Ytphmgjcjcdodhaa.ptot]
    split <;> omega
theorem rmL_left : ∀ (l : List Pc) (s : List Rg × Int), (∀ p ∈ l, p.1 ≤ p.2.1) → 0 ≤ s.2 → 0 ≤ (l.foldl rmS s).2 ∧ (l.foldl rmS s).2 ≤ s.2
  | [], s, _, h => ⟨h, Int.le_refl _⟩
  | p :: l, s, hl, h => by
    have hp := hl p (by simp)
    have e : (rmS s p).2 = s.2 - puse p s.2 := rfl
    have hu : 0 ≤ puse p s.2 ∧ puse p s.2 ≤ s.2 := by unfold puse; split <;> omega
    have := rmL_left l (rmS s p) (fun q hq => hl q (by simp [hq])) (by omega)
    rw [List.foldl_cons]
    omega
theorem rmL_length (l : List Pc) (m : Int) : (rmL l m).1.length ≤ 2 * l.length := by
  have := foldRm_length l ([], m)
  unfold rmL
  simpa using this
noncomputable def FRIN (out : List Rg → List Int → Int → PV) : List PV → Option PV := specOf (α := List Rg × List Int × Int) (fun a => [.sl 3 (a.1.map encR), .sl 1 (a.2.1.map encI), int a.2.2]) (fun _ => True) (fun a => out a.1 a.2.1 a.2.2)
theorem FRIN_call (out : List Rg → List Int → Int → PV) (l : List Rg) (m : List Int) (n : Int) (hp : Hp) (nx : Nat) : hPure false [] (FRIN out) [.sl 3 (l.map encR), .sl 1 (m.map encI), int n] hp nx = some (out l m n, hp, nx) :=
  hPure_v rfl (specOf_eq (enc := fun a : List Rg × List Int × Int => [PV.sl 3 (a.1.map encR), PV.sl 1 (a.2.1.map encI), int a.2.2]) (a := (l, m, n)) (fun a b e => by
    obtain ⟨a1, a2, a3⟩ := a; obtain ⟨b1, b2, b3⟩ := b
    simp only [List.cons.injEq, and_true] at e
    rw [ranges_inj e.1, ints_inj e.2.1, pint_inj e.2.2]) trivial) (.inr rfl)
noncomputable abbrev Crp : Ctx := mkCtx Try.prog [(27, hPure false [] (FRI (fun l w => rgTup (reweighR l w)) fun _ _ => True)), (64, hPure false [] (F3 inB)), (66, hPure false [] (FRR (fun a b => .sl 4 ((pcsR a b).map encP)) Cut)), (67, hMove [] putRM)]
set_option maxRecDepth 8000 in
set_option maxHeartbeats 1600000 in
theorem Ramp_eval (l : List Rg) (w : List Int) (n : Int) : ∃ r0, evalPure Crp Try.f31 [.sl 3 (l.map encR), .sl 1 (w.map encI), int n] = some r0 ∧ Stands r0 (rsTup (rampR l w n)) := by
  refine evalPureU_of rfl ?_
  have c1 : ∀ hp nx, hPure false [] (FRI (fun l w => rgTup (reweighR l w)) fun _ _ => True) [.sl 3 (l.map encR), .sl 1 (w.map encI)] hp nx = some (.tup [.sl 3 ((reweighR l w).1.map encR), int (reweighR l w).2], hp, nx) := fun hp nx => FRI_call (fun l w => rgTup (reweighR l w)) (fun _ _ => True) l w hp nx trivial
  unfold rampR
  rcases reweighR_cases l w with ⟨h1, h2⟩ | ⟨hok, hlen, he⟩
  · have h1' : ((reweighR l w).2 != 0) = true := by simpa using h1
    rw [if_neg h1]
    simp [c1, h1', Try.f31]
    exact ⟨_, by simp, stands_nilRs _⟩
  rw [he] at c1 ⊢
  rw [if_pos rfl]
  by_cases hn : 1 ≤ n ∧ n ≤ 100
  case neg =>
    have hn' : inB n 1 100 = false := by
      simp only [inB, Bool.and_eq_false_iff, decide_eq_false_iff_not]
      omega
    rw [if_neg hn]
    simp [c1, hn', Try.f31]
    exact ⟨_, by simp, stands_nilRs _⟩
  have hn' : inB n 1 100 = true := by simp [inB, hn]
  rw [if_pos hn]
  obtain ⟨f1, f2, f3⟩ := rw_facts hok
  have hcut : Cut l (rwR l w) := cut_of hok.1 (rgFault_of f1 hlen)
  have c2 := fun hp nx => FRR_call (fun a b => .sl 4 ((pcsR a b).map encP)) Cut l (rwR l w) hp nx hcut
  obtain ⟨⟨s1, s2⟩, _⟩ := pcsR_spec hcut
  have hvl := (rgFault_right hok.1).1
  have hpv := pcs_vars hvl f1 s1
  generalize rwR l w = d0 at c1 c2 s1 s2 hpv
  generalize pcsR l d0 = d at c2 s1 s2 hpv
  have hline := s1.line
  have hpm : ∀ p ∈ d, 0 ≤ p.1 ∧ p.1 < p.2.1 ∧ p.2.1 ≤ 100000 := hline.mem
  have hT := hline.ptot
  simp [c1, c2, hn']
  refine EvC_for (fun k σ hp nx => σ 2 = int n ∧ σ 10 = .sl 4 (d.map encP) ∧ σ 36 = .sl 4 (d.map encP) ∧ σ 37 = int d.length ∧ σ 38 = int k ∧ σ 11 = int (ptot (d.take k))) d.length
    ⟨by simp, by simp, by simp, by simp, by simp, by simp [ptot]⟩ ?_
  rintro k σ hp nx hk ⟨h2, h10, h36, h37, h38, h11⟩
  by_cases hlt : k < d.length
  · have hwk : IntKind.i64.wrap ((k : Int) + 1) = (k : Int) + 1 := wrap_fit (by omega) (by omega)
    have hm := hpm _ (List.getElem_mem hlt)
    have hst := ptot_step hlt
    have b1 := hline.take_le k
    by_cases hc : d[k].2.2.1 = d[k].2.2.2
    · rw [if_pos hc] at hst
      simp [h2, h10, h36, h37, h38, h11, hlt, hc, hwk]
      exact ⟨hlt, by rw [hst]; omega⟩
    · rw [if_neg hc] at hst
      have hc' : (d[k].2.2.1 != d[k].2.2.2) = true := by simpa using hc
      have w1 : IntKind.i64.wrap (d[k].2.1 - d[k].1) = d[k].2.1 - d[k].1 := wrap_fit (by omega) (by omega)
      have w2 : IntKind.i64.wrap (ptot (d.take k) + (d[k].2.1 - d[k].1)) = ptot (d.take k) + (d[k].2.1 - d[k].1) := wrap_fit (by omega) (by omega)
      simp [h2, h10, h36, h37, h38, h11, hlt, hc', hwk, w1, w2]
      exact ⟨hlt, by rw [hst]⟩
  obtain rfl : k = d.length := by omega
  rw [List.take_length] at h11
  simp [h2, h10, h36, h37, h38, h11]
  have hN : (n.toNat : Int) = n := by omega
  refine EvC_for (fun k σ hp nx => σ 2 = int n ∧ σ 10 = .sl 4 (d.map encP) ∧ σ 11 = int (ptot d) ∧ σ 15 = int ((k : Int) + 1) ∧ OwnS hp nx 47 1 (σ 14) ((rampS d n k).map encRs) ∧ ∀ s ∈ rampS d n k, s.length ≤ 200) n.toNat
    ⟨by simp [h2], by simp [h10], by simp [h11], by simp, .inl (by simp [rampS]), by simp [rampS]⟩ ?_
  clear h2 h10 h36 h37 h38 h11 hk hlt σ hp nx
  rintro k σ hp nx hk ⟨h2, h10, h11, h15, hO, hS⟩
  by_cases hlt : k < n.toNat
  case neg =>
    obtain rfl : k = n.toNat := by omega
    have hle : ¬ ((n.toNat : Int) + 1 ≤ n) := by omega
    have hle' : ¬ (max n 0 + 1 ≤ n) := by omega
    have hle2 : n < (n.toNat : Int) + 1 := by omega
    have hle3 : n < max n 0 + 1 := by omega
    rw [rampL, if_pos hS]
    simp [h2, h10, h11, h15, hle, hle', hle2, hle3, Try.f31]
    obtain ⟨r0, q1, q2⟩ := hO.freeze2 (.int .i64 0) nx
    exact ⟨r0, q1, fun w S u hr => up_rep hr q2⟩
  have hkn : (k : Int) + 1 ≤ n := by omega
  have hm0 : 0 ≤ ptot d * ((k : Int) + 1) := Int.mul_nonneg hT.1 (by omega)
  have hm1 : ptot d * ((k : Int) + 1) ≤ 100000 * 100 := Int.mul_le_mul (by omega) (by omega) (by omega) (by omega)
  have wm : IntKind.i64.wrap (ptot d * ((k : Int) + 1)) = ptot d * ((k : Int) + 1) := wrap_fit (by omega) (by omega)
  have hq0 : 0 ≤ ptot d * ((k : Int) + 1) / n := Int.ediv_nonneg hm0 (by omega)
  have hq1 : ptot d * ((k : Int) + 1) / n ≤ 100000 := by
    have h1 : ptot d * ((k : Int) + 1) ≤ ptot d * n := Int.mul_le_mul_of_nonneg_left hkn hT.1
    have h2 : ptot d * ((k : Int) + 1) / n ≤ ptot d := Int.ediv_le_of_le_mul (by omega) h1
    omega
  have htd : (ptot d * ((k : Int) + 1)).tdiv n = ptot d * ((k : Int) + 1) / n := Int.tdiv_eq_ediv_of_nonneg hm0
  have wq : IntKind.i64.wrap (ptot d * ((k : Int) + 1) / n) = ptot d * ((k : Int) + 1) / n := wrap_fit (by omega) (by omega)
  have hn0 : ¬ n = 0 := by omega
  have hss := rampS_succ d n k
  have hmem := rampS_mem (d := d) (n := n) hlt
  obtain ⟨m, hm⟩ : ∃ m, ptot d * ((k : Int) + 1) / n = m := ⟨_, rfl⟩
  rw [hm] at hq0 hq1 htd wq hss hmem
  simp [h2, h10, h11, h15, hkn, wm, htd, wq, hn0]
  refine EvC_for (fun j σ hp nx => σ 2 = int n ∧ σ 10 = .sl 4 (d.map encP) ∧ σ 11 = int (ptot d) ∧ σ 15 = int ((k : Int) + 1) ∧ OwnS hp nx 47 1 (σ 14) ((rampS d n k).map encRs) ∧ σ 65 = .sl 4 (d.map encP) ∧ σ 66 = int d.length ∧ σ 67 = int j ∧ σ 16 = int (rmL (d.take j) m).2 ∧ OwnRg hp nx (σ 17) (rmL (d.take j) m).1 ∧ ∀ id a b, σ 14 = .own id 0 a → σ 17 ≠ .own id 0 b) d.length
    ⟨by simp [h2], by simp [h10], by simp [h11], by simp [h15], by simpa using hO, by simp, by simp, by simp, by simp [rmL], .inl (by simp [rmL]), by simp⟩ ?_
  clear h2 h10 h11 h15 hO σ hp nx
  rintro j σ hp nx hj ⟨h2, h10, h11, h15, hO, h65, h66, h67, h16, hP, hne⟩
  have hOid : ∀ id a, σ 14 = .own id 0 a → id < nx := fun id a e => by
    rcases hO with ⟨e', _⟩ | ⟨id', h1, h2, _⟩
    · rw [e'] at e; cases e
    · rw [h2] at e; injection e with e; omega
  by_cases hjl : j < d.length
  · have hwk : IntKind.i64.wrap ((j : Int) + 1) = (j : Int) + 1 := wrap_fit (by omega) (by omega)
    have hm := hpm _ (List.getElem_mem hjl)
    have hst := rmL_step (m := m) hjl
    have hlf := rmL_left (d.take j) ([], m) (fun p hp => by have := hpm p (List.mem_of_mem_take hp); omega) hq0
    have hln := rmL_length (d.take j) m
    have hlj : (d.take j).length ≤ 400 := by rw [List.length_take]; omega
    change 0 ≤ (rmL (d.take j) m).2 ∧ (rmL (d.take j) m).2 ≤ m at hlf
    generalize rmL (d.take j) m = s at h16 hP hst hlf hln
    obtain ⟨s1, s2⟩ := s
    simp only at h16 hP hlf hln
    have w1 : IntKind.i64.wrap (d[j].2.1 - d[j].1) = d[j].2.1 - d[j].1 := wrap_fit (by omega) (by omega)
    have hpm2 : 0 ≤ pmv d[j] s2 ∧ pmv d[j] s2 ≤ d[j].2.1 - d[j].1 := by unfold pmv; split <;> omega
    have hpu : 0 ≤ puse d[j] s2 ∧ puse d[j] s2 ≤ s2 := by unfold puse; split <;> omega
    have w2 : IntKind.i64.wrap (d[j].1 + pmv d[j] s2) = d[j].1 + pmv d[j] s2 := wrap_fit (by omega) (by omega)
    have w3 : IntKind.i64.wrap (s2 - puse d[j] s2) = s2 - puse d[j] s2 := wrap_fit (by omega) (by omega)
    obtain ⟨x1, hp1, nx1, p1, p2, p3, p4, p5⟩ := putR_call (hP.more (some ⟨88, 4, false, [encP d[j]]⟩)) (f := d[j].1) (t := d[j].1 + pmv d[j] s2) (v := d[j].2.2.2) (by omega)
    have qn : hp1 nx = some ⟨88, 4, false, [encP d[j]]⟩ := by rw [p4 nx (by omega) (hP.fresh (Nat.le_refl _))]; simp
    have hl1 := putR_len s1 d[j].1 (d[j].1 + pmv d[j] s2) d[j].2.2.2
    obtain ⟨x2, hp2, nx2, r1, r2, r3, r4, r5⟩ := putR_call p2 (f := d[j].1 + pmv d[j] s2) (t := d[j].2.1) (v := d[j].2.2.1) (by omega)
    have hO' : OwnS hp2 nx2 47 1 (σ 14) ((rampS d n k).map encRs) := hO.same (by omega) fun id a e => by
      have hid := hOid id a e
      rw [r4 id (by omega) (fun b e' => by have := p5 id b e'; omega), p4 id (by omega) (fun b => hne id a b e), upd_miss _ _ _ _ (by omega)]
    have hne' : ∀ id a b, σ 14 = .own id 0 a → x2 ≠ .own id 0 b := fun id a b e e' => by
      have := hOid id a e
      have := r5 id b e'
      omega
    have hst2 : rmL (d.take (j + 1)) m = (putR (putR s1 d[j].1 (d[j].1 + pmv d[j] s2) d[j].2.2.2) (d[j].1 + pmv d[j] s2) d[j].2.1 d[j].2.2.1, s2 - puse d[j] s2) := hst
    simp only [encP] at p1 qn
    by_cases hc : d[j].2.2.1 = d[j].2.2.2
    · have e1 : pmv d[j] s2 = d[j].2.1 - d[j].1 := by rw [pmv, if_pos hc]
      have e2 : puse d[j] s2 = 0 := by rw [puse, if_pos hc]
      have hc' : (d[j].2.2.1 != d[j].2.2.2) = false := by simp [hc]
      rw [e1] at p1 w2 r1
      simp [h2, h10, h11, h15, h65, h66, h67, h16, hjl, hc', w1, w2, hwk, p1, qn, r1]
      rw [hst2]
      refine ⟨hjl, hO', ?_, r2, hne'⟩
      rw [e2]; simp
    · have e1 : pmv d[j] s2 = min (d[j].2.1 - d[j].1) s2 := by rw [pmv, if_neg hc]
      have e2 : puse d[j] s2 = min (d[j].2.1 - d[j].1) s2 := by rw [puse, if_neg hc]
      have hc' : (d[j].2.2.1 != d[j].2.2.2) = true := by simpa using hc
      have hmin : (if s2 < d[j].2.1 - d[j].1 then s2 else d[j].2.1 - d[j].1) = pmv d[j] s2 := by rw [e1]; split <;> omega
      have w3' : IntKind.i64.wrap (s2 - pmv d[j] s2) = s2 - puse d[j] s2 := by rw [e1, ← e2]; exact w3
      simp [h2, h10, h11, h15, h65, h66, h67, h16, hjl, hc', w1, w2, w3', hmin, hwk, p1, qn, r1]
      rw [hst2]
      exact ⟨hjl, hO', rfl, r2, hne'⟩
  obtain rfl : j = d.length := by omega
  rw [List.take_length] at hP
  obtain ⟨t1, t2⟩ := rmL_ok (m := m) hq0 hline hpv
  have hln := rmL_length d m
  generalize (rmL d m).1 = s at hP hss hmem t1 hln
  rcases hP with ⟨_, rfl⟩ | ⟨hs0, id, hid, h17, hh⟩
  · cases t1
  rw [blkR, if_neg (by simpa using hs0)] at hh
  by_cases hbig : (200 : Int) < s.length
  · have hall : ¬ ∀ s ∈ rampS d n n.toNat, s.length ≤ 200 := fun h => by have := h s hmem; omega
    rw [rampL, if_neg hall]
    simp [h2, h10, h11, h15, h65, h66, h67, h17, hbig, Try.f31]
    exact ⟨_, by simp, stands_nilRs 2⟩
  · have hbs : ∀ nx, buildSliceA Try.prog hp nx 56 1 [(0, .own id 0 s.length)] = some (.own nx 0 1, upd (upd hp id none) nx (some ⟨47, 1, true, [encRs s]⟩), nx + 1) := fun nx => by
      have e : List.take s.length (s.map encR) = s.map encR := List.take_of_length_le (by simp)
      simp [buildSliceA, setElems, freezeParts, freezeVal, freezeCell, hh, e]
    have hO' : OwnS (upd hp id none) nx 47 1 (σ 14) ((rampS d n k).map encRs) := hO.same (Nat.le_refl _) fun i a e => by
      rw [upd_miss _ _ _ _ (fun e' => hne i a s.length e (by rw [e']; exact h17))]
    have hrl := rampS_length d n k
    have hap := hO'.append1 (P := Try.prog) (t := 56) (c := encRs s) el56 sz47 by47 ze47 rfl (by omega) (by rw [List.length_map, hrl]; unfold maxLen; omega) (by rw [List.length_map, hrl]; omega)
    have hwk : IntKind.i64.wrap ((k : Int) + 1 + 1) = (k : Int) + 1 + 1 := wrap_fit (by omega) (by omega)
    simp [h2, h10, h11, h15, h65, h66, h67, h17, hbig, hbs, hap, hwk]
    rw [hss]
    refine ⟨hlt, ?_, fun t ht => ?_⟩
    · rw [List.map_append, List.map_singleton]
      have := OwnS.after (hp := upd hp id none) (nx := nx) (e := 47) (s := 1) (v := σ 14) (xs := (rampS d n k).map encRs) (c := encRs s) (tmp := some ⟨47, 1, true, [encRs s]⟩)
      simpa using this
    · rcases List.mem_append.1 ht with ht | ht
      · exact hS t ht
      · obtain rfl : t = s := by simpa using ht
        omega
theorem Ramp_sound : SpecSound Try.prog 31 (hPure false [] (FRIN fun l w n => rsTup (rampR l w n))) :=
  pureG (fn := Try.f31) (good_of (q := []) mixed ⟨Reweigh_sound, by simp, withinF_sound, by simp, pieces_sound, by simp, putR_sound, by simp, trivial⟩ : AM.Good Crp _) ⟨_, Try.func31, by kernel_rfl, rfl, by kernel_rfl⟩ false [] _ fun args r h w S vs hz => by
    obtain ⟨⟨a, b, n⟩, rfl, _, rfl⟩ := specOf_inv h
    obtain ⟨r0, h1, h2⟩ := Ramp_eval a b n
    exact ⟨_, r0, hz, Nat.le_trans (Nat.le_refl 3) (by decide), h1, h2⟩
end Go.Proofs.Ytphmgjcjcdodhaa
