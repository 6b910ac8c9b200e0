/-
  Ranges: slices.Equal; the law FlagRampMovesOnce.
-/
import Derived.Test.YtphmgjcjcdodhaaRng9
namespace Go.Proofs.Ytphmgjcjcdodhaa
open Go.RowKit Go.AM

/-! ### slices.Equal -/
theorem eqR_drop {a b : List Rg} {k : Nat} (ha : k < a.length) (hb : k < b.length) : decide (a.drop k = b.drop k) = (decide (a[k] = b[k]) && decide (a.drop (k + 1) = b.drop (k + 1))) := by
  rw [List.drop_eq_getElem_cons ha, List.drop_eq_getElem_cons hb, ← Bool.decide_and]
  congr 1
  simp only [List.cons.injEq]
theorem binR (x y z u v w : Int) : binA Try.prog .neq 61 (.agg [int x, int y, int z]) (.agg [int u, int v, int w]) = some (boo (!(decide (x = u) && (decide (y = v) && decide (z = w))))) := by
  simp only [binA, fl61, eqCells, if_true, Option.map_some, Bool.and_true]
  rfl
theorem rg_ext {a b : Rg} : decide (a = b) = (decide (a.1 = b.1) && (decide (a.2.1 = b.2.1) && decide (a.2.2 = b.2.2))) := by
  simp [Prod.ext_iff]
set_option maxRecDepth 8000 in
theorem equalR_eval (a b : List Rg) (ha : a.length ≤ 100000) : evalPure C0 Try.f32 [.sl 3 (a.map encR), .sl 3 (b.map encR)] = some (boo (decide (a = b))) := by
  refine evalPure_of rfl ?_
  by_cases hl : a.length = b.length
  case neg =>
    have hl' : ((a.length : Int) != (b.length : Int)) = true := by simp; omega
    have hne : ¬ a = b := fun e => hl (by rw [e])
    simp [hl', hne, Try.f32]
  have hl' : ((a.length : Int) != (b.length : Int)) = false := by simp [hl]
  simp [hl']
  refine EvC_for (fun k σ hp nx => σ 0 = .sl 3 (a.map encR) ∧ σ 1 = .sl 3 (b.map encR) ∧ σ 12 = int a.length ∧ σ 13 = int k ∧ decide (a = b) = decide (a.drop k = b.drop k)) a.length
    ⟨by simp, by simp, by simp, by simp, by simp⟩ ?_
  rintro k σ hp nx hk ⟨h0, h1, h12, h13, hf⟩
  by_cases hlt : k < a.length
  · have hlt' : k < b.length := by omega
    have hw : IntKind.i64.wrap ((k : Int) + 1) = (k : Int) + 1 := wrap_fit (by omega) (by omega)
    rw [eqR_drop hlt hlt', rg_ext] at hf
    by_cases d1 : a[k].1 = b[k].1 <;> by_cases d2 : a[k].2.1 = b[k].2.1 <;> by_cases d3 : a[k].2.2 = b[k].2.2 <;> simp only [d1, d2, d3, decide_true, decide_false, Bool.and_true, Bool.true_and, Bool.and_false, Bool.false_and] at hf
    · simp [h0, h1, h12, h13, hlt, hlt', d1, d2, d3, hw, binR]
      exact ⟨hlt, by simpa using hf⟩
    all_goals simp [h0, h1, h12, h13, hlt, hlt', d1, d2, d3, hf, binR, Try.f32]
  · obtain rfl : k = a.length := by omega
    rw [List.drop_length, hl, List.drop_length] at hf
    simp [h0, h1, h12, h13, hf, Try.f32]
theorem equalR_sound : SpecSound Try.prog 32 (hPure false [] (FRR (fun a b => boo (decide (a = b))) fun a _ => a.length ≤ 100000)) :=
  pureS (fn := Try.f32) good0 ⟨_, Try.func32, by kernel_rfl, rfl, by kernel_rfl⟩ false [] _ fun args r h => by
    obtain ⟨⟨a, b⟩, rfl, hx, rfl⟩ := specOf_inv h
    exact ⟨Nat.le_trans (Nat.le_refl 2) (by decide), _, equalR_eval a b hx, up_of _⟩

/-! ### the way of a ramp -/
theorem rampR_cases (l : List Rg) (w : List Int) (n : Int) : (rampR l w n).2 ≠ 0 ∧ (rampR l w n).1 = [] ∨ RwOk l w ∧ (rwR l w).length ≤ 200 ∧ (1 ≤ n ∧ n ≤ 100) ∧ reweighR l w = (rwR l w, 0) ∧ (∀ s ∈ rampS (pcsR l (rwR l w)) n n.toNat, s.length ≤ 200) ∧ rampR l w n = (rampS (pcsR l (rwR l w)) n n.toNat, 0) := by
  rcases reweighR_cases l w with ⟨h1, h2⟩ | ⟨h1, h2, h3⟩
  · unfold rampR
    rw [if_neg h1]
    exact .inl ⟨h1, rfl⟩
  · unfold rampR
    rw [h3, if_pos rfl]
    split
    · rename_i hn
      unfold rampL
      split
      · rename_i hs
        exact .inr ⟨h1, h2, hn, rfl, hs, rfl⟩
      · exact .inl ⟨by simp, rfl⟩
    · exact .inl ⟨by simp, rfl⟩
/-- The ranges before a step. -/
def bfR (l : List Rg) (d : List Pc) (n : Int) (k : Nat) : List Rg := if k = 0 then l else (rmL d (ptot d * (k : Int) / n)).1
theorem rampS_get (l : List Rg) (d : List Pc) (n : Int) {N : Nat} (k : Nat) (hk : k < N) : (rampS d n N)[k]? = some (bfR l d n (k + 1)) := by
  unfold rampS bfR
  simp [hk]
def dcnt (a b : List Rg) : Int := cnt (fun x => atv a x != atv b x) 0 100000
structure WayOk (l t : List Rg) (d : List Pc) (n : Int) (N : Nat) : Prop where
  nN : n = N
  pos : 0 < N
  le : N ≤ 100
  cl : Chain 20 0 100000 none l
  ct : Chain 20 0 100000 none t
  ll : l.length ≤ 200
  pc : PcSpec l t 100000 d
  few : ∀ s ∈ rampS d n N, s.length ≤ 200
section
variable {l t : List Rg} {d : List Pc} {n : Int} {N : Nat} (h : WayOk l t d n N)
include h
theorem WayOk.m (k : Nat) (hk : k ≤ N) : 0 ≤ ptot d * (k : Int) / n ∧ ptot d * (k : Int) / n ≤ ptot d := by
  have hT := h.pc.line.ptot
  have h1 := h.nN
  have h2 := h.pos
  refine ⟨Int.ediv_nonneg (Int.mul_nonneg hT.1 (by omega)) (by omega), Int.ediv_le_of_le_mul (by omega) (Int.mul_le_mul_of_nonneg_left (by omega) hT.1)⟩
theorem WayOk.mono (k : Nat) (hk : k + 1 ≤ N) : ptot d * (k : Int) / n ≤ ptot d * ((k : Int) + 1) / n := by
  have hT := h.pc.line.ptot
  have h1 := h.nN
  have h2 := h.pos
  exact Int.ediv_le_ediv (by omega) (Int.mul_le_mul_of_nonneg_left (by omega) hT.1)
theorem WayOk.last : ptot d * (N : Int) / n = ptot d := by
  have h1 := h.nN
  have h2 := h.pos
  rw [h1]
  exact Int.mul_ediv_cancel _ (by omega)
theorem WayOk.bf (k : Nat) (hk : k ≤ N) : Chain 20 0 100000 none (bfR l d n k) ∧ (bfR l d n k).length ≤ 200 ∧ ∀ x, 0 ≤ x → x < 100000 → atv (bfR l d n k) x = stv d (ptot d * (k : Int) / n) x := by
  unfold bfR
  by_cases c : k = 0
  · subst c
    rw [if_pos rfl]
    refine ⟨h.cl, h.ll, fun x h1 h2 => ?_⟩
    have := (stv_first h.pc.line h.pc.same x h1 h2).1
    simp [this]
  · rw [if_neg c]
    have hv := pcs_vars h.cl h.ct h.pc
    obtain ⟨g1, g2⟩ := rmL_ok (h.m k hk).1 h.pc.line hv
    obtain ⟨j, rfl⟩ : ∃ j, k = j + 1 := ⟨k - 1, by omega⟩
    refine ⟨g1, h.few _ ?_, g2⟩
    have := rampS_mem (d := d) (n := n) (k := j) (j := N) (by omega)
    simpa using this
theorem WayOk.ok (k : Nat) (hk : k ≤ N) : rgFault (bfR l d n k) 20 = 0 := rgFault_of (h.bf k hk).1 (h.bf k hk).2.1
theorem WayOk.end_ : bfR l d n N = t := by
  refine chain_ext (h.bf N (Nat.le_refl _)).1 h.ct fun x h1 h2 => ?_
  rw [(h.bf N (Nat.le_refl _)).2.2 x h1 h2, h.last]
  exact (stv_first h.pc.line h.pc.same x h1 h2).2
theorem WayOk.one (k : Nat) (hk : k + 1 ≤ N) : dcnt (bfR l d n k) (bfR l d n (k + 1)) = ptot d * ((k : Int) + 1) / n - ptot d * (k : Int) / n := by
  unfold dcnt
  rw [cnt_congr (Q := fun x => stv d (ptot d * (k : Int) / n) x != stv d (ptot d * ((k : Int) + 1) / n) x) fun x h1 h2 => by rw [(h.bf k (by omega)).2.2 x h1 h2, (h.bf (k + 1) hk).2.2 x h1 h2]; simp]
  have := h.m (k + 1) hk
  exact stv_cnt (h.m k (by omega)).1 (h.mono k hk) (by simpa using this.2) h.pc.line
theorem WayOk.so (k : Nat) (hk : k ≤ N) : dcnt l (bfR l d n k) = ptot d * (k : Int) / n := by
  unfold dcnt
  rw [cnt_congr (Q := fun x => stv d 0 x != stv d (ptot d * (k : Int) / n) x) fun x h1 h2 => by rw [(h.bf k hk).2.2 x h1 h2, (stv_first h.pc.line h.pc.same x h1 h2).1]]
  have := h.m k hk
  rw [stv_cnt (Int.le_refl 0) this.1 this.2 h.pc.line]
  omega
end
theorem mv_facts {a b : List Rg} (ha : rgFault a 20 = 0) (hb : rgFault b 20 = 0) : ∃ m : List Rg, movedR a b = (m, 0) ∧ (RIn m ∧ m.length ≤ 100000) ∧ rsz m = dcnt a b := by
  have hcut := cut_of ha hb
  obtain ⟨⟨s1, s2⟩, _⟩ := pcsR_spec hcut
  have hml := mvL_length (pcsR a b)
  exact ⟨mvL (pcsR a b), movedR_ok ha hb, ⟨mvL_rin s1.line, by omega⟩, moved_size hcut⟩
theorem Moved_call {a b m : List Rg} (h : movedR a b = (m, 0)) (hp : Hp) (nx : Nat) : hPure false [] (FRR (fun a b => rgTup (movedR a b)) fun _ _ => True) [.sl 3 (a.map encR), .sl 3 (b.map encR)] hp nx = some (.tup [.sl 3 (m.map encR), int 0], hp, nx) := by
  rw [FRR_call (fun a b => rgTup (movedR a b)) (fun _ _ => True) a b hp nx trivial, h]
  rfl
theorem size_call {m : List Rg} {k : Int} (h : RIn m ∧ m.length ≤ 100000) (hk : rsz m = k) (hp : Hp) (nx : Nat) : hPure false [] (FR (fun l => int (rsz l)) fun l => RIn l ∧ l.length ≤ 100000) [.sl 3 (m.map encR)] hp nx = some (int k, hp, nx) := by
  rw [FR_call (fun l => int (rsz l)) (fun l => RIn l ∧ l.length ≤ 100000) m hp nx h, hk]
def qrmo : List FuncId := [32, 30]
noncomputable abbrev Crmo : Ctx := mkCtx Try.prog [(31, hPure false [] (FRIN fun l w n => rsTup (rampR l w n))), (27, hPure false [] (FRI (fun l w => rgTup (reweighR l w)) fun _ _ => True)), (29, hPure false [] (FRR (fun a b => rgTup (movedR a b)) fun _ _ => True)), (30, hPure false [] (FR (fun l => int (rsz l)) fun l => RIn l ∧ l.length ≤ 100000)), (32, hPure false [] (FRR (fun a b => boo (decide (a = b))) fun a _ => a.length ≤ 100000))]
theorem goodrmo : AM.Good Crmo (fun g => qrmo.contains g) := good_of mixed ⟨Ramp_sound, fun _ => hPure_quiet _ _, Reweigh_sound, fun _ => hPure_quiet _ _, Moved_sound, fun _ => hPure_quiet _ _, size3_sound, fun _ => hPure_quiet _ _, equalR_sound, fun _ => hPure_quiet _ _, trivial⟩
@[simp] theorem quietrmo_0 : QuietIn Crmo 32 := quietIn_of (by rfl) (hPure_quiet _ _)
@[simp] theorem quietrmo_1 : QuietIn Crmo 30 := quietIn_of (by rfl) (hPure_quiet _ _)
set_option maxRecDepth 8000 in
set_option maxHeartbeats 1600000 in
theorem rmo_eval (l : List Rg) (w : List Int) (n : Int) : evalPure Crmo Try.f7 [.sl 3 (l.map encR), .sl 1 (w.map encI), int n] = some (boo true) := by
  have c0 : ∀ hp nx, hPure false [] (FRIN fun l w n => rsTup (rampR l w n)) [.sl 3 (l.map encR), .sl 1 (w.map encI), int n] hp nx = some (.tup [.sl 1 ((rampR l w n).1.map encRs), int (rampR l w n).2], hp, nx) := fun hp nx => FRIN_call (fun l w n => rsTup (rampR l w n)) l w n hp nx
  have c1 : ∀ hp nx, hPure false [] (FRI (fun l w => rgTup (reweighR l w)) fun _ _ => True) [.sl 3 (l.map encR), .sl 1 (w.map encI)] hp nx = some (.tup [.sl 3 ((reweighR l w).1.map encR), int (reweighR l w).2], hp, nx) := fun hp nx => FRI_call (fun l w => rgTup (reweighR l w)) (fun _ _ => True) l w hp nx trivial
  refine evalPure_of rfl ?_
  rcases rampR_cases l w n with ⟨h1, h2⟩ | ⟨hok, hlen, hn, he, hfew, her⟩
  · have h1' : ((rampR l w n).2 != 0) = true := by simpa using h1
    simp [c0, h1', Try.f7]
  rw [he] at c1
  rw [her] at c0
  obtain ⟨f1, f2, f3⟩ := rw_facts hok
  have hcut := cut_of hok.1 (rgFault_of f1 hlen)
  obtain ⟨⟨s1, s2⟩, _⟩ := pcsR_spec hcut
  obtain ⟨N, hN⟩ : ∃ N : Nat, n = N := ⟨n.toNat, by omega⟩
  have hN' : n.toNat = N := by omega
  rw [hN'] at hfew c0
  obtain ⟨hcl, hll, _⟩ := rgFault_right hok.1
  have hW : WayOk l (rwR l w) (pcsR l (rwR l w)) n N := ⟨hN, by omega, by omega, hcl, f1, hll, s1, hfew⟩
  generalize rwR l w = t at c1 c0 hW hlen
  generalize pcsR l t = d at c0 hW
  have hend := hW.end_
  obtain ⟨all, a1, a2, a3⟩ := mv_facts hok.1 (hW.ok N (Nat.le_refl _))
  rw [hW.so N (Nat.le_refl _), hW.last] at a3
  rw [hend] at a1
  have m0 := Moved_call a1
  have z0 := size_call a2 a3
  have hT := hW.pc.line.ptot
  obtain ⟨N', rfl⟩ : ∃ N', N = N' + 1 := ⟨N - 1, by have := hW.pos; omega⟩
  have hle := hW.le
  have wn : IntKind.i64.wrap (n - 1) = (N' : Int) := by rw [wrap_fit (by omega) (by omega)]; omega
  have hget := rampS_get l d n (N := N' + 1) N' (by omega)
  rw [hend] at hget
  have hgets := rampS_get l d n (N := N' + 1)
  have hwl := rampS_length d n (N' + 1)
  have ceq : ∀ hp nx, hPure false [] (FRR (fun a b => boo (decide (a = b))) fun a _ => a.length ≤ 100000) [.sl 3 (t.map encR), .sl 3 (t.map encR)] hp nx = some (boo true, hp, nx) := fun hp nx => by
    rw [FRR_call (fun a b => boo (decide (a = b))) (fun a _ => a.length ≤ 100000) t t hp nx (by omega)]
    simp
  generalize rampS d n (N' + 1) = way at c0 hget hwl hgets
  have hwl' : (way.length : Int) = n := by rw [hwl, hN]
  simp [c0, c1, m0, wn, hwl', hget, ceq]
  refine EvC_for (fun k σ hp nx => σ 0 = .sl 3 (l.map encR) ∧ σ 2 = int n ∧ σ 10 = .sl 3 (all.map encR) ∧ σ 12 = .sl 3 ((bfR l d n k).map encR) ∧ σ 13 = int (ptot d * (k : Int) / n) ∧ σ 64 = .sl 1 (way.map encRs) ∧ σ 65 = int n ∧ σ 66 = int k) (N' + 1)
    ⟨by simp, by simp, by simp, by simp [bfR], by simp, by simp, by simp, by simp⟩ ?_
  rintro k σ hp nx hk ⟨h0, h2, h10, h12, h13, h64, h65, h66⟩
  by_cases hlt : k < N' + 1
  · have hkn : (k : Int) < n := by omega
    have hwk : IntKind.i64.wrap ((k : Int) + 1) = (k : Int) + 1 := wrap_fit (by omega) (by omega)
    have hg := hgets k hlt
    obtain ⟨one, b1, b2, b3⟩ := mv_facts (hW.ok k hk) (hW.ok (k + 1) hlt)
    rw [hW.one k hlt] at b3
    obtain ⟨so, e1, e2, e3⟩ := mv_facts hok.1 (hW.ok (k + 1) hlt)
    rw [hW.so (k + 1) hlt] at e3
    simp only [Int.natCast_add, Int.cast_ofNat_Int] at e3
    have m1 := Moved_call b1
    have m2 := Moved_call e1
    have z1 := size_call b2 b3
    have z2 := size_call e2 e3
    have hm0 : 0 ≤ ptot d * ((k : Int) + 1) := Int.mul_nonneg hT.1 (by omega)
    have hm1 : ptot d * ((k : Int) + 1) ≤ 100000 * 100 := Int.mul_le_mul (by omega) (by omega) (by omega) (by omega)
    have wm : IntKind.i64.wrap (ptot d * ((k : Int) + 1)) = ptot d * ((k : Int) + 1) := wrap_fit (by omega) (by omega)
    have htd : (ptot d * ((k : Int) + 1)).tdiv n = ptot d * ((k : Int) + 1) / n := Int.tdiv_eq_ediv_of_nonneg hm0
    have hq := hW.m (k + 1) hlt
    simp only [Int.natCast_add, Int.cast_ofNat_Int] at hq
    have wq : IntKind.i64.wrap (ptot d * ((k : Int) + 1) / n) = ptot d * ((k : Int) + 1) / n := wrap_fit (by omega) (by omega)
    have ws : IntKind.i64.wrap (ptot d * (k : Int) / n + (ptot d * ((k : Int) + 1) / n - ptot d * (k : Int) / n)) = ptot d * ((k : Int) + 1) / n := by rw [wrap_fit (by omega) (by omega)]; omega
    have hn0 : ¬ n = 0 := by omega
    simp [h0, h2, h10, h12, h13, h64, h65, h66, hkn, hwk, hg, m1, m2, z0, z1, z2, wm, htd, wq, ws, hn0]
    omega
  · obtain rfl : k = N' + 1 := by omega
    have hkn : ¬ ((N' : Int) + 1 < n) := by omega
    simp [h0, h2, h10, h12, h13, h64, h65, h66, hkn, Try.f7]
theorem rmo_known : KnownF Crmo (fun g => qrmo.contains g) 7 Try.f7 := ⟨_, Try.func7, by kernel_rfl, rfl, by kernel_rfl⟩
end Go.Proofs.Ytphmgjcjcdodhaa
