/-
  Ranges: the reference's reweigh, Reweigh, variationAt, cuts.
-/
import Derived.Test.YtphmgjcjcdodhaaRngRef2
import Derived.Test.YtphmgjcjcdodhaaRngRef3
import Derived.Test.YtphmgjcjcdodhaaSortI
namespace Go.Proofs.Ytphmgjcjcdodhaa
open Go.RowKit Go.AM

theorem line_take : ∀ {lo hi : Int} {l : List Rg}, Line lo hi l → ∀ (k : Nat) (h : k < l.length), Line lo l[k].1 (l.take k) := fun {lo hi l} hl k h => by
  have e : l = l.take k ++ l.drop k := (List.take_append_drop k l).symm
  rw [e] at hl
  obtain ⟨m, h1, h2⟩ := line_append.1 hl
  rw [List.drop_eq_getElem_cons h] at h2
  rw [h2.1]
  exact h1
noncomputable abbrev Crr : Ctx := mkCtx Try.prog [(97, hRun Ckp Try.f97), (98, hMove [] putRM)]
theorem goodkp : AM.Good Ckp (fun g => ([] : List FuncId).contains g) := good_of mixed ⟨rputR_sound, by simp, trivial⟩
theorem kept_known : KnownF Ckp (fun g => ([] : List FuncId).contains g) 97 Try.f97 := ⟨_, Try.func97, by kernel_rfl, rfl, by kernel_rfl⟩
set_option maxRecDepth 100000 in
theorem kept_sound : SpecSound Try.prog 97 (hRun Ckp Try.f97) := by
  obtain ⟨code, hk⟩ := kept_known
  exact hRun_sound goodkp hk
theorem refL_length : ∀ (l : List Rg) (s : List Rg × List Int), (l.foldl refS s).1.length ≤ s.1.length + 20 * l.length
  | [], s => by simp
  | r :: l, s => by
    have h1 := refL_length l (refS s r)
    have h2 : (refS s r).1.length ≤ s.1.length + 20 := by
      unfold refS
      split
      · have := putR_len s.1 r.1 r.2.1 r.2.2
        show (putR s.1 r.1 r.2.1 r.2.2).length ≤ _
        omega
      · have : ∀ (k : Nat) (t : Int) (s : List Rg × List Int × Int), (fillN t s k).1.length ≤ s.1.length + k := by
          intro k
          induction k with
          | zero => intro t s; exact Nat.le_refl _
          | succ k ih =>
            intro t s
            have h1 := ih t s
            have h2 := putR_len (fillN t s k).1 (fillN t s k).2.2 ((fillN t s k).2.2 + min (nd (fillN t s k).2.1 k) (t - (fillN t s k).2.2)) k
            show (putR (fillN t s k).1 (fillN t s k).2.2 ((fillN t s k).2.2 + min (nd (fillN t s k).2.1 k) (t - (fillN t s k).2.2)) k).length ≤ _
            omega
        exact this 20 r.2.1 (s.1, s.2, r.1)
    rw [List.foldl_cons, List.length_cons]
    omega
theorem fillN_length : ∀ (k : Nat) (t : Int) (s : List Rg × List Int × Int), (fillN t s k).1.length ≤ s.1.length + k
  | 0, t, s => Nat.le_refl _
  | k + 1, t, s => by
    have h1 := fillN_length k t s
    have h2 := putR_len (fillN t s k).1 (fillN t s k).2.2 ((fillN t s k).2.2 + min (nd (fillN t s k).2.1 k) (t - (fillN t s k).2.2)) k
    show (putR (fillN t s k).1 (fillN t s k).2.2 ((fillN t s k).2.2 + min (nd (fillN t s k).2.1 k) (t - (fillN t s k).2.2)) k).length ≤ _
    omega
theorem RInv.bound {κ : Int → Int} {w0 : List Int} {at_ : Int} {d : List Rg} {w : List Int} (h : RInv κ w0 at_ d w) (h0 : ∀ v, nd w0 v ≤ 100000) (v : Nat) : 0 ≤ nd w v ∧ nd w v ≤ 100000 := by
  refine ⟨h.pos v, ?_⟩
  by_cases c : v < 20
  · have := h.cnt v c
    have := cnt_pos (P := fun x => κ x == -1 && atv d x == (v : Int)) 0 at_
    have := h0 v
    omega
  · rw [nd_out (by have := h.len; omega)]; omega
set_option maxRecDepth 8000 in
set_option maxHeartbeats 1600000 in
theorem rreweigh_eval (l : List Rg) (w : List Int) (hok : RwOk l w) : ∃ r0, evalPure Crr Try.f70 [.sl 3 (l.map encR), .sl 1 (w.map encI)] = some r0 ∧ Stands r0 (.sl 3 ((refR l w).map encR)) := by
  obtain ⟨hl, hll, _⟩ := rgFault_right hok.1
  obtain ⟨hw, hws, hwl, _⟩ := wtFault_right hok.2
  have hmk : makeSliceA Try.prog (fun _ => none) 0 48 (int 20) (int 20) = some (.own 0 0 20, upd (fun _ => none) 0 (some ⟨3, 1, true, zeros.map encI⟩), 1) := by
    simp [makeSliceA, maxLen, zeros]
  have hcp : copyA Try.prog (upd (fun _ => none) 0 (some ⟨3, 1, true, zeros.map encI⟩)) 1 48 (.own 0 0 20) (.sl 1 (w.map encI)) = some (int w.length, upd (fun _ => none) 0 (some ⟨3, 1, true, (full w).map encI⟩), 1) := by
    have e0 : min w.length 20 = w.length := by omega
    have e1 : List.drop w.length (zeros.map encI) = (List.replicate (20 - w.length) 0).map encI := by rw [← List.map_drop]; unfold zeros; rw [List.drop_replicate]
    have e2 : zeros.length = 20 := by simp [zeros]
    have e3 : List.take w.length (w.map encI) = w.map encI := List.take_of_length_le (by simp)
    simp [copyA, AM.view, e0, e1, e2, e3, full]
  have hw0 : ∀ v, 0 ≤ nd (full w) v ∧ nd (full w) v ≤ 100000 := fun v => by
    rw [full_nd]
    by_cases h : v < w.length
    · rw [nd_at h]; exact hw _ (List.getElem_mem h)
    · rw [nd_out (by omega)]; omega
  have hfl := full_length hwl
  obtain ⟨x, hp1, nx1, e1, hK⟩ := kept_eval l (full w) hl hll hw0 hfl (hp0 := upd (fun _ => none) 0 (some ⟨3, 1, true, (full w).map encI⟩)) (nx0 := 1) (id := 0) (by omega) (by simp)
  have hrun : hRun Ckp Try.f97 [.sl 3 (l.map encR), .own 0 0 20] (upd (fun _ => none) 0 (some ⟨3, 1, true, (full w).map encI⟩)) 1 = some (x, hp1, nx1) := by
    have hnt : [PV.sl 3 (l.map encR), PV.own 0 0 20].length ≤ Try.f97.ntmps := Nat.le_trans (Nat.le_refl 2) (by decide)
    unfold hRun
    rw [if_pos hnt, e1]
  obtain ⟨k1, hkv, hkx, hI, _⟩ := ref_setup hok
  have hkl : (kpL l (full w)).1.length ≤ 400 := by have := kp_length l ([], full w); simp at this; show (kpL l (full w)).1.length ≤ 400; unfold kpL; omega
  have hw1 : ∀ v, nd (l.foldl keepW (full w)) v ≤ 100000 := by
    have : ∀ (l : List Rg) (w : List Int), (∀ r ∈ l, r.1 ≤ r.2.1) → (∀ v, 0 ≤ nd w v ∧ nd w v ≤ 100000) → ∀ v, nd (l.foldl keepW w) v ≤ 100000 := by
      intro l
      induction l with
      | nil => intro w _ h v; exact (h v).2
      | cons r l ih =>
        intro w hr h
        rw [List.foldl_cons]
        refine ih _ (fun s hs => hr s (by simp [hs])) fun v => ?_
        have := keepW_pos (r := r) (fun v => (h v).1) (hr r (by simp)) v
        have := h v
        omega
    exact this l (full w) (fun r hr => by have := (chain_line hl).mem r hr; omega) hw0
  have hrr : refR l w = (refL (kpL l (full w)).1 (l.foldl keepW (full w))).1 := rfl
  rw [hrr]
  obtain ⟨a1, a2, a3, a4, a5⟩ := hK
  generalize l.foldl keepW (full w) = W at a3 hI hw1 ⊢
  generalize kpv l (full w) = κ at hI hkx
  generalize (kpL l (full w)).1 = K at a2 k1 hkv hkx hkl ⊢
  have hK0 : K ≠ [] := by rintro rfl; cases k1
  rcases a2 with ⟨_, h⟩ | ⟨_, i18, hi1, hi2, hi3⟩
  · exact absurd h hK0
  rw [blkR, if_neg (by simpa using hK0)] at hi3
  subst hi2
  have hi18 : 1 ≤ i18 := a5 i18 _ rfl
  refine evalPureU_of rfl ?_
  simp [hmk, hcp, hrun]
  refine EvC_for (fun k σ hp nx => σ 5 = .own 0 0 20 ∧ σ 18 = .own i18 0 K.length ∧ σ 19 = int K.length ∧ σ 20 = int k ∧ i18 < nx ∧ hp i18 = some ⟨61, 3, true, K.map encR⟩ ∧ hp 0 = some ⟨3, 1, true, (refL (K.take k) W).2.map encI⟩ ∧ OwnRg hp nx (σ 6) (refL (K.take k) W).1 ∧ (∀ m, σ 6 ≠ .own 0 0 m) ∧ (∀ m, σ 6 ≠ .own i18 0 m)) K.length
    ⟨by simp, by simp, by simp, by simp, by simpa using hi1, by simpa using hi3, by simpa [refL] using a3, .inl (by simp [refL]), by simp, by simp⟩ ?_
  rintro k σ hp nx hk ⟨h5, h18, h19, h20, hnx, hb18, hb0, hO, hn0, hn18⟩
  by_cases hlt : k < K.length
  · have hwk : IntKind.i64.wrap ((k : Int) + 1) = (k : Int) + 1 := wrap_fit (by omega) (by omega)
    have hm := k1.mem _ (List.getElem_mem hlt)
    have hst := refL_step (w := W) hlt
    have hR := ref_ok hI (line_take k1 k hlt) (by omega) (fun r hr => hkv r (List.mem_of_mem_take hr)) (fun r hr => hkx r (List.mem_of_mem_take hr))
    have hR : RInv κ W K[k].1 (refL (K.take k) W).1 (refL (K.take k) W).2 := hR
    have hlen : (refL (K.take k) W).1.length ≤ 20 * (K.take k).length := by have := refL_length (K.take k) ([], W); simp only [List.length_nil, Nat.zero_add] at this; exact this
    have htk : (K.take k).length ≤ 400 := by rw [List.length_take]; omega
    have hkxk := hkx _ (List.getElem_mem hlt)
    have hkvk := hkv _ (List.getElem_mem hlt)
    unfold refS at hst
    generalize refL (K.take k) W = s at hb0 hO hR hlen hst
    obtain ⟨d, u⟩ := s
    simp only at hb0 hO hR hlen hst
    have n1 : ¬ nx = 0 := by omega
    have n2 : ¬ nx = i18 := by omega
    have n3 : ¬ i18 = nx := by omega
    have n4 : ¬ (0 : Nat) = nx := by omega
    have n5 : ¬ i18 = 0 := by omega
    have n6 : ¬ (0 : Nat) = i18 := by omega
    by_cases hc : 0 ≤ K[k].2.2
    · rw [if_pos hc] at hst
      obtain ⟨x1, hp2, nx2, p1, p2, p3, p4, p5⟩ := putR_call (hO.more (some ⟨61, 3, false, [encR K[k]]⟩)) (f := K[k].1) (t := K[k].2.1) (v := K[k].2.2) (by omega)
      simp only [encR] at p1
      simp [h5, h18, h19, h20, hlt, hb18, n3, hc, hwk, p1]
      rw [hst]
      refine ⟨hlt, by omega, ?_, ?_, p2, fun m e => ?_, fun m e => ?_⟩
      · rw [p4 i18 (by omega) hn18, upd_miss _ _ _ _ n3]; exact hb18
      · rw [p4 0 (by omega) hn0, upd_miss _ _ _ _ n4]; exact hb0
      · have := p5 0 m e; omega
      · have := p5 i18 m e; omega
    · rw [if_neg hc] at hst
      have hneg : K[k].2.2 = -1 := by omega
      have hfree : ∀ y, K[k].1 ≤ y → y < K[k].2.1 → κ y = -1 := fun y y1 y2 => by rw [hkxk y y1 y2]; exact hneg
      have hfs := hR.fills (t := K[k].2.1) (by omega) (by omega) hfree
      simp [h5, h18, h19, h20, hlt, hb18, n3, hc]
      refine EvC_for (fun v σ hp nx' => σ 5 = .own 0 0 20 ∧ σ 18 = .own i18 0 K.length ∧ σ 19 = int K.length ∧ σ 20 = int k ∧ σ 8 = .ref nx 0 0 ∧ σ 37 = .own 0 0 20 ∧ σ 38 = int 20 ∧ σ 39 = int v ∧ nx < nx' ∧ hp i18 = some ⟨61, 3, true, K.map encR⟩ ∧ hp nx = some ⟨61, 3, false, [encR K[k]]⟩ ∧ hp 0 = some ⟨3, 1, true, (fillN K[k].2.1 (d, u, K[k].1) v).2.1.map encI⟩ ∧ σ 9 = int (fillN K[k].2.1 (d, u, K[k].1) v).2.2 ∧ OwnRg hp nx' (σ 6) (fillN K[k].2.1 (d, u, K[k].1) v).1 ∧ (∀ m, σ 6 ≠ .own 0 0 m) ∧ (∀ m, σ 6 ≠ .own i18 0 m) ∧ (∀ m, σ 6 ≠ .own nx 0 m)) 20
        ⟨by simp [h5], by simp [h18], by simp [h19], by simp [h20], by simp, by simp [h5], by simp, by simp, by simp, by simpa [n3] using hb18, by simp, by simpa [n4, fillN] using hb0, by simp [fillN], by simpa [fillN] using hO.more _, by simpa using hn0, by simpa using hn18, by simpa using hO.fresh (Nat.le_refl _)⟩ ?_
      clear h5 h18 h19 h20 hb18 hb0 hO hn0 hn18 σ hp
      rintro v σ hp nx' hv ⟨h5, h18, h19, h20, h8, h37, h38, h39, hnx', hb18, hbx, hb0, h9, hO, hn0, hn18, hnn⟩
      by_cases hv20 : v < 20
      · have hwv : IntKind.i64.wrap ((v : Int) + 1) = (v : Int) + 1 := wrap_fit (by omega) (by omega)
        obtain ⟨q1, q2, q3⟩ := hfs v hv
        have hfl2 := fillN_length v K[k].2.1 (d, u, K[k].1)
        have hbd := q1.bound hw1 v
        have hul := q1.len
        have hfs1 : fillN K[k].2.1 (d, u, K[k].1) (v + 1) = fillS K[k].2.1 (fillN K[k].2.1 (d, u, K[k].1) v) v := rfl
        unfold fillS at hfs1
        generalize fillN K[k].2.1 (d, u, K[k].1) v = s at hb0 h9 hO q1 q2 hfl2 hbd hul hfs1
        obtain ⟨e, g, a⟩ := s
        simp only at hb0 h9 hO q2 hfl2 hbd hul hfs1
        have hvl : v < g.length := by omega
        rw [nd_at hvl] at hbd hfs1
        obtain ⟨n, hn⟩ : ∃ n, min g[v] (K[k].2.1 - a) = n := ⟨_, rfl⟩
        have hmin : (if K[k].2.1 - a < g[v] then K[k].2.1 - a else g[v]) = n := by split <;> omega
        have w1 : IntKind.i64.wrap (K[k].2.1 - a) = K[k].2.1 - a := wrap_fit (by omega) (by omega)
        have w2 : IntKind.i64.wrap (g[v] - n) = g[v] - n := wrap_fit (by omega) (by omega)
        have w3 : IntKind.i64.wrap (a + n) = a + n := wrap_fit (by omega) (by omega)
        have hv20' : (v : Int) < 20 := by omega
        have hO' : OwnRg (upd hp 0 (some ⟨3, 1, true, (g.set v (g[v] - n)).map encI⟩)) nx' (σ 6) e := hO.upd hn0
        obtain ⟨x1, hp2, nx2, p1, p2, p3, p4, p5⟩ := putR_call hO' (f := a) (t := a + n) (v := v) (by omega)
        rw [List.map_set] at p1
        simp [h5, h18, h19, h20, h8, h37, h38, h39, h9, hbx, hb0, hv20, hv20', hvl, hul, n1, w1, w2, w3, hmin, hwv, p1]
        rw [hfs1, hn]
        refine ⟨by omega, by omega, ?_, ?_, ?_, rfl, p2, fun m e => ?_, fun m e => ?_, fun m e => ?_⟩
        · rw [p4 i18 (by omega) hn18, upd_miss _ _ _ _ n5]; exact hb18
        · rw [p4 nx (by omega) hnn, upd_miss _ _ _ _ n1]; exact hbx
        · rw [p4 0 (by omega) hn0]; simp
        · have := p5 0 m e; omega
        · have := p5 i18 m e; omega
        · have := p5 nx m e; omega
      · obtain rfl : v = 20 := by omega
        generalize fillN K[k].2.1 (d, u, K[k].1) 20 = s at hst hb0 h9 hO
        simp [h5, h18, h19, h20, h8, h37, h38, h39, h9, hwk]
        rw [hst]
        exact ⟨hlt, by omega, hb18, hb0, hO, hn0, hn18⟩
  · obtain rfl : k = K.length := by omega
    rw [List.take_length] at hO
    simp [h5, h18, h19, h20, Try.f70]
    obtain ⟨r0, q1, q2⟩ := hO.ownS.freeze nx
    exact ⟨r0, q1, fun w S u hr => up_rep hr q2⟩
theorem rreweigh_sound : SpecSound Try.prog 70 (hPure false [] (FRI (fun l w => .sl 3 ((rwR l w).map encR)) RwOk)) :=
  pureG (fn := Try.f70) (good_of (q := []) mixed ⟨kept_sound, by simp, rputR_sound, by simp, trivial⟩ : AM.Good Crr _) ⟨_, Try.func70, by kernel_rfl, rfl, by kernel_rfl⟩ false [] _ fun args r h w S vs hz => by
    obtain ⟨⟨a, b⟩, rfl, hx, rfl⟩ := specOf_inv h
    obtain ⟨r0, h1, h2⟩ := rreweigh_eval a b hx
    rw [ref_eq hx] at h2
    exact ⟨_, r0, hz, Nat.le_trans (Nat.le_refl 2) (by decide), h1, h2⟩
noncomputable abbrev CrRw : Ctx := mkCtx Try.prog [(68, hPure false [] (FRN (fun l n => int (rgFault l n)) fun _ n => 1 ≤ n ∧ n ≤ 20)), (69, hPure false [] (FI (fun l => int (wtFault l)) fun _ => True)), (70, hPure false [] (FRI (fun l w => .sl 3 ((rwR l w).map encR)) RwOk))]
set_option maxRecDepth 8000 in
theorem rReweigh_eval (l : List Rg) (w : List Int) : ∃ r0, evalPure CrRw Try.f33 [.sl 3 (l.map encR), .sl 1 (w.map encI)] = some r0 ∧ Stands r0 (rgTup (reweighR l w)) := by
  refine evalPureU_of rfl ?_
  have c1 := fun hp nx => FRN_call (fun l n => int (rgFault l n)) (fun _ n => 1 ≤ n ∧ n ≤ 20) l 20 hp nx (by omega)
  have c2 := fun hp nx => FI_call (fun l => int (wtFault l)) (fun _ => True) w hp nx trivial
  unfold reweighR
  by_cases hf : rgFault l 20 = 0
  · rw [if_pos hf]
    by_cases hg : wtFault w = 0
    · rw [if_pos hg]
      have c3 := fun hp nx => FRI_call (fun l w => .sl 3 ((rwR l w).map encR)) RwOk l w hp nx ⟨hf, hg⟩
      generalize rwR l w = d at c3
      by_cases hc : (200 : Int) < d.length
      · rw [if_pos hc]
        simp [c1, c2, c3, hf, hg, hc, Try.f33]
        exact ⟨_, by simp, stands_nilR 2⟩
      · rw [if_neg hc]
        simp [c1, c2, c3, hf, hg, hc, Try.f33]
        exact ⟨rgTup (d, 0), by simp [rgTup], .refl _⟩
    · have hg' : (wtFault w != 0) = true := by simpa using hg
      rw [if_neg hg]
      simp [c1, c2, hf, hg', Try.f33]
      exact ⟨_, by simp, stands_nilR _⟩
  · have hf' : (rgFault l 20 != 0) = true := by simpa using hf
    rw [if_neg hf]
    simp [c1, hf', Try.f33]
    exact ⟨_, by simp, stands_nilR _⟩
theorem rReweigh_sound : SpecSound Try.prog 33 (hPure false [] (FRI (fun l w => rgTup (reweighR l w)) fun _ _ => True)) :=
  pureG (fn := Try.f33) (good_of (q := []) mixed ⟨rcheckRanges_sound, by simp, rcheckWeights_sound, by simp, rreweigh_sound, by simp, trivial⟩ : AM.Good CrRw _) ⟨_, Try.func33, by kernel_rfl, rfl, by kernel_rfl⟩ false [] _ fun args r h w S vs hz => by
    obtain ⟨⟨a, b⟩, rfl, _, rfl⟩ := specOf_inv h
    obtain ⟨r0, h1, h2⟩ := rReweigh_eval a b
    exact ⟨_, r0, hz, Nat.le_trans (Nat.le_refl 2) (by decide), h1, h2⟩
/-! ### variationAt -/
theorem varAt_drop {l : List Rg} {k : Nat} (h : k < l.length) (x : Int) : varAt (l.drop k) x = if l[k].1 ≤ x ∧ x < l[k].2.1 then l[k].2.2 else varAt (l.drop (k + 1)) x := by
  rw [List.drop_eq_getElem_cons h, varAt]
set_option maxRecDepth 8000 in
theorem varAt_eval (l : List Rg) (x : Int) (hl : l.length ≤ 100000) : evalPure C0 Try.f100 [.sl 3 (l.map encR), int x] = some (int (varAt l x)) := by
  refine evalPure_of rfl ?_
  simp
  refine EvC_for (fun k σ hp nx => σ 1 = int x ∧ σ 7 = .sl 3 (l.map encR) ∧ σ 8 = int l.length ∧ σ 9 = int k ∧ varAt l x = varAt (l.drop k) x) l.length
    ⟨by simp, by simp, by simp, by simp, by simp⟩ ?_
  rintro k σ hp nx hk ⟨h1, h7, h8, h9, hf⟩
  by_cases hlt : k < l.length
  · have hw : IntKind.i64.wrap ((k : Int) + 1) = (k : Int) + 1 := wrap_fit (by omega) (by omega)
    rw [varAt_drop hlt] at hf
    by_cases c1 : l[k].1 ≤ x <;> by_cases c2 : x < l[k].2.1 <;> simp only [c1, c2, and_self, and_true, and_false, if_true, if_false] at hf
    · simp [h1, h7, h8, h9, hlt, c1, c2, hf, Try.f100]
    all_goals
      simp [h1, h7, h8, h9, hlt, c1, c2, hw]
      exact ⟨hlt, hf⟩
  · obtain rfl : k = l.length := by omega
    rw [List.drop_length, varAt] at hf
    simp [h1, h7, h8, h9, hf, Try.f100]
theorem varAt_sound : SpecSound Try.prog 100 (hPure false [] (FRN (fun l x => int (varAt l x)) fun l _ => l.length ≤ 100000)) :=
  pureS (fn := Try.f100) good0 ⟨_, Try.func100, by kernel_rfl, rfl, by kernel_rfl⟩ false [] _ fun args r h => by
    obtain ⟨⟨l, n⟩, rfl, hn, rfl⟩ := specOf_inv h
    exact ⟨Nat.le_trans (Nat.le_refl 2) (by decide), _, varAt_eval l n hn, up_of _⟩
end Go.Proofs.Ytphmgjcjcdodhaa
