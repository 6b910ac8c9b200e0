/-
  Ranges: the sort; reweigh.
  Ranges: reweigh.
  Ranges: Reweigh, Split, awake.
-/
import Derived.Test.YtphmgjcjcdodhaaRng4
import Derived.Test.YtphmgjcjcdodhaaSpan9
namespace Go.Proofs.Ytphmgjcjcdodhaa
open Go.RowKit Go.AM

noncomputable def FRG (out : Rg → Rg → PV) : List PV → Option PV := specOf (α := Rg × Rg) (fun a => [.agg (encR a.1), .agg (encR a.2)]) (fun _ => True) (fun a => out a.1 a.2)
theorem FRG_call (out : Rg → Rg → PV) (a b : Rg) (hp : Hp) (nx : Nat) : hPure false [] (FRG out) [.agg (encR a), .agg (encR b)] hp nx = some (out a b, hp, nx) :=
  hPure_v rfl (specOf_eq (enc := fun a : Rg × Rg => [PV.agg (encR a.1), PV.agg (encR a.2)]) (a := (a, b)) (fun a b e => by
    obtain ⟨a1, a2⟩ := a; obtain ⟨b1, b2⟩ := b
    simp only [List.cons.injEq, and_true, PV.agg.injEq] at e
    simp only [Prod.mk.injEq]
    exact ⟨encR_inj (by simpa using e.1), encR_inj (by simpa using e.2)⟩) trivial) (.inr rfl)
def SmallR (l : List Rg) : Prop := ∀ s ∈ l, 0 ≤ s.1 ∧ s.1 ≤ 100000
theorem cmpR_sound : SpecSound Try.prog 96 (hPure false [] (FRG fun a b => int (IntKind.i64.wrap (a.1 - b.1)))) :=
  pureS (fn := Try.f96) good0 ⟨_, Try.func96, by kernel_rfl, rfl, by kernel_rfl⟩ false [] _ fun args r h => by
    obtain ⟨⟨a, b⟩, rfl, _, rfl⟩ := specOf_inv h
    exact ⟨Nat.le_trans (Nat.le_refl 2) (by decide), _, evalPure_of rfl (by simp [Try.f96]), up_of _⟩
def cfR (x y : List PV) : Int := IntKind.i64.wrap (fromOf x - fromOf y)
def domR (x : List PV) : Prop := ∃ s : Rg, x = encR s ∧ 0 ≤ s.1 ∧ s.1 ≤ 100000
theorem cmpR_ok : CmpOk Try.prog 96 3 cfR domR :=
  ⟨fun args w => enters_of Try.func96 (by kernel_rfl) rfl args w, _, cmpR_sound, fun x y _ _ hx hy => by
    obtain ⟨a, rfl, _⟩ := hx
    obtain ⟨b, rfl, _⟩ := hy
    exact FRG_call _ a b _ _⟩
theorem sortR_sound : SpecSound Try.prog 95 (hSort 3 96 cfR domR) :=
  hSort_sound (by omega) ⟨_, Try.func95, by decide, by kernel_rfl⟩ Try.sortR_ok cmpR_ok
theorem cfR_eq {a b : Rg} (ha : 0 ≤ a.1 ∧ a.1 ≤ 100000) (hb : 0 ≤ b.1 ∧ b.1 ≤ 100000) : cfR (encR a) (encR b) = a.1 - b.1 := by
  show IntKind.i64.wrap (a.1 - b.1) = _
  exact wrap_fit (by omega) (by omega)
theorem weakR {l : List Rg} (h : ∀ s ∈ l, 0 ≤ s.1 ∧ s.1 ≤ 100000) : WeakOn cfR (l.map encR) where
  irrefl x hx := by
    obtain ⟨s, hs, rfl⟩ := List.mem_map.1 hx
    rw [cfR_eq (h s hs) (h s hs)]; omega
  trans x hx y hy z hz h1 h2 := by
    obtain ⟨a, ha, rfl⟩ := List.mem_map.1 hx
    obtain ⟨b, hb, rfl⟩ := List.mem_map.1 hy
    obtain ⟨c, hc, rfl⟩ := List.mem_map.1 hz
    rw [cfR_eq (h _ ha) (h _ hb)] at h1
    rw [cfR_eq (h _ hb) (h _ hc)] at h2
    rw [cfR_eq (h _ ha) (h _ hc)]
    omega
  ntrans x hx y hy z hz h1 h2 := by
    obtain ⟨a, ha, rfl⟩ := List.mem_map.1 hx
    obtain ⟨b, hb, rfl⟩ := List.mem_map.1 hy
    obtain ⟨c, hc, rfl⟩ := List.mem_map.1 hz
    rw [cfR_eq (h _ ha) (h _ hb)] at h1
    rw [cfR_eq (h _ hb) (h _ hc)] at h2
    rw [cfR_eq (h _ ha) (h _ hc)]
    omega
theorem sortL_ranges {l : List Rg} (h : ∀ s ∈ l, 0 ≤ s.1 ∧ s.1 ≤ 100000) : ∃ m : List Rg, sortL cfR (l.map encR) = m.map encR ∧ m.Perm l ∧ m.Pairwise (fun a b => a.1 ≤ b.1) := by
  obtain ⟨m, h1, h2⟩ := perm_map_inv (sortL_perm (weakR h))
  refine ⟨m, h2, h1, ?_⟩
  have h3 := sortL_sorted (weakR h)
  rw [h2, List.pairwise_map] at h3
  refine h3.imp_of_mem fun {a b} ha hb hab => ?_
  rw [cfR_eq (h _ (h1.mem_iff.1 hb)) (h _ (h1.mem_iff.1 ha))] at hab
  omega
theorem sortR_call {l m : List Rg} (h : SmallR l) (hl : l.length ≤ 100000) (hm : sortL cfR (l.map encR) = m.map encR) {hp : Hp} {nx : Nat} {v : PV} (hO : OwnS hp nx 61 3 v (l.map encR)) :
    ∃ hp', hSort 3 96 cfR domR [v, .fn (.func 96) [] []] hp nx = some (.tup [], hp', nx) ∧ OwnS hp' nx 61 3 v (m.map encR) := by
  rcases hO with ⟨rfl, h0⟩ | ⟨id, hid, rfl, hh⟩
  · refine ⟨hp, rfl, .inl ⟨rfl, ?_⟩⟩
    rw [← hm, h0]
    rfl
  · by_cases hz : l = []
    · subst hz
      have : m = [] := by
        have : (m.map encR) = [] := by rw [← hm]; rfl
        simpa using this
      subst this
      exact ⟨hp, rfl, .inr ⟨id, hid, rfl, hh⟩⟩
    · have hne : ¬ (l.map encR).length = 0 := by simpa using hz
      have hml : (m.map encR).length = (l.map encR).length := by rw [← hm, sortL_length (weakR h)]
      refine ⟨upd hp id (some ⟨61, 3, true, m.map encR⟩), ?_, .inr ⟨id, hid, by rw [hml], by simp⟩⟩
      show (if (l.map encR).length = 0 then _ else _) = _
      rw [if_neg hne, hh]
      simp only
      have e1 : ((l.map encR).drop 0).take (l.map encR).length = l.map encR := by rw [List.drop_zero, List.take_length]
      have e2 : (l.map encR).drop (0 + (l.map encR).length) = [] := by rw [Nat.zero_add, List.drop_length]
      rw [e1, e2, if_pos ⟨rfl, rfl, rfl, by simp, by simp; omega, weakR h, fun x hx => by
        obtain ⟨s, hs, rfl⟩ := List.mem_map.1 hx
        exact ⟨s, rfl, h s hs⟩⟩, hm]
      simp
end Go.Proofs.Ytphmgjcjcdodhaa
namespace Go.Proofs.Ytphmgjcjcdodhaa
open Go.RowKit Go.AM

noncomputable abbrev Crw : Ctx := mkCtx Try.prog [(67, hMove [] putRM), (95, hSort 3 96 cfR domR)]
def zeros : List Int := List.replicate 20 0
theorem sz_pos {v : Nat} : ∀ {l : List Rg}, (∀ r ∈ l, r.1 ≤ r.2.1) → 0 ≤ sz v l
  | [], _ => Int.le_refl _
  | r :: l, h => by
    have h1 := sz_pos (v := v) (l := l) fun r hr => h r (by simp [hr])
    have h2 := h r (by simp)
    show 0 ≤ szf v r + sz v l
    unfold szf
    split <;> omega
theorem OwnRg.upd {hp : Hp} {nx : Nat} {x : PV} {d : List Rg} (h : OwnRg hp nx x d) {i : Nat} (hi : ∀ m, x ≠ .own i 0 m) {b : Option Blk} : OwnRg (AM.upd hp i b) nx x d := by
  rcases h with h | ⟨hd, id, h1, h2, h3⟩
  · exact .inl h
  · exact .inr ⟨hd, id, h1, h2, by rw [upd_miss _ _ _ _ (fun e => hi d.length (by rw [← e]; exact h2))]; exact h3⟩
theorem OwnRg.fresh {hp : Hp} {nx : Nat} {x : PV} {d : List Rg} (h : OwnRg hp nx x d) {i : Nat} (hi : nx ≤ i) : ∀ m, x ≠ .own i 0 m := by
  rcases h with ⟨h, _⟩ | ⟨hd, id, h1, h2, h3⟩
  · intro m e; rw [h] at e; cases e
  · intro m e; rw [h2] at e; injection e with e; omega
theorem OwnRg.same {hp hp' : Hp} {nx nx' : Nat} {x : PV} {d : List Rg} (h : OwnRg hp nx x d) (hn : nx ≤ nx') (hh : ∀ id n, x = .own id 0 n → hp' id = hp id) : OwnRg hp' nx' x d := by
  rcases h with h | ⟨hd, id, h1, h2, h3⟩
  · exact .inl h
  · exact .inr ⟨hd, id, by omega, h2, by rw [hh id _ h2]; exact h3⟩
def boxSz : Option Blk → Nat
  | some ⟨_, _, _, [[.v (.int _ f), .v (.int _ t), _]]⟩ => (t - f).toNat
  | _ => 0
/-- The weights, filled up to twenty. -/
def full (w : List Int) : List Int := w ++ List.replicate (20 - w.length) 0
/-- What reweighing makes. -/
def RwSpec (l : List Rg) (w : List Int) (d : List Rg) : Prop := ∃ (p : Option Int) (w1 w2 : List Int) (K F Fl S : List Rg) (v : Nat), KInv l (full w) l 100000 p w1 K F ∧ FInv l (full w) K F w2 v Fl [] ∧ S.Perm (K ++ Fl) ∧ (S.Pairwise fun a b => a.1 ≤ b.1) ∧ d = putsL [] S
theorem full_length {w : List Int} (h : w.length ≤ 20) : (full w).length = 20 := by simp [full]; omega
theorem full_nd {w : List Int} (v : Nat) : nd (full w) v = nd w v := by
  unfold full nd
  simp only [List.getD_eq_getElem?_getD]
  by_cases h : v < w.length
  · rw [List.getElem?_append_left h]
  · rw [List.getElem?_append_right (by omega), List.getElem?_eq_none (l := w) (by omega), List.getElem?_replicate]
    split <;> rfl
set_option maxRecDepth 8000 in
theorem reweigh_eval (l : List Rg) (w : List Int) (hl : Chain 20 0 100000 none l) (hll : l.length ≤ 200) (hw : ∀ n ∈ w, 0 ≤ n ∧ n ≤ 100000) (hws : w.sum = 100000) (hwl : w.length ≤ 20) : ∃ d : List Rg, RwSpec l w d ∧ ∃ r0, evalPure Crw Try.f63 [.sl 3 (l.map encR), .sl 1 (w.map encI)] = some r0 ∧ Stands r0 (.sl 3 (d.map encR)) := by
  have hfin : ∀ {code}, Try.f63.body = some code → EvC Crw code ⟨startσ [.sl 3 (l.map encR), .sl 1 (w.map encI)], fun _ => none, 0⟩ (retK Crw.P Try.f63 (fun x hp nx => ∃ d, RwSpec l w d ∧ pureN (.sl 3 (d.map encR)) x hp nx)) → ∃ d : List Rg, RwSpec l w d ∧ ∃ r0, evalPure Crw Try.f63 [.sl 3 (l.map encR), .sl 1 (w.map encI)] = some r0 ∧ Stands r0 (.sl 3 (d.map encR)) := by
    intro code hb h
    obtain ⟨x, hp', nx', h1, d, h2, r0, h3, h4⟩ := evalFunc_of hb h
    exact ⟨d, h2, r0, by unfold evalPure; simp only [h1]; exact h3, fun w S u hr => up_rep hr h4⟩
  refine hfin rfl ?_
  have hmk : makeSliceA Try.prog (fun _ => none) 0 48 (int 20) (int 20) = some (.own 0 0 20, upd (fun _ => none) 0 (some ⟨3, 1, true, zeros.map encI⟩), 1) := by
    simp [makeSliceA, maxLen, zeros]
  have hcp : copyA Try.prog (upd (fun _ => none) 0 (some ⟨3, 1, true, zeros.map encI⟩)) 1 48 (.own 0 0 20) (.sl 1 (w.map encI)) = some (int w.length, upd (fun _ => none) 0 (some ⟨3, 1, true, (full w).map encI⟩), 1) := by
    have e0 : min w.length 20 = w.length := by omega
    have e1 : List.drop w.length (zeros.map encI) = (List.replicate (20 - w.length) 0).map encI := by rw [← List.map_drop]; unfold zeros; rw [List.drop_replicate]
    have e2 : zeros.length = 20 := by simp [zeros]
    have e3 : List.take w.length (w.map encI) = w.map encI := List.take_of_length_le (by simp)
    simp [copyA, AM.view, e0, e1, e2, e3, full]
  simp [hmk, hcp]
  have hfl := full_length hwl
  have hw0 : ∀ v, 0 ≤ nd (full w) v ∧ nd (full w) v ≤ 100000 := fun v => by
    rw [full_nd]
    by_cases h : v < w.length
    · rw [nd_at h]; exact hw _ (List.getElem_mem h)
    · rw [nd_out (by omega)]; omega
  have hfs : (full w).sum = 100000 := by
    unfold full
    rw [List.sum_append, hws]
    simp
  have hline := chain_line hl
  generalize hW : full w = W at hfl hw0 hfs
  refine EvC_for (fun k σ hp nx => σ 5 = .own 0 0 20 ∧ σ 22 = .sl 3 (l.map encR) ∧ σ 23 = int l.length ∧ σ 24 = int k ∧ 0 < nx ∧ ∃ (at_ : Int) (p : Option Int) (u : List Int) (K F : List Rg), hp 0 = some ⟨3, 1, true, u.map encI⟩ ∧ OwnRg hp nx (σ 6) K ∧ OwnS hp nx 61 3 (σ 7) (F.map encR) ∧ (∀ m, σ 6 ≠ .own 0 0 m) ∧ (∀ m, σ 7 ≠ .own 0 0 m) ∧ (∀ id m n, σ 6 = .own id 0 m → σ 7 ≠ .own id 0 n) ∧ KInv l W (l.take k) at_ p u K F ∧ Chain 20 at_ 100000 p (l.drop k) ∧ K.length ≤ k ∧ F.length ≤ k) l.length
    ⟨by simp, by simp, by simp, by simp, by simp, 0, none, W, [], [], by simp, .inl (by simp), .inl (by simp), by simp, by simp, by simp, by simpa using KInv.begin fun v => (hw0 v).1, hl, by simp, by simp⟩ ?_
  rintro k σ hp nx hk ⟨h5, h22, h23, h24, hnx, at_, p, u, K, F, hh, hK, hF, a1, a2, a3, hI, hC, hKl, hFl⟩
  by_cases hlt : k < l.length
  · have hwk : IntKind.i64.wrap ((k : Int) + 1) = (k : Int) + 1 := wrap_fit (by omega) (by omega)
    rw [List.drop_eq_getElem_cons hlt] at hC
    obtain ⟨g1, g2, g3, g4, g5, g6, g7⟩ := hC
    have hb := hline.mem _ (List.getElem_mem hlt)
    obtain ⟨v, hv1⟩ : ∃ v : Nat, l[k].2.2 = v := ⟨l[k].2.2.toNat, by omega⟩
    have hul : u.length = 20 := by rw [hI.len]; exact hfl
    have hvl : v < u.length := by omega
    have hst := hI.step (r := l[k]) ⟨g1, g2, g4, by omega, g6⟩ (fun x h1 h2 => hline.atv _ (List.getElem_mem hlt) x h1 h2) (fun v => sz_pos fun r hr => by have := hline.mem r (List.mem_of_mem_take hr); omega) (fun x h1 h2 => by rw [kpv_at hline W k hlt x h1 h2, ← hI.wst])
    rw [← List.take_succ_eq_append_getElem hlt] at hst
    have hbu : 0 ≤ u[v] ∧ u[v] ≤ 100000 := by
      have e1 := hI.need v
      have e2 := hI.pos v
      have e3 := hw0 v
      have e4 : 0 ≤ sz v K := by
        have := hI.got v
        have : 0 ≤ sz v (l.take k) := sz_pos fun r hr => by have := hline.mem r (List.mem_of_mem_take hr); omega
        omega
      rw [nd_at hvl] at e1 e2
      omega
    obtain ⟨st, hst1⟩ : ∃ st, min u[v] (l[k].2.1 - l[k].1) = st := ⟨_, rfl⟩
    have hmin : (if l[k].2.1 - l[k].1 < u[v] then l[k].2.1 - l[k].1 else u[v]) = st := by split <;> omega
    have w1 : IntKind.i64.wrap (l[k].2.1 - l[k].1) = l[k].2.1 - l[k].1 := wrap_fit (by omega) (by omega)
    have w2 : IntKind.i64.wrap (u[v] - st) = u[v] - st := wrap_fit (by omega) (by omega)
    have w3 : IntKind.i64.wrap (l[k].1 + st) = l[k].1 + st := wrap_fit (by omega) (by omega)
    have hnv : nd u l[k].2.2.toNat = u[v] := by rw [hv1, Int.toNat_natCast, nd_at hvl]
    have hKW : keepW u l[k] = u.set v (u[v] - st) := by unfold keepW; rw [hnv, hst1, hv1]; rfl
    have hKK : keepK u K l[k] = putR K l[k].1 (l[k].1 + st) v := by unfold keepK; rw [hnv, hst1, hv1]
    have hKF : keepF u F l[k] = if l[k].1 + st < l[k].2.1 then F ++ [(l[k].1 + st, l[k].2.1, 0)] else F := by unfold keepF; rw [hnv, hst1]
    rw [hKW, hKK, hKF] at hst
    have n0 : ¬ (0 : Nat) = nx := by omega
    have n1 : ¬ nx = 0 := by omega
    have hv20 : v < 20 := by omega
    have hhp : OwnRg (upd (upd hp nx (some ⟨61, 3, false, [[int l[k].1, int l[k].2.1, int v]]⟩)) 0 (some ⟨3, 1, true, (u.set v (u[v] - st)).map encI⟩)) (nx + 1) (σ 6) K := (hK.more _).upd a1
    obtain ⟨x', hp', nx', p1, p2, p3, p4, p5⟩ := putR_call hhp (f := l[k].1) (t := l[k].1 + st) (v := v) (by omega)
    have q0 : hp' 0 = some ⟨3, 1, true, (u.set v (u[v] - st)).map encI⟩ := by rw [p4 0 (by omega) a1]; simp
    have qn : hp' nx = some ⟨61, 3, false, [[int l[k].1, int l[k].2.1, int v]]⟩ := by rw [p4 nx (by omega) (hK.fresh (Nat.le_refl _))]; simp [n1]
    have hF' : OwnS hp' nx' 61 3 (σ 7) (F.map encR) := hF.same (by omega) fun id n e => by
      have hid : id < nx := by
        rcases hF with ⟨e', _⟩ | ⟨id', h1, h2, _⟩
        · rw [e'] at e; cases e
        · rw [h2] at e; injection e with e; omega
      rw [p4 id (by omega) (fun m e' => a3 id m n e' e), upd_miss _ _ _ _ (fun e' => a2 n (by rw [e'] at e; exact e)), upd_miss _ _ _ _ (by omega)]
    have x0 : ∀ m, x' ≠ .own 0 0 m := fun m e => by have := p5 0 m e; omega
    have x7 : ∀ id m n, x' = .own id 0 m → σ 7 ≠ .own id 0 n := fun id m n e e' => by
      have h1 := p5 id m e
      rcases hF with ⟨e2, _⟩ | ⟨id', h1, h2, _⟩
      · rw [e2] at e'; cases e'
      · rw [h2] at e'; injection e' with e'; omega
    have hPl := putR_length K l[k].1 (l[k].1 + st) v
    rw [List.map_set] at p1
    by_cases hc : l[k].1 + st < l[k].2.1
    · rw [if_pos hc] at hst
      have hap := hF'.append1 (P := Try.prog) (t := 47) (c := encR (l[k].1 + st, l[k].2.1, 0)) el47 sz61 by61 ze61 rfl (by omega) (by rw [List.length_map]; unfold maxLen; omega) (by rw [List.length_map]; omega)
      have hbs : ∀ hp nx, buildSliceA Try.prog hp nx 47 1 [(0, .agg (encR (l[k].1 + st, l[k].2.1, 0)))] = some (.own nx 0 1, upd hp nx (some ⟨61, 3, true, [encR (l[k].1 + st, l[k].2.1, 0)]⟩), nx + 1) := fun hp nx => by
        simp [buildSliceA, setElems, freezeParts]
      simp only [encR] at hap hbs
      have hk0 := killV_other hF' (upd hp' nx' (some ⟨61, 3, true, [encR (l[k].1 + st, l[k].2.1, 0)]⟩)) 0 a2
      simp [h5, h22, h23, h24, hlt, hh, n0, n1, q0, qn, hv1, hvl, hv20, hul, w1, w2, w3, hwk, hmin, hc, p1, buildA, fillA, hbs, hap]
      refine ⟨hlt, l[k].2.1, some l[k].2.2, u.set v (u[v] - st), ?_, _, p2.same (by omega) fun id n e => ?_, F ++ [(l[k].1 + st, l[k].2.1, 0)], ?_, x0, fun id m e e' => ?_, hst, g7, by omega, by simp; omega⟩
      · exact hk0.trans (by rw [upd_miss _ _ _ _ (by omega)]; exact q0)
      · have hid : id < nx' := by
          rcases p2 with ⟨e', _⟩ | ⟨_, id', h1, h2, _⟩
          · rw [e'] at e; cases e
          · rw [h2] at e; injection e with e; omega
        rw [upd_miss _ _ _ _ (by omega), killV_other hF' _ _ (fun m => x7 id n m e), upd_miss _ _ _ _ (by omega)]
      · rw [List.map_append, List.map_singleton]
        exact .inr ⟨nx' + 1, by omega, by simp, by simp⟩
      · subst e'
        exact p2.fresh (by omega) m e
    · rw [if_neg hc] at hst
      simp [h5, h22, h23, h24, hlt, hh, n0, n1, q0, qn, hv1, hvl, hv20, hul, w1, w2, w3, hwk, hmin, hc, p1]
      exact ⟨hlt, by omega, l[k].2.1, some l[k].2.2, u.set v (u[v] - st), by rw [List.map_set], _, p2, F, hF', x0, a2, x7, hst, g7, by omega, by omega⟩
  · obtain rfl : k = l.length := by omega
    rw [List.drop_length] at hC
    have hC : at_ = 100000 := hC
    subst hC
    rw [List.take_length] at hI
    have hb0 := FInv.begin hI hfs
    have hFlen := hF.len (P := Try.prog) (t := 47) el47
    rw [List.length_map] at hFlen
    simp [h5, h22, h23, h24, hFlen]
    obtain ⟨vF, hvF⟩ : ∃ vF, σ 7 = vF := ⟨_, rfl⟩
    rw [hvF] at hF a2
    refine EvC_for (fun k σ hp nx => σ 5 = .own 0 0 20 ∧ σ 75 = vF ∧ σ 76 = int F.length ∧ σ 77 = int k ∧ 0 < nx ∧ ∃ (u : List Int) (v : Nat) (Fl : List Rg), hp 0 = some ⟨3, 1, true, u.map encI⟩ ∧ σ 11 = int v ∧ OwnS hp nx 61 3 (σ 6) ((K ++ Fl).map encR) ∧ OwnS hp nx 61 3 vF (F.map encR) ∧ (∀ m, σ 6 ≠ .own 0 0 m) ∧ (∀ id m n, σ 6 = .own id 0 m → vF ≠ .own id 0 n) ∧ FInv l W K F u v Fl (F.drop k)) F.length
      ⟨by simp [h5], by simp [hvF], by simp, by simp, hnx, u, 0, [], hh, by simp, by simpa using hK.ownS, by simpa using hF, by simpa using a1, by intro id m n e; rw [← hvF]; exact a3 id m n (by simpa using e), by simpa using hb0⟩ ?_
    clear h5 h22 h23 h24 hh hK a1 a3 hF hb0 hvF hFlen hnx
    clear σ hp nx
    rintro k σ hp nx hk ⟨h5, h75, h76, h77, hnx, u, v, Fl, hh, h11, hK, hF, a1, a3, hJ⟩
    by_cases hlt : k < F.length
    · have hwk : IntKind.i64.wrap ((k : Int) + 1) = (k : Int) + 1 := wrap_fit (by omega) (by omega)
      obtain ⟨idF, hidF, hvF, hhF⟩ := hF.at_ (by simp; omega)
      rw [List.length_map] at hvF
      rw [hvF] at h75 a2 a3 hF
      rw [List.drop_eq_getElem_cons hlt] at hJ
      have hin := hJ.in_ F[k] (List.mem_cons_self ..)
      obtain ⟨f0, t, c, hFk⟩ : ∃ f0 t c, F[k] = (f0, t, c) := ⟨_, _, _, rfl⟩
      simp only [hFk] at hJ hin
      have n0 : ¬ (0 : Nat) = nx := by omega
      have n1 : ¬ nx = 0 := by omega
      simp [h5, h75, h76, h77, hlt, hhF, hFk]
      refine EvC_loop (fun st => st.σ 5 = .own 0 0 20 ∧ st.σ 75 = .own idF 0 F.length ∧ st.σ 76 = int F.length ∧ st.σ 77 = int k ∧ st.σ 13 = .ref nx 0 0 ∧ nx < st.nx ∧ ∃ (f : Int) (u : List Int) (v : Nat) (Fl : List Rg), st.hp 0 = some ⟨3, 1, true, u.map encI⟩ ∧ st.hp nx = some ⟨61, 3, false, [[int f, int t, int c]]⟩ ∧ st.hp idF = some ⟨61, 3, true, F.map encR⟩ ∧ st.σ 11 = int v ∧ OwnS st.hp st.nx 61 3 (st.σ 6) ((K ++ Fl).map encR) ∧ (∀ m, st.σ 6 ≠ .own 0 0 m) ∧ (∀ m, st.σ 6 ≠ .own nx 0 m) ∧ (∀ m, st.σ 6 ≠ .own idF 0 m) ∧ FInv l W K F u v Fl (if f < t then (f, t, c) :: F.drop (k + 1) else F.drop (k + 1)) ∧ 0 ≤ f ∧ f ≤ t)
        (fun st => boxSz (st.hp nx)) ⟨by simp [h5], by simp [h75], by simp [h76], by simp [h77], by simp, by simp, f0, u, v, Fl, by simp [n0, hh], by simp, by rw [← hhF]; exact upd_miss _ _ _ _ (by omega), by simp [h11], ?_, by simpa using a1, ?_, ?_, ?_, by omega, by omega⟩ ?_
      · exact hK.more _
      · intro m e
        have e : σ 6 = .own nx 0 m := by simpa using e
        rcases hK with ⟨e', _⟩ | ⟨id', h1, h2, _⟩
        · rw [e'] at e; cases e
        · rw [h2] at e; injection e with e; omega
      · intro m e
        exact a3 idF m F.length (by simpa using e) rfl
      · rw [if_pos hin.2.1]; exact hJ
      clear h11 hK a1 hh hJ h5 h75 h76 h77 hhF
      clear u v Fl
      rintro ⟨σ2, hp2, nx2⟩ ⟨h5, h75, h76, h77, h13, hnx2, f, u, v, Fl, hh, hbx, hhF, h11, hK, b1, b2, b3, hJ, hf0, hft⟩
      simp only at h5 h75 h76 h77 h13 hnx2 hh hbx hhF h11 hK b1 b2 b3
      by_cases hlf : f < t
      · rw [if_pos hlf] at hJ
        simp [h13, hbx, hlf]
        refine EvC_loop (fun st => st.hp = hp2 ∧ st.nx = nx2 ∧ st.σ 5 = .own 0 0 20 ∧ st.σ 6 = σ2 6 ∧ st.σ 75 = .own idF 0 F.length ∧ st.σ 76 = int F.length ∧ st.σ 77 = int k ∧ st.σ 13 = .ref nx 0 0 ∧ ∃ v : Nat, st.σ 11 = int v ∧ FInv l W K F u v Fl ((f, t, c) :: F.drop (k + 1)))
          (fun st => (20 - numAt (st.σ 11)).toNat) ⟨rfl, rfl, by simp [h5], by simp, by simp [h75], by simp [h76], by simp [h77], by simp [h13], v, by simp [h11], hJ⟩ ?_
        clear h5 h75 h76 h77 h13 h11 hJ
        clear v
        rintro ⟨σ3, hp3, nx3⟩ ⟨e1, e2, h5, h6, h75, h76, h77, h13, v, h11, hJ⟩
        simp only at e1 e2 h5 h6 h75 h76 h77 h13 h11
        subst e1 e2
        have hul : u.length = 20 := by rw [hJ.len]; exact hfl
        have hvl := hJ.below (by simp)
        have hv20 : v < 20 := by omega
        by_cases hz : u[v] = 0
        · have hwv : IntKind.i64.wrap ((v : Int) + 1) = (v : Int) + 1 := wrap_fit (by omega) (by omega)
          have hJ' := hJ.skip (by rw [nd_at hvl]; exact hz)
          simp [h5, h6, h11, h13, h75, h76, h77, hh, hvl, hv20, hz, hwv]
          exact ⟨⟨v + 1, by omega, hJ'⟩, by omega⟩
        · have hz' : (u[v] == 0) = false := by simpa using hz
          have hbu : 0 ≤ u[v] ∧ u[v] ≤ 100000 := by
            have e1 := hJ.need v
            have e2 := hJ.pos v
            have e3 := hw0 v
            have e4 : 0 ≤ sz v (K ++ Fl) := by
              obtain ⟨M, hM, hL⟩ := hJ.tile
              exact sz_pos fun r hr => by have := hL.mem r (hM.mem_iff.1 (List.mem_append_left _ hr)); omega
            rw [nd_at hvl] at e1 e2
            omega
          have hin2 := hJ.in_ (f, t, c) (by simp)
          simp only at hin2
          obtain ⟨n, hn⟩ : ∃ n, min (nd u v) (t - f) = n := ⟨_, rfl⟩
          have hJ' := hJ.take (by rw [nd_at hvl]; exact hz) hn
          rw [nd_at hvl] at hn hJ'
          have hmin : (if t - f < u[v] then t - f else u[v]) = n := by split <;> omega
          have w1 : IntKind.i64.wrap (t - f) = t - f := wrap_fit (by omega) (by omega)
          have w2 : IntKind.i64.wrap (f + n) = f + n := wrap_fit (by omega) (by omega)
          have w3 : IntKind.i64.wrap (u[v] - n) = u[v] - n := wrap_fit (by omega) (by omega)
          have hlen : ((K ++ Fl).length : Int) ≤ 100000 := by
            obtain ⟨M, hM, hL⟩ := hJ.tile
            have e1 := line_length hL
            have e2 := hM.length_eq
            simp only [List.length_append] at e2 ⊢
            omega
          have hap := hK.append1 (P := Try.prog) (t := 47) (c := encR (f, f + n, v)) el47 sz61 by61 ze61 rfl (by omega) (by rw [List.length_map]; unfold maxLen; omega) (by rw [List.length_map]; omega)
          have hbs : ∀ hp nx, buildSliceA Try.prog hp nx 47 1 [(0, .agg (encR (f, f + n, v)))] = some (.own nx 0 1, upd hp nx (some ⟨61, 3, true, [encR (f, f + n, v)]⟩), nx + 1) := fun hp nx => by
            simp [buildSliceA, setElems, freezeParts]
          simp only [encR] at hap hbs
          rw [List.length_map] at hap
          have hk0 := killV_other hK (upd hp3 nx3 (some ⟨61, 3, true, [[int f, int (f + n), int v]]⟩)) 0 b1
          have hk1 := killV_other hK (upd hp3 nx3 (some ⟨61, 3, true, [[int f, int (f + n), int v]]⟩)) nx b2
          have hk2 := killV_other hK (upd hp3 nx3 (some ⟨61, 3, true, [[int f, int (f + n), int v]]⟩)) idF b3
          rw [upd_miss _ _ _ _ (by omega)] at hk0 hk1 hk2
          rw [hh] at hk0
          rw [hbx] at hk1
          rw [hhF] at hk2
          have m1 : ¬ nx3 = 0 := by omega
          have m2 : ¬ nx3 + 1 = 0 := by omega
          have m3 : ¬ nx = nx3 + 1 := by omega
          have m4 : ¬ (0 : Nat) = nx3 + 1 := by omega
          simp [h5, h6, h11, h13, h75, h76, h77, hh, hbx, hvl, hv20, hul, hz', hmin, w1, w2, w3, buildA, fillA, hbs, hap, hk0, hk1, m1, m2, m3, m4, n0, n1]
          have i0 : ¬ idF = 0 := fun e => a2 F.length (by rw [e])
          refine ⟨⟨by omega, f + n, u.set v (u[v] - n), by rw [List.map_set], rfl, ?_, v, rfl, Fl ++ [(f, f + n, (v : Int))], ?_, by omega, by omega, hJ', by omega, by omega⟩, ?_⟩
          · rw [upd_miss _ _ _ _ (by omega), upd_miss _ _ _ _ i0, upd_miss _ _ _ _ (by omega)]
            exact hk2
          · refine .inr ⟨nx3 + 1, by omega, by simp; omega, ?_⟩
            rw [upd_miss _ _ _ _ (by omega), upd_miss _ _ _ _ (by omega)]
            simp
          · show (t - (f + n)).toNat < (t - f).toNat
            omega
      · rw [if_neg hlf] at hJ
        simp [h13, hbx, hlf, h5, h75, h76, h77, h11, hwk]
        refine ⟨hlt, hvF.symm, by omega, u, hh, v, rfl, Fl, by simpa using hK, ?_, b1, fun id m n e e' => ?_, hJ⟩
        · rw [hvF]
          exact .inr ⟨idF, by omega, by simp, hhF⟩
        · rw [hvF] at e'
          injection e' with e'
          exact b3 m (by rw [e']; exact e)
    · obtain rfl : k = F.length := by omega
      rw [List.drop_length] at hJ
      obtain ⟨M, hM, hL⟩ := hJ.tile
      rw [List.append_nil] at hM
      have hsm : SmallR (K ++ Fl) := fun r hr => by have := hL.mem r (hM.mem_iff.1 hr); omega
      have hlen : (K ++ Fl).length ≤ 100000 := by
        have e1 := line_length hL
        have e2 := hM.length_eq
        omega
      obtain ⟨S, hS1, hS2, hS3⟩ := sortL_ranges hsm
      obtain ⟨hp1, hs1, hO1⟩ := sortR_call hsm hlen hS1 hK
      have hSl : S.length ≤ 100000 := by rw [hS2.length_eq]; exact hlen
      obtain ⟨vK, hvK⟩ : ∃ vK, σ 6 = vK := ⟨_, rfl⟩
      rw [hvK] at hO1 hs1
      have hKlen := hO1.len (P := Try.prog) (t := 47) el47
      rw [List.length_map] at hKlen
      simp [h5, h75, h76, h77, hvK, hs1, hKlen]
      refine EvC_for (fun k σ hp nx => σ 129 = vK ∧ σ 130 = int S.length ∧ σ 131 = int k ∧ OwnS hp nx 61 3 vK (S.map encR) ∧ OwnRg hp nx (σ 15) (putsL [] (S.take k)) ∧ (∀ id m n, σ 15 = .own id 0 m → vK ≠ .own id 0 n)) S.length
        ⟨by simp, by simp, by simp, hO1, .inl (by simp [putsL]), by simp⟩ ?_
      clear h5 h75 h76 h77 hvK hs1 hO1 hK hnx h11 hh hF a1 a3
      clear σ hp nx
      rintro k σ hp nx hk ⟨h129, h130, h131, hK, hO, a4⟩
      by_cases hlt : k < S.length
      · have hwk : IntKind.i64.wrap ((k : Int) + 1) = (k : Int) + 1 := wrap_fit (by omega) (by omega)
        obtain ⟨id, hid, hv, hhk⟩ := hK.at_ (by simp; omega)
        rw [List.length_map] at hv
        have hst : putsL [] (S.take (k + 1)) = putR (putsL [] (S.take k)) S[k].1 S[k].2.1 S[k].2.2 := by
          unfold putsL
          rw [List.take_succ_eq_append_getElem hlt, List.foldl_append]
          rfl
        have hpl : (putsL [] (S.take k)).length ≤ 100000 := by
          have := putsL_length (S.take k) []
          simp at this
          omega
        obtain ⟨x', hp', nx', p1, p2, p3, p4, p5⟩ := putR_call (hO.more (some ⟨61, 3, false, [encR S[k]]⟩)) (f := S[k].1) (t := S[k].2.1) (v := S[k].2.2) hpl
        have hK' : OwnS hp' nx' 61 3 vK (S.map encR) := hK.same (by omega) fun id' n e => by
          have hid' : id' < nx := by rw [hv] at e; injection e with e; omega
          rw [p4 id' (by omega) (fun m e' => a4 id' m n e' e), upd_miss _ _ _ _ (by omega)]
        rw [hv] at h129
        simp [h129, h130, h131, hlt, hhk, hwk, p1]
        rw [hst]
        refine ⟨hlt, hv.symm, hK', p2, fun id' m n e e' => ?_⟩
        have := p5 id' m e
        rw [hv] at e'
        injection e' with e'
        omega
      · obtain rfl : k = S.length := by omega
        rw [List.take_length] at hO
        simp [h129, h130, h131, Try.f63]
        exact ⟨putsL [] S, ⟨p, _, _, K, F, Fl, S, v, by rw [hW]; exact hI, by rw [hW]; exact hJ, hS2, hS3, rfl⟩, hO.ownS.freeze nx⟩
end Go.Proofs.Ytphmgjcjcdodhaa
namespace Go.Proofs.Ytphmgjcjcdodhaa
open Go.RowKit Go.AM

noncomputable def FRI (out : List Rg → List Int → PV) (pre : List Rg → List Int → Prop) : List PV → Option PV := specOf (α := List Rg × List Int) (fun a => [.sl 3 (a.1.map encR), .sl 1 (a.2.map encI)]) (fun a => pre a.1 a.2) (fun a => out a.1 a.2)
theorem FRI_call (out : List Rg → List Int → PV) (pre : List Rg → List Int → Prop) (l : List Rg) (m : List Int) (hp : Hp) (nx : Nat) (h : pre l m) : hPure false [] (FRI out pre) [.sl 3 (l.map encR), .sl 1 (m.map encI)] hp nx = some (out l m, hp, nx) :=
  hPure_v rfl (specOf_eq (enc := fun a : List Rg × List Int => [PV.sl 3 (a.1.map encR), PV.sl 1 (a.2.map encI)]) (a := (l, m)) (fun a b e => by
    obtain ⟨a1, a2⟩ := a; obtain ⟨b1, b2⟩ := b
    simp only [List.cons.injEq, and_true] at e
    rw [ranges_inj e.1, ints_inj e.2]) h) (.inr rfl)
def RwOk (l : List Rg) (w : List Int) : Prop := rgFault l 20 = 0 ∧ wtFault w = 0
theorem reweigh_ex {l : List Rg} {w : List Int} (h : RwOk l w) : ∃ d : List Rg, RwSpec l w d ∧ ∃ r0, evalPure Crw Try.f63 [.sl 3 (l.map encR), .sl 1 (w.map encI)] = some r0 ∧ Stands r0 (.sl 3 (d.map encR)) := by
  obtain ⟨h1, h2, _⟩ := rgFault_right h.1
  obtain ⟨g1, g2, g3, _⟩ := wtFault_right h.2
  exact reweigh_eval l w h1 h2 g1 g2 g3
open Classical in
noncomputable def rwR (l : List Rg) (w : List Int) : List Rg := if h : RwOk l w then Classical.choose (reweigh_ex h) else []
theorem rwR_spec {l : List Rg} {w : List Int} (h : RwOk l w) : RwSpec l w (rwR l w) ∧ ∃ r0, evalPure Crw Try.f63 [.sl 3 (l.map encR), .sl 1 (w.map encI)] = some r0 ∧ Stands r0 (.sl 3 ((rwR l w).map encR)) := by
  unfold rwR
  rw [dif_pos h]
  exact Classical.choose_spec (reweigh_ex h)
theorem reweigh_sound : SpecSound Try.prog 63 (hPure false [] (FRI (fun l w => .sl 3 ((rwR l w).map encR)) RwOk)) :=
  pureG (fn := Try.f63) (good_of (q := []) mixed ⟨putR_sound, by simp, sortR_sound, by simp, trivial⟩ : AM.Good Crw _) ⟨_, Try.func63, by kernel_rfl, rfl, by kernel_rfl⟩ false [] _ fun args r h w S vs hz => by
    obtain ⟨⟨a, b⟩, rfl, hx, rfl⟩ := specOf_inv h
    obtain ⟨_, r0, h1, h2⟩ := rwR_spec hx
    exact ⟨_, r0, hz, Nat.le_trans (Nat.le_refl 2) (by decide), h1, h2⟩
noncomputable def reweighR (l : List Rg) (w : List Int) : List Rg × Int := if rgFault l 20 = 0 then (if wtFault w = 0 then (if (200 : Int) < (rwR l w).length then ([], 2) else (rwR l w, 0)) else ([], wtFault w)) else ([], rgFault l 20)
noncomputable abbrev CRw : Ctx := mkCtx Try.prog [(61, hPure false [] (FRN (fun l n => int (rgFault l n)) fun _ n => 1 ≤ n ∧ n ≤ 20)), (62, hPure false [] (FI (fun l => int (wtFault l)) fun _ => True)), (63, hPure false [] (FRI (fun l w => .sl 3 ((rwR l w).map encR)) RwOk))]
set_option maxRecDepth 8000 in
theorem Reweigh_eval (l : List Rg) (w : List Int) : ∃ r0, evalPure CRw Try.f27 [.sl 3 (l.map encR), .sl 1 (w.map encI)] = some r0 ∧ Stands r0 (rgTup (reweighR l w)) := by
  refine evalPureU_of rfl ?_
  have c1 := fun hp nx => FRN_call (fun l n => int (rgFault l n)) (fun _ n => 1 ≤ n ∧ n ≤ 20) l 20 hp nx (by omega)
  have c2 := fun hp nx => FI_call (fun l => int (wtFault l)) (fun _ => True) w hp nx trivial
  unfold reweighR
  by_cases hf : rgFault l 20 = 0
  · rw [if_pos hf]
    by_cases hg : wtFault w = 0
    · rw [if_pos hg]
      have c3 := fun hp nx => FRI_call (fun l w => .sl 3 ((rwR l w).map encR)) RwOk l w hp nx ⟨hf, hg⟩
      generalize rwR l w = d at c3
      by_cases hc : (200 : Int) < d.length
      · rw [if_pos hc]
        simp [c1, c2, c3, hf, hg, hc, Try.f27]
        exact ⟨_, by simp, stands_nilR 2⟩
      · rw [if_neg hc]
        simp [c1, c2, c3, hf, hg, hc, Try.f27]
        exact ⟨rgTup (d, 0), by simp [rgTup], .refl _⟩
    · have hg' : (wtFault w != 0) = true := by simpa using hg
      rw [if_neg hg]
      simp [c1, c2, hf, hg', Try.f27]
      exact ⟨_, by simp, stands_nilR _⟩
  · have hf' : (rgFault l 20 != 0) = true := by simpa using hf
    rw [if_neg hf]
    simp [c1, hf', Try.f27]
    exact ⟨_, by simp, stands_nilR _⟩
theorem Reweigh_sound : SpecSound Try.prog 27 (hPure false [] (FRI (fun l w => rgTup (reweighR l w)) fun _ _ => True)) :=
  pureG (fn := Try.f27) (good_of (q := []) mixed ⟨checkRanges_sound, by simp, checkWeights_sound, by simp, reweigh_sound, by simp, trivial⟩ : AM.Good CRw _) ⟨_, Try.func27, by kernel_rfl, rfl, by kernel_rfl⟩ false [] _ fun args r h w S vs hz => by
    obtain ⟨⟨a, b⟩, rfl, _, rfl⟩ := specOf_inv h
    obtain ⟨r0, h1, h2⟩ := Reweigh_eval a b
    exact ⟨_, r0, hz, Nat.le_trans (Nat.le_refl 2) (by decide), h1, h2⟩

/-! ### Split, awake -/
def spS (s : Int × List Rg) (k : Nat) (n : Int) : Int × List Rg := (s.1 + n, putR s.2 s.1 (s.1 + n) k)
def spL (w : List Int) : Nat → Int × List Rg
  | 0 => (0, [])
  | k + 1 => spS (spL w k) k (nd w k)
theorem spL_length (w : List Int) : ∀ k, (spL w k).2.length ≤ k
  | 0 => Nat.le_refl _
  | k + 1 => by
    have := spL_length w k
    have h2 := putR_length (spL w k).2 (spL w k).1 ((spL w k).1 + nd w k) k
    show (putR (spL w k).2 (spL w k).1 ((spL w k).1 + nd w k) k).length ≤ k + 1
    omega
def splitR (w : List Int) : List Rg × Int := if wtFault w = 0 then ((spL w w.length).2, 0) else ([], wtFault w)
noncomputable abbrev Csl : Ctx := mkCtx Try.prog [(62, hPure false [] (FI (fun l => int (wtFault l)) fun _ => True)), (67, hMove [] putRM)]
set_option maxRecDepth 8000 in
theorem Split_eval (w : List Int) : ∃ r0, evalPure Csl Try.f60 [.sl 1 (w.map encI)] = some r0 ∧ Stands r0 (rgTup (splitR w)) := by
  refine evalPureU_of rfl ?_
  have c2 := fun hp nx => FI_call (fun l => int (wtFault l)) (fun _ => True) w hp nx trivial
  unfold splitR
  by_cases hg : wtFault w = 0
  · rw [if_pos hg]
    obtain ⟨g1, g2, g3, _⟩ := wtFault_right hg
    simp [c2, hg]
    refine EvC_for (fun k σ hp nx => σ 14 = .sl 1 (w.map encI) ∧ σ 15 = int w.length ∧ σ 16 = int k ∧ σ 6 = int (spL w k).1 ∧ 0 ≤ (spL w k).1 ∧ (spL w k).1 ≤ 100000 * k ∧ OwnRg hp nx (σ 5) (spL w k).2) w.length
      ⟨by simp, by simp, by simp, by simp [spL], by simp [spL], by simp [spL], .inl (by simp [spL])⟩ ?_
    rintro k σ hp nx hk ⟨h14, h15, h16, h6, hb1, hb2, hO⟩
    by_cases hlt : k < w.length
    · have hwk : IntKind.i64.wrap ((k : Int) + 1) = (k : Int) + 1 := wrap_fit (by omega) (by omega)
      have hb := g1 _ (List.getElem_mem hlt)
      have hl := spL_length w k
      have e1 : (spL w (k + 1)).1 = (spL w k).1 + w[k] := by show (spL w k).1 + nd w k = _; rw [nd_at hlt]
      have e2 : (spL w (k + 1)).2 = putR (spL w k).2 (spL w k).1 ((spL w k).1 + w[k]) k := by show putR _ _ ((spL w k).1 + nd w k) _ = _; rw [nd_at hlt]
      generalize spL w k = s at h6 hb1 hb2 hO hl e1 e2
      have w1 : IntKind.i64.wrap (s.1 + w[k]) = s.1 + w[k] := wrap_fit (by omega) (by omega)
      obtain ⟨x', hp', nx', p1, p2, p3, p4, p5⟩ := putR_call hO (f := s.1) (t := s.1 + w[k]) (v := k) (by omega)
      simp [h14, h15, h16, h6, hlt, hwk, w1, p1]
      rw [e1, e2]
      exact ⟨hlt, rfl, by omega, by omega, p2⟩
    · obtain rfl : k = w.length := by omega
      simp [h14, h15, h16, h6, Try.f60]
      obtain ⟨r0, q1, q2⟩ := hO.ownS.freeze2 (.int .i64 0) nx
      exact ⟨r0, q1, fun w S u hr => up_rep hr q2⟩
  · have hg' : (wtFault w != 0) = true := by simpa using hg
    rw [if_neg hg]
    simp [c2, hg', Try.f60]
    exact ⟨_, by simp, stands_nilR _⟩
theorem Split_sound : SpecSound Try.prog 60 (hPure true [] (FI (fun w => rgTup (splitR w)) fun _ => True)) :=
  pureG (fn := Try.f60) (good_of (q := []) mixed ⟨checkWeights_sound, by simp, putR_sound, by simp, trivial⟩ : AM.Good Csl _) ⟨_, Try.func60, by kernel_rfl, rfl, by kernel_rfl⟩ true [] _ fun args r h w S vs hz => by
    obtain ⟨a, rfl, _, rfl⟩ := specOf_inv h
    obtain ⟨r0, h1, h2⟩ := Split_eval a
    exact ⟨_, r0, hz, Nat.le_trans (Nat.le_refl 1) (by decide), h1, h2⟩
theorem splitR_whole : splitR [100000] = ([(0, 100000, 0)], 0) := by decide
theorem hPure_k {F : List PV → Option PV} {ns : List Nat} {args ys : List PV} {hp hp1 : Hp} {nx : Nat} {r : PV} (h1 : freezeVals hp args = some (ys, hp1)) (h2 : F (normArgs ns ys) = some r) (h3 : r.flat = false) (h4 : args.all PV.noOwn = false) :
    hPure true ns F args hp nx = some (r, hp1, nx) := by
  unfold hPure
  simp only [h1, h2, h3, h4, Bool.false_eq_true, or_self, if_false, if_true]
theorem Split_own {e id : Nat} {hp : Hp} (nx : Nat) (h : hp id = some ⟨e, 1, true, [[int 100000]]⟩) : hPure true [] (FI (fun w => rgTup (splitR w)) fun _ => True) [.own id 0 1] hp nx = some (rgTup ([(0, 100000, 0)], 0), upd hp id none, nx) := by
  rw [← splitR_whole]
  refine hPure_k (show freezeVals hp [.own id 0 1] = some ([.sl 1 (([100000] : List Int).map encI)], upd hp id none) by simp [freezeVals, freezeVal, freezeCell, h]) ?_ (by rw [splitR_whole]; rfl) rfl
  exact specOf_eq (enc := fun l : List Int => [PV.sl 1 (l.map encI)]) (a := [100000]) (fun a b e => by simp only [List.cons.injEq, and_true] at e; exact ints_inj e) trivial
/-- A function without arguments that says yes. -/
def yes3 (args : List PV) : Option PV := if args.isEmpty then some (boo true) else none
noncomputable abbrev Caw3 : Ctx := mkCtx Try.prog [(60, hPure true [] (FI (fun w => rgTup (splitR w)) fun _ => True))]
set_option maxRecDepth 8000 in
theorem awake3_eval : evalPure Caw3 Try.f26 [] = some (boo true) := by
  have hbs : ∀ hp nx, buildSliceA Try.prog hp nx 48 1 [(0, int 100000)] = some (.own nx 0 1, upd hp nx (some ⟨3, 1, true, [[int 100000]]⟩), nx + 1) := fun hp nx => by
    simp [buildSliceA, setElems, freezeParts]
  have c1 := fun hp nx => Split_own (e := 3) (id := nx) (hp := upd hp nx (some ⟨3, 1, true, [[int 100000]]⟩)) (nx + 1) (by simp)
  have hRt : rgTup ([(0, 100000, 0)], 0) = .tup [.sl 3 [[int 0, int 100000, int 0]], int 0] := rfl
  have hbin : binA Try.prog .eql 61 (.agg [int 0, int 100000, int 0]) (.agg [int 0, int 100000, int 0]) = some (boo true) := by
    simp only [binA, fl61, eqCells, if_true, Option.map_some, Bool.and_true]
    rfl
  refine evalPure_of rfl ?_
  simp [buildA, fillA, hbs, c1, hRt, hbin, Try.f26]
theorem awake3_sound : SpecSound Try.prog 26 (hPure false [] yes3) :=
  pureS (fn := Try.f26) (good_of (q := []) mixed ⟨Split_sound, by simp, trivial⟩ : AM.Good Caw3 _) ⟨_, Try.func26, by kernel_rfl, rfl, by kernel_rfl⟩ false [] _ fun args r h => by
    cases args with
    | nil =>
      injection h with h
      subst h
      exact ⟨Nat.le_trans (Nat.le_refl 0) (Nat.zero_le _), _, awake3_eval, up_of _⟩
    | cons x l => cases h
end Go.Proofs.Ytphmgjcjcdodhaa
