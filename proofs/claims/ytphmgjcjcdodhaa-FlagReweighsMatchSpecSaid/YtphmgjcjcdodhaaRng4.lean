/-
  Ranges: pieces.
-/
import Derived.Test.YtphmgjcjcdodhaaRngLaw
namespace Go.Proofs.Ytphmgjcjcdodhaa
open Go.RowKit Go.AM

/-- From, to, the variations of two lists. -/
abbrev Pc := Int × Int × Int × Int
abbrev encP (p : Pc) : List PV := [int p.1, int p.2.1, int p.2.2.1, int p.2.2.2]
theorem encP_inj {a b : Pc} (h : encP a = encP b) : a = b := by
  simp only [List.cons.injEq, and_true, PV.v.injEq, Value.int.injEq, true_and] at h
  exact Prod.ext h.1 (Prod.ext h.2.1 (Prod.ext h.2.2.1 h.2.2.2))
def PLine : Int → Int → List Pc → Prop
  | lo, hi, [] => lo = hi
  | lo, hi, p :: l => p.1 = lo ∧ p.1 < p.2.1 ∧ PLine p.2.1 hi l
theorem pline_snoc : ∀ {lo m : Int} {l : List Pc}, PLine lo m l → ∀ {p : Pc}, p.1 = m → p.1 < p.2.1 → PLine lo p.2.1 (l ++ [p])
  | lo, m, [], h, p, h1, h2 => by
    have h : lo = m := h
    exact ⟨by omega, h2, rfl⟩
  | lo, m, q :: l, h, p, h1, h2 => ⟨h.1, h.2.1, pline_snoc h.2.2 h1 h2⟩
theorem PLine.le : ∀ {lo hi : Int} {l : List Pc}, PLine lo hi l → lo ≤ hi
  | lo, hi, [], h => by have h : lo = hi := h; omega
  | lo, hi, r :: l, h => by obtain ⟨h1, h2, h3⟩ := h; have := h3.le; omega
theorem PLine.mem : ∀ {lo hi : Int} {l : List Pc}, PLine lo hi l → ∀ r ∈ l, lo ≤ r.1 ∧ r.1 < r.2.1 ∧ r.2.1 ≤ hi
  | _, _, [], _, r, hr => absurd hr (by simp)
  | lo, hi, s :: l, h, r, hr => by
    obtain ⟨h1, h2, h3⟩ := h
    rcases List.mem_cons.1 hr with rfl | hr
    · have := h3.le; exact ⟨by omega, h2, by omega⟩
    · have := h3.mem r hr; omega
/-- The two lists, cut. -/
structure PcSpec (a b : List Rg) (at_ : Int) (d : List Pc) : Prop where
  line : PLine 0 at_ d
  same : ∀ p ∈ d, ∀ x, p.1 ≤ x → x < p.2.1 → atv a x = p.2.2.1 ∧ atv b x = p.2.2.2
theorem line_next : ∀ {lo hi : Int} {l : List Rg}, Line lo hi l → ∀ (i : Nat) (h : i < l.length), (∃ h' : i + 1 < l.length, l[i + 1].1 = l[i].2.1) ∨ (i + 1 = l.length ∧ l[i].2.1 = hi)
  | _, _, [], _, i, h => absurd h (by simp)
  | lo, hi, [r], h, i, hi' => by
    have : i = 0 := by simpa using hi'
    subst this
    exact .inr ⟨rfl, h.2.2⟩
  | lo, hi, r :: s :: l, h, 0, _ => .inl ⟨by simp, h.2.2.1⟩
  | lo, hi, r :: s :: l, h, i + 1, hi' => by
    have := line_next h.2.2 i (by simpa using hi')
    simpa using this
/-- The place in a list of ranges. -/
def Here (l : List Rg) (at_ : Int) (i : Nat) : Prop := at_ = 100000 ∨ ∃ h : i < l.length, l[i].1 ≤ at_ ∧ at_ < l[i].2.1
theorem here_begin {l : List Rg} (h : Line 0 100000 l) : Here l 0 0 := by
  cases l with
  | nil => cases h
  | cons r l => exact .inr ⟨by simp, by show r.1 ≤ 0; have := h.1; omega, by show 0 < r.2.1; have := h.1; have := h.2.1; omega⟩
theorem here_next {l : List Rg} {at_ to : Int} {i : Nat} (h : Line 0 100000 l) (hi : i < l.length) (h1 : l[i].1 ≤ at_) (h2 : at_ < to) (h3 : to ≤ l[i].2.1) : Here l to (if l[i].2.1 = to then i + 1 else i) := by
  by_cases c : l[i].2.1 = to
  · rw [if_pos c]
    rcases line_next h i hi with ⟨h', e⟩ | ⟨_, e⟩
    · have := h.mem _ (List.getElem_mem h')
      exact .inr ⟨h', by omega, by omega⟩
    · exact .inl (by omega)
  · rw [if_neg c]
    exact .inr ⟨hi, by omega, by omega⟩
set_option maxRecDepth 8000 in
theorem pieces_eval (a b : List Rg) (ha : Line 0 100000 a) (hb : Line 0 100000 b) (hla : a.length ≤ 200) (hlb : b.length ≤ 200) : ∃ d : List Pc, (PcSpec a b 100000 d ∧ d.length ≤ 400) ∧ ∃ r0, evalPure C0 Try.f66 [.sl 3 (a.map encR), .sl 3 (b.map encR)] = some r0 ∧ Stands r0 (.sl 4 (d.map encP)) := by
  have hfin : ∀ {code}, Try.f66.body = some code → EvC C0 code ⟨startσ [.sl 3 (a.map encR), .sl 3 (b.map encR)], fun _ => none, 0⟩ (retK C0.P Try.f66 (fun x hp nx => ∃ d, (PcSpec a b 100000 d ∧ d.length ≤ 400) ∧ pureN (.sl 4 (d.map encP)) x hp nx)) → ∃ d : List Pc, (PcSpec a b 100000 d ∧ d.length ≤ 400) ∧ ∃ r0, evalPure C0 Try.f66 [.sl 3 (a.map encR), .sl 3 (b.map encR)] = some r0 ∧ Stands r0 (.sl 4 (d.map encP)) := by
    intro code hb h
    obtain ⟨x, hp', nx', h1, d, h2, r0, h3, h4⟩ := evalFunc_of hb h
    exact ⟨d, h2, r0, by unfold evalPure; simp only [h1]; exact h3, fun w S u hr => up_rep hr h4⟩
  refine hfin rfl ?_
  simp
  refine EvC_loop (fun st => st.σ 0 = .sl 3 (a.map encR) ∧ st.σ 1 = .sl 3 (b.map encR) ∧ ∃ (at_ : Int) (i k : Nat) (d : List Pc), st.σ 8 = int at_ ∧ st.σ 6 = int i ∧ st.σ 7 = int k ∧ 0 ≤ at_ ∧ at_ ≤ 100000 ∧ i ≤ a.length ∧ k ≤ b.length ∧ OwnS st.hp st.nx 88 4 (st.σ 5) (d.map encP) ∧ PcSpec a b at_ d ∧ Here a at_ i ∧ Here b at_ k ∧ d.length ≤ i + k)
    (fun st => (100000 - numAt (st.σ 8)).toNat) ⟨by simp, by simp, 0, 0, 0, [], by simp, by simp, by simp, by simp, by simp, by simp, by simp, .inl (by simp), ⟨rfl, by simp⟩, here_begin ha, here_begin hb, by simp⟩ ?_
  rintro ⟨σ, hp, nx⟩ ⟨h0, h1, at_, i, k, d, h8, h6, h7, hat, hat1, hil, hkl, hO, hS, hH1, hH2, hdl⟩
  simp only at h0 h1 h8 h6 h7 hO
  by_cases hlt : at_ < 100000
  · obtain ⟨hi, hi1, hi2⟩ := hH1.resolve_left (by omega)
    obtain ⟨hk, hk1, hk2⟩ := hH2.resolve_left (by omega)
    have hma := ha.mem _ (List.getElem_mem hi)
    have hmb := hb.mem _ (List.getElem_mem hk)
    obtain ⟨to, hto⟩ : ∃ to, (if b[k].2.1 < a[i].2.1 then b[k].2.1 else a[i].2.1) = to := ⟨_, rfl⟩
    have t1 : at_ < to := by rw [← hto]; split <;> omega
    have t2 : to ≤ a[i].2.1 := by rw [← hto]; split <;> omega
    have t3 : to ≤ b[k].2.1 := by rw [← hto]; split <;> omega
    have t4 : a[i].2.1 = to ∨ b[k].2.1 = to := by rw [← hto]; split <;> omega
    have wi : IntKind.i64.wrap ((i : Int) + 1) = (i : Int) + 1 := wrap_fit (by omega) (by omega)
    have wk : IntKind.i64.wrap ((k : Int) + 1) = (k : Int) + 1 := wrap_fit (by omega) (by omega)
    have hn1 := here_next ha hi hi1 t1 t2
    have hn2 := here_next hb hk hk1 t1 t3
    have hS' : PcSpec a b to (d ++ [(at_, to, a[i].2.2, b[k].2.2)]) := by
      refine ⟨pline_snoc (p := (at_, to, a[i].2.2, b[k].2.2)) hS.line rfl t1, fun p hp x hx1 hx2 => ?_⟩
      rcases List.mem_append.1 hp with hp | hp
      · exact hS.same p hp x hx1 hx2
      · obtain rfl : p = (at_, to, a[i].2.2, b[k].2.2) := by simpa using hp
        simp only at hx1 hx2
        exact ⟨ha.atv _ (List.getElem_mem hi) x (by omega) (by omega), hb.atv _ (List.getElem_mem hk) x (by omega) (by omega)⟩
    have hap := hO.append1 (P := Try.prog) (t := 85) (c := encP (at_, to, a[i].2.2, b[k].2.2)) el85 sz88 by88 ze88 rfl (by omega) (by rw [List.length_map]; unfold maxLen; omega) (by rw [List.length_map]; omega)
    have hbs : ∀ hp nx, buildSliceA Try.prog hp nx 85 1 [(0, .agg (encP (at_, to, a[i].2.2, b[k].2.2)))] = some (.own nx 0 1, upd hp nx (some ⟨88, 4, true, [encP (at_, to, a[i].2.2, b[k].2.2)]⟩), nx + 1) := fun hp nx => by
      simp [buildSliceA, setElems, freezeParts]
    simp only [encP] at hap hbs
    have hO' : OwnS (upd (killV (σ 5) (upd hp nx (some ⟨88, 4, true, [encP (at_, to, a[i].2.2, b[k].2.2)]⟩))) (nx + 1) (some ⟨88, 4, true, d.map encP ++ [encP (at_, to, a[i].2.2, b[k].2.2)]⟩)) (nx + 2) 88 4 (.own (nx + 1) 0 (d.length + 1)) ((d ++ [(at_, to, a[i].2.2, b[k].2.2)]).map encP) := by
      rw [List.map_append, List.map_singleton]
      exact .inr ⟨nx + 1, by omega, by simp, by simp⟩
    have hto1 : (if b[k].2.1 < to then b[k].2.1 else to) = to := by split <;> omega
    have hto2 : (if to < a[i].2.1 then to else a[i].2.1) = to := by split <;> omega
    by_cases c1 : a[i].2.1 = to <;> by_cases c2 : b[k].2.1 = to
    · rw [if_pos c1] at hn1; rw [if_pos c2] at hn2
      simp [h0, h1, h8, h6, h7, hlt, hi, hk, hto, hto1, hto2, c1, c2, buildA, fillA, hbs, hap, wi, wk]
      exact ⟨⟨i + 1, by omega, k + 1, by omega, by omega, by omega, by omega, by omega, _, hO', hS', hn1, hn2, by simp; omega⟩, by omega⟩
    · rw [if_pos c1] at hn1; rw [if_neg c2] at hn2
      have c2' : (b[k].2.1 == to) = false := by simpa using c2
      simp [h0, h1, h8, h6, h7, hlt, hi, hk, hto, hto1, hto2, c1, c2', buildA, fillA, hbs, hap, wi, wk]
      exact ⟨⟨i + 1, by omega, k, rfl, by omega, by omega, by omega, by omega, _, hO', hS', hn1, hn2, by simp; omega⟩, by omega⟩
    · rw [if_neg c1] at hn1; rw [if_pos c2] at hn2
      have c1' : (a[i].2.1 == to) = false := by simpa using c1
      simp [h0, h1, h8, h6, h7, hlt, hi, hk, hto, hto1, hto2, c1', c2, buildA, fillA, hbs, hap, wi, wk]
      exact ⟨⟨i, rfl, k + 1, by omega, by omega, by omega, by omega, by omega, _, hO', hS', hn1, hn2, by simp; omega⟩, by omega⟩
    · omega
  · obtain rfl : at_ = 100000 := by omega
    simp [h0, h1, h8, h6, h7, Try.f66]
    exact ⟨d, ⟨hS, by omega⟩, hO.freeze nx⟩
noncomputable def FRR (out : List Rg → List Rg → PV) (pre : List Rg → List Rg → Prop) : List PV → Option PV := specOf (α := List Rg × List Rg) (fun a => [.sl 3 (a.1.map encR), .sl 3 (a.2.map encR)]) (fun a => pre a.1 a.2) (fun a => out a.1 a.2)
theorem FRR_call (out : List Rg → List Rg → PV) (pre : List Rg → List Rg → Prop) (l m : List Rg) (hp : Hp) (nx : Nat) (h : pre l m) : hPure false [] (FRR out pre) [.sl 3 (l.map encR), .sl 3 (m.map encR)] hp nx = some (out l m, hp, nx) :=
  hPure_v rfl (specOf_eq (enc := fun a : List Rg × List Rg => [PV.sl 3 (a.1.map encR), PV.sl 3 (a.2.map encR)]) (a := (l, m)) (fun a b e => by
    obtain ⟨a1, a2⟩ := a; obtain ⟨b1, b2⟩ := b
    simp only [List.cons.injEq, and_true] at e
    rw [ranges_inj e.1, ranges_inj e.2]) h) (.inr rfl)
def Cut (a b : List Rg) : Prop := (Line 0 100000 a ∧ a.length ≤ 200) ∧ (Line 0 100000 b ∧ b.length ≤ 200)
open Classical in
noncomputable def pcsR (a b : List Rg) : List Pc := if h : Cut a b then Classical.choose (pieces_eval a b h.1.1 h.2.1 h.1.2 h.2.2) else []
theorem pcsR_spec {a b : List Rg} (h : Cut a b) : (PcSpec a b 100000 (pcsR a b) ∧ (pcsR a b).length ≤ 400) ∧ ∃ r0, evalPure C0 Try.f66 [.sl 3 (a.map encR), .sl 3 (b.map encR)] = some r0 ∧ Stands r0 (.sl 4 ((pcsR a b).map encP)) := by
  unfold pcsR
  rw [dif_pos h]
  exact Classical.choose_spec (pieces_eval a b h.1.1 h.2.1 h.1.2 h.2.2)
theorem pieces_sound : SpecSound Try.prog 66 (hPure false [] (FRR (fun a b => .sl 4 ((pcsR a b).map encP)) Cut)) :=
  pureG (fn := Try.f66) good0 ⟨_, Try.func66, by kernel_rfl, rfl, by kernel_rfl⟩ false [] _ fun args r h w S vs hz => by
    obtain ⟨⟨a, b⟩, rfl, hx, rfl⟩ := specOf_inv h
    obtain ⟨_, r0, h1, h2⟩ := pcsR_spec hx
    exact ⟨_, r0, hz, Nat.le_trans (Nat.le_refl 2) (by decide), h1, h2⟩

/-! ### Moved -/
theorem OwnRg.more {hp : Hp} {nx : Nat} {x : PV} {d : List Rg} (h : OwnRg hp nx x d) (b : Option Blk) : OwnRg (upd hp nx b) (nx + 1) x d := by
  rcases h with h | ⟨hd, id, h1, h2, h3⟩
  · exact .inl h
  · exact .inr ⟨hd, id, by omega, h2, by rw [upd_miss _ _ _ _ (by omega)]; exact h3⟩
def mvS (d : List Rg) (p : Pc) : List Rg := if p.2.2.1 = p.2.2.2 then d else putR d p.1 p.2.1 p.2.2.2
def mvL (l : List Pc) : List Rg := l.foldl mvS []
theorem mvL_step {l : List Pc} {k : Nat} (h : k < l.length) : mvL (l.take (k + 1)) = mvS (mvL (l.take k)) l[k] := by
  unfold mvL
  rw [List.take_succ_eq_append_getElem h, List.foldl_append]
  rfl
theorem mvS_length (d : List Rg) (p : Pc) : (mvS d p).length ≤ d.length + 1 := by
  unfold mvS
  split
  · omega
  · exact putR_length d _ _ _
theorem foldMv_length : ∀ (l : List Pc) (d : List Rg), (l.foldl mvS d).length ≤ d.length + l.length
  | [], d => Nat.le_refl _
  | p :: l, d => by
    have h1 := foldMv_length l (mvS d p)
    have h2 := mvS_length d p
    rw [List.foldl_cons, List.length_cons]
    omega
theorem mvL_length (l : List Pc) : (mvL l).length ≤ l.length := by
  have := foldMv_length l []
  unfold mvL
  simpa using this
noncomputable def movedR (a b : List Rg) : List Rg × Int := if rgFault a 20 = 0 then (if rgFault b 20 = 0 then (mvL (pcsR a b), 0) else ([], rgFault b 20)) else ([], rgFault a 20)
def rgTup (r : List Rg × Int) : PV := .tup [.sl 3 (r.1.map encR), int r.2]
theorem stands_nilR (k : Int) : Stands (.tup [.nil, int k]) (rgTup ([], k)) :=
  StandsL.tup (.cons (.nilOr (.inl ⟨rfl, rfl⟩)) (.cons (.refl _) .nil))
noncomputable abbrev Cmv : Ctx := mkCtx Try.prog [(61, hPure false [] (FRN (fun l n => int (rgFault l n)) fun _ n => 1 ≤ n ∧ n ≤ 20)), (66, hPure false [] (FRR (fun a b => .sl 4 ((pcsR a b).map encP)) Cut)), (67, hMove [] putRM)]
theorem cut_of {a b : List Rg} (ha : rgFault a 20 = 0) (hb : rgFault b 20 = 0) : Cut a b := by
  obtain ⟨h1, h2, _⟩ := rgFault_right ha
  obtain ⟨h3, h4, _⟩ := rgFault_right hb
  exact ⟨⟨chain_line h1, h2⟩, chain_line h3, h4⟩
set_option maxRecDepth 8000 in
theorem Moved_eval (a b : List Rg) : ∃ r0, evalPure Cmv Try.f29 [.sl 3 (a.map encR), .sl 3 (b.map encR)] = some r0 ∧ Stands r0 (rgTup (movedR a b)) := by
  refine evalPureU_of rfl ?_
  have c1 := fun l hp nx => FRN_call (fun l n => int (rgFault l n)) (fun _ n => 1 ≤ n ∧ n ≤ 20) l 20 hp nx (by omega)
  simp [buildSliceA, setElems, freezeParts]
  refine EvC_for (fun k σ hp nx => σ 0 = .sl 3 (a.map encR) ∧ σ 1 = .sl 3 (b.map encR) ∧ σ 14 = .own 0 0 2 ∧ σ 15 = int 2 ∧ σ 16 = int k ∧ 0 < nx ∧ hp 0 = some ⟨47, 1, true, [[.sl 3 (a.map encR)], [.sl 3 (b.map encR)]]⟩ ∧ (0 < k → rgFault a 20 = 0) ∧ (1 < k → rgFault b 20 = 0)) 2
    ⟨by simp, by simp, by simp, by simp, by simp, by simp, by simp, by simp, by simp⟩ ?_
  rintro k σ hp nx hk ⟨h0, h1, h14, h15, h16, hnx, hh, hfa, hfb⟩
  have hcase : k = 0 ∨ k = 1 ∨ k = 2 := by omega
  rcases hcase with rfl | rfl | rfl
  · have w1 : IntKind.i64.wrap 1 = 1 := wrap_fit (by omega) (by omega)
    by_cases hf : rgFault a 20 = 0
    · simp [h0, h1, h14, h15, h16, hh, c1, hf, w1]
      exact hnx
    · have hf' : (rgFault a 20 != 0) = true := by simpa using hf
      unfold movedR
      rw [if_neg hf]
      simp [h0, h1, h14, h15, h16, hh, c1, hf', Try.f29]
      exact ⟨_, by simp, stands_nilR _⟩
  · have hfa := hfa (by omega)
    have w1 : IntKind.i64.wrap 2 = 2 := wrap_fit (by omega) (by omega)
    by_cases hf : rgFault b 20 = 0
    · simp [h0, h1, h14, h15, h16, hh, c1, hf, w1]
      exact ⟨hnx, hfa⟩
    · have hf' : (rgFault b 20 != 0) = true := by simpa using hf
      unfold movedR
      rw [if_pos hfa, if_neg hf]
      simp [h0, h1, h14, h15, h16, hh, c1, hf', Try.f29]
      exact ⟨_, by simp, stands_nilR _⟩
  · have hfa := hfa (by omega)
    have hfb := hfb (by omega)
    have hcut := cut_of hfa hfb
    have c2 := fun hp nx => FRR_call (fun a b => .sl 4 ((pcsR a b).map encP)) Cut a b hp nx hcut
    have hlen := (pcsR_spec hcut).1.2
    unfold movedR
    rw [if_pos hfa, if_pos hfb]
    generalize pcsR a b = l at c2 hlen
    simp [h0, h1, h14, h15, h16, c2]
    refine EvC_for (fun k σ hp nx => σ 28 = .sl 4 (l.map encP) ∧ σ 29 = int l.length ∧ σ 30 = int k ∧ OwnRg hp nx (σ 9) (mvL (l.take k))) l.length
      ⟨by simp, by simp, by simp, .inl (by simp [mvL])⟩ ?_
    rintro k σ hp nx hk ⟨h28, h29, h30, hO⟩
    by_cases hlt : k < l.length
    · have hw : IntKind.i64.wrap ((k : Int) + 1) = (k : Int) + 1 := wrap_fit (by omega) (by omega)
      have hst := mvL_step hlt
      unfold mvS at hst
      by_cases hc : l[k].2.2.1 = l[k].2.2.2
      · rw [if_pos hc] at hst
        simp [h28, h29, h30, hlt, hc, hw]
        rw [hst]
        exact ⟨hlt, hO.more _⟩
      · rw [if_neg hc] at hst
        have hc' : (l[k].2.2.1 != l[k].2.2.2) = true := by simpa using hc
        obtain ⟨x', hp', nx', p1, p2, p3, p4, p5⟩ := putR_call (hO.more (some ⟨88, 4, false, [encP l[k]]⟩)) (f := l[k].1) (t := l[k].2.1) (v := l[k].2.2.2) (by have := mvL_length (l.take k); simp at this; omega)
        simp [h28, h29, h30, hlt, hc', hw, p1]
        rw [hst]
        exact ⟨hlt, p2⟩
    · obtain rfl : k = l.length := by omega
      rw [List.take_length] at hO
      simp [h28, h29, h30, Try.f29]
      obtain ⟨r0, q1, q2⟩ := hO.ownS.freeze2 (.int .i64 0) nx
      exact ⟨r0, q1, fun w S u hr => up_rep hr q2⟩
theorem Moved_sound : SpecSound Try.prog 29 (hPure false [] (FRR (fun a b => rgTup (movedR a b)) fun _ _ => True)) :=
  pureG (fn := Try.f29) (good_of (q := []) mixed ⟨checkRanges_sound, by simp, pieces_sound, by simp, putR_sound, by simp, trivial⟩ : AM.Good Cmv _) ⟨_, Try.func29, by kernel_rfl, rfl, by kernel_rfl⟩ false [] _ fun args r h w S vs hz => by
    obtain ⟨⟨a, b⟩, rfl, _, rfl⟩ := specOf_inv h
    obtain ⟨r0, h1, h2⟩ := Moved_eval a b
    exact ⟨_, r0, hz, Nat.le_trans (Nat.le_refl 2) (by decide), h1, h2⟩
end Go.Proofs.Ytphmgjcjcdodhaa
