/-
  Ranges: sizes and weights.
-/
import Derived.Test.YtphmgjcjcdodhaaRng1
namespace Go.Proofs.Ytphmgjcjcdodhaa
open Go.RowKit Go.AM

def rsz : List Rg → Int
  | [] => 0
  | r :: l => (r.2.1 - r.1) + rsz l
theorem rsz_drop {l : List Rg} {k : Nat} (h : k < l.length) : rsz (l.drop k) = (l[k].2.1 - l[k].1) + rsz (l.drop (k + 1)) := by
  rw [List.drop_eq_getElem_cons h, rsz]
def RIn (l : List Rg) : Prop := ∀ r ∈ l, 0 ≤ r.1 ∧ r.1 ≤ r.2.1 ∧ r.2.1 ≤ 100000
noncomputable def FR (out : List Rg → PV) (pre : List Rg → Prop) : List PV → Option PV := specOf (α := List Rg) (fun l => [.sl 3 (l.map encR)]) pre out
theorem FR_call (out : List Rg → PV) (pre : List Rg → Prop) (l : List Rg) (hp : Hp) (nx : Nat) (h : pre l) : hPure false [] (FR out pre) [.sl 3 (l.map encR)] hp nx = some (out l, hp, nx) :=
  hPure_v rfl (specOf_eq (enc := fun l : List Rg => [PV.sl 3 (l.map encR)]) (a := l) (fun a b e => by simp only [List.cons.injEq, and_true] at e; exact ranges_inj e) h) (.inr rfl)
set_option maxRecDepth 8000 in
theorem rsize3_eval (l : List Rg) (h : RIn l) (hl : l.length ≤ 100000) : evalPure C0 Try.f30 [.sl 3 (l.map encR)] = some (int (rsz l)) := by
  refine evalPure_of rfl ?_
  simp
  refine EvC_for (fun k σ hp nx => σ 6 = .sl 3 (l.map encR) ∧ σ 7 = int l.length ∧ σ 8 = int k ∧ ∃ a : Int, σ 3 = int a ∧ 0 ≤ a ∧ a ≤ 100000 * k ∧ rsz l = a + rsz (l.drop k)) l.length
    ⟨by simp, by simp, by simp, 0, by simp, by simp, by simp, by simp⟩ ?_
  rintro k σ hp nx hk ⟨h6, h7, h8, a, h3, ha0, ha1, hf⟩
  by_cases hlt : k < l.length
  · have hw : IntKind.i64.wrap ((k : Int) + 1) = (k : Int) + 1 := wrap_fit (by omega) (by omega)
    have hb := h _ (List.getElem_mem hlt)
    have w1 : IntKind.i64.wrap (l[k].2.1 - l[k].1) = l[k].2.1 - l[k].1 := wrap_fit (by omega) (by omega)
    have w2 : IntKind.i64.wrap (a + (l[k].2.1 - l[k].1)) = a + (l[k].2.1 - l[k].1) := wrap_fit (by omega) (by omega)
    rw [rsz_drop hlt] at hf
    simp [h3, h6, h7, h8, hlt, w1, w2, hw]
    exact ⟨hlt, by omega, by omega, by omega⟩
  · obtain rfl : k = l.length := by omega
    rw [List.drop_length, rsz] at hf
    simp [h3, h6, h7, h8, Try.f30]
    omega
theorem size3_sound : SpecSound Try.prog 30 (hPure false [] (FR (fun l => int (rsz l)) fun l => RIn l ∧ l.length ≤ 100000)) :=
  pureS (fn := Try.f30) good0 ⟨_, Try.func30, by kernel_rfl, rfl, by kernel_rfl⟩ false [] _ fun args r h => by
    obtain ⟨l, rfl, hx, rfl⟩ := specOf_inv h
    exact ⟨Nat.le_trans (Nat.le_refl 1) (by decide), _, rsize3_eval l hx.1 hx.2, up_of _⟩

/-! ### weights -/
def addW (w : List Int) (r : Rg) : List Int := w.set r.2.2.toNat (w.getD r.2.2.toNat 0 + (r.2.1 - r.1))
def weightsL (l : List Rg) (n : Nat) : List Int := l.foldl addW (List.replicate n 0)
theorem addW_length (w : List Int) (r : Rg) : (addW w r).length = w.length := by simp [addW]
theorem foldW_length : ∀ (l : List Rg) (w : List Int), (l.foldl addW w).length = w.length
  | [], _ => rfl
  | r :: l, w => by rw [List.foldl_cons, foldW_length l, addW_length]
theorem foldW_step {l : List Rg} {k : Nat} (h : k < l.length) (w : List Int) : (l.take (k + 1)).foldl addW w = addW ((l.take k).foldl addW w) l[k] := by
  rw [List.take_succ_eq_append_getElem h, List.foldl_append]
  rfl
/-- All between 0 and b. -/
def Within (b : Int) (w : List Int) : Prop := ∀ n ∈ w, 0 ≤ n ∧ n ≤ b
theorem within_addW {b c : Int} {w : List Int} {r : Rg} (h : Within b w) (h0 : 0 ≤ b) (hr : 0 ≤ r.2.1 - r.1 ∧ r.2.1 - r.1 ≤ c) : Within (b + c) (addW w r) := by
  intro n hn
  unfold addW at hn
  rcases List.mem_or_eq_of_mem_set hn with hn | rfl
  · have := h n hn; omega
  · have : 0 ≤ w.getD r.2.2.toNat 0 ∧ w.getD r.2.2.toNat 0 ≤ b := by
      rw [List.getD_eq_getElem?_getD]
      cases hx : w[r.2.2.toNat]? with
      | none => simp; omega
      | some x => exact h x (List.mem_of_getElem? hx)
    omega
theorem within_fold : ∀ (l : List Rg) (w : List Int) (b : Int), 0 ≤ b → Within b w → RIn l → Within (b + 100000 * l.length) (l.foldl addW w)
  | [], w, b, _, h, _ => by simpa using h
  | r :: l, w, b, h0, h, hr => by
    have hb := hr r (by simp)
    have := within_fold l (addW w r) (b + 100000) (by omega) (within_addW h h0 ⟨by omega, by omega⟩) (fun x hx => hr x (by simp [hx]))
    have e : b + 100000 * ((r :: l).length : Int) = b + 100000 + 100000 * (l.length : Int) := by simp; omega
    rw [e]
    exact this
set_option maxRecDepth 8000 in
theorem weightsOf_eval (l : List Rg) (n : Nat) (hn : 1 ≤ n ∧ n ≤ 20) (h : RIn l) (hv : ∀ r ∈ l, 0 ≤ r.2.2 ∧ r.2.2 < n) (hl : l.length ≤ 200) : ∃ r0, evalPure C0 Try.f65 [.sl 3 (l.map encR), int n] = some r0 ∧ Stands r0 (.sl 1 ((weightsL l n).map encI)) := by
  have hfin : ∀ {code}, Try.f65.body = some code → EvC C0 code ⟨startσ [.sl 3 (l.map encR), int n], fun _ => none, 0⟩ (retK C0.P Try.f65 (pureN (.sl 1 ((weightsL l n).map encI)))) → ∃ r0, evalPure C0 Try.f65 [.sl 3 (l.map encR), int n] = some r0 ∧ Stands r0 (.sl 1 ((weightsL l n).map encI)) := by
    intro code hb h
    obtain ⟨r0, h1, h2⟩ := evalPureN_of hb h
    exact ⟨r0, h1, fun w S u hr => up_rep hr h2⟩
  refine hfin rfl ?_
  have hn0 : (n : Int) ≤ 4611686018427387904 := by omega
  have m1 : n ≤ maxLen := by unfold maxLen; omega
  have m2 : n * 8 ≤ 140737488355328 := by omega
  have hrep : List.replicate n [int 0] = (List.replicate n (0 : Int)).map encI := by simp
  simp [makeSliceA, m1, m2]
  refine EvC_for (fun k σ hp nx => σ 5 = .own 0 0 n ∧ σ 10 = .sl 3 (l.map encR) ∧ σ 11 = int l.length ∧ σ 12 = int k ∧ 0 < nx ∧ hp 0 = some ⟨3, 1, true, ((l.take k).foldl addW (List.replicate n 0)).map encI⟩) l.length
    ⟨by simp, by simp, by simp, by simp, by simp, by simp⟩ ?_
  rintro k σ hp nx hk ⟨h5, h10, h11, h12, hnx, hh⟩
  by_cases hlt : k < l.length
  · have hw : IntKind.i64.wrap ((k : Int) + 1) = (k : Int) + 1 := wrap_fit (by omega) (by omega)
    have hb := h _ (List.getElem_mem hlt)
    obtain ⟨v, hv1⟩ : ∃ v : Nat, l[k].2.2 = v := ⟨l[k].2.2.toNat, by have := hv _ (List.getElem_mem hlt); omega⟩
    have hvn : v < n := by have := hv _ (List.getElem_mem hlt); omega
    have hst := foldW_step hlt (List.replicate n 0)
    have hwi := within_fold (l.take k) (List.replicate n 0) 0 (by omega) (fun x hx => by rw [List.eq_of_mem_replicate hx]; omega) (fun r hr => h r (List.mem_of_mem_take hr))
    have hwl := foldW_length (l.take k) (List.replicate n 0)
    generalize (l.take k).foldl addW (List.replicate n 0) = wl at hh hwi hwl hst
    have hwl : wl.length = n := by simpa using hwl
    have hvl : v < wl.length := by omega
    have hwv := hwi _ (List.getElem_mem hvl)
    have hle : ((l.take k).length : Int) ≤ 200 := by simp; omega
    have ha : addW wl l[k] = wl.set v (wl[v] + (l[k].2.1 - l[k].1)) := by
      unfold addW
      rw [hv1]
      simp [hvl]
    have w1 : IntKind.i64.wrap (l[k].2.1 - l[k].1) = l[k].2.1 - l[k].1 := wrap_fit (by omega) (by omega)
    have w2 : IntKind.i64.wrap (wl[v] + (l[k].2.1 - l[k].1)) = wl[v] + (l[k].2.1 - l[k].1) := wrap_fit (by omega) (by omega)
    have n0 : ¬ (0 : Nat) = nx := by omega
    rw [ha] at hst
    simp [h5, h10, h11, h12, hlt, hh, n0, hv1, hvn, hvl, w1, w2, hw]
    exact ⟨hlt, by rw [hst, List.map_set]⟩
  · obtain rfl : k = l.length := by omega
    rw [List.take_length] at hh
    have hO : OwnS hp nx 3 1 (.own 0 0 n) ((weightsL l n).map encI) := .inr ⟨0, hnx, by simp [weightsL, foldW_length], hh⟩
    have := hO.freeze nx
    simp [h5, h10, h11, h12, Try.f65]
    exact this
theorem chain_mem : ∀ {n lo hi : Int} {p : Option Int} {l : List Rg}, Chain n lo hi p l → ∀ r ∈ l, lo ≤ r.1 ∧ r.1 < r.2.1 ∧ r.2.1 ≤ hi ∧ 0 ≤ r.2.2 ∧ r.2.2 < n
  | _, _, _, _, [], _, r, hr => absurd hr (by simp)
  | n, lo, hi, p, s :: l, h, r, hr => by
    obtain ⟨h1, h2, h3, h4, h5, _, h7⟩ := h
    rcases List.mem_cons.1 hr with rfl | hr
    · exact ⟨by omega, h2, h3, h4, h5⟩
    · have := chain_mem h7 r hr
      exact ⟨by omega, this.2⟩
theorem chain_rin {n : Int} {l : List Rg} (h : Chain n 0 100000 none l) : RIn l := fun r hr => by have := chain_mem h r hr; omega
noncomputable def wtsR (l : List Rg) (n : Int) : List Int × Int := if 1 ≤ n ∧ n ≤ 20 then (if rgFault l n = 0 then (weightsL l n.toNat, 0) else ([], rgFault l n)) else ([], 1)
def inTup (r : List Int × Int) : PV := .tup [.sl 1 (r.1.map encI), int r.2]
theorem stands_nilI (k : Int) : Stands (.tup [.nil, int k]) (inTup ([], k)) :=
  StandsL.tup (.cons (.nilOr (.inl ⟨rfl, rfl⟩)) (.cons (.refl _) .nil))
theorem weightsOf_sound : SpecSound Try.prog 65 (hPure false [] (FRN (fun l n => .sl 1 ((weightsL l n.toNat).map encI)) fun l n => (1 ≤ n ∧ n ≤ 20) ∧ rgFault l n = 0)) :=
  pureG (fn := Try.f65) good0 ⟨_, Try.func65, by kernel_rfl, rfl, by kernel_rfl⟩ false [] _ fun args r h w S vs hz => by
    obtain ⟨⟨l, n⟩, rfl, ⟨hn, hx⟩, rfl⟩ := specOf_inv h
    simp only at hn hx
    obtain ⟨m, rfl⟩ : ∃ m : Nat, n = m := ⟨n.toNat, by omega⟩
    obtain ⟨hc, hl, _⟩ := rgFault_right hx
    obtain ⟨r0, h1, h2⟩ := weightsOf_eval l m ⟨by omega, by omega⟩ (chain_rin hc) (fun r hr => by have := chain_mem hc r hr; exact ⟨this.2.2.2.1, this.2.2.2.2⟩) hl
    exact ⟨_, r0, hz, Nat.le_trans (Nat.le_refl 2) (by decide), h1, h2⟩
noncomputable abbrev Cwt : Ctx := mkCtx Try.prog [(64, hPure false [] (F3 inB)), (61, hPure false [] (FRN (fun l n => int (rgFault l n)) fun _ n => 1 ≤ n ∧ n ≤ 20)), (65, hPure false [] (FRN (fun l n => .sl 1 ((weightsL l n.toNat).map encI)) fun l n => (1 ≤ n ∧ n ≤ 20) ∧ rgFault l n = 0))]
set_option maxRecDepth 8000 in
theorem Weights_eval (l : List Rg) (n : Int) : ∃ r0, evalPure Cwt Try.f28 [.sl 3 (l.map encR), int n] = some r0 ∧ Stands r0 (inTup (wtsR l n)) := by
  refine evalPureU_of rfl ?_
  unfold wtsR
  by_cases hn : 1 ≤ n ∧ n ≤ 20
  · have hi : inB n 1 20 = true := by simp [inB, hn]
    have c1 := fun hp nx => FRN_call (fun l n => int (rgFault l n)) (fun _ n => 1 ≤ n ∧ n ≤ 20) l n hp nx hn
    rw [if_pos hn]
    by_cases hf : rgFault l n = 0
    · have c2 := fun hp nx => FRN_call (fun l n => .sl 1 ((weightsL l n.toNat).map encI)) (fun l n => (1 ≤ n ∧ n ≤ 20) ∧ rgFault l n = 0) l n hp nx ⟨hn, hf⟩
      rw [if_pos hf]
      simp [hi, c1, c2, hf, Try.f28]
      exact ⟨inTup (weightsL l n.toNat, 0), by simp [inTup], .refl _⟩
    · have hf' : (rgFault l n != 0) = true := by simpa using hf
      rw [if_neg hf]
      simp [hi, c1, hf', Try.f28]
      exact ⟨_, by simp, stands_nilI (rgFault l n)⟩
  · have hi : inB n 1 20 = false := by
      simp only [inB, Bool.and_eq_false_iff, decide_eq_false_iff_not]
      omega
    rw [if_neg hn]
    simp [hi, Try.f28]
    exact ⟨_, by simp, stands_nilI 1⟩
theorem Weights_sound : SpecSound Try.prog 28 (hPure false [] (FRN (fun l n => inTup (wtsR l n)) fun _ _ => True)) :=
  pureG (fn := Try.f28) (good_of (q := []) mixed ⟨withinF_sound, by simp, checkRanges_sound, by simp, weightsOf_sound, by simp, trivial⟩ : AM.Good Cwt _) ⟨_, Try.func28, by kernel_rfl, rfl, by kernel_rfl⟩ false [] _ fun args r h w S vs hz => by
    obtain ⟨⟨l, n⟩, rfl, _, rfl⟩ := specOf_inv h
    obtain ⟨r0, h1, h2⟩ := Weights_eval l n
    exact ⟨_, r0, hz, Nat.le_trans (Nat.le_refl 2) (by decide), h1, h2⟩
end Go.Proofs.Ytphmgjcjcdodhaa
