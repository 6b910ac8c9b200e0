/-
  Spans: together.
-/
import Derived.Test.YtphmgjcjcdodhaaSpan10
namespace Go.Proofs.Ytphmgjcjcdodhaa
open Go.RowKit Go.AM Go.SpanLaw

def Small (l : List Sp) : Prop := ∀ s ∈ l, 0 ≤ s.1 ∧ s.1 ≤ 100000
theorem tog_drop {l : List Sp} {k : Nat} (h : k < l.length) (c : Sp) : tog c (l.drop k) = if l[k].1 ≤ c.2 then tog (c.1, max c.2 l[k].2) (l.drop (k + 1)) else c :: tog l[k] (l.drop (k + 1)) := by
  rw [List.drop_eq_getElem_cons h, tog]
theorem togL_first {l : List Sp} (h : 0 < l.length) : togL l = tog l[0] (l.drop 1) := by
  cases l with
  | nil => simp at h
  | cons s l => rfl
/-- How far together is. -/
def TogTo (L : List Sp) (k : Nat) (d : List Sp) : Prop := (k = 0 ∧ d = []) ∨ ∃ d0 c, d = d0 ++ [c] ∧ d0 ++ tog c (L.drop k) = togL L
noncomputable abbrev Ctg : Ctx := mkCtx Try.prog [(88, hFresh [] (cloneF 43 2)), (89, hSort 2 90 cfS domS)]
/-- The copy, sorted. -/
theorem sort_call {l m : List Sp} (h : Small l) (hl : l.length ≤ 1000) (hm : sortL cfS (l.map encS) = m.map encS) {hp : Hp} {nx : Nat} {v : PV} (hO : OwnS hp nx 43 2 v (l.map encS)) :
    ∃ hp', hSort 2 90 cfS domS [v, .fn (.func 90) [] []] hp nx = some (.tup [], hp', nx) ∧ OwnS hp' nx 43 2 v (m.map encS) := by
  rcases hO with ⟨rfl, h0⟩ | ⟨id, hid, rfl, hh⟩
  · refine ⟨hp, rfl, .inl ⟨rfl, ?_⟩⟩
    rw [← hm, h0]
    rfl
  · by_cases hz : l = []
    · subst hz
      have : m = [] := by
        have : (m.map encS) = [] := by rw [← hm]; rfl
        simpa using this
      subst this
      exact ⟨hp, rfl, .inr ⟨id, hid, rfl, hh⟩⟩
    · have hne : ¬ (l.map encS).length = 0 := by simpa using hz
      have hml : (m.map encS).length = (l.map encS).length := by rw [← hm, sortL_length (weakS h)]
      refine ⟨upd hp id (some ⟨43, 2, true, m.map encS⟩), ?_, .inr ⟨id, hid, by rw [hml], by simp⟩⟩
      show (if (l.map encS).length = 0 then _ else _) = _
      rw [if_neg hne, hh]
      simp only
      have e1 : ((l.map encS).drop 0).take (l.map encS).length = l.map encS := by rw [List.drop_zero, List.take_length]
      have e2 : (l.map encS).drop (0 + (l.map encS).length) = [] := by rw [Nat.zero_add, List.drop_length]
      rw [e1, e2, if_pos ⟨rfl, rfl, rfl, by simp, by simp; omega, weakS h, fun x hx => by
        obtain ⟨s, hs, rfl⟩ := List.mem_map.1 hx
        exact ⟨s, rfl, h s hs⟩⟩, hm]
      simp
set_option maxRecDepth 8000 in
theorem together_eval (l L : List Sp) (h : Small l) (hl : l.length ≤ 1000) (hm : sortL cfS (l.map encS) = L.map encS) (y : PV) (hy : SlOf 2 (l.map encS) y) : ∃ r0, evalPure Ctg Try.f48 [y] = some r0 ∧ Stands r0 (.sl 2 ((togL L).map encS)) := by
  have hfin : ∀ {code}, Try.f48.body = some code → EvC Ctg code ⟨startσ [y], fun _ => none, 0⟩ (retK Ctg.P Try.f48 (pureN (.sl 2 ((togL L).map encS)))) → ∃ r0, evalPure Ctg Try.f48 [y] = some r0 ∧ Stands r0 (.sl 2 ((togL L).map encS)) := by
    intro code hb h
    obtain ⟨r0, h1, h2⟩ := evalPureN_of hb h
    exact ⟨r0, h1, fun w S u hr => up_rep hr h2⟩
  refine hfin rfl ?_
  have hLl : L.length = l.length := by
    have := congrArg List.length hm
    rw [sortL_length (weakS h)] at this
    simpa using this.symm
  have hcl := fun hp nx => clone_call (e := 43) hy (by simp; unfold lim; omega) hp nx
  have hown := clone_ownS (e := 43) hy (fun _ => none) 0
  generalize hv : (ownOr 43 2 (l.map encS) y 0) = v0 at hown
  obtain ⟨v, H, n0⟩ := v0
  have hcl0 := hcl (fun _ => none) 0
  rw [hv] at hcl0
  simp only at hown hcl0
  obtain ⟨hp1, hs1, hO1⟩ := sort_call h hl hm hown
  have hlen := hO1.len (P := Try.prog) (t := 35) el35
  simp at hlen
  simp [hcl0, hs1, hlen]
  refine EvC_for (fun k σ hp nx => σ 11 = v ∧ σ 12 = int L.length ∧ σ 13 = int k ∧ (0 < L.length → ∃ id0, id0 < nx ∧ v = .own id0 0 L.length ∧ hp id0 = some ⟨43, 2, true, L.map encS⟩ ∧ ∀ m, σ 3 ≠ .own id0 0 m) ∧ ∃ d, OwnS hp nx 43 2 (σ 3) (d.map encS) ∧ TogTo L k d ∧ d.length ≤ k ∧ (k = 0 → σ 3 = .nil)) L.length
    ⟨by simp, by simp, by simp, fun hpos => ?_, [], .inl (by simp), .inl ⟨rfl, rfl⟩, by simp, by simp⟩ ?_
  · obtain ⟨id0, g1, g2, g3⟩ := hO1.at_ (by simpa using hpos)
    exact ⟨id0, g1, by simpa using g2, by simpa using g3, by simp⟩
  rintro k σ hp nx hk ⟨h11, h12, h13, hv0, d, hO, hT, hdk, hk0⟩
  by_cases hlt : k < L.length
  · obtain ⟨id0, g1, rfl, g3, g4⟩ := hv0 (by omega)
    have hw : IntKind.i64.wrap ((k : Int) + 1) = (k : Int) + 1 := wrap_fit (by omega) (by omega)
    have hne0 : ¬ id0 = nx := by omega
    have hne1 : ¬ id0 = nx + 1 := by omega
    have hne2 : ¬ id0 = nx + 2 := by omega
    have hO' := hO.more (some ⟨43, 2, false, [encS L[k]]⟩)
    have hap := hO'.append1 (P := Try.prog) (t := 35) (c := encS L[k]) el35 sz43 by43 ze43 rfl (by omega) (by rw [List.length_map]; unfold maxLen; omega) (by rw [List.length_map]; omega)
    have hbs : ∀ hp nx, buildSliceA Try.prog hp nx 35 1 [(0, .agg (encS L[k]))] = some (.own nx 0 1, upd hp nx (some ⟨43, 2, true, [encS L[k]]⟩), nx + 1) := fun hp nx => by
      simp [buildSliceA, setElems, freezeParts]
    simp only [encS] at hap hbs
    rcases hT with ⟨rfl, rfl⟩ | ⟨d0, c, rfl, hT⟩
    · have hn : σ 3 = .nil := hk0 rfl
      have w1 : IntKind.i64.wrap 1 = 1 := wrap_fit (by omega) (by omega)
      rw [hn] at hap
      simp at hap
      simp [h11, h12, h13, hlt, g3, hn, hbs, hap, w1, hne0, hne1, hne2, killV]
      refine ⟨hlt, ⟨id0, by omega, rfl, ?_, by omega⟩, [L[0]], .inr ⟨nx + 1 + 1, by omega, by simp, by simp⟩, .inr ⟨[], L[0], rfl, (togL_first hlt).symm⟩, by simp⟩
      simp [g3, hne0, hne1, hne2]
    · obtain ⟨id, hid, h3, hh⟩ : ∃ id, id < nx ∧ σ 3 = .own id 0 (d0.length + 1) ∧ hp id = some ⟨43, 2, true, d0.map encS ++ [encS c]⟩ := by
        obtain ⟨id, q1, q2, q3⟩ := hO.at_ (by simp)
        exact ⟨id, q1, by simpa using q2, by simpa using q3⟩
      have hni : ¬ id = id0 := fun e => g4 _ (e ▸ h3)
      have hni' : ¬ id0 = id := fun e => hni e.symm
      have hi0 : ¬ id = nx := by omega
      have w1 : IntKind.i64.wrap (d0.length : Int) = d0.length := wrap_fit (by simp at hdk; omega) (by simp at hdk; omega)
      have w2 : (d0.length : Int) < d0.length + 1 := by omega
      have w3 : (0 : Int) < (d0.length : Int) + 1 := by omega
      simp at hdk
      rw [tog_drop hlt] at hT
      by_cases hc : L[k].1 ≤ c.2
      · rw [if_pos hc] at hT
        simp [h11, h12, h13, hlt, g3, h3, hh, hne0, hni, hni', hi0, w1, w2, w3, hc, hw]
        have hmx : (if c.2 < L[k].2 then L[k].2 else c.2) = max c.2 L[k].2 := by split <;> omega
        rw [hmx]
        refine ⟨hlt, fun _ => ⟨id0, by omega, rfl, by simp [g3, hne0, hni'], hni⟩, d0 ++ [(c.1, max c.2 L[k].2)], .inr ⟨id, by omega, by simp, by simp⟩, .inr ⟨d0, _, rfl, hT⟩, by simp; omega⟩
      · rw [if_neg hc] at hT
        rw [h3] at hap
        simp at hap
        simp [h11, h12, h13, hlt, g3, h3, hh, hne0, hni, hni', hi0, w1, w2, w3, hc, hw, hbs, hap]
        refine ⟨hlt, fun _ => ⟨id0, by omega, rfl, by simp [g3, hne0, hne1, hne2, hni', killV], by omega⟩, d0 ++ [c] ++ [L[k]], .inr ⟨nx + 1 + 1, by omega, by simp, by simp⟩, .inr ⟨d0 ++ [c], _, rfl, by rw [List.append_assoc]; exact hT⟩, by simp; omega⟩
  · obtain rfl : k = L.length := by omega
    have hd : d = togL L := by
      rcases hT with ⟨h0, rfl⟩ | ⟨d0, c, rfl, hT⟩
      · have : L = [] := List.length_eq_zero_iff.1 h0
        subst this; rfl
      · rw [List.drop_length, tog] at hT; exact hT
    rw [hd] at hO
    have := hO.freeze nx
    simp [h11, h12, h13, Try.f48]
    exact this
noncomputable def sorted (l : List Sp) : List Sp := by
  classical exact if h : Small l then (sortL_spans h).choose else []
theorem sorted_spec {l : List Sp} (h : Small l) : sortL cfS (l.map encS) = (sorted l).map encS ∧ (sorted l).Perm l ∧ (sorted l).Pairwise (fun a b => a.1 ≤ b.1) := by
  unfold sorted
  rw [dif_pos h]
  exact (sortL_spans h).choose_spec
theorem together_sound : SpecSound Try.prog 48 (hPure false [] (FP (fun l => .sl 2 ((togL (sorted l)).map encS)) fun l => Small l ∧ l.length ≤ 1000)) :=
  pureG (fn := Try.f48) (good_of (q := []) mixed ⟨cloneS_sound, by simp, sortS_sound, by simp, trivial⟩ : AM.Good Ctg _) ⟨_, Try.func48, by kernel_rfl, rfl, by kernel_rfl⟩ false [] _ fun args r h w S vs hz => by
    obtain ⟨l, rfl, hx, rfl⟩ := specOf_inv h
    obtain ⟨u, rfl, hr⟩ := zip_one hz
    obtain ⟨y, hy, hr2⟩ := rep_slOf hr
    obtain ⟨r0, h1, h2⟩ := together_eval l (sorted l) hx.1 hx.2 (sorted_spec hx.1).1 y hy
    exact ⟨_, r0, .cons hr2 .nil, Nat.le_trans (Nat.le_refl 1) (by decide), h1, h2⟩
end Go.Proofs.Ytphmgjcjcdodhaa
