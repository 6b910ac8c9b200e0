/-
  Spans: slices.Concat of two; together.
-/
import Derived.Test.YtphmgjcjcdodhaaSpan9
namespace Go.Proofs.Ytphmgjcjcdodhaa
open Go.RowKit Go.AM Go.SpanLaw

/-! ### slices.Concat -/
noncomputable def FCC (out : List Sp → List Sp → PV) (pre : List Sp → List Sp → Prop) : List PV → Option PV := specOf (α := List Sp × List Sp) (fun a => [.sl 1 [[.sl 2 (a.1.map encS)], [.sl 2 (a.2.map encS)]]]) (fun a => pre a.1 a.2) (fun a => out a.1 a.2)
noncomputable abbrev Ccc : Ctx := mkCtx Try.prog [(91, hGrow 43 2 16)]
set_option maxRecDepth 8000 in
theorem concat_eval (a b : List Sp) (ha : a.length ≤ 100) (hb : b.length ≤ 100) : ∃ r0, evalPure Ccc Try.f49 [.sl 1 [[.sl 2 (a.map encS)], [.sl 2 (b.map encS)]]] = some r0 ∧ Stands r0 (.sl 2 ((a ++ b).map encS)) := by
  have hfin : ∀ {code}, Try.f49.body = some code → EvC Ccc code ⟨startσ [.sl 1 [[.sl 2 (a.map encS)], [.sl 2 (b.map encS)]]], fun _ => none, 0⟩ (retK Ccc.P Try.f49 (pureN (.sl 2 ((a ++ b).map encS)))) → ∃ r0, evalPure Ccc Try.f49 [.sl 1 [[.sl 2 (a.map encS)], [.sl 2 (b.map encS)]]] = some r0 ∧ Stands r0 (.sl 2 ((a ++ b).map encS)) := by
    intro code hb h
    obtain ⟨r0, h1, h2⟩ := evalPureN_of hb h
    exact ⟨r0, h1, fun w S u hr => up_rep hr h2⟩
  refine hfin rfl ?_
  let cs : List (List Sp) := [a, b]
  have hcs : cs = [a, b] := rfl
  simp
  refine EvC_for (fun k σ hp nx => σ 0 = .sl 1 [[.sl 2 (a.map encS)], [.sl 2 (b.map encS)]] ∧ σ 9 = .sl 1 [[.sl 2 (a.map encS)], [.sl 2 (b.map encS)]] ∧ σ 10 = int 2 ∧ σ 11 = int k ∧ σ 3 = int (((cs.take k).map List.length).sum : Nat)) 2
    ⟨by simp, by simp, by simp, by simp, by simp⟩ ?_
  rintro k σ hp nx hk ⟨h0, h9, h10, h11, h3⟩
  obtain rfl | rfl | rfl : k = 0 ∨ k = 1 ∨ k = 2 := by omega
  · simp [hcs] at h3
    have w1 : IntKind.i64.wrap (a.length : Int) = a.length := wrap_fit (by omega) (by omega)
    have w2 : IntKind.i64.wrap 1 = 1 := wrap_fit (by omega) (by omega)
    have w3 : ¬ (a.length : Int) < 0 := by omega
    simp [h0, h9, h10, h11, h3, w1, w2, w3, hcs]
  · simp [hcs] at h3
    have w1 : IntKind.i64.wrap ((a.length : Int) + b.length) = a.length + b.length := wrap_fit (by omega) (by omega)
    have w2 : IntKind.i64.wrap 2 = 2 := wrap_fit (by omega) (by omega)
    have w3 : ¬ (a.length : Int) + b.length < 0 := by omega
    simp [h0, h9, h10, h11, h3, w1, w2, w3, hcs]
  · simp [hcs] at h3
    have hg : ∀ hp nx, ∃ v hp' nx', hGrow 43 2 16 [.nil, int ((a.length : Int) + b.length)] hp nx = some (v, hp', nx') ∧ OwnS hp' nx' 43 2 v [] := fun hp nx => by
      by_cases hz : (a.length : Int) + b.length = 0
      · exact ⟨.nil, hp, nx, by simp [hGrow, hz], .inl ⟨rfl, rfl⟩⟩
      · exact ⟨.own nx 0 0, upd hp nx (some ⟨43, 2, true, []⟩), nx + 1, by
          show (if (a.length : Int) + b.length = 0 then _ else _) = _
          rw [if_neg hz, if_pos ⟨by omega, by omega, by omega⟩], .inr ⟨nx, by omega, rfl, by simp⟩⟩
    obtain ⟨v, hp', nx', hg1, hO⟩ := hg hp nx
    simp [h0, h9, h10, h11, h3, hg1]
    refine EvC_for (fun k σ hp nx => σ 25 = .sl 1 [[.sl 2 (a.map encS)], [.sl 2 (b.map encS)]] ∧ σ 26 = int 2 ∧ σ 27 = int k ∧ OwnS hp nx 43 2 (σ 6) (((cs.take k).flatten).map encS)) 2
      ⟨by simp, by simp, by simp, by simpa using hO⟩ ?_
    rintro k σ hp nx hk ⟨h25, h26, h27, hO⟩
    obtain rfl | rfl | rfl : k = 0 ∨ k = 1 ∨ k = 2 := by omega
    · simp [hcs] at hO
      obtain ⟨v', hp', nx', ha1, hO', _⟩ := hO.appendL (P := Try.prog) (t := 35) (ys := a.map encS) el35 sz43 by43 ze43 rfl (by omega) (by simp [maxLen]; omega) (by simp; omega)
      have w2 : IntKind.i64.wrap 1 = 1 := wrap_fit (by omega) (by omega)
      simp at hO'
      simp [h25, h26, h27, ha1, w2, hcs]
      exact hO'
    · simp [hcs] at hO
      obtain ⟨v', hp', nx', ha1, hO', _⟩ := hO.appendL (P := Try.prog) (t := 35) (ys := b.map encS) el35 sz43 by43 ze43 rfl (by omega) (by simp [maxLen]; omega) (by simp; omega)
      have w2 : IntKind.i64.wrap 2 = 2 := wrap_fit (by omega) (by omega)
      simp [h25, h26, h27, ha1, w2, hcs]
      simpa using hO'
    · simp [hcs] at hO
      have := hO.freeze nx
      simp [h25, h26, h27, Try.f49]
      exact this
noncomputable def catF : List PV → Option PV := FCC (fun a b => .sl 2 ((a ++ b).map encS)) fun a b => a.length ≤ 100 ∧ b.length ≤ 100
theorem concat_sound : SpecSound Try.prog 49 (hPure true [] catF) :=
  pureG (fn := Try.f49) (good_of (q := []) mixed ⟨growS_sound, by simp, trivial⟩ : AM.Good Ccc _) ⟨_, Try.func49, by kernel_rfl, rfl, by kernel_rfl⟩ true [] _ fun args r h w S vs hz => by
    unfold catF FCC at h
    obtain ⟨⟨a, b⟩, rfl, hx, rfl⟩ := specOf_inv h
    obtain ⟨r0, h1, h2⟩ := concat_eval a b hx.1 hx.2
    exact ⟨_, r0, hz, Nat.le_trans (Nat.le_refl 1) (by decide), h1, h2⟩
end Go.Proofs.Ytphmgjcjcdodhaa
