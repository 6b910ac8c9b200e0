/-
  Spans: slices.Clone, Grow, Concat, and the comparison that sorts them.
-/
import Derived.Test.YtphmgjcjcdodhaaSpan8
import Derived.Test.YtphmgjcjcdodhaaClone
import Derived.Test.YtphmgjcjcdodhaaAm29
import Derived.Test.YtphmgjcjcdodhaaSort
namespace Go.Proofs
open Go.Shelf
def Try.growS_ren : Go.Shelf.Ren := ⟨fun | 4 => 91 | n => n, fun | 22 => 35 | 25 => 43 | 0 => 0 | 3 => 3 | 4 => 4 | 9 => 9 | 20 => 20 | n => n, fun | n => n⟩
theorem Try.growS : Go.Proofs.Lays8.n4 Try.prog Try.growS_ren := {
  mixed := by kernel_rfl
  f4 := ⟨Try.f91.name, by decide, Try.func91.trans (congrArg some (by kernel_rfl))⟩
  t0 := Try.underlying0
  a0 := Try.isAgg0
  z0 := Try.sizeOf0
  v0 := Try.zeroValue0
  t3 := Try.underlying3
  a3 := Try.isAgg3
  z3 := Try.sizeOf3
  v3 := Try.zeroValue3
  t4 := Try.underlying4
  a4 := Try.isAgg4
  z4 := Try.sizeOf4
  v4 := Try.zeroValue4
  t9 := Try.underlying9
  a9 := Try.isAgg9
  z9 := Try.sizeOf9
  v9 := Try.zeroValue9
  t20 := Try.underlying20
  a20 := Try.isAgg20
  z20 := Try.sizeOf20
  v20 := Try.zeroValue20
  t22 := Try.underlying35
  a22 := Try.isAgg35
  z22 := Try.sizeOf35
  v22 := Try.zeroValue35 }
end Go.Proofs
namespace Go.Proofs.Ytphmgjcjcdodhaa
open Go.RowKit Go.AM Go.SpanLaw

set_option maxRecDepth 4000 in
theorem cloneS_eval (args : List PV) (r : Option Blk) (h : cloneF 43 2 args = some r) : args.length ≤ Try.f88.ntmps ∧ ∃ x hp nx, evalFunc C0 Try.f88 args (fun _ => none) 0 = some (x, hp, nx) ∧ OwnR r x hp nx := by
  unfold cloneF at h
  split at h
  · injection h with h; subst h
    exact ⟨by simp [Try.f88], evalFunc_of rfl (by simp [binA, isNilA, Try.f88, OwnR])⟩
  · injection h with h; subst h
    exact ⟨by simp [Try.f88], evalFunc_of rfl (by simp [binA, isNilA, Try.f88, OwnR, buildSliceA, appendA, AM.view, maxLen, setElems, freezeParts])⟩
  · rename_i es
    split at h
    · rename_i hc
      obtain ⟨rfl, hne, hl⟩ := hc
      injection h with h; subst h
      cases es with
      | nil => exact absurd rfl hne
      | cons c es =>
        unfold lim at hl
        simp at hl
        have m1 : es.length + 1 ≤ maxLen := by unfold maxLen; omega
        have m2 : (es.length + 1) * 16 ≤ 140737488355328 := by omega
        refine ⟨by simp [Try.f88], evalFunc_of rfl ?_⟩
        simp [binA, isNilA, Try.f88, OwnR, buildSliceA, appendA, AM.view, setElems, freezeParts, m1, m2]
    · cases h
  · cases h
theorem cloneS_sound : SpecSound Try.prog 88 (hFresh [] (cloneF 43 2)) :=
  hFresh_sound (fn := Try.f88) (code := _) good0 ⟨Try.func88, by kernel_rfl, rfl, by kernel_rfl⟩ [] _ cloneS_eval

theorem growS_sound : SpecSound Try.prog 91 (hGrow 43 2 16) :=
  hGrow_sound ⟨_, Try.func91, by decide, by kernel_rfl⟩ sz43 (GrowOk.of Try.growS sz43 by43 ze43 rfl (by omega))

/-! ### the comparison -/
noncomputable def FSS (out : Sp → Sp → PV) : List PV → Option PV := specOf (α := Sp × Sp) (fun a => [.agg (encS a.1), .agg (encS a.2)]) (fun _ => True) (fun a => out a.1 a.2)
theorem FSS_call (out : Sp → Sp → PV) (a b : Sp) (hp : Hp) (nx : Nat) : hPure false [] (FSS out) [.agg (encS a), .agg (encS b)] hp nx = some (out a b, hp, nx) :=
  hPure_v rfl (specOf_eq (enc := fun a : Sp × Sp => [PV.agg (encS a.1), .agg (encS a.2)]) (a := (a, b)) (fun a b e => by
    obtain ⟨a1, a2⟩ := a; obtain ⟨b1, b2⟩ := b
    simp only [List.cons.injEq, and_true, PV.agg.injEq] at e
    exact Prod.ext (encS_inj (by simp [e.1])) (encS_inj (by simp [e.2]))) trivial) (.inr rfl)
theorem cmpS_sound : SpecSound Try.prog 90 (hPure false [] (FSS fun a b => int (IntKind.i64.wrap (a.1 - b.1)))) :=
  pureS (fn := Try.f90) good0 ⟨_, Try.func90, by kernel_rfl, rfl, by kernel_rfl⟩ false [] _ fun args r h => by
    obtain ⟨⟨a, b⟩, rfl, _, rfl⟩ := specOf_inv h
    exact ⟨Nat.le_trans (Nat.le_refl 2) (by decide), _, evalPure_of rfl (by simp [Try.f90]), up_of _⟩
def fromOf : List PV → Int
  | .v (.int _ a) :: _ => a
  | _ => 0
def cfS (x y : List PV) : Int := IntKind.i64.wrap (fromOf x - fromOf y)
def domS (x : List PV) : Prop := ∃ s : Sp, x = encS s ∧ 0 ≤ s.1 ∧ s.1 ≤ 100000
theorem cmpS_ok : CmpOk Try.prog 90 2 cfS domS :=
  ⟨fun args w => enters_of Try.func90 (by kernel_rfl) rfl args w, _, cmpS_sound, fun x y _ _ hx hy => by
    obtain ⟨a, rfl, _⟩ := hx
    obtain ⟨b, rfl, _⟩ := hy
    exact FSS_call _ a b _ _⟩
theorem sortS_sound : SpecSound Try.prog 89 (hSort 2 90 cfS domS) :=
  hSort_sound (by omega) ⟨_, Try.func89, by decide, by kernel_rfl⟩ Try.sortS_ok cmpS_ok
theorem cfS_eq {a b : Sp} (ha : 0 ≤ a.1 ∧ a.1 ≤ 100000) (hb : 0 ≤ b.1 ∧ b.1 ≤ 100000) : cfS (encS a) (encS b) = a.1 - b.1 := by
  show IntKind.i64.wrap (a.1 - b.1) = _
  exact wrap_fit (by omega) (by omega)
theorem weakS {l : List Sp} (h : ∀ s ∈ l, 0 ≤ s.1 ∧ s.1 ≤ 100000) : WeakOn cfS (l.map encS) where
  irrefl x hx := by
    obtain ⟨s, hs, rfl⟩ := List.mem_map.1 hx
    rw [cfS_eq (h s hs) (h s hs)]; omega
  trans x hx y hy z hz h1 h2 := by
    obtain ⟨a, ha, rfl⟩ := List.mem_map.1 hx
    obtain ⟨b, hb, rfl⟩ := List.mem_map.1 hy
    obtain ⟨c, hc, rfl⟩ := List.mem_map.1 hz
    rw [cfS_eq (h _ ha) (h _ hb)] at h1
    rw [cfS_eq (h _ hb) (h _ hc)] at h2
    rw [cfS_eq (h _ ha) (h _ hc)]
    omega
  ntrans x hx y hy z hz h1 h2 := by
    obtain ⟨a, ha, rfl⟩ := List.mem_map.1 hx
    obtain ⟨b, hb, rfl⟩ := List.mem_map.1 hy
    obtain ⟨c, hc, rfl⟩ := List.mem_map.1 hz
    rw [cfS_eq (h _ ha) (h _ hb)] at h1
    rw [cfS_eq (h _ hb) (h _ hc)] at h2
    rw [cfS_eq (h _ ha) (h _ hc)]
    omega
theorem perm_map_inv {α β : Type} {f : α → β} : ∀ {l : List α} {m : List β}, m.Perm (l.map f) → ∃ l' : List α, l'.Perm l ∧ m = l'.map f := by
  have key : ∀ {m n : List β}, m.Perm n → ∀ l : List α, n = l.map f → ∃ l' : List α, l'.Perm l ∧ m = l'.map f := by
    intro m n h
    induction h with
    | nil => intro l hl; exact ⟨l, .refl _, hl⟩
    | cons x _ ih =>
      intro l hl
      cases l with
      | nil => cases hl
      | cons a l =>
        simp only [List.map_cons, List.cons.injEq] at hl
        obtain ⟨l', h1, h2⟩ := ih l hl.2
        exact ⟨a :: l', h1.cons a, by rw [List.map_cons, hl.1, h2]⟩
    | swap x y r =>
      intro l hl
      match l, hl with
      | a :: b :: l, hl =>
        simp only [List.map_cons, List.cons.injEq] at hl
        exact ⟨b :: a :: l, .swap _ _ _, by rw [List.map_cons, List.map_cons, hl.1, hl.2.1, hl.2.2]⟩
    | trans _ _ ih1 ih2 =>
      intro l hl
      obtain ⟨l1, h1, h2⟩ := ih2 l hl
      obtain ⟨l2, h3, h4⟩ := ih1 l1 h2
      exact ⟨l2, h3.trans h1, h4⟩
  intro l m h
  exact key h l rfl
/-- What the sort makes of spans: the same ones, by their from. -/
theorem sortL_spans {l : List Sp} (h : ∀ s ∈ l, 0 ≤ s.1 ∧ s.1 ≤ 100000) : ∃ m : List Sp, sortL cfS (l.map encS) = m.map encS ∧ m.Perm l ∧ m.Pairwise (fun a b => a.1 ≤ b.1) := by
  obtain ⟨m, h1, h2⟩ := perm_map_inv (sortL_perm (weakS h))
  refine ⟨m, h2, h1, ?_⟩
  have h3 := sortL_sorted (weakS h)
  rw [h2, List.pairwise_map] at h3
  refine h3.imp_of_mem fun {a b} ha hb hab => ?_
  rw [cfS_eq (h _ (h1.mem_iff.1 hb)) (h _ (h1.mem_iff.1 ha))] at hab
  omega
end Go.Proofs.Ytphmgjcjcdodhaa
