/-
  Copies of slices.
-/
import Derived.Test.YtphmgjcjcdodhaaVal2
import Derived.Test.YtphmgjcjcdodhaaAm26
namespace Go.Proofs.Ytphmgjcjcdodhaa
open Go.RowKit Go.AM

/-- What slices.Clone makes. -/
def cloneF (e s : Nat) : List PV → Option (Option Blk)
  | [.nil] => some none
  | [.em] => some (some ⟨e, s, true, []⟩)
  | [.sl s' es] => if s' = s ∧ es ≠ [] ∧ es.length ≤ lim then some (some ⟨e, s, true, es⟩) else none
  | _ => none
/-- A slice of the call's own, or nil. -/
def ownOr (e s : Nat) (es : List (List PV)) (y : PV) (nx : Nat) : PV × (Hp → Hp) × Nat := match y with
  | .nil => (.nil, fun h => h, nx)
  | _ => (.own nx 0 es.length, fun h => upd h nx (some ⟨e, s, true, es⟩), nx + 1)
theorem clone_call {e s : Nat} {es : List (List PV)} {y : PV} (h : SlOf s es y) (hl : es.length ≤ lim) (hp : Hp) (nx : Nat) : hFresh [] (cloneF e s) [y] hp nx = some ((ownOr e s es y nx).1, (ownOr e s es y nx).2.1 hp, (ownOr e s es y nx).2.2) := by
  cases h with
  | nil => rfl
  | em => rfl
  | sl => simp at hl; simp [hFresh, normArgs, cloneF, ownOr, hl]
theorem ownOr_other {e s : Nat} {es : List (List PV)} {y : PV} {nx : Nat} (hp : Hp) {id : Nat} (h : id < nx) : (ownOr e s es y nx).2.1 hp id = hp id := by
  unfold ownOr
  split
  · rfl
  · exact upd_miss _ _ _ _ (by omega)
theorem ownOr_fst (e s : Nat) (es : List (List PV)) (y : PV) (nx : Nat) : (ownOr e s es y nx).1 = .nil ∨ (ownOr e s es y nx).1 = .own nx 0 es.length := by
  unfold ownOr
  split
  · exact .inl rfl
  · exact .inr rfl
theorem ownOr_nx (e s : Nat) (es : List (List PV)) (y : PV) (nx : Nat) : nx ≤ (ownOr e s es y nx).2.2 := by
  unfold ownOr
  split <;> simp
theorem clone_ownS {e s : Nat} {es : List (List PV)} {y : PV} (h : SlOf s es y) (hp : Hp) (nx : Nat) : OwnS ((ownOr e s es y nx).2.1 hp) (ownOr e s es y nx).2.2 e s (ownOr e s es y nx).1 es := by
  cases h with
  | nil => exact .inl ⟨rfl, rfl⟩
  | em => exact .inr ⟨nx, by simp [ownOr], rfl, by simp [ownOr]⟩
  | sl => exact .inr ⟨nx, by simp [ownOr], rfl, by simp [ownOr]⟩
/-! ### slices.Clone at V -/
set_option maxRecDepth 4000 in
theorem cloneV_eval (args : List PV) (r : Option Blk) (h : cloneF 28 5 args = some r) : args.length ≤ Try.f78.ntmps ∧ ∃ x hp nx, evalFunc C0 Try.f78 args (fun _ => none) 0 = some (x, hp, nx) ∧ OwnR r x hp nx := by
  unfold cloneF at h
  split at h
  · injection h with h; subst h
    exact ⟨by simp [Try.f78], evalFunc_of rfl (by simp [binA, isNilA, Try.f78, OwnR])⟩
  · injection h with h; subst h
    exact ⟨by simp [Try.f78], evalFunc_of rfl (by simp [binA, isNilA, Try.f78, OwnR, buildSliceA, appendA, AM.view, maxLen, setElems, freezeParts])⟩
  · rename_i es
    split at h
    · rename_i hc
      obtain ⟨rfl, hne, hl⟩ := hc
      injection h with h; subst h
      cases es with
      | nil => exact absurd rfl hne
      | cons c es =>
        unfold lim at hl
        simp at hl
        have m1 : es.length + 1 ≤ maxLen := by unfold maxLen; omega
        have m2 : (es.length + 1) * 80 ≤ 140737488355328 := by omega
        refine ⟨by simp [Try.f78], evalFunc_of rfl ?_⟩
        simp [binA, isNilA, Try.f78, OwnR, buildSliceA, appendA, AM.view, setElems, freezeParts, m1, m2]
    · cases h
  · cases h
theorem cloneV_sound : SpecSound Try.prog 78 (hFresh [] (cloneF 28 5)) :=
  hFresh_sound (fn := Try.f78) (code := _) good0 ⟨Try.func78, by kernel_rfl, rfl, by kernel_rfl⟩ [] _ cloneV_eval
/-! ### slices.Clone at F -/
set_option maxRecDepth 4000 in
theorem cloneF_eval (args : List PV) (r : Option Blk) (h : cloneF 99 6 args = some r) : args.length ≤ Try.f79.ntmps ∧ ∃ x hp nx, evalFunc C0 Try.f79 args (fun _ => none) 0 = some (x, hp, nx) ∧ OwnR r x hp nx := by
  unfold cloneF at h
  split at h
  · injection h with h; subst h
    exact ⟨by simp [Try.f79], evalFunc_of rfl (by simp [binA, isNilA, Try.f79, OwnR])⟩
  · injection h with h; subst h
    exact ⟨by simp [Try.f79], evalFunc_of rfl (by simp [binA, isNilA, Try.f79, OwnR, buildSliceA, appendA, AM.view, maxLen, setElems, freezeParts])⟩
  · rename_i es
    split at h
    · rename_i hc
      obtain ⟨rfl, hne, hl⟩ := hc
      injection h with h; subst h
      cases es with
      | nil => exact absurd rfl hne
      | cons c es =>
        unfold lim at hl
        simp at hl
        have m1 : es.length + 1 ≤ maxLen := by unfold maxLen; omega
        have m2 : (es.length + 1) * 96 ≤ 140737488355328 := by omega
        refine ⟨by simp [Try.f79], evalFunc_of rfl ?_⟩
        simp [binA, isNilA, Try.f79, OwnR, buildSliceA, appendA, AM.view, setElems, freezeParts, m1, m2]
    · cases h
  · cases h
theorem cloneF_sound : SpecSound Try.prog 79 (hFresh [] (cloneF 99 6)) :=
  hFresh_sound (fn := Try.f79) (code := _) good0 ⟨Try.func79, by kernel_rfl, rfl, by kernel_rfl⟩ [] _ cloneF_eval

/-! ### the reference's inner -/
def Val.inner (v : Val) : List Val := v.items ++ v.fields.map (·.2)
def innerTo (v : Val) (k : Nat) : List (List PV) := (v.items ++ (v.fields.take k).map (·.2)).map Val.enc
theorem innerTo_zero (v : Val) : innerTo v 0 = v.items.map Val.enc := by simp [innerTo]
theorem innerTo_succ {v : Val} {k : Nat} (h : k < v.fields.length) : innerTo v (k + 1) = innerTo v k ++ [v.fields[k].2.enc] := by
  unfold innerTo
  rw [List.take_succ_eq_append_getElem h, List.map_append (f := fun x : List UInt8 × Val => x.2), ← List.append_assoc, List.map_append (f := Val.enc)]
  rfl
theorem innerTo_full (v : Val) : innerTo v v.fields.length = v.inner.map Val.enc := by simp [innerTo, Val.inner]
theorem innerTo_length (v : Val) (k : Nat) : (innerTo v k).length ≤ v.items.length + v.fields.length := by simp [innerTo]; omega
noncomputable abbrev Cin : Ctx := mkCtx Try.prog [(78, hFresh [] (cloneF 28 5))]
set_option maxRecDepth 8000 in
theorem inner_eval (v : Val) (hv : v.vb ≤ lim) (y : PV) (hy : SlOf 5 (v.items.map Val.enc) y) :
    ∃ r0, evalPure Cin Try.f106 [.agg (v.enc.set 3 y)] = some r0 ∧ ∀ (w : World) (S : Nat → Prop) (u : Value), RepC w S r0 u → RepC w S (.sl 5 (v.inner.map Val.enc)) u := by
  have hvb := vb_eq v
  have hl1 := vbs_length v.items
  have hl2 := fbs_length v.fields
  have hcl := fun hp nx => clone_call (e := 28) hy (by simp; omega) hp nx
  have hown := fun hp nx => clone_ownS (e := 28) hy hp nx
  unfold lim at hv
  have henc : v.enc.set 3 y = [int v.kind, int v.n, str v.s, y, .sl 6 (v.fields.map encF)] := by rw [enc_eq]; rfl
  have hfin : ∀ {code}, Try.f106.body = some code → EvC Cin code ⟨startσ [.agg (v.enc.set 3 y)], fun _ => none, 0⟩ (retK Cin.P Try.f106 (pureN (.sl 5 (v.inner.map Val.enc)))) → ∃ r0, evalPure Cin Try.f106 [.agg (v.enc.set 3 y)] = some r0 ∧ ∀ (w : World) (S : Nat → Prop) (u : Value), RepC w S r0 u → RepC w S (.sl 5 (v.inner.map Val.enc)) u := by
    intro code hb h
    obtain ⟨r0, h1, h2⟩ := evalPureN_of hb h
    exact ⟨r0, h1, fun w S u hr => up_rep hr h2⟩
  refine hfin rfl ?_
  rw [henc]
  have ho := fun hp => ownOr_other (e := 28) (s := 5) (es := v.items.map Val.enc) (y := y) (nx := 1) hp (id := 0) (by omega)
  simp [hy.cell, hcl, ho]
  refine EvC_for (fun k σ hp nx => σ 10 = .sl 6 (v.fields.map encF) ∧ σ 11 = int v.fields.length ∧ σ 12 = int k ∧ OwnS hp nx 28 5 (σ 3) (innerTo v k)) v.fields.length
    ⟨by simp, by simp, by simp, by rw [innerTo_zero]; simpa using hown _ _⟩ ?_
  rintro k σ hp nx hk ⟨h10, h11, h12, hO⟩
  have hle := innerTo_length v k
  by_cases hlt : k < v.fields.length
  · have hw : IntKind.i64.wrap ((k : Int) + 1) = (k : Int) + 1 := wrap_fit (by omega) (by omega)
    have hO1 := hO.more (some ⟨99, 6, false, [str v.fields[k].1 :: v.fields[k].2.enc]⟩)
    have hap := hO1.append1 (P := Try.prog) (t := 25) (c := v.fields[k].2.enc) el25 sz28 by28 ze28 rfl (by omega) (by unfold maxLen; omega) (by omega)
    have hbs : ∀ hp nx, buildSliceA Try.prog hp nx 25 1 [(0, .agg v.fields[k].2.enc)] = some (.own nx 0 1, upd hp nx (some ⟨28, 5, true, [v.fields[k].2.enc]⟩), nx + 1) := fun hp nx => by
      simp only [buildSliceA, el25, sz28, ze28, freezeParts, freeze_enc]
      simp [setElems]
    simp [h10, h11, h12, hlt, hbs, hw, hap]
    refine ⟨hlt, ?_⟩
    rw [innerTo_succ hlt]
    exact OwnS.after
  · obtain rfl : k = v.fields.length := by omega
    rw [innerTo_full] at hO
    have := hO.freeze nx
    simp [h10, h11, h12, Try.f106]
    exact this
set_option maxRecDepth 4000 in
theorem inner_sound : SpecSound Try.prog 106 (GV fun v => .sl 5 (v.inner.map Val.enc)) :=
  pureG (fn := Try.f106) (good_of (q := []) mixed ⟨cloneV_sound, by simp, trivial⟩ : AM.Good Cin _) ⟨_, Try.func106, by kernel_rfl, rfl, by kernel_rfl⟩ false [] _ fun args r h w S vs hz => by
    obtain ⟨v, rfl, hv, rfl⟩ := FV_inv h
    obtain ⟨u, hu, hr⟩ := zip_one hz
    subst hu
    obtain ⟨y, hy, hr2⟩ := rep_agg_set hr (j := 3) (s := 5) (es := v.items.map Val.enc) (by simp)
    obtain ⟨r0, h1, h2⟩ := inner_eval v hv.1 y hy
    exact ⟨_, r0, .cons hr2 .nil, by simp [Try.f106], h1, h2⟩
end Go.Proofs.Ytphmgjcjcdodhaa
