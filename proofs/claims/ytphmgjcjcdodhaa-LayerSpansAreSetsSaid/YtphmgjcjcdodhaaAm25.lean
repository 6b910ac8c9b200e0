/-
  The abstract machine, part 25: functions that ask whether a slice is nil.
-/
import Derived.Test.YtphmgjcjcdodhaaAm24
namespace Go.AM
open Go.RowKit
section
variable {C : Ctx} {pf : FuncId → Bool} {f : FuncId} {fn : Func} {code : Code}
theorem hPure_soundG (hg : Good C pf) (hk : Known C pf f fn code) (kill : Bool) (ns : List Nat) (F : List PV → Option PV)
    (hF : ∀ args r, F args = some r → ∀ (w : World) (S : Nat → Prop) (vs : List Value), Zip (RepC w S) args vs → ∃ args' r0, Zip (RepC w S) args' vs ∧ args'.length ≤ fn.ntmps ∧ evalPure C fn args' = some r0 ∧ ∀ (w : World) (S : Nat → Prop) (u : Value), RepC w S r0 u → RepC w S r u) : SpecSound C.P f (hPure kill ns F) := by
  refine ⟨⟨fn, hk.func, hk.name, by rw [hk.body]; rfl⟩, ?_⟩
  intro args hp nx r hp' nx' h w S G vs hi hz
  unfold hPure at h
  split at h
  · rename_i as hp1 hfr
    split at h
    · rename_i r0 hF0
      obtain ⟨S1, k1, hz1, hsn⟩ := freezeVals_sound hi hfr hz
      obtain ⟨args', rr, hz2, hn, hev, hup⟩ := hF _ r0 hF0 w S1 vs (norm_rep hz1)
      unfold evalPure at hev
      split at hev
      · rename_i x hpe nxe hef
        obtain ⟨⟨r1, hpf1⟩, hfz, hr1⟩ := map_some_inv hev
        simp only at hr1
        subst hr1
        refine (run_closed hg hk hef hn k1.inv.st hz2).mono fun e w' hh => ?_
        obtain ⟨v, S', G', he, fr, inv', hx, hs0, hs1, _⟩ := hh
        obtain ⟨S2, k2, hc0⟩ := freeze_sound inv' hfz hx
        have hc := hup _ _ _ hc0
        have hS2 : ∀ b, S2 b → S1 b ∨ (w.heap.size ≤ b ∧ b < w'.heap.size) := by
          intro b hb
          have hlt := k2.inv.st b hb
          rcases k2.from_ b hb with h1 | ⟨id, blk, h1, rfl⟩ | h1
          · rcases hs1 b h1 with h2 | h2
            · exact .inl h2
            · exact .inr ⟨h2, hlt⟩
          · rcases Nat.lt_or_ge (G' id).g w.heap.size with h3 | h3
            · rename_i hown
              have := hown id blk h1
              omega
            · exact .inr ⟨h3, hlt⟩
          · exact absurd h1 (by omega)
        split at h
        · rename_i hflat
          injection h with h
          injection h with e1 h
          injection h with e2 e3
          subst e1; subst e2; subst e3
          refine ⟨v, _, G, he, Stp.outer hi fr, .c ?_⟩
          rcases hflat with hfl | hno
          · exact flat_any hc hfl
          · have hno' := hsn hno
            exact hc.mono fun b hb => ⟨by rw [← hno']; exact hS2 b hb, rfl⟩
        · split at h
          · injection h with h
            injection h with e1 h
            injection h with e2 e3
            subst e1; subst e2; subst e3
            exact ⟨v, _, G, he, k1.trans (Stp.outer k1.inv fr), .c (hc.mono fun b hb => ⟨hS2 b hb, rfl⟩)⟩
          · cases h
      · cases hev
    · cases h
  · cases h


/-- A slice, known to be nil or not. -/
inductive SlOf (s : Nat) : List (List PV) → PV → Prop
  | nil : SlOf s [] .nil
  | em : SlOf s [] .em
  | sl {c : List PV} {es : List (List PV)} : SlOf s (c :: es) (.sl s (c :: es))

theorem rep_slOf {w : World} {S : Nat → Prop} {s : Nat} {es : List (List PV)} {u : Value} (h : RepC w S (.sl s es) u) : ∃ y, SlOf s es y ∧ RepC w S y u := by
  cases es with
  | cons c es => exact ⟨_, .sl, h⟩
  | nil =>
    cases h with
    | sl us h0 h1 h2 h3 h4 h5 =>
      rename_i A cap
      cases A with
      | none =>
        have := h0 rfl
        subst this
        exact ⟨.nil, .nil, .nil⟩
      | some ad => exact ⟨.em, .em, .em h2⟩
theorem slOf_rep {w : World} {S : Nat → Prop} {s : Nat} {es : List (List PV)} {y : PV} {u : Value} (h : SlOf s es y) (hr : RepC w S y u) : RepC w S (.sl s es) u := by
  cases h with
  | nil => cases hr; exact .sl (es := []) (fun _ _ => undef) (by simp) (by simp) (by simp [maxLen]) (by simp) (by simp) (by simp)
  | em =>
    cases hr with
    | em hc => exact .sl (es := []) (fun _ _ => undef) (by simp) (by simp) hc (by simp) (by simp) (by simp)
  | sl => exact hr
/-- A cell of a struct made definite. -/
theorem rep_agg_set {w : World} {S : Nat → Prop} {cs : List PV} {u : Value} (h : RepC w S (.agg cs) u) {j s : Nat} {es : List (List PV)} (hj : cs[j]? = some (.sl s es)) : ∃ y, SlOf s es y ∧ RepC w S (.agg (cs.set j y)) u := by
  cases h with
  | agg hl hr =>
    rename_i us
    have hjl : j < cs.length := (List.getElem?_eq_some_iff.1 hj).1
    obtain ⟨y, h1, h2⟩ := rep_slOf (hr j _ us[j] hj (by simp))
    refine ⟨y, h1, .agg (by simpa using hl) fun k pv u hk hu => ?_⟩
    rw [List.getElem?_set] at hk
    split at hk
    · rename_i e
      subst e
      injection hk with hk
      subst hk
      rw [Array.getElem?_eq_getElem (by omega)] at hu
      injection hu with hu
      subst hu
      exact h2
    · exact hr k pv u hk hu
theorem rep_agg_back {w : World} {S : Nat → Prop} {cs : List PV} {u : Value} {j s : Nat} {es : List (List PV)} {y : PV} (hy : SlOf s es y) (hj : cs[j]? = some y) (h : RepC w S (.agg cs) u) : RepC w S (.agg (cs.set j (.sl s es))) u := by
  cases h with
  | agg hl hr =>
    refine .agg (by simpa using hl) fun k pv u hk hu => ?_
    rw [List.getElem?_set] at hk
    split at hk
    · rename_i e
      subst e
      split at hk
      · injection hk with hk
        subst hk
        exact slOf_rep hy (hr j y u hj hu)
      · cases hk
    · exact hr k pv u hk hu

section
variable {P : Program} {hp : Hp} {nx : Nat} {t : TypeId} {s e : Nat} {es : List (List PV)} {y : PV}
theorem SlOf.len (h : SlOf s es y) (ht : elemA P t = some e) : lenA P t y = some (.v (.int .i64 es.length)) := by
  cases h <;> simp [lenA, ht]
theorem SlOf.view (h : SlOf s es y) : AM.view hp s y = some es := by cases h <;> simp [AM.view]
theorem SlOf.isNil (h : SlOf s es y) : (isNilA y = some true ∧ y = .nil) ∨ (isNilA y = some false ∧ y ≠ .nil) := by
  cases h
  · exact .inl ⟨rfl, rfl⟩
  · exact .inr ⟨rfl, by simp⟩
  · exact .inr ⟨rfl, by simp⟩
theorem SlOf.cell (h : SlOf s es y) : y.isCell = true := by cases h <;> rfl
theorem SlOf.frz (h : SlOf s es y) : freezeVal hp y = some (y, hp) := by cases h <;> rfl
theorem SlOf.noOwn (h : SlOf s es y) : y.noOwn = true := by cases h <;> rfl
theorem SlOf.up (h : SlOf s es y) (w : World) (S : Nat → Prop) (u : Value) (hr : RepC w S y u) : RepC w S (.sl s es) u := slOf_rep h hr
end
theorem OwnS.more {hp : Hp} {nx e s : Nat} {v : PV} {xs : List (List PV)} (h : OwnS hp nx e s v xs) (b : Option Blk) : OwnS (upd hp nx b) (nx + 1) e s v xs := by
  rcases h with ⟨rfl, rfl⟩ | ⟨id, h1, rfl, h2⟩
  · exact .inl ⟨rfl, rfl⟩
  · exact .inr ⟨id, by omega, rfl, by rw [upd_miss _ _ _ _ (by omega)]; exact h2⟩
theorem pureG (hg : AM.Good C pf) (hk : KnownF C pf f fn) (kill : Bool) (ns : List Nat) (F : List PV → Option PV)
    (hF : ∀ args r, F args = some r → ∀ (w : World) (S : Nat → Prop) (vs : List Value), Zip (RepC w S) args vs → ∃ args' r0, Zip (RepC w S) args' vs ∧ args'.length ≤ fn.ntmps ∧ evalPure C fn args' = some r0 ∧ ∀ (w : World) (S : Nat → Prop) (u : Value), RepC w S r0 u → RepC w S r u) : SpecSound C.P f (hPure kill ns F) :=
  let ⟨_, hk⟩ := hk
  hPure_soundG hg hk kill ns F hF
end
end Go.AM
