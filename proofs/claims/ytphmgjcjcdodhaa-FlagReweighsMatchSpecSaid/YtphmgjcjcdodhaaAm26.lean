/-
  The abstract machine, part 25: functions that ask whether a slice is nil.
  The abstract machine, part 26: contexts for regions in which loads stand beside calls that make memory.
-/
import Derived.Test.YtphmgjcjcdodhaaAm24
namespace Go.AM
open Go.RowKit
section
variable {C : Ctx} {pf : FuncId → Bool} {f : FuncId} {fn : Func} {code : Code}
theorem hPure_soundG (hg : Good C pf) (hk : Known C pf f fn code) (kill : Bool) (ns : List Nat) (F : List PV → Option PV)
    (hF : ∀ args r, F args = some r → ∀ (w : World) (S : Nat → Prop) (vs : List Value), Zip (RepC w S) args vs → ∃ args' r0, Zip (RepC w S) args' vs ∧ args'.length ≤ fn.ntmps ∧ evalPure C fn args' = some r0 ∧ ∀ (w : World) (S : Nat → Prop) (u : Value), RepC w S r0 u → RepC w S r u) : SpecSound C.P f (hPure kill ns F) := by
  refine ⟨⟨fn, hk.func, hk.name, by rw [hk.body]; rfl⟩, ?_⟩
  intro args hp nx r hp' nx' h w S G vs hi hz
  unfold hPure at h
  split at h
  · rename_i as hp1 hfr
    split at h
    · rename_i r0 hF0
      obtain ⟨S1, k1, hz1, hsn⟩ := freezeVals_sound hi hfr hz
      obtain ⟨args', rr, hz2, hn, hev, hup⟩ := hF _ r0 hF0 w S1 vs (norm_rep hz1)
      unfold evalPure at hev
      split at hev
      · rename_i x hpe nxe hef
        obtain ⟨⟨r1, hpf1⟩, hfz, hr1⟩ := map_some_inv hev
        simp only at hr1
        subst hr1
        refine (run_closed hg hk hef hn k1.inv.st hz2).mono fun e w' hh => ?_
        obtain ⟨v, S', G', he, fr, inv', hx, hs0, hs1, _⟩ := hh
        obtain ⟨S2, k2, hc0⟩ := freeze_sound inv' hfz hx
        have hc := hup _ _ _ hc0
        have hS2 : ∀ b, S2 b → S1 b ∨ (w.heap.size ≤ b ∧ b < w'.heap.size) := by
          intro b hb
          have hlt := k2.inv.st b hb
          rcases k2.from_ b hb with h1 | ⟨id, blk, h1, rfl⟩ | h1
          · rcases hs1 b h1 with h2 | h2
            · exact .inl h2
            · exact .inr ⟨h2, hlt⟩
          · rcases Nat.lt_or_ge (G' id).g w.heap.size with h3 | h3
            · rename_i hown
              have := hown id blk h1
              omega
            · exact .inr ⟨h3, hlt⟩
          · exact absurd h1 (by omega)
        split at h
        · rename_i hflat
          injection h with h
          injection h with e1 h
          injection h with e2 e3
          subst e1; subst e2; subst e3
          refine ⟨v, _, G, he, Stp.outer hi fr, .c ?_⟩
          rcases hflat with hfl | hno
          · exact flat_any hc hfl
          · have hno' := hsn hno
            exact hc.mono fun b hb => ⟨by rw [← hno']; exact hS2 b hb, rfl⟩
        · split at h
          · injection h with h
            injection h with e1 h
            injection h with e2 e3
            subst e1; subst e2; subst e3
            exact ⟨v, _, G, he, k1.trans (Stp.outer k1.inv fr), .c (hc.mono fun b hb => ⟨hS2 b hb, rfl⟩)⟩
          · cases h
      · cases hev
    · cases h
  · cases h


/-- A slice, known to be nil or not. -/
inductive SlOf (s : Nat) : List (List PV) → PV → Prop
  | nil : SlOf s [] .nil
  | em : SlOf s [] .em
  | sl {c : List PV} {es : List (List PV)} : SlOf s (c :: es) (.sl s (c :: es))

theorem rep_slOf {w : World} {S : Nat → Prop} {s : Nat} {es : List (List PV)} {u : Value} (h : RepC w S (.sl s es) u) : ∃ y, SlOf s es y ∧ RepC w S y u := by
  cases es with
  | cons c es => exact ⟨_, .sl, h⟩
  | nil =>
    cases h with
    | sl us h0 h1 h2 h3 h4 h5 =>
      rename_i A cap
      cases A with
      | none =>
        have := h0 rfl
        subst this
        exact ⟨.nil, .nil, .nil⟩
      | some ad => exact ⟨.em, .em, .em h2⟩
theorem slOf_rep {w : World} {S : Nat → Prop} {s : Nat} {es : List (List PV)} {y : PV} {u : Value} (h : SlOf s es y) (hr : RepC w S y u) : RepC w S (.sl s es) u := by
  cases h with
  | nil => cases hr; exact .sl (es := []) (fun _ _ => undef) (by simp) (by simp) (by simp [maxLen]) (by simp) (by simp) (by simp)
  | em =>
    cases hr with
    | em hc => exact .sl (es := []) (fun _ _ => undef) (by simp) (by simp) hc (by simp) (by simp) (by simp)
  | sl => exact hr
/-- A cell of a struct made definite. -/
theorem rep_agg_set {w : World} {S : Nat → Prop} {cs : List PV} {u : Value} (h : RepC w S (.agg cs) u) {j s : Nat} {es : List (List PV)} (hj : cs[j]? = some (.sl s es)) : ∃ y, SlOf s es y ∧ RepC w S (.agg (cs.set j y)) u := by
  cases h with
  | agg hl hr =>
    rename_i us
    have hjl : j < cs.length := (List.getElem?_eq_some_iff.1 hj).1
    obtain ⟨y, h1, h2⟩ := rep_slOf (hr j _ us[j] hj (by simp))
    refine ⟨y, h1, .agg (by simpa using hl) fun k pv u hk hu => ?_⟩
    rw [List.getElem?_set] at hk
    split at hk
    · rename_i e
      subst e
      injection hk with hk
      subst hk
      rw [Array.getElem?_eq_getElem (by omega)] at hu
      injection hu with hu
      subst hu
      exact h2
    · exact hr k pv u hk hu
theorem rep_agg_back {w : World} {S : Nat → Prop} {cs : List PV} {u : Value} {j s : Nat} {es : List (List PV)} {y : PV} (hy : SlOf s es y) (hj : cs[j]? = some y) (h : RepC w S (.agg cs) u) : RepC w S (.agg (cs.set j (.sl s es))) u := by
  cases h with
  | agg hl hr =>
    refine .agg (by simpa using hl) fun k pv u hk hu => ?_
    rw [List.getElem?_set] at hk
    split at hk
    · rename_i e
      subst e
      split at hk
      · injection hk with hk
        subst hk
        exact slOf_rep hy (hr j y u hj hu)
      · cases hk
    · exact hr k pv u hk hu

section
variable {P : Program} {hp : Hp} {nx : Nat} {t : TypeId} {s e : Nat} {es : List (List PV)} {y : PV}
theorem SlOf.len (h : SlOf s es y) (ht : elemA P t = some e) : lenA P t y = some (.v (.int .i64 es.length)) := by
  cases h <;> simp [lenA, ht]
theorem SlOf.view (h : SlOf s es y) : AM.view hp s y = some es := by cases h <;> simp [AM.view]
theorem SlOf.isNil (h : SlOf s es y) : (isNilA y = some true ∧ y = .nil) ∨ (isNilA y = some false ∧ y ≠ .nil) := by
  cases h
  · exact .inl ⟨rfl, rfl⟩
  · exact .inr ⟨rfl, by simp⟩
  · exact .inr ⟨rfl, by simp⟩
theorem SlOf.cell (h : SlOf s es y) : y.isCell = true := by cases h <;> rfl
theorem SlOf.frz (h : SlOf s es y) : freezeVal hp y = some (y, hp) := by cases h <;> rfl
theorem SlOf.noOwn (h : SlOf s es y) : y.noOwn = true := by cases h <;> rfl
theorem SlOf.up (h : SlOf s es y) (w : World) (S : Nat → Prop) (u : Value) (hr : RepC w S y u) : RepC w S (.sl s es) u := slOf_rep h hr
end
theorem OwnS.more {hp : Hp} {nx e s : Nat} {v : PV} {xs : List (List PV)} (h : OwnS hp nx e s v xs) (b : Option Blk) : OwnS (upd hp nx b) (nx + 1) e s v xs := by
  rcases h with ⟨rfl, rfl⟩ | ⟨id, h1, rfl, h2⟩
  · exact .inl ⟨rfl, rfl⟩
  · exact .inr ⟨id, by omega, rfl, by rw [upd_miss _ _ _ _ (by omega)]; exact h2⟩
theorem pureG (hg : AM.Good C pf) (hk : KnownF C pf f fn) (kill : Bool) (ns : List Nat) (F : List PV → Option PV)
    (hF : ∀ args r, F args = some r → ∀ (w : World) (S : Nat → Prop) (vs : List Value), Zip (RepC w S) args vs → ∃ args' r0, Zip (RepC w S) args' vs ∧ args'.length ≤ fn.ntmps ∧ evalPure C fn args' = some r0 ∧ ∀ (w : World) (S : Nat → Prop) (u : Value), RepC w S r0 u → RepC w S r u) : SpecSound C.P f (hPure kill ns F) :=
  let ⟨_, hk⟩ := hk
  hPure_soundG hg hk kill ns F hF
end
end Go.AM
namespace Go.AM
open Go.RowKit

/-- l: the specs; k: the region; L: the slots through which it loads; b: the functions that make memory alone. -/
def mkCtxL (P : Program) (l : Tab) (k : Nat) (L : List Tmp) (b : List Nat) : Ctx := ⟨P, lookup l, fun _ => [], fun i => if i = k then L else [], fun g => b.contains g, fun _ => []⟩
@[simp] theorem mkCtxL_P (P : Program) (l : Tab) (k : Nat) (L : List Tmp) (b : List Nat) : (mkCtxL P l k L b).P = P := rfl
@[simp] theorem call_mkL (P : Program) (l : Tab) (k : Nat) (L : List Tmp) (b : List Nat) (hp : Hp) (nx g : Nat) (x y xs : List PV) : callVal (mkCtxL P l k L b) hp nx (some (.fn (.func g) x y)) xs = (lookup l g).bind fun s => s (x ++ xs ++ y) hp nx := by
  unfold callVal mkCtxL
  simp only
  cases lookup l g <;> rfl
@[simp] theorem EvC_region_mkL (P : Program) (l : Tab) (k : Nat) (L : List Tmp) (b : List Nat) (i : Nat) (ops : Array Oper) (d : Bool) (st : St) (K : Exit → St → Prop) (h : ¬ i = k) : EvC (mkCtxL P l k L b) (.region i ops d) st K = EvL (mkCtxL P l k L b) ops ops.toList st (normK K) :=
  EvC_region _ i ops d st K rfl (by simp [mkCtxL, h])
theorem EvC_region_here {P : Program} {l : Tab} {k : Nat} {L : List Tmp} {b : List Nat} {ops : Array Oper} {d : Bool} {st : St} {K : Exit → St → Prop} (h : RefsA L st) : EvC (mkCtxL P l k L b) (.region k ops d) st K = EvL (mkCtxL P l k L b) ops ops.toList st (normK K) :=
  EvC_region' _ k ops d st K (fun _ h => by cases h) (by simpa [mkCtxL] using h)
/-- l: the specs; k: the region ahead of which slot t's slice is done with. -/
def mkCtxF (P : Program) (l : Tab) (k : Nat) (t : Tmp) : Ctx := ⟨P, lookup l, fun _ => [], fun _ => [], fun _ => false, fun i => if i = k then [t] else []⟩
@[simp] theorem mkCtxF_P (P : Program) (l : Tab) (k : Nat) (t : Tmp) : (mkCtxF P l k t).P = P := rfl
@[simp] theorem call_mkF (P : Program) (l : Tab) (k : Nat) (t : Tmp) (hp : Hp) (nx g : Nat) (x y xs : List PV) : callVal (mkCtxF P l k t) hp nx (some (.fn (.func g) x y)) xs = (lookup l g).bind fun s => s (x ++ xs ++ y) hp nx := by
  unfold callVal mkCtxF
  simp only
  cases lookup l g <;> rfl
@[simp] theorem EvC_region_mkF (P : Program) (l : Tab) (k : Nat) (t : Tmp) (i : Nat) (ops : Array Oper) (d : Bool) (st : St) (K : Exit → St → Prop) (h : ¬ i = k) : EvC (mkCtxF P l k t) (.region i ops d) st K = EvL (mkCtxF P l k t) ops ops.toList st (normK K) :=
  EvC_region _ i ops d st K rfl rfl (by simp [mkCtxF, h])
theorem EvC_region_froze {P : Program} {l : Tab} {k : Nat} {t : Tmp} {ops : Array Oper} {d : Bool} {st : St} {K : Exit → St → Prop} {y : PV} {hp1 : Hp} (h : freezeVal st.hp (st.σ t) = some (y, hp1)) : EvC (mkCtxF P l k t) (.region k ops d) st K = EvL (mkCtxF P l k t) ops ops.toList ⟨upd st.σ t y, hp1, st.nx⟩ (normK K) :=
  EvC_regionF _ k ops d st _ K (by
    have e : (mkCtxF P l k t).fz k = [t] := if_pos rfl
    rw [e]
    simp only [thaw, h]) (fun _ h => by cases h) (fun _ h => by cases h)
theorem good_ofF {P : Program} {l : Tab} {q : List Nat} {k : Nat} {t : Tmp} (hm : P.follows .mixedOrders = true) (h : AllOk P q l) : AM.Good (mkCtxF P l k t) (fun g => q.contains g) :=
  let g := good_of hm h
  ⟨g.spec, g.quiet, g.mixed, fun _ _ h => by cases h⟩
theorem quietIn_ofF {P : Program} {l : Tab} {k : Nat} {t : Tmp} {g : Nat} {spec : AM.Spec} (h : lookup l g = some spec) (hq : Quiet spec) : QuietIn (mkCtxF P l k t) g := fun s hs => by
  have : lookup l g = some s := hs
  rw [h] at this
  injection this with this
  exact this ▸ hq
def AllBox (b : List Nat) : Tab → Prop
  | [] => True
  | (g, s) :: l => (b.contains g = true → BoxKeep s) ∧ AllBox b l
theorem good_ofL {P : Program} {l : Tab} {q : List Nat} {k : Nat} {L : List Tmp} {b : List Nat} (hm : P.follows .mixedOrders = true) (h : AllOk P q l) (hb : AllBox b l) : AM.Good (mkCtxL P l k L b) (fun g => q.contains g) := by
  let g := good_of hm h
  refine ⟨g.spec, g.quiet, g.mixed, ?_⟩
  have key : ∀ l : Tab, AllBox b l → ∀ g s, b.contains g = true → lookup l g = some s → BoxKeep s := by
    intro l
    induction l with
    | nil => intro _ g s _ h; cases h
    | cons x l ih =>
      obtain ⟨k, sp⟩ := x
      rintro ⟨h1, h2⟩ g s hg hs
      simp only [lookup_cons] at hs
      split at hs
      · rename_i e
        injection hs with hs
        subst hs; subst e
        exact h1 hg
      · exact ih h2 g s hg hs
  exact fun g s hg hs => key l hb g s hg hs
theorem freezeVals_box : ∀ {xs ys : List PV} {hp hp1 : Hp}, freezeVals hp xs = some (ys, hp1) → ∀ {id : Nat} {b : Blk}, hp id = some b → b.arr = false → hp1 id = some b
  | [], ys, hp, hp1, h, id, b, hb, ha => by
    simp only [freezeVals] at h
    injection h with h; injection h with _ h; subst h; exact hb
  | x :: l, ys, hp, hp1, h, id, b, hb, ha => by
    simp only [freezeVals] at h
    split at h
    · rename_i y hp2 h1
      split at h
      · rename_i r hp3 h2
        injection h with h; injection h with _ h; subst h
        exact freezeVals_box h2 (freezeVal_box h1 hb ha) ha
      · cases h
    · cases h
theorem hFresh_box (ns : List Nat) (F : List PV → Option (Option Blk)) : BoxKeep (hFresh ns F) := by
  intro args hp nx r hp' nx' h
  unfold hFresh at h
  split at h
  · rename_i as hp1 hf
    split at h
    · injection h with h; injection h with _ h; injection h with h1 h2; subst h1; subst h2
      exact ⟨Nat.le_refl _, fun id blk _ h1 h2 => freezeVals_box hf h1 h2⟩
    · injection h with h; injection h with _ h; injection h with h1 h2; subst h1; subst h2
      exact ⟨by omega, fun id blk hid h1 h2 => by rw [upd_miss _ _ _ _ (by omega)]; exact freezeVals_box hf h1 h2⟩
    · cases h
  · cases h

/-- A pure function's outcome, that stands for r wherever it stands for anything. -/
def Stands (r0 r : PV) : Prop := ∀ (w : World) (S : Nat → Prop) (u : Value), RepC w S r0 u → RepC w S r u
def pureU (r : PV) (x : PV) (hp : Hp) (_ : Nat) : Prop := ∃ r0, (AM.freeze hp x).map (·.1) = some r0 ∧ Stands r0 r
theorem evalPureU_of {C : Ctx} {fn : Func} {code : Code} {args : List PV} {r : PV} (hb : fn.body = some code)
    (h : EvC C code ⟨startσ args, fun _ => none, 0⟩ (retK C.P fn (pureU r))) : ∃ r0, evalPure C fn args = some r0 ∧ Stands r0 r := by
  obtain ⟨x, hp', nx', h1, r0, h2, h3⟩ := evalFunc_of hb h
  exact ⟨r0, by unfold evalPure; simp only [h1]; exact h2, h3⟩
/-- A slice of the call's own, given up. -/
theorem OwnS.gone {hp : Hp} {nx e s : Nat} {v : PV} {xs : List (List PV)} (h : OwnS hp nx e s v xs) : ∃ y hp1, freezeCell hp v = some (y, hp1) ∧ (y = .nil ∧ xs = [] ∨ y = .sl s xs) ∧ ∀ id, (∀ n, v ≠ .own id 0 n) → hp1 id = hp id := by
  rcases h with ⟨rfl, rfl⟩ | ⟨id, h1, rfl, h2⟩
  · exact ⟨.nil, hp, rfl, .inl ⟨rfl, rfl⟩, fun _ _ => rfl⟩
  · exact ⟨.sl s xs, upd hp id none, by simp [h2], .inr rfl, fun k hk => upd_miss _ _ _ _ (fun e => hk xs.length (by subst e; rfl))⟩
theorem nilOr_stands {w : World} {S : Nat → Prop} {s : Nat} {xs : List (List PV)} {y : PV} {u : Value} (h : y = .nil ∧ xs = [] ∨ y = .sl s xs) (hr : RepC w S y u) : RepC w S (.sl s xs) u := by
  rcases h with ⟨rfl, rfl⟩ | rfl
  · exact slOf_rep .nil hr
  · exact hr
theorem Stands.refl (x : PV) : Stands x x := fun _ _ _ h => h
theorem Stands.nilOr {s : Nat} {xs : List (List PV)} {y : PV} (h : y = .nil ∧ xs = [] ∨ y = .sl s xs) : Stands y (.sl s xs) := fun _ _ _ hr => nilOr_stands h hr
inductive StandsL : List PV → List PV → Prop
  | nil : StandsL [] []
  | cons {x y : PV} {xs ys : List PV} : Stands x y → StandsL xs ys → StandsL (x :: xs) (y :: ys)
theorem StandsL.length {xs ys : List PV} (h : StandsL xs ys) : xs.length = ys.length := by
  induction h with
  | nil => rfl
  | cons _ _ ih => simp [ih]
theorem StandsL.get {xs ys : List PV} (h : StandsL xs ys) : ∀ {j : Nat} {x y : PV}, xs[j]? = some x → ys[j]? = some y → Stands x y := by
  induction h with
  | nil => intro j x y h; cases h
  | cons h0 _ ih =>
    intro j x y h1 h2
    cases j with
    | zero => simp at h1 h2; subst h1; subst h2; exact h0
    | succ j => exact ih (by simpa using h1) (by simpa using h2)
theorem StandsL.agg {xs ys : List PV} (h : StandsL xs ys) : Stands (.agg xs) (.agg ys) := by
  intro w S u hr
  cases hr with
  | agg hl hc =>
    refine .agg (by rw [← h.length]; exact hl) fun j pv u hj hu => ?_
    have hjl : j < xs.length := by rw [h.length]; exact (List.getElem?_eq_some_iff.1 hj).1
    exact h.get (List.getElem?_eq_getElem hjl) hj _ _ _ (hc j _ u (List.getElem?_eq_getElem hjl) hu)
theorem StandsL.tup {xs ys : List PV} (h : StandsL xs ys) : Stands (.tup xs) (.tup ys) := by
  intro w S u hr
  cases hr with
  | tup hl hc =>
    refine .tup (by rw [← h.length]; exact hl) fun j pv u hj hu => ?_
    have hjl : j < xs.length := by rw [h.length]; exact (List.getElem?_eq_some_iff.1 hj).1
    exact h.get (List.getElem?_eq_getElem hjl) hj _ _ _ (hc j _ u (List.getElem?_eq_getElem hjl) hu)
/-- An element of it. -/
theorem OwnS.at_ {hp : Hp} {nx e s : Nat} {v : PV} {xs : List (List PV)} (h : OwnS hp nx e s v xs) (hk : 0 < xs.length) : ∃ id, id < nx ∧ v = .own id 0 xs.length ∧ hp id = some ⟨e, s, true, xs⟩ := by
  rcases h with ⟨rfl, rfl⟩ | h
  · simp at hk
  · exact h
theorem OwnS.same {hp hp' : Hp} {nx nx' e s : Nat} {v : PV} {xs : List (List PV)} (h : OwnS hp nx e s v xs) (hn : nx ≤ nx') (hh : ∀ id n, v = .own id 0 n → hp' id = hp id) : OwnS hp' nx' e s v xs := by
  rcases h with ⟨rfl, rfl⟩ | ⟨id, h1, rfl, h2⟩
  · exact .inl ⟨rfl, rfl⟩
  · exact .inr ⟨id, by omega, rfl, by rw [hh id _ rfl]; exact h2⟩
end Go.AM
