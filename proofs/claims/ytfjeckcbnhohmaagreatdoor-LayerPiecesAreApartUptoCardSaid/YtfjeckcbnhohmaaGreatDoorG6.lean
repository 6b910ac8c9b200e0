/-
  The abstract machine, part 25: functions that ask whether a slice is nil.
  The abstract machine, part 26: contexts for regions in which loads stand beside calls that make memory.
  The abstract machine: nil slices within arguments and results taken for slices without elements; contracts on texts beside package-level variables.
  The abstract machine: functions that return a slice of their own, arguments and elements taken for what they stand for.
-/
import Derived.Test.YtfjeckcbnhohmaaGreatDoorG3
namespace Go.AM
open Go.RowKit
section
variable {C : Ctx} {pf : FuncId → Bool} {f : FuncId} {fn : Func} {code : Code}
theorem hPure_soundG (hg : Good C pf) (hk : Known C pf f fn code) (kill : Bool) (ns : List Nat) (F : List PV → Option PV)
    (hF : ∀ args r, F args = some r → ∀ (w : World) (S : Nat → Prop) (vs : List Value), Zip (RepC w S) args vs → ∃ args' r0, Zip (RepC w S) args' vs ∧ args'.length ≤ fn.ntmps ∧ evalPure C fn args' = some r0 ∧ ∀ (w : World) (S : Nat → Prop) (u : Value), RepC w S r0 u → RepC w S r u) : SpecSound C.P f (hPure kill ns F) := by
  refine ⟨⟨fn, hk.func, hk.name, by rw [hk.body]; rfl⟩, ?_⟩
  intro args hp nx r hp' nx' h w S G vs hi hz
  unfold hPure at h
  split at h
  · rename_i as hp1 hfr
    split at h
    · rename_i r0 hF0
      obtain ⟨S1, k1, hz1, hsn⟩ := freezeVals_sound hi hfr hz
      obtain ⟨args', rr, hz2, hn, hev, hup⟩ := hF _ r0 hF0 w S1 vs (norm_rep hz1)
      unfold evalPure at hev
      split at hev
      · rename_i x hpe nxe hef
        obtain ⟨⟨r1, hpf1⟩, hfz, hr1⟩ := map_some_inv hev
        simp only at hr1
        subst hr1
        refine (run_closed hg hk hef hn k1.inv.st k1.inv.glo hz2).mono fun e w' hh => ?_
        obtain ⟨v, S', G', he, fr, inv', hx, hs0, hs1, _⟩ := hh
        obtain ⟨S2, k2, hc0⟩ := freeze_sound inv' hfz hx
        have hc := hup _ _ _ hc0
        have hS2 : ∀ b, S2 b → S1 b ∨ (w.heap.size ≤ b ∧ b < w'.heap.size) := by
          intro b hb
          have hlt := k2.inv.st b hb
          rcases k2.from_ b hb with h1 | ⟨id, blk, h1, rfl⟩ | h1
          · rcases hs1 b h1 with h2 | h2
            · exact .inl h2
            · exact .inr ⟨h2, hlt⟩
          · rcases Nat.lt_or_ge (G' id).g w.heap.size with h3 | h3
            · rename_i hown
              have := hown id blk h1
              omega
            · exact .inr ⟨h3, hlt⟩
          · exact absurd h1 (by omega)
        split at h
        · rename_i hflat
          injection h with h
          injection h with e1 h
          injection h with e2 e3
          subst e1; subst e2; subst e3
          refine ⟨v, _, G, he, Stp.outer hi fr, .c ?_⟩
          rcases hflat with hfl | hno
          · exact flat_any hc hfl
          · have hno' := hsn hno
            exact hc.mono fun b hb => ⟨by rw [← hno']; exact hS2 b hb, rfl⟩
        · split at h
          · injection h with h
            injection h with e1 h
            injection h with e2 e3
            subst e1; subst e2; subst e3
            exact ⟨v, _, G, he, k1.trans (Stp.outer k1.inv fr), .c (hc.mono fun b hb => ⟨hS2 b hb, rfl⟩)⟩
          · cases h
      · cases hev
    · cases h
  · cases h


/-- A slice, known to be nil or not. -/
inductive SlOf (s : Nat) : List (List PV) → PV → Prop
  | nil : SlOf s [] .nil
  | em : SlOf s [] .em
  | sl {c : List PV} {es : List (List PV)} : SlOf s (c :: es) (.sl s (c :: es))

theorem rep_slOf {w : World} {S : Nat → Prop} {s : Nat} {es : List (List PV)} {u : Value} (h : RepC w S (.sl s es) u) : ∃ y, SlOf s es y ∧ RepC w S y u := by
  cases es with
  | cons c es => exact ⟨_, .sl, h⟩
  | nil =>
    cases h with
    | sl us h0 h1 h2 h3 h4 h5 =>
      rename_i A cap
      cases A with
      | none =>
        have := h0 rfl
        subst this
        exact ⟨.nil, .nil, .nil⟩
      | some ad => exact ⟨.em, .em, .em h2⟩
theorem slOf_rep {w : World} {S : Nat → Prop} {s : Nat} {es : List (List PV)} {y : PV} {u : Value} (h : SlOf s es y) (hr : RepC w S y u) : RepC w S (.sl s es) u := by
  cases h with
  | nil => cases hr; exact .sl (es := []) (fun _ _ => undef) (by simp) (by simp) (by simp [maxLen]) (by simp) (by simp) (by simp)
  | em =>
    cases hr with
    | em hc => exact .sl (es := []) (fun _ _ => undef) (by simp) (by simp) hc (by simp) (by simp) (by simp)
  | sl => exact hr
/-- A cell of a struct made definite. -/
theorem rep_agg_set {w : World} {S : Nat → Prop} {cs : List PV} {u : Value} (h : RepC w S (.agg cs) u) {j s : Nat} {es : List (List PV)} (hj : cs[j]? = some (.sl s es)) : ∃ y, SlOf s es y ∧ RepC w S (.agg (cs.set j y)) u := by
  cases h with
  | agg hl hr =>
    rename_i us
    have hjl : j < cs.length := (List.getElem?_eq_some_iff.1 hj).1
    obtain ⟨y, h1, h2⟩ := rep_slOf (hr j _ us[j] hj (by simp))
    refine ⟨y, h1, .agg (by simpa using hl) fun k pv u hk hu => ?_⟩
    rw [List.getElem?_set] at hk
    split at hk
    · rename_i e
      subst e
      injection hk with hk
      subst hk
      rw [Array.getElem?_eq_getElem (by omega)] at hu
      injection hu with hu
      subst hu
      exact h2
    · exact hr k pv u hk hu
theorem rep_agg_back {w : World} {S : Nat → Prop} {cs : List PV} {u : Value} {j s : Nat} {es : List (List PV)} {y : PV} (hy : SlOf s es y) (hj : cs[j]? = some y) (h : RepC w S (.agg cs) u) : RepC w S (.agg (cs.set j (.sl s es))) u := by
  cases h with
  | agg hl hr =>
    refine .agg (by simpa using hl) fun k pv u hk hu => ?_
    rw [List.getElem?_set] at hk
    split at hk
    · rename_i e
      subst e
      split at hk
      · injection hk with hk
        subst hk
        exact slOf_rep hy (hr j y u hj hu)
      · cases hk
    · exact hr k pv u hk hu

section
variable {P : Program} {hp : Hp} {nx : Nat} {t : TypeId} {s e : Nat} {es : List (List PV)} {y : PV}
theorem SlOf.len (h : SlOf s es y) (ht : elemA P t = some e) : lenA P t y = some (.v (.int .i64 es.length)) := by
  cases h <;> simp [lenA, ht]
theorem SlOf.view (h : SlOf s es y) : AM.view hp s y = some es := by cases h <;> simp [AM.view]
theorem SlOf.isNil (h : SlOf s es y) : (isNilA y = some true ∧ y = .nil) ∨ (isNilA y = some false ∧ y ≠ .nil) := by
  cases h
  · exact .inl ⟨rfl, rfl⟩
  · exact .inr ⟨rfl, by simp⟩
  · exact .inr ⟨rfl, by simp⟩
theorem SlOf.cell (h : SlOf s es y) : y.isCell = true := by cases h <;> rfl
theorem SlOf.frz (h : SlOf s es y) : freezeVal hp y = some (y, hp) := by cases h <;> rfl
theorem SlOf.noOwn (h : SlOf s es y) : y.noOwn = true := by cases h <;> rfl
theorem SlOf.up (h : SlOf s es y) (w : World) (S : Nat → Prop) (u : Value) (hr : RepC w S y u) : RepC w S (.sl s es) u := slOf_rep h hr
end
theorem OwnS.more {hp : Hp} {nx e s : Nat} {v : PV} {xs : List (List PV)} (h : OwnS hp nx e s v xs) (b : Option Blk) : OwnS (upd hp nx b) (nx + 1) e s v xs := by
  rcases h with ⟨rfl, rfl⟩ | ⟨id, h1, rfl, h2⟩
  · exact .inl ⟨rfl, rfl⟩
  · exact .inr ⟨id, by omega, rfl, by rw [upd_miss _ _ _ _ (by omega)]; exact h2⟩
theorem pureG (hg : AM.Good C pf) (hk : KnownF C pf f fn) (kill : Bool) (ns : List Nat) (F : List PV → Option PV)
    (hF : ∀ args r, F args = some r → ∀ (w : World) (S : Nat → Prop) (vs : List Value), Zip (RepC w S) args vs → ∃ args' r0, Zip (RepC w S) args' vs ∧ args'.length ≤ fn.ntmps ∧ evalPure C fn args' = some r0 ∧ ∀ (w : World) (S : Nat → Prop) (u : Value), RepC w S r0 u → RepC w S r u) : SpecSound C.P f (hPure kill ns F) :=
  let ⟨_, hk⟩ := hk
  hPure_soundG hg hk kill ns F hF
end
end Go.AM
namespace Go.AM
open Go.RowKit

/-- l: the specs; k: the region; L: the slots through which it loads; b: the functions that make memory alone. -/
def mkCtxL (P : Program) (l : Tab) (k : Nat) (L : List Tmp) (b : List Nat) : Ctx := ⟨P, lookup l, fun _ => [], fun i => if i = k then L else [], fun g => b.contains g, fun _ => [], fun _ => none⟩
@[simp] theorem mkCtxL_P (P : Program) (l : Tab) (k : Nat) (L : List Tmp) (b : List Nat) : (mkCtxL P l k L b).P = P := rfl
@[simp] theorem call_mkL (P : Program) (l : Tab) (k : Nat) (L : List Tmp) (b : List Nat) (hp : Hp) (nx g : Nat) (x y xs : List PV) : callVal (mkCtxL P l k L b) hp nx (some (.fn (.func g) x y)) xs = (lookup l g).bind fun s => s (x ++ xs ++ y) hp nx := by
  unfold callVal mkCtxL
  simp only
  cases lookup l g <;> rfl
@[simp] theorem EvC_region_mkL (P : Program) (l : Tab) (k : Nat) (L : List Tmp) (b : List Nat) (i : Nat) (ops : Array Oper) (d : Bool) (st : St) (K : Exit → St → Prop) (h : ¬ i = k) : EvC (mkCtxL P l k L b) (.region i ops d) st K = EvL (mkCtxL P l k L b) ops ops.toList st (normK K) :=
  EvC_region _ i ops d st K rfl (by simp [mkCtxL, h])
theorem EvC_region_here {P : Program} {l : Tab} {k : Nat} {L : List Tmp} {b : List Nat} {ops : Array Oper} {d : Bool} {st : St} {K : Exit → St → Prop} (h : RefsA L st) : EvC (mkCtxL P l k L b) (.region k ops d) st K = EvL (mkCtxL P l k L b) ops ops.toList st (normK K) :=
  EvC_region' _ k ops d st K (fun _ h => by cases h) (by simpa [mkCtxL] using h)
/-- l: the specs; k: the region ahead of which slot t's slice is done with. -/
def mkCtxF (P : Program) (l : Tab) (k : Nat) (t : Tmp) : Ctx := ⟨P, lookup l, fun _ => [], fun _ => [], fun _ => false, fun i => if i = k then [t] else [], fun _ => none⟩
@[simp] theorem mkCtxF_P (P : Program) (l : Tab) (k : Nat) (t : Tmp) : (mkCtxF P l k t).P = P := rfl
@[simp] theorem call_mkF (P : Program) (l : Tab) (k : Nat) (t : Tmp) (hp : Hp) (nx g : Nat) (x y xs : List PV) : callVal (mkCtxF P l k t) hp nx (some (.fn (.func g) x y)) xs = (lookup l g).bind fun s => s (x ++ xs ++ y) hp nx := by
  unfold callVal mkCtxF
  simp only
  cases lookup l g <;> rfl
@[simp] theorem EvC_region_mkF (P : Program) (l : Tab) (k : Nat) (t : Tmp) (i : Nat) (ops : Array Oper) (d : Bool) (st : St) (K : Exit → St → Prop) (h : ¬ i = k) : EvC (mkCtxF P l k t) (.region i ops d) st K = EvL (mkCtxF P l k t) ops ops.toList st (normK K) :=
  EvC_region _ i ops d st K rfl rfl (by simp [mkCtxF, h])
theorem EvC_region_froze {P : Program} {l : Tab} {k : Nat} {t : Tmp} {ops : Array Oper} {d : Bool} {st : St} {K : Exit → St → Prop} {y : PV} {hp1 : Hp} (h : freezeVal st.hp (st.σ t) = some (y, hp1)) : EvC (mkCtxF P l k t) (.region k ops d) st K = EvL (mkCtxF P l k t) ops ops.toList ⟨upd st.σ t y, hp1, st.nx⟩ (normK K) :=
  EvC_regionF _ k ops d st _ K (by
    have e : (mkCtxF P l k t).fz k = [t] := if_pos rfl
    rw [e]
    simp only [thaw, h]) (fun _ h => by cases h) (fun _ h => by cases h)
theorem good_ofF {P : Program} {l : Tab} {q : List Nat} {k : Nat} {t : Tmp} (hm : P.follows .mixedOrders = true) (h : AllOk P q l) : AM.Good (mkCtxF P l k t) (fun g => q.contains g) :=
  let g := good_of hm h
  ⟨g.spec, g.quiet, g.mixed, (fun _ _ h => by cases h), (fun _ _ h => by cases h)⟩
theorem quietIn_ofF {P : Program} {l : Tab} {k : Nat} {t : Tmp} {g : Nat} {spec : AM.Spec} (h : lookup l g = some spec) (hq : Quiet spec) : QuietIn (mkCtxF P l k t) g := fun s hs => by
  have : lookup l g = some s := hs
  rw [h] at this
  injection this with this
  exact this ▸ hq
def AllBox (b : List Nat) : Tab → Prop
  | [] => True
  | (g, s) :: l => (b.contains g = true → BoxKeep s) ∧ AllBox b l
theorem good_ofL {P : Program} {l : Tab} {q : List Nat} {k : Nat} {L : List Tmp} {b : List Nat} (hm : P.follows .mixedOrders = true) (h : AllOk P q l) (hb : AllBox b l) : AM.Good (mkCtxL P l k L b) (fun g => q.contains g) := by
  let g := good_of hm h
  refine ⟨g.spec, g.quiet, g.mixed, ?_, fun _ _ h => by cases h⟩
  have key : ∀ l : Tab, AllBox b l → ∀ g s, b.contains g = true → lookup l g = some s → BoxKeep s := by
    intro l
    induction l with
    | nil => intro _ g s _ h; cases h
    | cons x l ih =>
      obtain ⟨k, sp⟩ := x
      rintro ⟨h1, h2⟩ g s hg hs
      simp only [lookup_cons] at hs
      split at hs
      · rename_i e
        injection hs with hs
        subst hs; subst e
        exact h1 hg
      · exact ih h2 g s hg hs
  exact fun g s hg hs => key l hb g s hg hs
theorem freezeVals_box : ∀ {xs ys : List PV} {hp hp1 : Hp}, freezeVals hp xs = some (ys, hp1) → ∀ {id : Nat} {b : Blk}, hp id = some b → b.arr = false → hp1 id = some b
  | [], ys, hp, hp1, h, id, b, hb, ha => by
    simp only [freezeVals] at h
    injection h with h; injection h with _ h; subst h; exact hb
  | x :: l, ys, hp, hp1, h, id, b, hb, ha => by
    simp only [freezeVals] at h
    split at h
    · rename_i y hp2 h1
      split at h
      · rename_i r hp3 h2
        injection h with h; injection h with _ h; subst h
        exact freezeVals_box h2 (freezeVal_box h1 hb ha) ha
      · cases h
    · cases h
theorem hFresh_box (ns : List Nat) (F : List PV → Option (Option Blk)) : BoxKeep (hFresh ns F) := by
  intro args hp nx r hp' nx' h
  unfold hFresh at h
  split at h
  · rename_i as hp1 hf
    split at h
    · injection h with h; injection h with _ h; injection h with h1 h2; subst h1; subst h2
      exact ⟨Nat.le_refl _, fun id blk _ h1 h2 => freezeVals_box hf h1 h2⟩
    · injection h with h; injection h with _ h; injection h with h1 h2; subst h1; subst h2
      exact ⟨by omega, fun id blk hid h1 h2 => by rw [upd_miss _ _ _ _ (by omega)]; exact freezeVals_box hf h1 h2⟩
    · cases h
  · cases h

/-- A pure function's outcome, that stands for r wherever it stands for anything. -/
def Stands (r0 r : PV) : Prop := ∀ (w : World) (S : Nat → Prop) (u : Value), RepC w S r0 u → RepC w S r u
def pureU (r : PV) (x : PV) (hp : Hp) (_ : Nat) : Prop := ∃ r0, (AM.freeze hp x).map (·.1) = some r0 ∧ Stands r0 r
theorem evalPureU_of {C : Ctx} {fn : Func} {code : Code} {args : List PV} {r : PV} (hb : fn.body = some code)
    (h : EvC C code ⟨startσ args, fun _ => none, 0⟩ (retK C.P fn (pureU r))) : ∃ r0, evalPure C fn args = some r0 ∧ Stands r0 r := by
  obtain ⟨x, hp', nx', h1, r0, h2, h3⟩ := evalFunc_of hb h
  exact ⟨r0, by unfold evalPure; simp only [h1]; exact h2, h3⟩
/-- A slice of the call's own, given up. -/
theorem OwnS.gone {hp : Hp} {nx e s : Nat} {v : PV} {xs : List (List PV)} (h : OwnS hp nx e s v xs) : ∃ y hp1, freezeCell hp v = some (y, hp1) ∧ (y = .nil ∧ xs = [] ∨ y = .sl s xs) ∧ ∀ id, (∀ n, v ≠ .own id 0 n) → hp1 id = hp id := by
  rcases h with ⟨rfl, rfl⟩ | ⟨id, h1, rfl, h2⟩
  · exact ⟨.nil, hp, rfl, .inl ⟨rfl, rfl⟩, fun _ _ => rfl⟩
  · exact ⟨.sl s xs, upd hp id none, by simp [h2], .inr rfl, fun k hk => upd_miss _ _ _ _ (fun e => hk xs.length (by subst e; rfl))⟩
theorem nilOr_stands {w : World} {S : Nat → Prop} {s : Nat} {xs : List (List PV)} {y : PV} {u : Value} (h : y = .nil ∧ xs = [] ∨ y = .sl s xs) (hr : RepC w S y u) : RepC w S (.sl s xs) u := by
  rcases h with ⟨rfl, rfl⟩ | rfl
  · exact slOf_rep .nil hr
  · exact hr
theorem Stands.refl (x : PV) : Stands x x := fun _ _ _ h => h
theorem Stands.nilOr {s : Nat} {xs : List (List PV)} {y : PV} (h : y = .nil ∧ xs = [] ∨ y = .sl s xs) : Stands y (.sl s xs) := fun _ _ _ hr => nilOr_stands h hr
inductive StandsL : List PV → List PV → Prop
  | nil : StandsL [] []
  | cons {x y : PV} {xs ys : List PV} : Stands x y → StandsL xs ys → StandsL (x :: xs) (y :: ys)
theorem StandsL.length {xs ys : List PV} (h : StandsL xs ys) : xs.length = ys.length := by
  induction h with
  | nil => rfl
  | cons _ _ ih => simp [ih]
theorem StandsL.get {xs ys : List PV} (h : StandsL xs ys) : ∀ {j : Nat} {x y : PV}, xs[j]? = some x → ys[j]? = some y → Stands x y := by
  induction h with
  | nil => intro j x y h; cases h
  | cons h0 _ ih =>
    intro j x y h1 h2
    cases j with
    | zero => simp at h1 h2; subst h1; subst h2; exact h0
    | succ j => exact ih (by simpa using h1) (by simpa using h2)
theorem StandsL.agg {xs ys : List PV} (h : StandsL xs ys) : Stands (.agg xs) (.agg ys) := by
  intro w S u hr
  cases hr with
  | agg hl hc =>
    refine .agg (by rw [← h.length]; exact hl) fun j pv u hj hu => ?_
    have hjl : j < xs.length := by rw [h.length]; exact (List.getElem?_eq_some_iff.1 hj).1
    exact h.get (List.getElem?_eq_getElem hjl) hj _ _ _ (hc j _ u (List.getElem?_eq_getElem hjl) hu)
theorem StandsL.tup {xs ys : List PV} (h : StandsL xs ys) : Stands (.tup xs) (.tup ys) := by
  intro w S u hr
  cases hr with
  | tup hl hc =>
    refine .tup (by rw [← h.length]; exact hl) fun j pv u hj hu => ?_
    have hjl : j < xs.length := by rw [h.length]; exact (List.getElem?_eq_some_iff.1 hj).1
    exact h.get (List.getElem?_eq_getElem hjl) hj _ _ _ (hc j _ u (List.getElem?_eq_getElem hjl) hu)
/-- An element of it. -/
theorem OwnS.at_ {hp : Hp} {nx e s : Nat} {v : PV} {xs : List (List PV)} (h : OwnS hp nx e s v xs) (hk : 0 < xs.length) : ∃ id, id < nx ∧ v = .own id 0 xs.length ∧ hp id = some ⟨e, s, true, xs⟩ := by
  rcases h with ⟨rfl, rfl⟩ | h
  · simp at hk
  · exact h
theorem OwnS.same {hp hp' : Hp} {nx nx' e s : Nat} {v : PV} {xs : List (List PV)} (h : OwnS hp nx e s v xs) (hn : nx ≤ nx') (hh : ∀ id n, v = .own id 0 n → hp' id = hp id) : OwnS hp' nx' e s v xs := by
  rcases h with ⟨rfl, rfl⟩ | ⟨id, h1, rfl, h2⟩
  · exact .inl ⟨rfl, rfl⟩
  · exact .inr ⟨id, by omega, rfl, by rw [hh id _ rfl]; exact h2⟩
end Go.AM
namespace Go.AM
open Go.RowKit

/-- nil is a slice without elements (of s cells each). -/
def n1 (s : Nat) : PV → PV
  | .nil => .sl s []
  | .em => .sl s []
  | x => x
@[simp] theorem n1_nil (s : Nat) : n1 s .nil = .sl s [] := rfl
@[simp] theorem n1_em (s : Nat) : n1 s .em = .sl s [] := rfl
@[simp] theorem n1_sl (s t : Nat) (es : List (List PV)) : n1 s (.sl t es) = .sl t es := rfl
@[simp] theorem n1_v (s : Nat) (x : Value) : n1 s (.v x) = .v x := rfl
/-- Cells: those that are slices, and of what size. -/
def fixC : List (Option Nat) → List PV → List PV
  | some s :: l, x :: xs => n1 s x :: fixC l xs
  | none :: l, x :: xs => x :: fixC l xs
  | _, xs => xs
inductive Sh where
  | a
  | g (p : List (Option Nat))
  | s (n : Nat) (p : List (Option Nat))
def Sh.fix : Sh → PV → PV
  | .g p, .agg cs => .agg (fixC p cs)
  | .s _ p, .sl m es => .sl m (es.map (fixC p))
  | .s n _, x => n1 n x
  | _, x => x
@[simp] theorem Sh.fix_a (x : PV) : Sh.fix .a x = x := by cases x <;> rfl
@[simp] theorem Sh.fix_g (p : List (Option Nat)) (cs : List PV) : Sh.fix (.g p) (.agg cs) = .agg (fixC p cs) := rfl
@[simp] theorem Sh.fix_s (n m : Nat) (p : List (Option Nat)) (es : List (List PV)) : Sh.fix (.s n p) (.sl m es) = .sl m (es.map (fixC p)) := rfl
@[simp] theorem Sh.fix_nil (n : Nat) (p : List (Option Nat)) : Sh.fix (.s n p) .nil = .sl n [] := rfl
@[simp] theorem Sh.fix_em (n : Nat) (p : List (Option Nat)) : Sh.fix (.s n p) .em = .sl n [] := rfl
attribute [simp] fixC
def fixL : List Sh → List PV → List PV
  | h :: l, x :: xs => h.fix x :: fixL l xs
  | _, xs => xs
attribute [simp] fixL

theorem n1_stands (s : Nat) (x : PV) : Stands x (n1 s x) := by
  intro w S u h
  cases x with
  | nil => exact slOf_rep .nil h
  | em => exact slOf_rep .em h
  | _ => exact h
theorem fixC_length : ∀ (p : List (Option Nat)) (cs : List PV), (fixC p cs).length = cs.length
  | [], cs => by cases cs <;> rfl
  | none :: p, [] => rfl
  | some s :: p, [] => rfl
  | none :: p, x :: cs => by simp [fixC_length p cs]
  | some s :: p, x :: cs => by simp [fixC_length p cs]
theorem fixC_standsL : ∀ (p : List (Option Nat)) (cs : List PV), StandsL cs (fixC p cs)
  | [], [] => .nil
  | [], x :: cs => by
    have := fixC_standsL [] cs
    rw [show fixC [] cs = cs by cases cs <;> rfl] at this
    exact .cons (Stands.refl x) this
  | none :: p, [] => .nil
  | some s :: p, [] => .nil
  | none :: p, x :: cs => .cons (Stands.refl x) (fixC_standsL p cs)
  | some s :: p, x :: cs => .cons (n1_stands s x) (fixC_standsL p cs)
theorem fix_stands (h : Sh) (x : PV) : Stands x (h.fix x) := by
  intro w S u hr
  cases h with
  | a => simpa using hr
  | g p =>
    cases x with
    | agg cs => exact (fixC_standsL p cs).agg w S u hr
    | _ => exact hr
  | s n p =>
    cases x with
    | sl m es =>
      cases hr with
      | sl us h0 h1 h2 h3 h4 h5 =>
        rename_i A cap
        have := RepC.sl (w := w) (S := S) (es := es.map (fixC p)) (A := A) (cap := cap) (s := m) us h0 (by simpa using h1) h2 (fun c hc => by
          obtain ⟨c', hc', rfl⟩ := List.mem_map.1 hc
          rw [fixC_length]; exact h3 c' hc') (fun i j c pv hi hj => by
          rw [List.getElem?_map] at hi
          obtain ⟨c', hc', rfl⟩ : ∃ c', es[i]? = some c' ∧ fixC p c' = c := by
            cases hh : es[i]? with
            | none => rw [hh] at hi; cases hi
            | some c' => rw [hh] at hi; injection hi with hi; exact ⟨c', rfl, hi⟩
          have hjl : j < c'.length := by
            have := (List.getElem?_eq_some_iff.1 hj).1
            rwa [fixC_length] at this
          exact h4 i j c' _ hc' (List.getElem?_eq_getElem hjl)) (fun i j c pv hi hj => by
          rw [List.getElem?_map] at hi
          obtain ⟨c', hc', rfl⟩ : ∃ c', es[i]? = some c' ∧ fixC p c' = c := by
            cases hh : es[i]? with
            | none => rw [hh] at hi; cases hi
            | some c' => rw [hh] at hi; injection hi with hi; exact ⟨c', rfl, hi⟩
          have hjl : j < c'.length := by
            have := (List.getElem?_eq_some_iff.1 hj).1
            rwa [fixC_length] at this
          exact (fixC_standsL p c').get (List.getElem?_eq_getElem hjl) hj _ _ _ (h5 i j c' _ hc' (List.getElem?_eq_getElem hjl)))
        rw [List.length_map] at this
        exact this
    | nil => exact slOf_rep .nil hr
    | em => exact slOf_rep .em hr
    | _ => exact hr
theorem fixL_rep {w : World} {S : Nat → Prop} : ∀ {hs : List Sh} {xs : List PV} {us : List Value}, Zip (RepC w S) xs us → Zip (RepC w S) (fixL hs xs) us
  | [], xs, us, h => by cases xs <;> exact h
  | s :: hs, [], us, h => h
  | s :: hs, x :: xs, us, h => by
    obtain ⟨u, us', rfl, hu, hz⟩ := h.uncons
    exact .cons (fix_stands s x w S u hu) (fixL_rep hz)
theorem fixL_length : ∀ (hs : List Sh) (xs : List PV), (fixL hs xs).length = xs.length
  | [], xs => by cases xs <;> rfl
  | s :: hs, [] => rfl
  | s :: hs, x :: xs => by simp [fixL_length hs xs]
/-- A function of closed data, by what its arguments stand for. -/
def hPureN (shs : List Sh) (F : List PV → Option PV) : AM.Spec := hPure false [] fun args => F (fixL shs args)
theorem hPureN_quiet (shs : List Sh) (F : List PV → Option PV) : Quiet (hPureN shs F) := hPure_quiet _ _
theorem pureN_sound {C : Ctx} {pf : FuncId → Bool} {f : FuncId} {fn : Func} (hg : AM.Good C pf) (hk : KnownF C pf f fn) (shs : List Sh) (F : List PV → Option PV)
    (hF : ∀ args r, F args = some r → args.length ≤ fn.ntmps ∧ ∃ r0, evalPure C fn args = some r0 ∧ Stands r0 r) : SpecSound C.P f (hPureN shs F) :=
  pureG hg hk false [] _ fun args r h w S vs hz => by
    obtain ⟨h1, r0, h2, h3⟩ := hF _ _ h
    exact ⟨fixL shs args, r0, fixL_rep hz, h1, h2, h3⟩
theorem hPureN_v {shs : List Sh} {F : List PV → Option PV} {args : List PV} {hp : Hp} {nx : Nat} {as : List PV} {r : PV} (h1 : freezeVals hp args = some (as, hp)) (h2 : F (fixL shs as) = some r) (h3 : r.flat = true ∨ args.all PV.noOwn = true) :
    hPureN shs F args hp nx = some (r, hp, nx) := by
  have hn : normArgs [] as = as := by cases as <;> rfl
  exact hPure_v h1 (by rw [hn]; exact h2) h3
/-- A pure function's outcome, its nil slices taken for slices without elements. -/
def pureF (sh : Sh) (r : PV) (x : PV) (hp : Hp) (_ : Nat) : Prop := ∃ r0, (AM.freeze hp x).map (·.1) = some r0 ∧ sh.fix r0 = r
theorem evalPureF_of {C : Ctx} {fn : Func} {code : Code} {args : List PV} {sh : Sh} {r : PV} (hb : fn.body = some code)
    (h : EvC C code ⟨startσ args, fun _ => none, 0⟩ (retK C.P fn (pureF sh r))) : ∃ r0, evalPure C fn args = some r0 ∧ Stands r0 r := by
  obtain ⟨x, hp', nx', h1, r0, h2, h3⟩ := evalFunc_of hb h
  exact ⟨r0, by unfold evalPure; simp only [h1]; exact h2, h3 ▸ fix_stands sh r0⟩
/-- The same, of two results. -/
def pureF2 (sh : Sh) (r : PV) (x : PV) (hp : Hp) (_ : Nat) : Prop := ∃ r0 y, (AM.freeze hp x).map (·.1) = some (.tup [r0, y]) ∧ .tup [sh.fix r0, y] = r
theorem evalPureF2_of {C : Ctx} {fn : Func} {code : Code} {args : List PV} {sh : Sh} {r : PV} (hb : fn.body = some code)
    (h : EvC C code ⟨startσ args, fun _ => none, 0⟩ (retK C.P fn (pureF2 sh r))) : ∃ r0, evalPure C fn args = some r0 ∧ Stands r0 r := by
  obtain ⟨x, hp', nx', h1, r0, y, h2, h3⟩ := evalFunc_of hb h
  exact ⟨.tup [r0, y], by unfold evalPure; simp only [h1]; exact h2, h3 ▸ (StandsL.cons (fix_stands sh r0) (.cons (Stands.refl y) .nil)).tup⟩
/-- A contract on numbers and texts, where the world may grow. -/
theorem sound_scalarG {P : Program} {g : FuncId} {F : List PV → Option PV} (hfn : ∃ fn, P.funcs[g]? = some fn ∧ (fn.name == "runtime.NumGoroutine") = false ∧ fn.body.isNone = false)
    (h : ∀ args r, F args = some r → ∃ us : List Value, args = us.map PV.v ∧ (∀ u ∈ us, lit u = true) ∧ r.flat = true ∧ ∃ v, (∀ w S, RepC w S r v) ∧ ∀ w S, Glo P w S → Calls P g us.toArray w fun e w' => e = .returned v ∧ Fr w (fun _ => False) w') : SpecSound P g (hPure false [] F) := by
  refine ⟨hfn, ?_⟩
  intro args hp nx r hp' nx' hs w S G vs hi hz
  unfold hPure at hs
  split at hs
  · rename_i as hp1 hfr
    split at hs
    · rename_i r0 hF
      obtain ⟨us, e, hl, hfl, v, hv, hc⟩ := h _ _ hF
      have e' : normArgs [] as = as := by cases as <;> rfl
      rw [e'] at e
      subst e
      have hargs : args = us.map PV.v := by
        have key : ∀ (args : List PV) (us : List Value) (hp1 : Hp), freezeVals hp args = some (us.map PV.v, hp1) → args = us.map PV.v := by
          intro args
          induction args with
          | nil => intro us hp1 hh; simp only [freezeVals] at hh; injection hh with hh; injection hh with hh _
          | cons x l ih =>
            intro us hp1 hh
            simp only [freezeVals] at hh
            split at hh
            · rename_i y hp2 hy
              split at hh
              · rename_i r2 hp3 hr2
                injection hh with hh
                injection hh with hh _
                cases us with
                | nil => simp at hh
                | cons u us =>
                  simp only [List.map_cons, List.cons.injEq] at hh
                  obtain ⟨rfl, rfl⟩ := hh
                  have hx : x = .v u ∧ hp2 = hp := by
                    unfold freezeVal at hy
                    split at hy
                    · split at hy
                      · injection hy with hy; injection hy with hy _; cases hy
                      · cases hy
                    · unfold freezeCell at hy
                      split at hy <;> first
                        | (split at hy <;> first | (split at hy <;> first | (injection hy with hy; injection hy with hy _; cases hy; done) | cases hy) | cases hy)
                        | (injection hy with hy; injection hy with h1 h2; first | (exact ⟨by rw [← h1], h2.symm⟩) | cases h1)
                        | cases hy
                  obtain ⟨rfl, rfl⟩ := hx
                  rw [ih us hp3 hr2]
                  rfl
              · cases hh
            · cases hh
        exact key args us hp1 hfr
      subst hargs
      simp only [hfl, true_or, if_true] at hs
      injection hs with hs
      injection hs with h1 h2
      injection h2 with h2 h3
      subst h1; subst h2; subst h3
      rw [zip_lits hl hz]
      refine (hc w S hi.glo).mono fun e w' hh => ?_
      obtain ⟨rfl, fr⟩ := hh
      exact ⟨v, _, G, rfl, Stp.outer hi fr, .c (hv _ _)⟩
    · cases hs
  · cases hs
end Go.AM
namespace Go.AM
open Go.RowKit
/-- A block, nil slices within its elements taken for slices without elements. -/
def fixB (p : List (Option Nat)) (b : Blk) : Blk := ⟨b.e, b.s, b.arr, b.es.map (fixC p)⟩
theorem BlkRep.fixed {P : Program} {w : World} {S : Nat → Prop} {G : Nat → GI} {nx : Nat} {gi : GI} {b : Blk} (h : BlkRep P w S G nx gi b) (h0 : 0 < gi.s) (ha : b.arr = true) (p : List (Option Nat)) : BlkRep P w S G nx gi (fixB p b) := by
  refine BlkRep.ofCells h0 h.bs ⟨h.size h0, fun c hc => ?_, by simpa [fixB] using h.fit h0, ?_⟩
  · obtain ⟨c', hc', rfl⟩ := List.mem_map.1 hc
    rw [fixC_length]
    exact h.len h0 c' hc'
  · obtain ⟨cur, h1, h2, h3⟩ := h.row h0
    refine ⟨cur, h1, h2, fun i j c pv hi hj => ?_⟩
    simp only [fixB, List.getElem?_map] at hi
    obtain ⟨c', hc', rfl⟩ : ∃ c', b.es[i]? = some c' ∧ fixC p c' = c := by
      cases hh : b.es[i]? with
      | none => rw [hh] at hi; cases hi
      | some c' => rw [hh] at hi; injection hi with hi; exact ⟨c', rfl, hi⟩
    have hjl : j < c'.length := by
      have := (List.getElem?_eq_some_iff.1 hj).1
      rwa [fixC_length] at this
    obtain ⟨u, h4, h5, _, h6⟩ := h3 i j c' c'[j] hc' (List.getElem?_eq_getElem hjl)
    have hr := (fixC_standsL p c').get (List.getElem?_eq_getElem hjl) hj _ _ _ (h5 ha)
    exact ⟨u, h4, fun _ => hr, .c hr, h6⟩
theorem Stp.fixed {P : Program} {hp : Hp} {nx : Nat} {S : Nat → Prop} {G : Nat → GI} {w : World} {hp2 : Hp} {nx2 : Nat} {S2 : Nat → Prop} {G2 : Nat → GI} {w2 : World} (k : Stp P hp nx S G w hp2 nx2 S2 G2 w2)
    {id : Nat} {b : Blk} (hb : hp2 id = some b) (ha : b.arr = true) (h0 : 0 < (G2 id).s) (p : List (Option Nat)) : Stp P hp nx S G w (upd hp2 id (some (fixB p b))) nx2 S2 G2 w2 := by
  have hex : ∀ k c, upd hp2 id (some (fixB p b)) k = some c → ∃ c0, hp2 k = some c0 := fun k c hk => by
    by_cases e : k = id
    · subst e; exact ⟨b, hb⟩
    · rw [upd_other _ _ _ _ e] at hk; exact ⟨c, hk⟩
  refine ⟨⟨k.inv.st, fun i c hc => ?_, fun i c hc => ?_, fun i c hc => ?_, fun i i' c c' hc hc' he => ?_, k.inv.glo⟩, k.up, k.loc, k.keep, k.from_, fun i c hc => ?_, k.fr⟩
  · obtain ⟨c0, h⟩ := hex i c hc; exact k.inv.top i c0 h
  · by_cases e : i = id
    · subst e
      rw [upd_same] at hc
      injection hc with hc
      subst hc
      exact (k.inv.live i b hb).fixed h0 ha p
    · rw [upd_other _ _ _ _ e] at hc
      exact k.inv.live i c hc
  · obtain ⟨c0, h⟩ := hex i c hc; exact k.inv.apart i c0 h
  · obtain ⟨c0, h⟩ := hex i c hc
    obtain ⟨c1, h'⟩ := hex i' c' hc'
    exact k.inv.inj i i' c0 c1 h h' he
  · obtain ⟨c0, h⟩ := hex i c hc; exact k.own i c0 h

/-- A function of closed data that returns a slice of its own (or nil); its arguments by what they stand for. -/
def hFreshN (shs : List Sh) (F : List PV → Option (Option Blk)) : AM.Spec := hFresh [] fun args => F (fixL shs args)
theorem hFreshN_box (shs : List Sh) (F : List PV → Option (Option Blk)) : BoxKeep (hFreshN shs F) := hFresh_box _ _
/-- What a function's run must come to. -/
def OwnRN (p : List (Option Nat)) (r : Option Blk) (x : PV) (hp : Hp) (_ : Nat) : Prop := match r with
  | none => x = .nil
  | some b => ∃ id b0, x = .own id 0 b0.es.length ∧ hp id = some b0 ∧ b0.arr = true ∧ b = fixB p b0
section
variable {C : Ctx} {pf : FuncId → Bool} {f : FuncId} {fn : Func} {code : Code}
theorem hFreshN_sound (hg : AM.Good C pf) (hk : KnownF C pf f fn) (shs : List Sh) (p : List (Option Nat)) (F : List PV → Option (Option Blk)) (hF : ∀ args r, F args = some r → args.length ≤ fn.ntmps ∧ ∃ x hp nx, evalFunc C fn args (fun _ => none) 0 = some (x, hp, nx) ∧ OwnRN p r x hp nx) :
    SpecSound C.P f (hFreshN shs F) := by
  obtain ⟨_, hk⟩ := hk
  refine ⟨⟨fn, hk.func, hk.name, by rw [hk.body]; rfl⟩, ?_⟩
  intro args hp nx r hp' nx' h w S G vs hi hz
  unfold hFreshN hFresh at h
  split at h
  · rename_i as hp1 hfr
    obtain ⟨S1, k1, hz1, _⟩ := freezeVals_sound hi hfr hz
    have hsub : ∀ id b, hp1 id = some b → hp1 id = some b ∧ ¬ False := fun id b h => ⟨h, fun h => h⟩
    split at h
    · rename_i hF0
      obtain ⟨hn, x, hpe, nxe, hef, hx0⟩ := hF _ none hF0
      injection h with h
      injection h with e1 h
      injection h with e2 e3
      subst e1; subst e2; subst e3
      simp only [OwnRN] at hx0
      subst hx0
      refine (run_closed hg hk hef hn k1.inv.st k1.inv.glo (fixL_rep (norm_rep hz1))).mono fun e w' hh => ?_
      obtain ⟨v, S', G', he, fr, inv', hx, hs0, hs1, _⟩ := hh
      have k2 := back_drop (D := fun _ => False) (hp2 := hp1) k1.inv hsub (fun _ h => h.elim) fr inv' hs0 (fun b hb => (hs1 b hb).imp (fun h => h) .inr)
      have := hx.nil_inv
      subst this
      exact ⟨_, _, _, he, k1.trans k2, .c .nil⟩
    · rename_i b hF0
      obtain ⟨hn, x, hpe, nxe, hef, hx0⟩ := hF _ (some b) hF0
      injection h with h
      injection h with e1 h
      injection h with e2 e3
      subst e1; subst e2; subst e3
      obtain ⟨id, b0, rfl, hid, harr, rfl⟩ := hx0
      refine (run_closed hg hk hef hn k1.inv.st k1.inv.glo (fixL_rep (norm_rep hz1))).mono fun e w' hh => ?_
      obtain ⟨v, S', G', he, fr, inv', hx, hs0, hs1, hown⟩ := hh
      have k2 := back_own (D := fun _ => False) (hp2 := hp1) k1.inv hsub (fun _ h => h.elim) fr inv' hs0 (fun b hb => (hs1 b hb).imp (fun h => h) .inr) hid harr (.inr (hown id b0 hid))
      have hx' := own_back (nx := nx) (G := G) hx
      have k3 := k2.fixed (id := nx) (by simp) harr hx'.own_pos p
      rw [show upd (upd hp1 nx (some b0)) nx (some (fixB p b0)) = upd hp1 nx (some (fixB p b0)) by funext i; unfold upd; split <;> rfl] at k3
      refine ⟨_, _, _, he, k1.trans k3, ?_⟩
      rw [show (fixB p b0).es.length = b0.es.length by simp [fixB]]
      exact hx'
    · cases h
  · cases h
end
end Go.AM
