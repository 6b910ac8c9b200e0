/-
  The abstract machine, part 19: contexts, specs of models, slices that a function builds.
-/
import Derived.Test.YtphmgjcjcdodhaaAm18
namespace Go.AM
open Go.RowKit

open Classical in
/-- A model as a partial function on pure arguments: enc writes its arguments out, pre says where it speaks. -/
noncomputable def specOf {α β : Type} (enc : α → List PV) (pre : α → Prop) (out : α → β) : List PV → Option β := fun args =>
  if h : ∃ a, args = enc a ∧ pre a then some (out (Classical.choose h)) else none

theorem specOf_eq {α β : Type} {enc : α → List PV} {pre : α → Prop} {out : α → β} (inj : ∀ a b, enc a = enc b → a = b) {a : α} (h : pre a) : specOf enc pre out (enc a) = some (out a) := by
  have hex : ∃ b, enc a = enc b ∧ pre b := ⟨a, rfl, h⟩
  unfold specOf
  rw [dif_pos hex]
  have := Classical.choose_spec hex
  rw [← inj _ _ this.1]

theorem specOf_inv {α β : Type} {enc : α → List PV} {pre : α → Prop} {out : α → β} {args : List PV} {r : β} (h : specOf enc pre out args = some r) : ∃ a, args = enc a ∧ pre a ∧ r = out a := by
  unfold specOf at h
  split at h
  · rename_i hex
    injection h with h
    have := Classical.choose_spec hex
    exact ⟨_, this.1, this.2, h.symm⟩
  · cases h

abbrev Tab := List (Nat × AM.Spec)
def lookup : Tab → Nat → Option AM.Spec
  | [], _ => none
  | (k, s) :: l, g => if g = k then some s else lookup l g
@[simp] theorem lookup_cons (k : Nat) (s : AM.Spec) (l : Tab) (g : Nat) : lookup ((k, s) :: l) g = if g = k then some s else lookup l g := rfl
def mkCtx (P : Program) (l : Tab) : Ctx := ⟨P, lookup l, fun _ => [], fun _ => [], fun _ => false⟩
@[simp] theorem mkCtx_dyn (P : Program) (l : Tab) (i : Nat) : (mkCtx P l).dyn i = [] := rfl
@[simp] theorem EvC_region_mk (P : Program) (l : Tab) (i : Nat) (ops : Array Oper) (d : Bool) (st : St) (K : Exit → St → Prop) : EvC (mkCtx P l) (.region i ops d) st K = EvL (mkCtx P l) ops ops.toList st (normK K) := EvC_region _ i ops d st K rfl rfl
/-- With what is asked of regions that draw their order. -/
def mkCtxD (P : Program) (l : Tab) (dyn : Nat → List (Tmp × Tmp)) : Ctx := ⟨P, lookup l, dyn, fun _ => [], fun _ => false⟩
@[simp] theorem mkCtxD_P (P : Program) (l : Tab) (dyn : Nat → List (Tmp × Tmp)) : (mkCtxD P l dyn).P = P := rfl
@[simp] theorem mkCtx_P (P : Program) (l : Tab) : (mkCtx P l).P = P := rfl
@[simp] theorem call_mk (P : Program) (l : Tab) (hp : Hp) (nx g : Nat) (a b xs : List PV) : callVal (mkCtx P l) hp nx (some (.fn (.func g) a b)) xs = (lookup l g).bind fun s => s (a ++ xs ++ b) hp nx := by
  unfold callVal mkCtx
  simp only
  cases lookup l g <;> rfl

@[simp] theorem call_mkD (P : Program) (l : Tab) (dyn : Nat → List (Tmp × Tmp)) (hp : Hp) (nx g : Nat) (a b xs : List PV) : callVal (mkCtxD P l dyn) hp nx (some (.fn (.func g) a b)) xs = (lookup l g).bind fun s => s (a ++ xs ++ b) hp nx := by
  unfold callVal mkCtxD
  simp only
  cases lookup l g <;> rfl

def AllOk (P : Program) (q : List Nat) : Tab → Prop
  | [] => True
  | (g, s) :: l => SpecSound P g s ∧ (q.contains g = true → Quiet s) ∧ AllOk P q l

theorem good_of {P : Program} {l : Tab} {q : List Nat} (hm : P.follows .mixedOrders = true) (h : AllOk P q l) : Good (mkCtx P l) (fun g => q.contains g) := by
  have key : ∀ (l : Tab), AllOk P q l → ∀ g s, lookup l g = some s → SpecSound P g s ∧ (q.contains g = true → Quiet s) := by
    intro l
    induction l with
    | nil => intro _ g s h; cases h
    | cons x l ih =>
      obtain ⟨k, sp⟩ := x
      rintro ⟨h1, h2, h3⟩ g s hs
      simp only [lookup_cons] at hs
      split at hs
      · rename_i hgk
        injection hs with hs
        subst hs
        subst hgk
        exact ⟨h1, h2⟩
      · exact ih h3 g s hs
  exact ⟨fun g s hs => (key l h g s hs).1, fun g s hq hs => (key l h g s hs).2 hq, hm, fun _ _ h => by cases h⟩

theorem good_ofD {P : Program} {l : Tab} {q : List Nat} (dyn : Nat → List (Tmp × Tmp)) (hm : P.follows .mixedOrders = true) (h : AllOk P q l) : Good (mkCtxD P l dyn) (fun g => q.contains g) :=
  let g := good_of hm h
  ⟨g.spec, g.quiet, g.mixed, fun _ _ h => by cases h⟩

/-- A pure function's outcome, nil taken for no elements. -/
def pureN (r : PV) (x : PV) (hp : Hp) (_ : Nat) : Prop := ∃ r0, (AM.freeze hp x).map (·.1) = some r0 ∧ NilUp r0 r
theorem evalPureN_of {C : Ctx} {fn : Func} {code : Code} {args : List PV} {r : PV} (hb : fn.body = some code)
    (h : EvC C code ⟨startσ args, fun _ => none, 0⟩ (retK C.P fn (pureN r))) : ∃ r0, evalPure C fn args = some r0 ∧ NilUp r0 r := by
  obtain ⟨x, hp', nx', h1, r0, h2, h3⟩ := evalFunc_of hb h
  exact ⟨r0, by unfold evalPure; simp only [h1]; exact h2, h3⟩
theorem up1_rfl (x : PV) : NilUp1 x x := .inl rfl
theorem up_of (x : PV) : NilUp x x := by
  unfold NilUp
  split
  · exact ⟨rfl, fun j x y hx hy => by rw [hx] at hy; injection hy with hy; exact .inl hy⟩
  · exact .inl rfl
@[simp] theorem pureN_v (x y : Value) (hp : Hp) (nx : Nat) : pureN (.v y) (.v x) hp nx = (x = y) := by
  simp only [pureN, AM.freeze, freezeVal, freezeCell, Option.map_some, Option.some.injEq, exists_eq_left', NilUp, NilUp1]
  simp
theorem evalFuncR_of {C : Ctx} {fn : Func} {code : Code} {args : List PV} {hp : Hp} {nx : Nat} {r : Option Blk} (hb : fn.body = some code)
    (h : EvC C code ⟨startσ args, hp, nx⟩ (retK C.P fn (OwnR r))) : ∃ x hp' nx', evalFunc C fn args hp nx = some (x, hp', nx') ∧ OwnR r x hp' nx' := evalFunc_of hb h

/-- A slice that the function itself builds: nil so far, or a block of its own. -/
def OwnS (hp : Hp) (nx : Nat) (e s : Nat) (v : PV) (xs : List (List PV)) : Prop := (v = .nil ∧ xs = []) ∨ ∃ id, id < nx ∧ v = .own id 0 xs.length ∧ hp id = some ⟨e, s, true, xs⟩
def killV (v : PV) (hp : Hp) : Hp := match v with
  | .own id _ _ => upd hp id none
  | _ => hp
theorem OwnS.nil (hp : Hp) (nx e s : Nat) : OwnS hp nx e s .nil [] := .inl ⟨rfl, rfl⟩
theorem OwnS.own {hp : Hp} {nx e s id : Nat} {xs : List (List PV)} (h1 : id < nx) (h2 : hp id = some ⟨e, s, true, xs⟩) : OwnS hp nx e s (.own id 0 xs.length) xs := .inr ⟨id, h1, rfl, h2⟩
theorem OwnS.len {P : Program} {hp : Hp} {nx e s : Nat} {v : PV} {xs : List (List PV)} {t : TypeId} (h : OwnS hp nx e s v xs) (ht : elemA P t = some e) : lenA P t v = some (.v (.int .i64 xs.length)) := by
  rcases h with ⟨rfl, rfl⟩ | ⟨id, _, rfl, _⟩ <;> simp [ht]
theorem OwnS.view {hp : Hp} {nx e s : Nat} {v : PV} {xs : List (List PV)} (h : OwnS hp nx e s v xs) : view hp s v = some xs := by
  rcases h with ⟨rfl, rfl⟩ | ⟨id, _, rfl, h⟩ <;> simp [AM.view, *]

/-- append of one element. -/
theorem OwnS.append1 {P : Program} {hp : Hp} {nx e s by_ : Nat} {v : PV} {xs : List (List PV)} {c z : List PV} {t : TypeId} (h : OwnS hp nx e s v xs) (ht : elemA P t = some e) (hs : sizeA P e = some s) (hb : bytesA P e = some by_) (hz : zeroA P e = some z)
    (hzl : z.length = s) (h0 : 0 < s) (h1 : xs.length + 1 ≤ maxLen) (h2 : (xs.length + 1) * by_ ≤ 140737488355328) :
    appendA P (upd hp nx (some ⟨e, s, true, [c]⟩)) (nx + 1) t t v (.own nx 0 1) =
      some (.own (nx + 1) 0 (xs.length + 1), upd (killV v (upd hp nx (some ⟨e, s, true, [c]⟩))) (nx + 1) (some ⟨e, s, true, xs ++ [c]⟩), nx + 2) := by
  rcases h with ⟨rfl, rfl⟩ | ⟨id, hid, rfl, hh⟩
  · simp at h1 h2
    simp [appendA, ht, hs, hb, hz, hzl, h0, h1, h2, AM.view, killV]
  · have hne : ¬ id = nx := by omega
    simp [appendA, ht, hs, hb, hz, hzl, h0, h1, h2, AM.view, killV, hne, hh]
theorem OwnS.after {hp : Hp} {nx e s : Nat} {v : PV} {xs : List (List PV)} {c : List PV} {tmp : Option Blk} : OwnS (upd (killV v (upd hp nx tmp)) (nx + 1) (some ⟨e, s, true, xs ++ [c]⟩)) (nx + 2) e s (.own (nx + 1) 0 (xs.length + 1)) (xs ++ [c]) :=
  .inr ⟨nx + 1, by omega, by simp, by simp⟩
/-- What else is live stays so. -/
theorem killV_other {hp : Hp} {nx e s : Nat} {v : PV} {xs : List (List PV)} (h : OwnS hp nx e s v xs) (hp' : Hp) (id : Nat) (hne : ∀ n, v ≠ .own id 0 n) : killV v hp' id = hp' id := by
  rcases h with ⟨rfl, rfl⟩ | ⟨k, hk, rfl, hh⟩
  · rfl
  · have : ¬ id = k := fun e => hne _ (by rw [e])
    simp [killV, this]
/-- Its end as a result. -/
theorem OwnS.ret {hp : Hp} {nx e s : Nat} {v : PV} {xs : List (List PV)} (h : OwnS hp nx e s v xs) (nx' : Nat) : OwnR (match v with | .nil => none | _ => some ⟨e, s, true, xs⟩) v hp nx' := by
  rcases h with ⟨rfl, rfl⟩ | ⟨id, hid, rfl, hh⟩
  · rfl
  · exact ⟨id, rfl, hh, rfl⟩
theorem OwnS.freeze {hp : Hp} {nx e s : Nat} {v : PV} {xs : List (List PV)} (h : OwnS hp nx e s v xs) (nx' : Nat) : pureN (.sl s xs) v hp nx' := by
  rcases h with ⟨rfl, rfl⟩ | ⟨id, hid, rfl, hh⟩
  · exact ⟨.nil, by simp, .inr ⟨rfl, s, rfl⟩⟩
  · exact ⟨.sl s xs, by simp [hh], up_of _⟩
/-- As one of two results. -/
theorem OwnS.freeze2 {hp : Hp} {nx e s : Nat} {v : PV} {xs : List (List PV)} (h : OwnS hp nx e s v xs) (y : Value) (nx' : Nat) : pureN (.tup [.sl s xs, .v y]) (.tup [v, .v y]) hp nx' := by
  rcases h with ⟨rfl, rfl⟩ | ⟨id, hid, rfl, hh⟩
  · refine ⟨.tup [.nil, .v y], by simp, rfl, fun j a b ha hb => ?_⟩
    match j, ha, hb with
    | 0, ha, hb => simp at ha hb; subst ha; subst hb; exact .inr ⟨rfl, s, rfl⟩
    | 1, ha, hb => simp at ha hb; subst ha; subst hb; exact .inl rfl
    | j + 2, ha, hb => simp at ha
  · exact ⟨.tup [.sl s xs, .v y], by simp [hh], up_of _⟩

theorem map_inj {α β : Type} {f : α → β} (h : ∀ a b, f a = f b → a = b) : ∀ {xs ys : List α}, xs.map f = ys.map f → xs = ys
  | [], [], _ => rfl
  | [], y :: ys, e => by simp at e
  | x :: xs, [], e => by simp at e
  | x :: xs, y :: ys, e => by
    simp at e
    rw [h x y e.1, map_inj h e.2]

/-- A loop that counts: I k holds at the head of round k. -/
def forK (I : Nat → (Nat → PV) → Hp → Nat → Prop) (n k : Nat) (K : Exit → St → Prop) (e : Exit) (st : St) : Prop := match e with
  | .normal => k + 1 ≤ n ∧ I (k + 1) st.σ st.hp st.nx
  | e => K e st
@[simp] theorem forK_normal (I : Nat → (Nat → PV) → Hp → Nat → Prop) (n k : Nat) (K : Exit → St → Prop) (st : St) : forK I n k K .normal st = (k + 1 ≤ n ∧ I (k + 1) st.σ st.hp st.nx) := rfl
@[simp] theorem forK_ret (I : Nat → (Nat → PV) → Hp → Nat → Prop) (n k : Nat) (K : Exit → St → Prop) (st : St) : forK I n k K .ret st = K .ret st := rfl
@[simp] theorem forK_exit (I : Nat → (Nat → PV) → Hp → Nat → Prop) (n k i : Nat) (K : Exit → St → Prop) (st : St) : forK I n k K (.exit i) st = K (.exit i) st := rfl
theorem EvC_for {C : Ctx} {b : Code} {st : St} {K : Exit → St → Prop} (I : Nat → (Nat → PV) → Hp → Nat → Prop) (n : Nat) (h0 : I 0 st.σ st.hp st.nx)
    (round : ∀ k σ hp nx, k ≤ n → I k σ hp nx → EvC C b ⟨σ, hp, nx⟩ (forK I n k K)) : EvC C (.loop b) st K := by
  have key : ∀ d k st, n - k = d → k ≤ n → I k st.σ st.hp st.nx → EvC C (.loop b) st K := by
    intro d
    induction d with
    | zero =>
      intro k st hd hk hI
      rw [EvC_loop_unfold]
      refine (round k st.σ st.hp st.nx hk hI).mono fun e st' h => ?_
      cases e
      case normal => have := h.1; omega
      all_goals exact h
    | succ d ih =>
      intro k st hd hk hI
      rw [EvC_loop_unfold]
      refine (round k st.σ st.hp st.nx hk hI).mono fun e st' h => ?_
      cases e
      case normal => exact ih (k + 1) st' (by omega) h.1 h.2
      all_goals exact h
  exact key _ 0 st rfl (Nat.zero_le _) h0

end Go.AM
