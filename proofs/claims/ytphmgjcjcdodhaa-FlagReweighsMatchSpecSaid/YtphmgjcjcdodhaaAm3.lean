/-
  The abstract machine, part 3: rules to run the evaluator on code that is written out.
-/
import Derived.Test.YtphmgjcjcdodhaaAm2
namespace Go.AM
open Go.RowKit

def EvC (C : Ctx) (code : Code) (st : St) (K : Exit → St → Prop) : Prop := ∃ e st', evalCode C code st = some (e, st') ∧ K e st'
def EvL (C : Ctx) (ops : Array Oper) (l : List Oper) (st : St) (K : St → Prop) : Prop := ∃ st', evalList C ops l st = some st' ∧ K st'

def bindK {α : Type} (o : Option α) (K : α → Prop) : Prop := ∃ x, o = some x ∧ K x
theorem bindK_congr {α : Type} {o o' : Option α} (K : α → Prop) (h : o = o') : bindK o K = bindK o' K := by rw [h]
theorem bindK_some {α : Type} (x : α) (K : α → Prop) : bindK (some x) K = K x := by simp [bindK]

/-- A branch, not looked into before its test is known. -/
def condK (C : Ctx) (o : Option PV) (x y : Code) (st : St) (K : Exit → St → Prop) : Prop := (o = some (.v (.bool true)) ∧ EvC C x st K) ∨ (o = some (.v (.bool false)) ∧ EvC C y st K)
theorem condK_congr {C : Ctx} {o o' : Option PV} {x y : Code} {st : St} {K : Exit → St → Prop} (h : o = o') : condK C o x y st K = condK C o' x y st K := by rw [h]
theorem condK_true (C : Ctx) (x y : Code) (st : St) (K : Exit → St → Prop) : condK C (some (.v (.bool true))) x y st K = EvC C x st K := by simp [condK]
theorem condK_false (C : Ctx) (x y : Code) (st : St) (K : Exit → St → Prop) : condK C (some (.v (.bool false))) x y st K = EvC C y st K := by simp [condK]
theorem condK_split {C : Ctx} {x y : Code} {st : St} {K : Exit → St → Prop} {b : Bool} (ht : b = true → EvC C x st K) (hf : b = false → EvC C y st K) : condK C (some (.v (.bool b))) x y st K := by
  cases b
  · exact .inr ⟨rfl, hf rfl⟩
  · exact .inl ⟨rfl, ht rfl⟩

def thenK (C : Ctx) (b : Code) (K : Exit → St → Prop) (e : Exit) (st : St) : Prop := match e with
  | .normal => EvC C b st K
  | e => K e st
def blockK (id : Nat) (K : Exit → St → Prop) (e : Exit) (st : St) : Prop := match e with
  | .exit i => if i = id then K .normal st else K (.exit i) st
  | e => K e st
def normK (K : Exit → St → Prop) (st : St) : Prop := K .normal st

theorem thenK_normal (C : Ctx) (b : Code) (K : Exit → St → Prop) (st : St) : thenK C b K .normal st = EvC C b st K := rfl
theorem thenK_ret (C : Ctx) (b : Code) (K : Exit → St → Prop) (st : St) : thenK C b K .ret st = K .ret st := rfl
theorem thenK_exit (C : Ctx) (b : Code) (K : Exit → St → Prop) (i : Nat) (st : St) : thenK C b K (.exit i) st = K (.exit i) st := rfl
theorem blockK_normal (id : Nat) (K : Exit → St → Prop) (st : St) : blockK id K .normal st = K .normal st := rfl
theorem blockK_ret (id : Nat) (K : Exit → St → Prop) (st : St) : blockK id K .ret st = K .ret st := rfl
theorem blockK_exit_same (id : Nat) (K : Exit → St → Prop) (st : St) : blockK id K (.exit id) st = K .normal st := by simp [blockK]
theorem blockK_exit_other (id i : Nat) (K : Exit → St → Prop) (st : St) (h : (i == id) = false) : blockK id K (.exit i) st = K (.exit i) st := by
  have : i ≠ id := by simpa using h
  simp [blockK, this]

theorem EvC_of_eq {C : Ctx} {code : Code} {st : St} {e0 : Exit} {st0 : St} (K : Exit → St → Prop) (h : evalCode C code st = some (e0, st0)) : EvC C code st K = K e0 st0 := by
  unfold EvC
  apply propext
  constructor
  · rintro ⟨e, st', h1, hk⟩
    rw [h] at h1
    obtain ⟨rfl, rfl⟩ : e0 = e ∧ st0 = st' := by simpa using h1
    exact hk
  · exact fun hk => ⟨_, _, h, hk⟩
theorem EvC_skip (C : Ctx) (st : St) (K : Exit → St → Prop) : EvC C .skip st K = K .normal st := EvC_of_eq K (by simp only [evalCode])
theorem EvC_exit (C : Ctx) (id : Nat) (st : St) (K : Exit → St → Prop) : EvC C (.exit id) st K = K (.exit id) st := EvC_of_eq K (by simp only [evalCode])
theorem EvC_ret (C : Ctx) (st : St) (K : Exit → St → Prop) : EvC C .ret st K = K .ret st := EvC_of_eq K (by simp only [evalCode])
theorem EvC_label (C : Ctx) (l : Nat) (st : St) (K : Exit → St → Prop) : EvC C (.label l) st K = K .normal st := EvC_of_eq K (by simp only [evalCode])
theorem EvC_regionF (C : Ctx) (i : Nat) (ops : Array Oper) (d : Bool) (st0 st : St) (K : Exit → St → Prop) (h3 : thaw (C.fz i) st0 = some st) (h : ApartA (C.dyn i) st) (h2 : RefsA (C.lds i) st) : EvC C (.region i ops d) st0 K = EvL C ops ops.toList st (normK K) := by
  unfold EvC EvL normK
  simp only [evalCode, h3, h, h2, and_self, if_true]
  apply propext
  constructor
  · rintro ⟨e, st', h, hk⟩
    split at h
    · rename_i s hs
      obtain ⟨rfl, rfl⟩ : Exit.normal = e ∧ s = st' := by simpa using h
      exact ⟨_, hs, hk⟩
    · cases h
  · rintro ⟨st', h, hk⟩
    exact ⟨.normal, st', by rw [h], hk⟩
theorem EvC_region' (C : Ctx) (i : Nat) (ops : Array Oper) (d : Bool) (st : St) (K : Exit → St → Prop) (h : ApartA (C.dyn i) st) (h2 : RefsA (C.lds i) st) (h3 : C.fz i = [] := by rfl) : EvC C (.region i ops d) st K = EvL C ops ops.toList st (normK K) :=
  EvC_regionF C i ops d st st K (by rw [h3]; rfl) h h2
theorem EvC_region (C : Ctx) (i : Nat) (ops : Array Oper) (d : Bool) (st : St) (K : Exit → St → Prop) (h : C.dyn i = []) (h2 : C.lds i = []) (h3 : C.fz i = [] := by rfl) : EvC C (.region i ops d) st K = EvL C ops ops.toList st (normK K) := EvC_region' C i ops d st K (by rw [h]; intro p hp; cases hp) (by rw [h2]; intro p hp; cases hp) h3
theorem EvC_seq (C : Ctx) (a b : Code) (st : St) (K : Exit → St → Prop) : EvC C (.seq a b) st K = EvC C a st (thenK C b K) := by
  unfold EvC
  simp only [evalCode]
  apply propext
  constructor
  · rintro ⟨e, st', h, hk⟩
    split at h
    · rename_i s hs
      exact ⟨.normal, s, hs, e, st', h, hk⟩
    · rename_i r hr
      refine ⟨e, st', h, ?_⟩
      cases e <;> simp_all [thenK]
  · rintro ⟨e, st', h, hk⟩
    cases e
    case normal =>
      obtain ⟨e2, st2, h2, hk2⟩ := hk
      exact ⟨e2, st2, by rw [h]; exact h2, hk2⟩
    all_goals exact ⟨_, st', by rw [h], hk⟩
theorem EvC_cond (C : Ctx) (c : Operand) (x y : Code) (st : St) (K : Exit → St → Prop) : EvC C (.cond c x y) st K = condK C (get st.σ c) x y st K := by
  unfold EvC condK
  simp only [evalCode]
  apply propext
  constructor
  · rintro ⟨e, st', h, hk⟩
    split at h
    · rename_i hg; exact .inl ⟨hg, e, st', h, hk⟩
    · rename_i hg; exact .inr ⟨hg, e, st', h, hk⟩
    · cases h
  · rintro (⟨hg, e, st', h, hk⟩ | ⟨hg, e, st', h, hk⟩)
    · exact ⟨e, st', by rw [hg]; exact h, hk⟩
    · exact ⟨e, st', by rw [hg]; exact h, hk⟩
theorem EvC_block (C : Ctx) (id : Nat) (b : Code) (st : St) (K : Exit → St → Prop) : EvC C (.block id b) st K = EvC C b st (blockK id K) := by
  unfold EvC
  simp only [evalCode]
  apply propext
  constructor
  · rintro ⟨e, st', h, hk⟩
    split at h
    · rename_i i s hs
      refine ⟨.exit i, s, hs, ?_⟩
      unfold blockK
      split at h
      · rename_i hi
        obtain ⟨rfl, rfl⟩ : Exit.normal = e ∧ s = st' := by simpa using h
        simp [hi, hk]
      · rename_i hi
        obtain ⟨rfl, rfl⟩ : Exit.exit i = e ∧ s = st' := by simpa using h
        simp [hi, hk]
    · rename_i r hr
      refine ⟨e, st', h, ?_⟩
      cases e <;> simp_all [blockK]
  · rintro ⟨e, st', h, hk⟩
    cases e
    case exit i =>
      unfold blockK at hk
      simp only [h]
      by_cases hi : i = id
      · simp only [hi, if_true] at hk ⊢
        exact ⟨_, _, rfl, hk⟩
      · simp only [hi, if_false] at hk ⊢
        exact ⟨_, _, rfl, hk⟩
    all_goals exact ⟨_, st', by rw [h], hk⟩
theorem EvL_nil (C : Ctx) (ops : Array Oper) (st : St) (K : St → Prop) : EvL C ops [] st K = K st := by simp [EvL, evalList]
/-- What follows in a region, not looked into before its state is known. -/
def restK (C : Ctx) (ops : Array Oper) (l : List Oper) (K : St → Prop) (st : St) : Prop := EvL C ops l st K
theorem restK_eq (C : Ctx) (ops : Array Oper) (l : List Oper) (K : St → Prop) (st : St) : restK C ops l K st = EvL C ops l st K := rfl
theorem EvL_cons (C : Ctx) (ops : Array Oper) (o : Oper) (l : List Oper) (st : St) (K : St → Prop) : EvL C ops (o :: l) st K = bindK (stepA C ops o st) (restK C ops l K) := by
  unfold EvL bindK restK EvL
  simp only [evalList]
  apply propext
  constructor
  · rintro ⟨st', h, hk⟩
    split at h
    · rename_i s hs; exact ⟨s, hs, st', h, hk⟩
    · cases h
  · rintro ⟨s, hs, st', h, hk⟩
    exact ⟨st', by rw [hs]; exact h, hk⟩

theorem EvC_loop_unfold (C : Ctx) (b : Code) (st : St) (K : Exit → St → Prop) : EvC C (.loop b) st K = EvC C b st (thenK C (.loop b) K) := by
  unfold EvC
  simp only [evalCode]
  rw [loopR_unfold]
  apply propext
  constructor
  · rintro ⟨e, st', h, hk⟩
    split at h
    · rename_i s hs
      exact ⟨.normal, s, hs, e, st', by simpa only [evalCode] using h, hk⟩
    · rename_i r hr
      refine ⟨e, st', h, ?_⟩
      cases e <;> simp_all [thenK]
  · rintro ⟨e, st', h, hk⟩
    cases e
    case normal =>
      obtain ⟨e2, st2, h2, hk2⟩ := hk
      exact ⟨e2, st2, by rw [h]; simpa only [evalCode] using h2, hk2⟩
    all_goals exact ⟨_, st', by rw [h], hk⟩

def roundK (I : St → Prop) (μ : St → Nat) (n : Nat) (K : Exit → St → Prop) (e : Exit) (st : St) : Prop := match e with
  | .normal => I st ∧ μ st < n
  | e => K e st
theorem roundK_normal (I : St → Prop) (μ : St → Nat) (n : Nat) (K : Exit → St → Prop) (st : St) : roundK I μ n K .normal st = (I st ∧ μ st < n) := rfl
theorem roundK_ret (I : St → Prop) (μ : St → Nat) (n : Nat) (K : Exit → St → Prop) (st : St) : roundK I μ n K .ret st = K .ret st := rfl
theorem roundK_exit (I : St → Prop) (μ : St → Nat) (n i : Nat) (K : Exit → St → Prop) (st : St) : roundK I μ n K (.exit i) st = K (.exit i) st := rfl

theorem EvC.mono {C : Ctx} {code : Code} {st : St} {K K' : Exit → St → Prop} (h : EvC C code st K) (hk : ∀ e st, K e st → K' e st) : EvC C code st K' :=
  let ⟨e, st', h1, h2⟩ := h
  ⟨e, st', h1, hk _ _ h2⟩

/-- A loop, by a relation and a measure. -/
theorem EvC_loop {C : Ctx} {b : Code} {st : St} {K : Exit → St → Prop} (I : St → Prop) (μ : St → Nat) (h0 : I st) (round : ∀ st, I st → EvC C b st (roundK I μ (μ st) K)) : EvC C (.loop b) st K := by
  have key : ∀ n st, μ st = n → I st → EvC C (.loop b) st K := by
    intro n
    induction n using Nat.strongRecOn with
    | _ n ih =>
      intro st hn hI
      rw [EvC_loop_unfold]
      refine (round st hI).mono fun e st' hk => ?_
      cases e
      case normal => exact ih (μ st') (hn ▸ hk.2) st' rfl hk.1
      all_goals exact hk
  exact key _ st rfl h0

/-- What a function's body must come to: its results are x, and what R says of the heap. -/
def retK (P : Program) (fn : Func) (R : PV → Hp → Nat → Prop) (e : Exit) (st : St) : Prop := match e with
  | .normal | .ret => bindK (resultsA P fn st) (fun x => R x st.hp st.nx)
  | _ => False
theorem retK_normal (P : Program) (fn : Func) (R : PV → Hp → Nat → Prop) (st : St) : retK P fn R .normal st = bindK (resultsA P fn st) (fun x => R x st.hp st.nx) := rfl
theorem retK_ret (P : Program) (fn : Func) (R : PV → Hp → Nat → Prop) (st : St) : retK P fn R .ret st = bindK (resultsA P fn st) (fun x => R x st.hp st.nx) := rfl

theorem evalFunc_of {C : Ctx} {fn : Func} {code : Code} {args : List PV} {hp : Hp} {nx : Nat} {R : PV → Hp → Nat → Prop} (hb : fn.body = some code)
    (h : EvC C code ⟨startσ args, hp, nx⟩ (retK C.P fn R)) : ∃ x hp' nx', evalFunc C fn args hp nx = some (x, hp', nx') ∧ R x hp' nx' := by
  obtain ⟨e, st, h1, h2⟩ := h
  unfold evalFunc
  simp only [hb, h1]
  unfold retK at h2
  split at h2
  · obtain ⟨x, hx, hR⟩ := h2
    exact ⟨x, st.hp, st.nx, by simp [hx], hR⟩
  · obtain ⟨x, hx, hR⟩ := h2
    exact ⟨x, st.hp, st.nx, by simp [hx], hR⟩
  · exact h2.elim

/-- A pure function's outcome. -/
def pureR (r : PV) (x : PV) (hp : Hp) (_ : Nat) : Prop := (freeze hp x).map (·.1) = some r
theorem evalPure_of {C : Ctx} {fn : Func} {code : Code} {args : List PV} {r : PV} (hb : fn.body = some code)
    (h : EvC C code ⟨startσ args, fun _ => none, 0⟩ (retK C.P fn (pureR r))) : evalPure C fn args = some r := by
  obtain ⟨x, hp', nx', h1, h2⟩ := evalFunc_of hb h
  unfold evalPure
  simp only [h1]
  exact h2

theorem evalOp_move (C : Ctx) (ρ : Operand → Option PV) (hp : Hp) (nx : Nat) (x : Operand) : evalOp C ρ hp nx (.move x) = (ρ x).map fun y => (y, hp, nx) := rfl
theorem wanted_none (d : Option Tmp) (op : Op) (t : TypeId) (p : String) (af : Array Edge) (y : Nat → Option Bool) : Region.wanted ⟨d, op, t, p, af, none⟩ y = true := rfl
theorem wanted_some (d : Option Tmp) (op : Op) (t : TypeId) (p : String) (af : Array Edge) (j : Nat) (b : Bool) (y : Nat → Option Bool) : Region.wanted ⟨d, op, t, p, af, some (j, b)⟩ y = (y j == some b) := rfl
theorem stepA_eq (C : Ctx) (ops : Array Oper) (d : Option Tmp) (op : Op) (t : TypeId) (p : String) (af : Array Edge) (st : St) : stepA C ops ⟨d, op, t, p, af, none⟩ st = 
    (evalOp C (get st.σ) st.hp st.nx op).map fun r => ⟨put st.σ d r.1, r.2.1, r.2.2⟩ := by
  simp only [stepA, wanted_none, if_true]
  cases evalOp C (get st.σ) st.hp st.nx op <;> rfl
end Go.AM
