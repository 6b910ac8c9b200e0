/-
  The abstract machine, part 3: rules to run the evaluator on code that is written out.
  The abstract machine, part 13: regions, code, functions: the evaluator is sound.
  The abstract machine, part 14: functions, and what may be said of them to their callers.
  The abstract machine, part 15: what may be said of a function to its callers: pure ones, ones that return a new slice, ones that take a slice over.
  The abstract machine, part 16: functions that return a slice of their own, and functions that take one over.
  The abstract machine, part 17: from what the row reads to pure arguments; a law's call.
  The abstract machine, part 18: rules for running it on code that is written out.
  The abstract machine, part 19: contexts, specs of models, slices that a function builds.
  The abstract machine, part 21: strings as lists of bytes; splitting at tests that are not known; functions that are run in place.
  The abstract machine, part 22: a law's row: its arguments read behind the call as before.
  The abstract machine, part 23: guarded operations whose guard is not known: both outcomes in one state.
  The abstract machine, part 24: contracts of the library on numbers and texts as specs; slices that may be nil; recursion.
-/
import Derived.Test.YtfjeckcbnhohmaaGreatDoorG1
import Derived.Test.YtfjeckcbnhohmaaGreatDoorG2
import Derived.LoopNIn
import Derived.RangeFuncRecord
import Derived.RangeFuncSeq
import Derived.ProofKit
import Derived.Lib.Strings
import Derived.Carry
import Derived.ChangeSame
import Derived.OpenShut
namespace Go.AM
open Go.RowKit

def EvC (C : Ctx) (code : Code) (st : St) (K : Exit → St → Prop) : Prop := ∃ e st', evalCode C code st = some (e, st') ∧ K e st'
def EvL (C : Ctx) (ops : Array Oper) (l : List Oper) (st : St) (K : St → Prop) : Prop := ∃ st', evalList C ops l st = some st' ∧ K st'

def bindK {α : Type} (o : Option α) (K : α → Prop) : Prop := ∃ x, o = some x ∧ K x
theorem bindK_congr {α : Type} {o o' : Option α} (K : α → Prop) (h : o = o') : bindK o K = bindK o' K := by rw [h]
theorem bindK_some {α : Type} (x : α) (K : α → Prop) : bindK (some x) K = K x := by simp [bindK]

/-- A branch, not looked into before its test is known. -/
def condK (C : Ctx) (o : Option PV) (x y : Code) (st : St) (K : Exit → St → Prop) : Prop := (o = some (.v (.bool true)) ∧ EvC C x st K) ∨ (o = some (.v (.bool false)) ∧ EvC C y st K)
theorem condK_congr {C : Ctx} {o o' : Option PV} {x y : Code} {st : St} {K : Exit → St → Prop} (h : o = o') : condK C o x y st K = condK C o' x y st K := by rw [h]
theorem condK_true (C : Ctx) (x y : Code) (st : St) (K : Exit → St → Prop) : condK C (some (.v (.bool true))) x y st K = EvC C x st K := by simp [condK]
theorem condK_false (C : Ctx) (x y : Code) (st : St) (K : Exit → St → Prop) : condK C (some (.v (.bool false))) x y st K = EvC C y st K := by simp [condK]
theorem condK_split {C : Ctx} {x y : Code} {st : St} {K : Exit → St → Prop} {b : Bool} (ht : b = true → EvC C x st K) (hf : b = false → EvC C y st K) : condK C (some (.v (.bool b))) x y st K := by
  cases b
  · exact .inr ⟨rfl, hf rfl⟩
  · exact .inl ⟨rfl, ht rfl⟩

def thenK (C : Ctx) (b : Code) (K : Exit → St → Prop) (e : Exit) (st : St) : Prop := match e with
  | .normal => EvC C b st K
  | e => K e st
def blockK (id : Nat) (K : Exit → St → Prop) (e : Exit) (st : St) : Prop := match e with
  | .exit i => if i = id then K .normal st else K (.exit i) st
  | e => K e st
def normK (K : Exit → St → Prop) (st : St) : Prop := K .normal st

theorem thenK_normal (C : Ctx) (b : Code) (K : Exit → St → Prop) (st : St) : thenK C b K .normal st = EvC C b st K := rfl
theorem thenK_ret (C : Ctx) (b : Code) (K : Exit → St → Prop) (st : St) : thenK C b K .ret st = K .ret st := rfl
theorem thenK_exit (C : Ctx) (b : Code) (K : Exit → St → Prop) (i : Nat) (st : St) : thenK C b K (.exit i) st = K (.exit i) st := rfl
theorem blockK_normal (id : Nat) (K : Exit → St → Prop) (st : St) : blockK id K .normal st = K .normal st := rfl
theorem blockK_ret (id : Nat) (K : Exit → St → Prop) (st : St) : blockK id K .ret st = K .ret st := rfl
theorem blockK_exit_same (id : Nat) (K : Exit → St → Prop) (st : St) : blockK id K (.exit id) st = K .normal st := by simp [blockK]
theorem blockK_exit_other (id i : Nat) (K : Exit → St → Prop) (st : St) (h : (i == id) = false) : blockK id K (.exit i) st = K (.exit i) st := by
  have : i ≠ id := by simpa using h
  simp [blockK, this]

theorem EvC_of_eq {C : Ctx} {code : Code} {st : St} {e0 : Exit} {st0 : St} (K : Exit → St → Prop) (h : evalCode C code st = some (e0, st0)) : EvC C code st K = K e0 st0 := by
  unfold EvC
  apply propext
  constructor
  · rintro ⟨e, st', h1, hk⟩
    rw [h] at h1
    obtain ⟨rfl, rfl⟩ : e0 = e ∧ st0 = st' := by simpa using h1
    exact hk
  · exact fun hk => ⟨_, _, h, hk⟩
theorem EvC_skip (C : Ctx) (st : St) (K : Exit → St → Prop) : EvC C .skip st K = K .normal st := EvC_of_eq K (by simp only [evalCode])
theorem EvC_exit (C : Ctx) (id : Nat) (st : St) (K : Exit → St → Prop) : EvC C (.exit id) st K = K (.exit id) st := EvC_of_eq K (by simp only [evalCode])
theorem EvC_ret (C : Ctx) (st : St) (K : Exit → St → Prop) : EvC C .ret st K = K .ret st := EvC_of_eq K (by simp only [evalCode])
theorem EvC_label (C : Ctx) (l : Nat) (st : St) (K : Exit → St → Prop) : EvC C (.label l) st K = K .normal st := EvC_of_eq K (by simp only [evalCode])
theorem EvC_regionF (C : Ctx) (i : Nat) (ops : Array Oper) (d : Bool) (st0 st : St) (K : Exit → St → Prop) (h3 : thaw (C.fz i) st0 = some st) (h : ApartA (C.dyn i) st) (h2 : RefsA (C.lds i) st) : EvC C (.region i ops d) st0 K = EvL C ops ops.toList st (normK K) := by
  unfold EvC EvL normK
  simp only [evalCode, h3, h, h2, and_self, if_true]
  apply propext
  constructor
  · rintro ⟨e, st', h, hk⟩
    split at h
    · rename_i s hs
      obtain ⟨rfl, rfl⟩ : Exit.normal = e ∧ s = st' := by simpa using h
      exact ⟨_, hs, hk⟩
    · cases h
  · rintro ⟨st', h, hk⟩
    exact ⟨.normal, st', by rw [h], hk⟩
theorem EvC_region' (C : Ctx) (i : Nat) (ops : Array Oper) (d : Bool) (st : St) (K : Exit → St → Prop) (h : ApartA (C.dyn i) st) (h2 : RefsA (C.lds i) st) (h3 : C.fz i = [] := by rfl) : EvC C (.region i ops d) st K = EvL C ops ops.toList st (normK K) :=
  EvC_regionF C i ops d st st K (by rw [h3]; rfl) h h2
theorem EvC_region (C : Ctx) (i : Nat) (ops : Array Oper) (d : Bool) (st : St) (K : Exit → St → Prop) (h : C.dyn i = []) (h2 : C.lds i = []) (h3 : C.fz i = [] := by rfl) : EvC C (.region i ops d) st K = EvL C ops ops.toList st (normK K) := EvC_region' C i ops d st K (by rw [h]; intro p hp; cases hp) (by rw [h2]; intro p hp; cases hp) h3
theorem EvC_seq (C : Ctx) (a b : Code) (st : St) (K : Exit → St → Prop) : EvC C (.seq a b) st K = EvC C a st (thenK C b K) := by
  unfold EvC
  simp only [evalCode]
  apply propext
  constructor
  · rintro ⟨e, st', h, hk⟩
    split at h
    · rename_i s hs
      exact ⟨.normal, s, hs, e, st', h, hk⟩
    · rename_i r hr
      refine ⟨e, st', h, ?_⟩
      cases e <;> simp_all [thenK]
  · rintro ⟨e, st', h, hk⟩
    cases e
    case normal =>
      obtain ⟨e2, st2, h2, hk2⟩ := hk
      exact ⟨e2, st2, by rw [h]; exact h2, hk2⟩
    all_goals exact ⟨_, st', by rw [h], hk⟩
theorem EvC_cond (C : Ctx) (c : Operand) (x y : Code) (st : St) (K : Exit → St → Prop) : EvC C (.cond c x y) st K = condK C (get st.σ c) x y st K := by
  unfold EvC condK
  simp only [evalCode]
  apply propext
  constructor
  · rintro ⟨e, st', h, hk⟩
    split at h
    · rename_i hg; exact .inl ⟨hg, e, st', h, hk⟩
    · rename_i hg; exact .inr ⟨hg, e, st', h, hk⟩
    · cases h
  · rintro (⟨hg, e, st', h, hk⟩ | ⟨hg, e, st', h, hk⟩)
    · exact ⟨e, st', by rw [hg]; exact h, hk⟩
    · exact ⟨e, st', by rw [hg]; exact h, hk⟩
theorem EvC_block (C : Ctx) (id : Nat) (b : Code) (st : St) (K : Exit → St → Prop) : EvC C (.block id b) st K = EvC C b st (blockK id K) := by
  unfold EvC
  simp only [evalCode]
  apply propext
  constructor
  · rintro ⟨e, st', h, hk⟩
    split at h
    · rename_i i s hs
      refine ⟨.exit i, s, hs, ?_⟩
      unfold blockK
      split at h
      · rename_i hi
        obtain ⟨rfl, rfl⟩ : Exit.normal = e ∧ s = st' := by simpa using h
        simp [hi, hk]
      · rename_i hi
        obtain ⟨rfl, rfl⟩ : Exit.exit i = e ∧ s = st' := by simpa using h
        simp [hi, hk]
    · rename_i r hr
      refine ⟨e, st', h, ?_⟩
      cases e <;> simp_all [blockK]
  · rintro ⟨e, st', h, hk⟩
    cases e
    case exit i =>
      unfold blockK at hk
      simp only [h]
      by_cases hi : i = id
      · simp only [hi, if_true] at hk ⊢
        exact ⟨_, _, rfl, hk⟩
      · simp only [hi, if_false] at hk ⊢
        exact ⟨_, _, rfl, hk⟩
    all_goals exact ⟨_, st', by rw [h], hk⟩
/-- A round's assignment. -/
def asgK (C : Ctx) (b : Code) (K : Exit → St → Prop) (e : Exit) (st : St) : Prop := match e with
  | .normal => EvC C b st K
  | _ => False
def rngK (I : Nat → Hp → Nat → Prop) (k : Nat) (σ : Nat → PV) (K : Exit → St → Prop) (e : Exit) (st : St) : Prop := match e with
  | .normal => I (k + 1) st.hp st.nx
  | .ret => K .ret ⟨σ, st.hp, st.nx⟩
  | .exit i => K (.exit i) ⟨σ, st.hp, st.nx⟩
  | _ => False
theorem asgK_normal (C : Ctx) (b : Code) (K : Exit → St → Prop) (st : St) : asgK C b K .normal st = EvC C b st K := rfl
theorem rngK_normal (I : Nat → Hp → Nat → Prop) (k : Nat) (σ : Nat → PV) (K : Exit → St → Prop) (st : St) : rngK I k σ K .normal st = I (k + 1) st.hp st.nx := rfl
theorem rngK_ret (I : Nat → Hp → Nat → Prop) (k : Nat) (σ : Nat → PV) (K : Exit → St → Prop) (st : St) : rngK I k σ K .ret st = K .ret ⟨σ, st.hp, st.nx⟩ := rfl
theorem rngK_exit (I : Nat → Hp → Nat → Prop) (k : Nat) (σ : Nat → PV) (K : Exit → St → Prop) (i : Nat) (st : St) : rngK I k σ K (.exit i) st = K (.exit i) ⟨σ, st.hp, st.nx⟩ := rfl
/-- A loop over a function. -/
theorem EvC_range {C : Ctx} {f : Operand} {ps : Array Tmp} {a b : Code} {st : St} {K : Exit → St → Prop} {p : Tmp} {g : FuncId} {cap : List PV} {it : IterSpec} {xs : List PV} {hp1 : Hp}
    (hps : ps.toList = [p]) (hf : get st.σ f = some (.fn (.func g) [] cap)) (hit : C.it g = some it) (hx : it cap st.hp = some (xs, hp1)) (I : Nat → Hp → Nat → Prop) (h0 : I 0 hp1 st.nx)
    (round : ∀ k hp nx (hk : k < xs.length), I k hp nx → EvC C a ⟨upd st.σ p xs[k], hp, nx⟩ (asgK C b (rngK I k st.σ K))) (hend : ∀ hp nx, I xs.length hp nx → K .normal ⟨st.σ, hp, nx⟩) : EvC C (.rangeFunc f ps a b) st K := by
  have key : ∀ d k hp nx, xs.length - k = d → k ≤ xs.length → I k hp nx → ∃ e hp2 nx2, roundsA (evalCode C a) (evalCode C b) st.σ p (xs.drop k) hp nx = some (e, hp2, nx2) ∧ K e ⟨st.σ, hp2, nx2⟩ := by
    intro d
    induction d with
    | zero =>
      intro k hp nx hd hk hI
      obtain rfl : k = xs.length := by omega
      exact ⟨.normal, hp, nx, by rw [List.drop_length]; rfl, hend hp nx hI⟩
    | succ d ih =>
      intro k hp nx hd hk hI
      have hlt : k < xs.length := by omega
      obtain ⟨e1, s1, h1, h2⟩ := round k hp nx hlt hI
      rw [List.drop_eq_getElem_cons hlt]
      simp only [roundsA, h1]
      cases e1 <;> try exact h2.elim
      obtain ⟨e2, s2, h3, h4⟩ := h2
      simp only [h3]
      cases e2 <;> try exact h4.elim
      · exact ih (k + 1) s2.hp s2.nx (by omega) (by omega) h4
      · exact ⟨_, _, _, rfl, h4⟩
      · exact ⟨_, _, _, rfl, h4⟩
  obtain ⟨e, hp2, nx2, h1, h2⟩ := key _ 0 hp1 st.nx rfl (Nat.zero_le _) h0
  rw [List.drop_zero] at h1
  exact ⟨e, ⟨st.σ, hp2, nx2⟩, by simp only [evalCode, hps, hf, hit, hx, h1], h2⟩
theorem EvL_nil (C : Ctx) (ops : Array Oper) (st : St) (K : St → Prop) : EvL C ops [] st K = K st := by simp [EvL, evalList]
/-- What follows in a region, not looked into before its state is known. -/
def restK (C : Ctx) (ops : Array Oper) (l : List Oper) (K : St → Prop) (st : St) : Prop := EvL C ops l st K
theorem restK_eq (C : Ctx) (ops : Array Oper) (l : List Oper) (K : St → Prop) (st : St) : restK C ops l K st = EvL C ops l st K := rfl
theorem EvL_cons (C : Ctx) (ops : Array Oper) (o : Oper) (l : List Oper) (st : St) (K : St → Prop) : EvL C ops (o :: l) st K = bindK (stepA C ops o st) (restK C ops l K) := by
  unfold EvL bindK restK EvL
  simp only [evalList]
  apply propext
  constructor
  · rintro ⟨st', h, hk⟩
    split at h
    · rename_i s hs; exact ⟨s, hs, st', h, hk⟩
    · cases h
  · rintro ⟨s, hs, st', h, hk⟩
    exact ⟨st', by rw [hs]; exact h, hk⟩

theorem EvC_loop_unfold (C : Ctx) (b : Code) (st : St) (K : Exit → St → Prop) : EvC C (.loop b) st K = EvC C b st (thenK C (.loop b) K) := by
  unfold EvC
  simp only [evalCode]
  rw [loopR_unfold]
  apply propext
  constructor
  · rintro ⟨e, st', h, hk⟩
    split at h
    · rename_i s hs
      exact ⟨.normal, s, hs, e, st', by simpa only [evalCode] using h, hk⟩
    · rename_i r hr
      refine ⟨e, st', h, ?_⟩
      cases e <;> simp_all [thenK]
  · rintro ⟨e, st', h, hk⟩
    cases e
    case normal =>
      obtain ⟨e2, st2, h2, hk2⟩ := hk
      exact ⟨e2, st2, by rw [h]; simpa only [evalCode] using h2, hk2⟩
    all_goals exact ⟨_, st', by rw [h], hk⟩

def roundK (I : St → Prop) (μ : St → Nat) (n : Nat) (K : Exit → St → Prop) (e : Exit) (st : St) : Prop := match e with
  | .normal => I st ∧ μ st < n
  | e => K e st
theorem roundK_normal (I : St → Prop) (μ : St → Nat) (n : Nat) (K : Exit → St → Prop) (st : St) : roundK I μ n K .normal st = (I st ∧ μ st < n) := rfl
theorem roundK_ret (I : St → Prop) (μ : St → Nat) (n : Nat) (K : Exit → St → Prop) (st : St) : roundK I μ n K .ret st = K .ret st := rfl
theorem roundK_exit (I : St → Prop) (μ : St → Nat) (n i : Nat) (K : Exit → St → Prop) (st : St) : roundK I μ n K (.exit i) st = K (.exit i) st := rfl

theorem EvC.mono {C : Ctx} {code : Code} {st : St} {K K' : Exit → St → Prop} (h : EvC C code st K) (hk : ∀ e st, K e st → K' e st) : EvC C code st K' :=
  let ⟨e, st', h1, h2⟩ := h
  ⟨e, st', h1, hk _ _ h2⟩

/-- A loop, by a relation and a measure. -/
theorem EvC_loop {C : Ctx} {b : Code} {st : St} {K : Exit → St → Prop} (I : St → Prop) (μ : St → Nat) (h0 : I st) (round : ∀ st, I st → EvC C b st (roundK I μ (μ st) K)) : EvC C (.loop b) st K := by
  have key : ∀ n st, μ st = n → I st → EvC C (.loop b) st K := by
    intro n
    induction n using Nat.strongRecOn with
    | _ n ih =>
      intro st hn hI
      rw [EvC_loop_unfold]
      refine (round st hI).mono fun e st' hk => ?_
      cases e
      case normal => exact ih (μ st') (hn ▸ hk.2) st' rfl hk.1
      all_goals exact hk
  exact key _ st rfl h0

/-- What a function's body must come to: its results are x, and what R says of the heap. -/
def retK (P : Program) (fn : Func) (R : PV → Hp → Nat → Prop) (e : Exit) (st : St) : Prop := match e with
  | .normal | .ret => bindK (resultsA P fn st) (fun x => R x st.hp st.nx)
  | _ => False
theorem retK_normal (P : Program) (fn : Func) (R : PV → Hp → Nat → Prop) (st : St) : retK P fn R .normal st = bindK (resultsA P fn st) (fun x => R x st.hp st.nx) := rfl
theorem retK_ret (P : Program) (fn : Func) (R : PV → Hp → Nat → Prop) (st : St) : retK P fn R .ret st = bindK (resultsA P fn st) (fun x => R x st.hp st.nx) := rfl

theorem evalFunc_of {C : Ctx} {fn : Func} {code : Code} {args : List PV} {hp : Hp} {nx : Nat} {R : PV → Hp → Nat → Prop} (hb : fn.body = some code)
    (h : EvC C code ⟨startσ args, hp, nx⟩ (retK C.P fn R)) : ∃ x hp' nx', evalFunc C fn args hp nx = some (x, hp', nx') ∧ R x hp' nx' := by
  obtain ⟨e, st, h1, h2⟩ := h
  unfold evalFunc
  simp only [hb, h1]
  unfold retK at h2
  split at h2
  · obtain ⟨x, hx, hR⟩ := h2
    exact ⟨x, st.hp, st.nx, by simp [hx], hR⟩
  · obtain ⟨x, hx, hR⟩ := h2
    exact ⟨x, st.hp, st.nx, by simp [hx], hR⟩
  · exact h2.elim

/-- A pure function's outcome. -/
def pureR (r : PV) (x : PV) (hp : Hp) (_ : Nat) : Prop := (freeze hp x).map (·.1) = some r
theorem evalPure_of {C : Ctx} {fn : Func} {code : Code} {args : List PV} {r : PV} (hb : fn.body = some code)
    (h : EvC C code ⟨startσ args, fun _ => none, 0⟩ (retK C.P fn (pureR r))) : evalPure C fn args = some r := by
  obtain ⟨x, hp', nx', h1, h2⟩ := evalFunc_of hb h
  unfold evalPure
  simp only [h1]
  exact h2

theorem evalOp_move (C : Ctx) (ρ : Operand → Option PV) (hp : Hp) (nx : Nat) (x : Operand) : evalOp C ρ hp nx (.move x) = (ρ x).map fun y => (y, hp, nx) := rfl
theorem wanted_none (d : Option Tmp) (op : Op) (t : TypeId) (p : String) (af : Array Edge) (y : Nat → Option Bool) : Region.wanted ⟨d, op, t, p, af, none⟩ y = true := rfl
theorem wanted_some (d : Option Tmp) (op : Op) (t : TypeId) (p : String) (af : Array Edge) (j : Nat) (b : Bool) (y : Nat → Option Bool) : Region.wanted ⟨d, op, t, p, af, some (j, b)⟩ y = (y j == some b) := rfl
theorem stepA_eq (C : Ctx) (ops : Array Oper) (d : Option Tmp) (op : Op) (t : TypeId) (p : String) (af : Array Edge) (st : St) : stepA C ops ⟨d, op, t, p, af, none⟩ st = 
    (evalOp C (get st.σ) st.hp st.nx op).map fun r => ⟨put st.σ d r.1, r.2.1, r.2.2⟩ := by
  simp only [stepA, wanted_none, if_true]
  cases evalOp C (get st.σ) st.hp st.nx op <;> rfl
end Go.AM
namespace Go.AM
open Go.RowKit

section
variable {C : Ctx} {pf : FuncId → Bool}

def listedL (listed : Array Bool) (k : Nat) : Prop := listed.getD k false = true

theorem range_split {i n : Nat} (h : i < n) : List.range n = List.range i ++ i :: List.range' (i + 1) (n - i - 1) := by
  have h1 : List.range n = List.range' 0 i ++ List.range' i (n - i) := by
    rw [List.range_eq_range', show List.range' 0 n = List.range' 0 (i + (n - i)) from by rw [show i + (n - i) = n from by omega], ← List.range'_append_1]
    simp
  rw [h1, List.range_eq_range']
  congr 1
  rw [show n - i = (n - i - 1) + 1 from by omega, List.range'_succ]
  simp

theorem order_eq {ops : Array Oper} {cm : Oper → Oper → Bool} {A : St → Prop} (hcm : CommOk C ops cm A) (hok : okDraw cm ops = true) : ∀ (fuel t : Nat) (listed : Array Bool) (st : St), A st → listed.size = ops.size → Closed ops (listedL listed) →
    ((List.range ops.size).filter fun i => !listed.getD i true).length ≤ fuel →
    evalIdx C ops (Region.linearise.go .any ops fuel t listed []) st = evalIdx C ops ((List.range ops.size).filter fun i => !listed.getD i true) st := by
  intro fuel
  induction fuel with
  | zero =>
    intro t listed st _ _ _ hc
    rw [List.eq_nil_of_length_eq_zero (Nat.le_zero.1 hc)]
    rfl
  | succ fuel ih =>
    intro t listed st hA hsz hcl hc
    simp only [Region.linearise.go]
    change evalIdx C ops (match (Region.ready .any ops listed)[t % (Region.ready .any ops listed).length]? with
      | some i => Region.linearise.go .any ops fuel (t / (Region.ready .any ops listed).length) (listed.setIfInBounds i true) [i]
      | none => [].reverse) st = _
    have hget : ∀ k, k < ops.size → listed.getD k true = listed.getD k false := fun k hk => by
      have : k < listed.size := by omega
      simp [this]
    have hready : ∀ i, i ∈ Region.ready .any ops listed ↔ i < ops.size ∧ listed.getD i true = false ∧ ∃ o, ops[i]? = some o ∧ Preds (listedL listed) o := by
      intro i
      unfold Region.ready
      simp only [List.mem_filter, List.mem_range, Bool.and_eq_true, Bool.not_eq_true']
      constructor
      · rintro ⟨h1, h2, h3⟩
        refine ⟨h1, h2, ops[i], by simp [h1], fun e he hb => ?_⟩
        simp only [h1, Array.getElem?_eq_getElem, Option.map_some, Option.getD_some] at h3
        have := Array.all_eq_true'.1 h3 e (by simpa using he)
        simpa [hb, listedL] using this
      · rintro ⟨h1, h2, o, ho, hp⟩
        refine ⟨h1, h2, ?_⟩
        simp only [ho, Option.map_some, Option.getD_some]
        refine Array.all_eq_true'.2 fun e he => ?_
        cases hb : Region.binds .any e with
        | false => rfl
        | true => simpa [listedL] using hp e (by simpa using he) hb
    cases hi : (Region.ready .any ops listed)[t % (Region.ready .any ops listed).length]? with
    | none =>
      have hnil : Region.ready .any ops listed = [] := by
        cases hr : Region.ready .any ops listed with
        | nil => rfl
        | cons x xs =>
          rw [hr] at hi
          have hlt : t % (x :: xs).length < (x :: xs).length := Nat.mod_lt _ (by simp)
          simp at hi
          simp at hlt
          omega
      have hall : ∀ n k, k < n → k < ops.size → listed.getD k true = true := by
        intro n
        induction n with
        | zero => intro k hk; omega
        | succ n ihn =>
          intro k hk hks
          by_cases hkn : k < n
          · exact ihn k hkn hks
          · have hkk : k = n := by omega
            subst hkk
            cases hb : listed.getD k true with
            | true => rfl
            | false =>
              have ho : ops[k]? = some ops[k] := by simp [hks]
              have hmem : k ∈ Region.ready .any ops listed := (hready k).2 ⟨hks, hb, ops[k], ho, fun e he hbe => by
                have hlt := (okDraw_spec hok k _ ho).1 e he hbe
                have := ihn e.on hlt (by omega)
                rw [hget e.on (by omega)] at this
                exact this⟩
              rw [hnil] at hmem
              cases hmem
      have : ((List.range ops.size).filter fun i => !listed.getD i true) = [] := by
        rw [List.filter_eq_nil_iff]
        intro k hk
        have hks := List.mem_range.1 hk
        rw [hall (k + 1) k (by omega) hks]
        simp
      rw [this]
      rfl
    | some i =>
      simp only []
      obtain ⟨hin, hul, o, ho, hp⟩ := (hready i).1 (List.mem_of_getElem? hi)
      rw [linearise_go_acc, List.reverse_singleton, List.singleton_append]
      have hl' : ∀ k, (listed.setIfInBounds i true).getD k true = if k = i then true else listed.getD k true := by
        intro k
        by_cases hk : k = i
        · subst hk
          have : k < listed.size := by omega
          simp [this]
        · rw [if_neg hk]
          simp [Array.getElem?_setIfInBounds_ne (fun h => hk h.symm)]
      have hlf : ∀ k, listedL (listed.setIfInBounds i true) k ↔ k = i ∨ listedL listed k := by
        intro k
        unfold listedL
        by_cases hk : k = i
        · subst hk
          have : k < listed.size := by omega
          simp [this]
        · simp [Array.getElem?_setIfInBounds_ne (fun h => hk h.symm), hk]
      have hsplit : ((List.range ops.size).filter fun k => !listed.getD k true) = ((List.range i).filter fun k => !listed.getD k true) ++ i :: ((List.range' (i + 1) (ops.size - i - 1)).filter fun k => !listed.getD k true) := by
        rw [range_split hin, List.filter_append, List.filter_cons_of_pos (by rw [hul]; rfl)]
      have hsplit' : ((List.range ops.size).filter fun k => !(listed.setIfInBounds i true).getD k true) = ((List.range i).filter fun k => !listed.getD k true) ++ ((List.range' (i + 1) (ops.size - i - 1)).filter fun k => !listed.getD k true) := by
        rw [range_split hin, List.filter_append, List.filter_cons_of_neg (by rw [hl']; simp)]
        congr 1
        · exact List.filter_congr fun k hk => by
            have := List.mem_range.1 hk
            rw [hl', if_neg (by omega)]
        · exact List.filter_congr fun k hk => by
            have := (List.mem_range'_1.1 hk).1
            rw [hl', if_neg (by omega)]
      have hcl' : Closed ops (listedL (listed.setIfInBounds i true)) := by
        intro k o' hk ho' e he hb
        rw [hlf] at hk ⊢
        rcases hk with rfl | hk
        · rw [ho] at ho'
          injection ho' with ho'
          subst ho'
          exact .inr (hp e he hb)
        · exact .inr (hcl k o' hk ho' e he hb)
      have hcount : ((List.range ops.size).filter fun k => !(listed.setIfInBounds i true).getD k true).length ≤ fuel := by
        rw [hsplit'] 
        rw [hsplit] at hc
        simp only [List.length_append, List.length_cons] at hc ⊢
        omega
      have hrec := fun st hA => ih (t / (Region.ready .any ops listed).length) (listed.setIfInBounds i true) st hA (by simpa using hsz) hcl' hcount
      rw [hsplit, evalIdx_front hcm ho _ _ _ hA (fun j hj => by
        obtain ⟨hji, hju⟩ := List.mem_filter.1 hj
        have hji := List.mem_range.1 hji
        rcases (okDraw_spec hok i o ho).2 j hji with h | h
        · have := h (listedL listed) hcl hp
          unfold listedL at this
          rw [← hget j (by omega)] at this
          rw [this] at hju
          cases hju
        · exact h)]
      simp only [evalIdx, ho]
      cases hso : stepA C ops o st with
      | none => rfl
      | some st' =>
        simp only [Option.bind_some]
        rw [hrec st' (hcm.keep i o st st' ho hA hso), hsplit']

theorem evalIdx_text (ops : Array Oper) (st : St) : ∀ (l : List Oper) (i : Nat), (∀ k, l[k]? = ops[i + k]?) → i + l.length = ops.size → evalIdx C ops (List.range' i l.length) st = evalList C ops l st := by
  intro l
  induction l generalizing st with
  | nil => intro i _ _; rfl
  | cons o l ih =>
    intro i hk hl
    have ho : ops[i]? = some o := by have := hk 0; simpa using this.symm
    simp only [List.length_cons, List.range'_succ, evalIdx, ho, evalList]
    cases hs : stepA C ops o st with
    | none => rfl
    | some st' =>
      simp only [Option.bind_some]
      exact ih st' (i + 1) (fun k => by have := hk (k + 1); simpa [Nat.add_assoc, Nat.add_comm 1 k] using this) (by simp at hl; omega)

theorem evalIdx_range (ops : Array Oper) (st : St) : evalIdx C ops (List.range ops.size) st = evalList C ops ops.toList st := by
  have := evalIdx_text (C := C) ops st ops.toList 0 (by simp) (by simp)
  rw [List.range_eq_range']
  simpa using this

theorem draw_eq {ops : Array Oper} {cm : Oper → Oper → Bool} {A : St → Prop} (hcm : CommOk C ops cm A) (hok : okDraw cm ops = true) (t : Nat) (st : St) (hA : A st) : evalIdx C ops (Region.linearise .any ops t) st = evalList C ops ops.toList st := by
  unfold Region.linearise
  rw [order_eq hcm hok ops.size t _ st hA (by simp) (fun k o hk => by
    unfold listedL at hk
    rw [Array.getD_eq_getD_getElem?, Array.getElem?_replicate] at hk
    split at hk <;> simp at hk) (Nat.le_trans (List.length_filter_le _ _) (by simp))]
  have : ((List.range ops.size).filter fun i => !(Array.replicate ops.size false).getD i true) = List.range ops.size := by
    rw [List.filter_eq_self]
    intro i hi
    have hi := List.mem_range.1 hi
    simp [hi]
  rw [this, evalIdx_range]

end

section
variable {C : Ctx} {pf : FuncId → Bool} {w0 : World} {S0 L : Nat → Prop} {N nx0 : Nat} {G0 : Nat → GI} {n0 : Nat}

theorem yield_eq {w : World} {S : Nat → Prop} {G : Nat → GI} {nx : Nat} {ops : Array Oper} {σ : Nat → PV} {a : Act} (hs : ∀ t, RepO w S G nx (σ t) (a.tmps.getD t undef)) : yielded ops a.tmps = yieldA ops σ := by
  funext j
  unfold yielded yieldA
  cases hd : (ops[j]?).bind (·.dst) with
  | none => rfl
  | some d =>
    simp only [Option.bind_some]
    have hr := hs d
    have hnb : ∀ b : Bool, a.tmps.getD d undef = .bool b → a.tmps[d]? = some (.bool b) := by
      intro b hb
      by_cases hlt : d < a.tmps.size
      · simp [hlt] at hb ⊢; exact hb
      · simp [hlt] at hb
        simp [undef] at hb
    cases hσ : σ d with
    | v x =>
      rw [hσ] at hr
      obtain ⟨e, hl⟩ := hr.v_inv
      cases x with
      | bool b => simp only [hnb b e]
      | _ =>
        cases hk : a.tmps[d]? with
        | none => rfl
        | some y =>
          have : a.tmps.getD d undef = y := by simp [hk]
          rw [this] at e
          subst e
          rfl
    | _ =>
      cases hk : a.tmps[d]? with
      | none => rfl
      | some y =>
        have : a.tmps.getD d undef = y := by simp [hk]
        rw [hσ, this] at hr
        cases y with
        | bool b => cases hr with
          | c h => cases h
        | _ => rfl

/-- The fences of a walk: none, and that of a round. -/
def Easy (F : Fence) : Prop := F = Fence.wide ∨ ∃ l, F = Fence.wide.inRound l
theorem Easy.fn {F : Fence} (h : Easy F) (f : FuncId) : F.fn f := by
  rcases h with rfl | ⟨l, rfl⟩ <;> trivial
theorem Easy.deep {F : Fence} (h : Easy F) : F.depth = none := by
  rcases h with rfl | ⟨l, rfl⟩ <;> rfl
theorem Easy.room {F : Fence} (h : Easy F) (k : Nat) : F.room k := fun d hd => by rw [h.deep] at hd; cases hd
theorem Easy.inRound {F : Fence} (h : Easy F) (l : Nat) : Easy (F.inRound l) := by
  rcases h with rfl | ⟨k, rfl⟩
  · exact .inr ⟨l, rfl⟩
  · exact .inr ⟨l, rfl⟩
theorem Easy.calls {F : Fence} (h : Easy F) {n : Nat} {P : Program} {f : FuncId} {args : Array Value} {w : World} {R : Ending → World → Prop} (hc : Calls P f args w R) : CallsIn F n P f args w R := by
  rcases h with rfl | ⟨l, rfl⟩
  · exact callsIn_wide.2 hc
  · exact (callsIn_wide.2 hc : CallsIn Fence.wide n P f args w R)

theorem ops_sound (hΓ : ∀ g spec, C.Γ g = some spec → SpecSound C.P g spec) {ops : Array Oper} (hN : ∀ (i : Nat) (o : Oper), ops[i]? = some o → ∀ d, o.dst = some d → d < N) {F : Fence} {n : Nat} (hF : Easy F) {Q : Exit → Act → World → Prop} :
    ∀ (l : List Nat) (st st' : St) (a : Act) (w : World), evalIdx C ops l st = some st' → Sim C.P w0 S0 L N nx0 G0 n0 st a w → (∀ a' w', Sim C.P w0 S0 L N nx0 G0 n0 st' a' w' → Q .normal a' w') → wpOpsIn F n C.P ops Q l a w
  | [], st, st', a, w, h, hs, hQ => by
    simp only [evalIdx] at h
    injection h with h
    subst h
    exact hQ a w hs
  | i :: l, st, st', a, w, h, hs, hQ => by
    simp only [wpOpsIn]
    cases ho : ops[i]? with
    | none =>
      simp only [evalIdx, ho] at h
      exact ops_sound hΓ hN hF l st st' a w h hs hQ
    | some o =>
      simp only [evalIdx, ho] at h
      cases hst : stepA C ops o st with
      | none => rw [hst] at h; cases h
      | some st1 =>
        rw [hst] at h
        simp only [Option.bind_some] at h
        obtain ⟨S, G, hS⟩ := hs
        unfold stepA at hst
        simp only []
        rw [yield_eq hS.slots]
        split at hst
        · rename_i hw
          rw [if_pos hw]
          split at hst
          · rename_i x hp nx hev
            injection hst with hst
            subst hst
            have hnd : ∀ c, o.op ≠ .defer c := by
              intro c hc
              rw [hc] at hev
              simp [evalOp] at hev
            refine ⟨fun f _ => hF.fn f, ?_⟩
            rw [Oper.semAt_eq _ _ _ hnd]
            have hop := evalOp_sound hΓ hS.inv (a := a.eval) (fun y pv hy => get_rep hS.slots hy) (o := o) hev
            rcases hop with ⟨v, w', S', G', hr, hk, hx⟩ | ⟨g, vs, hr, hc⟩
            · have hsim : Sim C.P w0 S0 L N nx0 G0 n0 ⟨put st.σ o.dst x, hp, nx⟩ (a.put o.dst v) w' := ⟨S', G', hS.step hk hx (hN i o ho)⟩
              have hrest := ops_sound (n := n) hΓ hN hF l _ st' _ w' h hsim hQ
              rcases hr with hr | ⟨hr, rfl⟩
              · rw [hr]; exact hrest
              · rw [hr]; exact hrest
            · rw [hr]
              refine ⟨fun h => by simp [hF.deep] at h, hF.calls (hc.mono fun e w' hh => ?_)⟩
              obtain ⟨v, S', G', rfl, hk, hx⟩ := hh
              have hsim : Sim C.P w0 S0 L N nx0 G0 n0 ⟨put st.σ o.dst x, hp, nx⟩ (a.put o.dst v) w' := ⟨S', G', hS.step hk hx (hN i o ho)⟩
              exact ops_sound hΓ hN hF l _ st' _ w' h hsim hQ
          · cases hst
        · rename_i hw
          rw [if_neg hw]
          injection hst with hst
          subst hst
          exact ⟨fun f _ => hF.fn f, ops_sound hΓ hN hF l _ st' _ w h ⟨S, G, hS.step (.refl hS.inv) repO_undef (hN i o ho)⟩ hQ⟩

/-- Code without a loop over a function. -/
def noRange : Code → Bool
  | .seq a b => noRange a && noRange b
  | .cond _ a b => noRange a && noRange b
  | .block _ b => noRange b
  | .loop b => noRange b
  | .rangeFunc _ _ _ _ => false
  | .scope _ => false
  | _ => true

/-- What is checked of a function's code once: slots in range; regions that draw can be put in order. -/
def codeOk (pf : FuncId → Bool) (dyn : Nat → List (Tmp × Tmp)) (lds : Nat → List Tmp) (bk : FuncId → Bool) (N : Nat) : Code → Bool
  | .region i ops draw => ops.all (fun o => match o.dst with | some d => decide (d < N) | none => true) && (!draw || (okDraw (commD pf (dyn i) (lds i) bk ops) ops && plainB pf (dyn i) (lds i) bk ops))
  | .seq a b => codeOk pf dyn lds bk N a && codeOk pf dyn lds bk N b
  | .cond _ a b => codeOk pf dyn lds bk N a && codeOk pf dyn lds bk N b
  | .block _ b => codeOk pf dyn lds bk N b
  | .loop b => codeOk pf dyn lds bk N b
  | .rangeFunc _ ps a b => ps.all (fun p => decide (p < N)) && noRange a && noRange b && codeOk pf dyn lds bk N a && codeOk pf dyn lds bk N b
  | _ => true

theorem Sim.drew {st : St} {a : Act} {w : World} (h : Sim C.P w0 S0 L N nx0 G0 n0 st a w) : Sim C.P w0 S0 L N nx0 G0 n0 st a { w with drawn := w.drawn + 1 } := by
  obtain ⟨S, G, hS⟩ := h
  refine ⟨S, G, hS.inv.same rfl, fun t => (hS.slots t).mono (fun b hb => ⟨hb, rfl⟩) (Nat.le_refl _) (fun _ _ => rfl), hS.size, hS.defers, hS.s0, hS.s1, hS.own, hS.fr.trans (Fr.drew w L) fun _ _ h => h, hS.up, hS.loc⟩

theorem Sim.thaw1 {st : St} {a : Act} {w : World} (h : Sim C.P w0 S0 L N nx0 G0 n0 st a w) {t : Nat} {y : PV} {hp1 : Hp} (hf : freezeVal st.hp (st.σ t) = some (y, hp1)) : Sim C.P w0 S0 L N nx0 G0 n0 ⟨upd st.σ t y, hp1, st.nx⟩ a w := by
  obtain ⟨S, G, h⟩ := h
  obtain ⟨S', k, c, _, _⟩ := freezeVal_sound h.inv hf (h.slots t)
  have hlive : ∀ b, liveIn st.hp G b → L b ∨ w0.heap.size ≤ b := by
    rintro b ⟨id, blk, hid, rfl⟩
    exact h.own id blk hid
  refine ⟨S', G, k.inv, fun s => ?_, h.size, h.defers.step k, fun b hb => k.keep b (h.s0 b hb), fun b hb => ?_, fun id b hb => ?_, h.fr, h.up, h.loc⟩
  · show RepO w S' G st.nx (upd st.σ t y s) _
    by_cases hs : s = t
    · subst hs
      rw [upd_same]
      exact .c c
    · rw [upd_other _ _ _ _ hs]
      exact (h.slots s).mono (k.same h.inv) (Nat.le_refl _) (fun _ _ => rfl)
  · rcases k.from_ b hb with h1 | h1 | h1
    · exact h.s1 b h1
    · exact .inr (hlive b h1)
    · exact .inr (.inr (Nat.le_trans h.fr.size h1))
  · rcases k.own id b hb with h1 | h1
    · exact hlive _ h1
    · exact .inr (Nat.le_trans h.fr.size h1)
theorem Sim.thaw {a : Act} {w : World} : ∀ {l : List Tmp} {st st1 : St}, Sim C.P w0 S0 L N nx0 G0 n0 st a w → AM.thaw l st = some st1 → Sim C.P w0 S0 L N nx0 G0 n0 st1 a w
  | [], st, st1, h, e => by
    simp only [AM.thaw] at e
    injection e with e
    rw [← e]; exact h
  | t :: l, st, st1, h, e => by
    simp only [AM.thaw] at e
    split at e
    · rename_i y hp1 hf
      exact Sim.thaw (h.thaw1 hf) e
    · cases e

/-! ### loops over functions -/
/-- A block that is neither stable nor live. -/
def Away (S : Nat → Prop) (G : Nat → GI) (hp : Hp) (b : Nat) : Prop := ¬ S b ∧ ∀ id blk, hp id = some blk → (G id).g ≠ b
theorem Away.step {P : Program} {hp hp' : Hp} {nx nx' : Nat} {S S' : Nat → Prop} {G G' : Nat → GI} {w w' : World} {b : Nat} (h : Away S G hp b) (k : Stp P hp nx S G w hp' nx' S' G' w') (hb : b < w.heap.size) : Away S' G' hp' b := by
  refine ⟨fun hs => ?_, fun id blk hid he => ?_⟩
  · rcases k.from_ b hs with h1 | ⟨id, blk, h1, h2⟩ | h1
    · exact h.1 h1
    · exact h.2 id blk h1 h2
    · omega
  · rcases k.own id blk hid with ⟨id', blk', h1, h2⟩ | h1
    · exact h.2 id' blk' h1 (h2.trans he)
    · omega
theorem Away.same {P : Program} {hp hp' : Hp} {nx nx' : Nat} {S S' : Nat → Prop} {G G' : Nat → GI} {w w' : World} {b : Nat} (h : Away S G hp b) (k : Stp P hp nx S G w hp' nx' S' G' w') (hb : b < w.heap.size) : w'.heap[b]? = w.heap[b]? :=
  k.fr.block b hb fun ⟨id, blk, h1, h2⟩ => h.2 id blk h1 h2

section
variable {P : Program} {S : Nat → Prop} {G : Nat → GI}
/-- Blocks that are neither stable nor live may change. -/
theorem Inv.frame {w w' : World} {hp : Hp} {nx : Nat} {B : Nat → Prop} (h : Inv P w S G hp nx) (fr : Fr w B w') (hB : ∀ b, B b → Away S G hp b) : Inv P w' S G hp nx := by
  have hS : ∀ b, S b → S b ∧ w'.heap[b]? = w.heap[b]? := fun b hb => ⟨hb, fr.block b (h.st b hb) fun hb' => (hB b hb').1 hb⟩
  exact ⟨fun b hb => Nat.lt_of_lt_of_le (h.st b hb) fr.size, h.top, fun id b hb => (h.live id b hb).mono hS (Nat.le_refl _) (fun _ _ => rfl) (fr.block _ (h.live id b hb).lt fun hb' => (hB _ hb').2 id b hb rfl), h.apart, h.inj, h.glo.mono hS⟩
theorem Marks.frame {w w' : World} {hp : Hp} {B : Nat → Prop} {ds : List Deferred} (h : Marks n0 w S hp G ds) (fr : Fr w B w') (hm : ∀ D, mark D ∈ ds → ¬ B D) : Marks n0 w' S hp G ds := by
  obtain ⟨h0, Ds, e, hn, hD⟩ := h
  refine ⟨Nat.le_trans h0 fr.size, Ds, e, hn, fun D hd => ?_⟩
  obtain ⟨h1, h2, h3⟩ := hD D hd
  exact ⟨h1, (fr.block D (Array.getElem?_eq_some_iff.1 h2).1 (hm D (by rw [e]; exact List.mem_map_of_mem hd))).trans h2, h3⟩
theorem mark_inj {D D' : Nat} (h : mark D = mark D') : D = D' := by
  unfold mark at h
  injection h with h
  injection h
theorem Marks.at {w : World} {hp : Hp} {ds : List Deferred} (h : Marks n0 w S hp G ds) {D : Nat} (hd : mark D ∈ ds) : n0 ≤ D ∧ w.heap[D]? = some (.deferred (some [])) ∧ ¬ S D ∧ ∀ id b, hp id = some b → (G id).g ≠ D := by
  obtain ⟨h0, Ds, rfl, hn, hD⟩ := h
  obtain ⟨D', h1, h2⟩ := List.mem_map.1 hd
  rw [← mark_inj h2]
  exact hD D' h1
theorem SimAt.frame {st : St} {a : Act} {w w' : World} {B : Nat → Prop} (h : SimAt P w0 S0 L N nx0 G0 n0 st S G a w) (fr : Fr w B w') (hB : ∀ b, B b → Away S G st.hp b) (hL : ∀ b, B b → L b ∨ w0.heap.size ≤ b)
    (hm : ∀ D, mark D ∈ a.defers → ¬ B D) : SimAt P w0 S0 L N nx0 G0 n0 st S G a w' := by
  have hS : ∀ b, S b → S b ∧ w'.heap[b]? = w.heap[b]? := fun b hb => ⟨hb, fr.block b (h.inv.st b hb) fun hb' => (hB b hb').1 hb⟩
  refine ⟨h.inv.frame fr hB, fun t => (h.slots t).mono hS (Nat.le_refl _) (fun _ _ => rfl), h.size, h.defers.frame fr hm, h.s0, h.s1, h.own, h.fr.trans fr fun b hb h1 => ?_, h.up, h.loc⟩
  rcases hL b h1 with h2 | h2
  · exact h2
  · omega
/-- The same state, seen from here on, where blocks that are neither stable nor live have changed. -/
theorem SimAt.innerAt {st : St} {a : Act} {w w' : World} {B : Nat → Prop} (h : SimAt P w0 S0 L N nx0 G0 0 st S G a w) (fr : Fr w B w') (hB : ∀ b, B b → Away S G st.hp b) (hm : ∀ D, mark D ∈ a.defers → ¬ B D) : SimAt P w' S (liveIn st.hp G) N st.nx G 0 st S G a w' := by
  have hS : ∀ b, S b → S b ∧ w'.heap[b]? = w.heap[b]? := fun b hb => ⟨hb, fr.block b (h.inv.st b hb) fun hb' => (hB b hb').1 hb⟩
  exact ⟨h.inv.frame fr hB, fun t => (h.slots t).mono hS (Nat.le_refl _) (fun _ _ => rfl), h.size, h.defers.frame fr hm, fun _ h => h, fun _ h => .inl h, fun id b hb => .inl ⟨id, b, hb, rfl⟩, Fr.refl _ _, Nat.le_refl _, fun _ _ => rfl⟩
/-- A round's activation. -/
theorem SimAt.inner {st : St} {a : Act} {w : World} (h : SimAt P w0 S0 L N nx0 G0 n0 st S G a w) : SimAt P w S (liveIn st.hp G) N st.nx G 0 st S G { a with defers := [] } w :=
  ⟨h.inv, h.slots, h.size, .nil (Nat.zero_le _), fun _ h => h, fun _ h => .inl h, fun id b hb => .inl ⟨id, b, hb, rfl⟩, Fr.refl _ _, Nat.le_refl _, fun _ _ => rfl⟩
theorem SimAt.stp {hp : Hp} {nx : Nat} {S' : Nat → Prop} {G' : Nat → GI} {st : St} {a : Act} {w w' : World} (h : SimAt P w S (liveIn hp G) N nx G n0 st S' G' a w') : Stp P hp nx S G w st.hp st.nx S' G' w' := ⟨h.inv, h.up, h.loc, h.s0, h.s1, h.own, h.fr⟩
end

/-- A function over which a loop ranges: it gives xs, one a round; what it keeps for itself (B) it turns as it likes. -/
def IterSound (P : Program) (g : FuncId) (it : IterSpec) : Prop :=
  (∃ fn, P.funcs[g]? = some fn ∧ (fn.name == "runtime.NumGoroutine") = false ∧ fn.body.isNone = false) ∧
  ∀ cap hp nx xs hp1, it cap hp = some (xs, hp1) → ∃ us : List Value, xs = us.map PV.v ∧ (∀ u ∈ us, lit u = true) ∧ (∀ id b, hp1 id = some b → hp id = some b) ∧
    ∀ (w : World) (S : Nat → Prop) (G : Nat → GI) (vs : List Value), Inv P w S G hp nx → Zip (RepO w S G nx) cap vs →
      ∃ B : Nat → Prop, (∀ b, B b → liveIn hp G b ∧ Away S G hp1 b) ∧
        ∀ (n l : Nat) (J Jx : List Value → World → Prop),
          (∀ pre W W', J pre W → Fr W B W' → J pre W') → (∀ pre W W', Jx pre W → Fr W B W' → Jx pre W') → (∀ pre W, J pre W → Glo P W fun b => b < W.heap.size) →
          (∀ pre x W, J pre W → us[pre.length]? = some x → YieldAt Fence.wide n P l #[x] W fun e W' => (e = .returned (.bool true) ∧ J (pre ++ [x]) W' ∧ (∀ b, B b → W'.heap[b]? = W.heap[b]?) ∧ W.heap.size ≤ W'.heap.size) ∨ (e = .returned (.bool false) ∧ Jx (pre ++ [x]) W')) →
          ∀ W, J [] W → (∀ b, B b → W.heap[b]? = w.heap[b]?) → w.heap.size ≤ W.heap.size →
            CallsIn Fence.wide (n + 1) P g (#[.func (.yield l) #[] #[]] ++ vs.toArray) W fun e W' => (∃ v, e = .returned v) ∧ (J us W' ∨ ∃ pre, Jx pre W')

theorem lit_rep {w : World} {S : Nat → Prop} {G : Nat → GI} {nx : Nat} {u : Value} (h : lit u = true) : RepO w S G nx (.v u) u := .c (.v h)

theorem fr_put {w : World} {l : Nat} (o : Obj) (B : Nat → Prop) (hB : B l) : Fr w B (w.putObj l o) :=
  ⟨rfl, rfl, rfl, by simp, Nat.le_refl _, fun k _ hn => World.putObj_heap_other fun e => hn (e ▸ hB)⟩

theorem code_sound (hΓ : ∀ g spec, C.Γ g = some spec → SpecSound C.P g spec) (hpf : ∀ g spec, pf g = true → C.Γ g = some spec → Quiet spec) (hbk : ∀ g spec, C.bk g = true → C.Γ g = some spec → BoxKeep spec) (hit : ∀ g it, C.it g = some it → IterSound C.P g it) (hm : C.P.follows .mixedOrders = true) :
    ∀ (c : Code), codeOk pf C.dyn C.lds C.bk N c = true → ∀ (F : Fence) (n : Nat), Easy F → (F = Fence.wide ∨ noRange c = true) → ∀ (w0 : World) (S0 L : Nat → Prop) (nx0 : Nat) (G0 : Nat → GI) (n0 : Nat) (st st' : St) (e : Exit) (a : Act) (w : World) (Q : Exit → Act → World → Prop), n0 ≤ w0.heap.size → evalCode C c st = some (e, st') → Sim C.P w0 S0 L N nx0 G0 n0 st a w →
      (∀ a' w', Sim C.P w0 S0 L N nx0 G0 n0 st' a' w' → Q e a' w') → c.wpIn F n C.P Q a w := by
  intro c
  induction c with
  | skip =>
    intro _ F n hF _ w0 S0 L nx0 G0 n0 st st' e a w Q _ h hs hQ
    simp only [evalCode] at h
    injection h with h
    injection h with e1 e2
    subst e1; subst e2
    exact wpIn_skip (hQ a w hs)
  | region id ops draw =>
    intro hok F n hF _ w0 S0 L nx0 G0 n0 st st' e a w Q _ h hs hQ
    simp only [codeOk, Bool.and_eq_true, Bool.or_eq_true, Bool.not_eq_true'] at hok
    obtain ⟨hN0, hdraw⟩ := hok
    have hN : ∀ (i : Nat) (o : Oper), ops[i]? = some o → ∀ d, o.dst = some d → d < N := by
      intro i o ho d hd
      have := Array.all_eq_true'.1 hN0 o (Array.mem_of_getElem? ho)
      simpa [hd] using this
    simp only [evalCode] at h
    split at h
    case h_2 => cases h
    rename_i st1 hth
    have hs := hs.thaw hth
    clear hth
    generalize st1 = st at h hs
    split at h
    case isFalse => cases h
    rename_i hA
    split at h
    · rename_i s hs1
      injection h with h
      injection h with e1 e2
      subst e1; subst e2
      cases draw with
      | false => exact wpIn_region (ops_sound hΓ hN hF _ st s a w (by rw [evalIdx_range]; exact hs1) hs hQ)
      | true =>
        have hd : okDraw (commD pf (C.dyn id) (C.lds id) C.bk ops) ops = true ∧ plainB pf (C.dyn id) (C.lds id) C.bk ops = true := by simpa using hdraw
        refine wpIn_region_draw fun t => ?_
        simp only [Region.schedule, hm, Bool.true_or, if_true]
        exact ops_sound hΓ hN hF _ st s a _ (by rw [draw_eq (commD_ok hpf hbk hd.2) hd.1 _ _ hA]; exact hs1) hs.drew hQ
    · cases h
  | seq x y ihx ihy =>
    intro hok F n hF hno w0 S0 L nx0 G0 n0 st st' e a w Q hn0 h hs hQ
    simp only [codeOk, Bool.and_eq_true] at hok
    have hnx : F = Fence.wide ∨ noRange x = true := hno.imp (fun h => h) fun h => by simp only [noRange, Bool.and_eq_true] at h; exact h.1
    have hny : F = Fence.wide ∨ noRange y = true := hno.imp (fun h => h) fun h => by simp only [noRange, Bool.and_eq_true] at h; exact h.2
    simp only [evalCode] at h
    split at h
    · rename_i s hx
      exact wpIn_seq (ihx hok.1 F n hF hnx w0 S0 L nx0 G0 n0 st s .normal a w _ hn0 hx hs fun a' w' hs' => ihy hok.2 F n hF hny w0 S0 L nx0 G0 n0 s st' e a' w' Q hn0 h hs' hQ)
    · rename_i r hr
      refine wpIn_seq (ihx hok.1 F n hF hnx w0 S0 L nx0 G0 n0 st st' e a w _ hn0 h hs fun a' w' hs' => ?_)
      have := hQ a' w' hs'
      cases e <;> first
        | exact this
        | exact (hr _ h).elim
  | cond c x y ihx ihy =>
    intro hok F n hF hno w0 S0 L nx0 G0 n0 st st' e a w Q hn0 h hs hQ
    simp only [codeOk, Bool.and_eq_true] at hok
    have hnx : F = Fence.wide ∨ noRange x = true := hno.imp (fun h => h) fun h => by simp only [noRange, Bool.and_eq_true] at h; exact h.1
    have hny : F = Fence.wide ∨ noRange y = true := hno.imp (fun h => h) fun h => by simp only [noRange, Bool.and_eq_true] at h; exact h.2
    simp only [evalCode] at h
    obtain ⟨S, G, hS⟩ := hs
    split at h
    · rename_i hc
      obtain ⟨hv, _⟩ := (get_rep hS.slots hc).v_inv
      exact wpIn_cond_true hv (ihx hok.1 F n hF hnx w0 S0 L nx0 G0 n0 st st' e a w Q hn0 h ⟨S, G, hS⟩ hQ)
    · rename_i hc
      obtain ⟨hv, _⟩ := (get_rep hS.slots hc).v_inv
      exact wpIn_cond_false hv (ihy hok.2 F n hF hny w0 S0 L nx0 G0 n0 st st' e a w Q hn0 h ⟨S, G, hS⟩ hQ)
    · cases h
  | block id b ih =>
    intro hok F n hF hno w0 S0 L nx0 G0 n0 st st' e a w Q hn0 h hs hQ
    simp only [codeOk] at hok
    have hnb : F = Fence.wide ∨ noRange b = true := hno.imp (fun h => h) fun h => by simp only [noRange] at h; exact h
    simp only [evalCode] at h
    split at h
    · rename_i i s hb
      refine wpIn_block (ih hok F n hF hnb w0 S0 L nx0 G0 n0 st s (.exit i) a w _ hn0 hb hs fun a' w' hs' => ?_)
      unfold Exit.inBlock
      split at h
      · rename_i hi
        injection h with h
        injection h with e1 e2
        subst e1; subst e2
        simp [hi, hQ a' w' hs']
      · rename_i hi
        injection h with h
        injection h with e1 e2
        subst e1; subst e2
        simp [hi, hQ a' w' hs']
    · rename_i r hr
      refine wpIn_block (ih hok F n hF hnb w0 S0 L nx0 G0 n0 st st' e a w _ hn0 h hs fun a' w' hs' => ?_)
      have := hQ a' w' hs'
      cases e <;> first
        | exact this
        | exact (hr _ _ h).elim
  | loop b ih =>
    intro hok F n hF hno w0 S0 L nx0 G0 n0 st st' e a w Q hn0 h hs hQ
    simp only [codeOk] at hok
    have hnb : F = Fence.wide ∨ noRange b = true := hno.imp (fun h => h) fun h => by simp only [noRange] at h; exact h
    simp only [evalCode] at h
    obtain ⟨m, hm'⟩ := iter_of_loopR h
    refine wpIn_loop_rounds m ?_
    clear h
    induction m generalizing st a w with
    | zero => simp [iter] at hm'
    | succ m ihn =>
      rw [roundsIn_succ]
      simp only [iter] at hm'
      split at hm'
      · rename_i s hb
        exact ih hok F n hF hnb w0 S0 L nx0 G0 n0 st s .normal a w _ hn0 hb hs fun a' w' hs' => ihn s a' w' hs' hm'
      · rename_i r hr
        refine ih hok F n hF hnb w0 S0 L nx0 G0 n0 st st' e a w _ hn0 hm' hs fun a' w' hs' => ?_
        have := hQ a' w' hs'
        cases e <;> first
          | exact this
          | exact (hr _ hm').elim
  | rangeFunc f ps x y ihx ihy =>
    intro hok F n hF hno w0 S0 L nx0 G0 n0 st st' e a w Q hn0 h hs hQ
    obtain rfl : F = Fence.wide := hno.resolve_right (by simp [noRange])
    simp only [codeOk, Bool.and_eq_true] at hok
    obtain ⟨⟨⟨⟨hps, hnx⟩, hny⟩, hox⟩, hoy⟩ := hok
    simp only [evalCode] at h
    split at h
    case h_2 => cases h
    rename_i p g cap hpl hfg
    split at h
    case h_2 => cases h
    rename_i it hIt
    split at h
    case h_2 => cases h
    rename_i xs hp1 hx
    split at h
    case h_2 => cases h
    rename_i e0 hp2 nx2 hro
    injection h with h
    injection h with e1 e2
    subst e1; subst e2
    obtain ⟨S, G, hS⟩ := hs
    obtain ⟨⟨gfn, gf1, gf2, gf3⟩, hitS⟩ := hit g it hIt
    obtain ⟨us, rfl, hlit, hsub, hrun⟩ := hitS cap st.hp st.nx _ hp1 hx
    obtain ⟨as, vs, ev, l1, l2, r1, r2⟩ := (get_rep hS.slots hfg).fn_inv
    obtain rfl : as = #[] := by simpa using l1.symm
    obtain ⟨B, hB, hcalls⟩ := hrun w S G vs.toList hS.inv ⟨by simpa using l2, fun j pv u hj hu => r2 j pv u hj (by simpa using hu)⟩
    have hBlt : ∀ b, B b → b < w.heap.size := fun b hb => by
      obtain ⟨id, blk, h1, rfl⟩ := (hB b hb).1
      exact (hS.inv.live id blk h1).lt
    have hpN : p < N := by
      have := Array.all_eq_true'.1 hps p (by rw [← Array.mem_toList_iff, hpl]; simp)
      simpa using this
    have hps1 : ps = #[p] := by
      apply Array.toList_inj.1
      rw [hpl]
    subst hps1
    refine wpIn_rangeFunc fun fn hfn => ?_
    -- the loop's record
    obtain ⟨rec, hrec⟩ : ∃ rec : LoopState → Option Code → Loop, rec = fun s pe => { state := s, pending := pe, fn, tmps := a.tmps, params := #[p], assign := x, body := y, defers := w.heap.size } := ⟨_, rfl⟩
    obtain ⟨W1, hW1⟩ : ∃ W1, (w.alloc (.deferred (some []))).alloc (.loop (rec .ready none)) = W1 := ⟨_, rfl⟩
    have hL1 : W1.heap[w.heap.size + 1]? = some (.loop (rec .ready none)) := by
      rw [← hW1]; have := World.alloc_heap_new (w.alloc (.deferred (some []))) (.loop (rec .ready none)); rwa [World.size_alloc] at this
    have hK1 : W1.heap[w.heap.size]? = some (.deferred (some [])) := by
      rw [← hW1]; exact (Below.heap_alloc _ _ _ (by simp)).trans (World.alloc_heap_new w _)
    have hsz1 : W1.heap.size = w.heap.size + 2 := by rw [← hW1]; simp
    have hold1 : ∀ b, b < w.heap.size → W1.heap[b]? = w.heap[b]? := fun b hb => by
      rw [← hW1]; exact (Below.heap_alloc _ _ _ (by simp; omega)).trans (Below.heap_alloc w _ b hb)
    have fr1 : Fr w (fun _ => False) W1 := ⟨by rw [← hW1]; rfl, by rw [← hW1]; rfl, by rw [← hW1]; rfl, by omega, by rw [← hW1]; exact Nat.le_refl _, fun k hk _ => hold1 k hk⟩
    obtain ⟨l, hl⟩ : ∃ l, l = w.heap.size + 1 := ⟨_, rfl⟩
    -- the activation behind the loop's head
    obtain ⟨a1, ha1⟩ : ∃ a1 : Act, a1 = { a with defers := mark w.heap.size :: a.defers } := ⟨_, rfl⟩
    have hfreshAway : ∀ b, w.heap.size ≤ b → Away S G hp1 b := fun b hb => ⟨fun hs => by have := hS.inv.st b hs; omega, fun id blk hid he => by have := (hS.inv.live id blk (hsub id blk hid)).lt; omega⟩
    have hk0 : Inv C.P W1 S G hp1 st.nx := by
      have h1 : Inv C.P w S G hp1 st.nx := ⟨hS.inv.st, fun id b hb => hS.inv.top id b (hsub id b hb), fun id b hb => hS.inv.live id b (hsub id b hb), fun id b hb => hS.inv.apart id b (hsub id b hb), fun id id' b b' hb hb' he => hS.inv.inj id id' b b' (hsub id b hb) (hsub id' b' hb') he, hS.inv.glo⟩
      exact h1.frame fr1 (fun _ h => h.elim)
    have hsim1 : SimAt C.P w0 S0 L N nx0 G0 n0 ⟨st.σ, hp1, st.nx⟩ S G a1 W1 := by
      subst ha1
      obtain ⟨hd0, Ds, hd1, hd2, hd3⟩ := hS.defers
      refine ⟨hk0, fun t => (hS.slots t).mono (fun b hb => ⟨hb, hold1 b (hS.inv.st b hb)⟩) (Nat.le_refl _) (fun _ _ => rfl), hS.size, ⟨by omega, w.heap.size :: Ds, by simp [hd1], ?_, ?_⟩, hS.s0, hS.s1, fun id b hb => hS.own id b (hsub id b hb), hS.fr.trans fr1 (fun _ _ h => h.elim), hS.up, hS.loc⟩
      · refine List.nodup_cons.2 ⟨fun hm => ?_, hd2⟩
        have := (Array.getElem?_eq_some_iff.1 (hd3 _ hm).2.1).1
        omega
      · intro D hD
        rcases List.mem_cons.1 hD with rfl | hD
        · exact ⟨hd0, hK1, (hfreshAway _ (Nat.le_refl _))⟩
        · obtain ⟨g1, g2, g4, g3⟩ := hd3 D hD
          exact ⟨g1, (hold1 D (Array.getElem?_eq_some_iff.1 g2).1).trans g2, g4, fun id b hb => g3 id b (hsub id b hb)⟩
    have hsmall : w0.heap.size ≤ w.heap.size := hS.fr.size
    have hBL : ∀ b, B b → L b ∨ w0.heap.size ≤ b := fun b hb => by
      obtain ⟨id, blk, h1, rfl⟩ := (hB b hb).1
      exact hS.own id blk h1
    have hmk : ∀ D, mark D ∈ a1.defers → ¬ B D ∧ ¬ D = l := by
      intro D hD
      subst ha1
      rcases List.mem_cons.1 hD with h1 | h1
      · obtain rfl := mark_inj h1
        exact ⟨fun hb => by have := hBlt _ hb; omega, by omega⟩
      · obtain ⟨g1, g2, _, g3⟩ := hS.defers.at h1
        have := (Array.getElem?_eq_some_iff.1 g2).1
        refine ⟨fun hb => ?_, by omega⟩
        obtain ⟨id, blk, h2, h3⟩ := (hB D hb).1
        exact g3 id blk h2 h3
    have hlB : ¬ B l := fun hb => by have := hBlt l hb; omega
    -- what holds between two rounds, and behind the last
    obtain ⟨Good, hGood⟩ : ∃ Good : Hp → Nat → (Nat → Prop) → (Nat → GI) → LoopState → Option Code → World → Prop, Good = fun hp nx S G s pe W =>
        SimAt C.P w0 S0 L N nx0 G0 n0 ⟨st.σ, hp, nx⟩ S G a1 W ∧ (∀ b, B b → Away S G hp b) ∧ Away S G hp l ∧ W.heap[l]? = some (.loop (rec s pe)) ∧ w.heap.size ≤ W.heap.size := ⟨_, rfl⟩
    have good_frame : ∀ {hp nx S G s pe W W'}, Good hp nx S G s pe W → Fr W B W' → Good hp nx S G s pe W' := by
      intro hp nx S G s pe W W' hg fr
      subst hGood
      obtain ⟨g1, g2, g3, g4, g5⟩ := hg
      exact ⟨g1.frame fr g2 hBL (fun D hD => (hmk D hD).1), g2, g3, (fr.block l (Array.getElem?_eq_some_iff.1 g4).1 hlB).trans g4, Nat.le_trans g5 fr.size⟩
    have good_put : ∀ {hp nx S G s pe W} (s' : LoopState) (pe' : Option Code), Good hp nx S G s pe W → Good hp nx S G s' pe' (W.putObj l (.loop (rec s' pe'))) := by
      intro hp nx S G s pe W s' pe' hg
      subst hGood
      obtain ⟨g1, g2, g3, g4, g5⟩ := hg
      refine ⟨g1.frame (fr_put _ (fun b => b = l) rfl) (fun b hb => hb ▸ g3) (fun b hb => .inr (by omega)) (fun D hD => (hmk D hD).2), g2, g3, World.putObj_heap_same (Array.getElem?_eq_some_iff.1 g4).1, by simpa using g5⟩
    have good_step : ∀ {hp nx S G s pe W hp' nx' S' G' W'}, Good hp nx S G s pe W → Stp C.P hp nx S G W hp' nx' S' G' W' → Good hp' nx' S' G' s pe W' ∧ ∀ b, B b → W'.heap[b]? = W.heap[b]? := by
      intro hp nx S G s pe W hp' nx' S' G' W' hg k
      subst hGood
      obtain ⟨g1, g2, g3, g4, g5⟩ := hg
      have hll := (Array.getElem?_eq_some_iff.1 g4).1
      refine ⟨⟨g1.step (dst := none) k repO_undef (fun _ h => by cases h), fun b hb => (g2 b hb).step k (Nat.lt_of_lt_of_le (hBlt b hb) g5), g3.step k hll, (g3.same k hll).trans g4, Nat.le_trans g5 k.fr.size⟩, fun b hb => (g2 b hb).same k (Nat.lt_of_lt_of_le (hBlt b hb) g5)⟩
    obtain ⟨J, hJ⟩ : ∃ J : List Value → World → Prop, J = fun pre W => ∃ hp nx S G, Good hp nx S G .ready none W ∧ roundsA (evalCode C x) (evalCode C y) st.σ p ((us.drop pre.length).map PV.v) hp nx = some (e0, hp2, nx2) := ⟨_, rfl⟩
    obtain ⟨Jx, hJx⟩ : ∃ Jx : List Value → World → Prop, Jx = fun _ W => ∃ c S G, Good hp2 nx2 S G .done (some c) W ∧ (c = .ret ∧ e0 = .ret ∨ ∃ i, c = .exit i ∧ e0 = .exit i) := ⟨_, rfl⟩
    have hJ0 : J [] W1 := by
      subst hJ
      refine ⟨hp1, st.nx, S, G, ?_, hro⟩
      subst hGood
      exact ⟨hsim1, fun b hb => (hB b hb).2, hfreshAway l (by omega), by rw [hl]; exact hL1, by omega⟩
    have gf2' : ¬ gfn.name = "runtime.NumGoroutine" := by simpa using gf2
    have gf3' : ¬ gfn.body = none := by intro h; simp [h] at gf3
    refine ⟨l, [mark w.heap.size], W1, { target := .fn (.func g) vs, args := #[.func (.yield l) #[] #[]] }, W1, g, #[.func (.yield l) #[] #[]] ++ vs, W1, ?_, ?_, ?_, ?_, (fun h => by simp [Fence.wide] at h), ?_⟩
    · rw [hl, ← hW1, hrec]; exact run_enterLoop_outer _ _ _ _ _
    · simp only [resolve, ev]
      simp [go_sem]
    · intro f' _; trivial
    · simp [invoke, callFunc, gf1, gf2', gf3']
    · have hround : ∀ pre u W, J pre W → us[pre.length]? = some u → YieldAt Fence.wide 0 C.P l #[u] W fun e W' => (e = .returned (.bool true) ∧ J (pre ++ [u]) W' ∧ (∀ b, B b → W'.heap[b]? = W.heap[b]?) ∧ W.heap.size ≤ W'.heap.size) ∨ (e = .returned (.bool false) ∧ Jx (pre ++ [u]) W') := by
        intro pre u W hj hu
        subst hJ
        obtain ⟨hp, nx, S1, G1, hg, hr⟩ := hj
        obtain ⟨hlt, hue⟩ := List.getElem?_eq_some_iff.1 hu
        rw [List.drop_eq_getElem_cons hlt, hue] at hr
        simp only [List.map_cons, roundsA] at hr
        split at hr
        case h_2 => cases hr
        rename_i s1 hfx
        have hg1 := hg
        rw [hGood] at hg1
        obtain ⟨g1, g2, g3, g4, g5⟩ := hg1
        have hy := run_yield (P := C.P) (args := #[u]) g4 (by rw [hrec]; rfl)
        rw [hrec] at hy
        refine ⟨fn, _, x, y, hy, roundIn_of_wpIn (F := Fence.wide) trivial ?_⟩
        have hin := (g1.step (dst := some p) (u := u) (.refl g1.inv) (lit_rep (hlit u (List.mem_of_getElem? hu))) (fun d hd => by cases hd; exact hpN)).inner
        have htm : (#[p].zip #[u]).foldl (fun tmps (t, a) => tmps.setIfInBounds t a) a.tmps = a.tmps.setIfInBounds p u := by simp
        rw [ha1] at hin
        rw [htm]
        refine ihx hox (Fence.wide.inRound l) 0 (.inr ⟨l, rfl⟩) (.inr hnx) W S1 (liveIn hp G1) nx G1 0 _ s1 .normal _ W _ (Nat.zero_le _) hfx ⟨S1, G1, hin⟩ fun a2 w2 hs2 => ?_
        obtain ⟨S2, G2, h2⟩ := hs2
        obtain ⟨hg2, hb2⟩ := good_step hg h2.stp
        have hl2 : w2.heap[l]? = some (.loop (rec .ready none)) := by rw [hGood] at hg2; exact hg2.2.2.2.1
        have hbr := run_beginRound (P := C.P) hl2 (by rw [hrec])
        have hrb : ({ rec .ready none with state := .busy } : Loop) = rec .busy none := by rw [hrec]
        rw [hrb] at hbr
        refine ⟨_, hbr, ?_⟩
        have hg3 := good_put .busy none hg2
        have hal2 : Away S2 G2 s1.hp l := by rw [hGood] at hg2; exact hg2.2.2.1
        have h3 := h2.innerAt (fr_put (.loop (rec .busy none)) (fun b => b = l) rfl) (fun b hb => hb ▸ hal2) (fun D hD e => by
          have := (h2.defers.at hD).2.1
          rw [e, hl2] at this
          cases this)
        cases hfy : evalCode C y s1 with
        | none => rw [hfy] at hr; cases hr
        | some r2 =>
          obtain ⟨e2, s2⟩ := r2
          rw [hfy] at hr
          refine ihy hoy (Fence.wide.inRound l) 0 (.inr ⟨l, rfl⟩) (.inr hny) _ S2 (liveIn s1.hp G2) s1.nx G2 0 s1 s2 e2 a2 _ _ (Nat.zero_le _) hfy ⟨S2, G2, h3⟩ fun a4 w4 hs4 => ?_
          obtain ⟨S4, G4, h4⟩ := hs4
          obtain ⟨hg4, hb4⟩ := good_step hg3 h4.stp
          have hl4 : w4.heap[l]? = some (.loop (rec .busy none)) := by rw [hGood] at hg4; exact hg4.2.2.2.1
          have hbb : ∀ b, B b → w4.heap[b]? = W.heap[b]? := fun b hb => (hb4 b hb).trans ((World.putObj_heap_other (k := b) (r := l) (fun e => hlB (by rw [← e]; exact hb))).trans (hb2 b hb))
          have hsz : W.heap.size ≤ w4.heap.size := by
            have q1 := h2.fr.size
            have q2 := h4.fr.size
            rw [World.putObj_size] at q2
            exact Nat.le_trans q1 q2
          cases e2 with
          | normal =>
            have he := run_endRound (P := C.P) none hl4
            have hrr : ({ rec .busy none with state := if (none : Option Code).isNone then .ready else .done, pending := none } : Loop) = rec .ready none := by rw [hrec]; rfl
            rw [hrr] at he
            refine ⟨_, _, he, .inl ⟨rfl, ⟨s2.hp, s2.nx, S4, G4, good_put .ready none hg4, by simpa using hr⟩, fun b hb => (World.putObj_heap_other (k := b) (r := l) (fun e => hlB (by rw [← e]; exact hb))).trans (hbb b hb), by simpa using hsz⟩⟩
          | ret =>
            have he := run_endRound (P := C.P) (some .ret) hl4
            have hrr : ({ rec .busy none with state := if (some Code.ret : Option Code).isNone then .ready else .done, pending := some .ret } : Loop) = rec .done (some .ret) := by rw [hrec]; rfl
            rw [hrr] at he
            simp only at hr
            injection hr with hr
            injection hr with r1 hr
            injection hr with r2 r3
            subst r1; subst r2; subst r3
            refine ⟨_, _, he, .inr ⟨rfl, ?_⟩⟩
            rw [hJx]
            exact ⟨.ret, S4, G4, good_put .done (some .ret) hg4, .inl ⟨rfl, rfl⟩⟩
          | exit i =>
            have he := run_endRound (P := C.P) (some (.exit i)) hl4
            have hrr : ({ rec .busy none with state := if (some (Code.exit i) : Option Code).isNone then .ready else .done, pending := some (.exit i) } : Loop) = rec .done (some (.exit i)) := by rw [hrec]; rfl
            rw [hrr] at he
            simp only at hr
            injection hr with hr
            injection hr with r1 hr
            injection hr with r2 r3
            subst r1; subst r2; subst r3
            refine ⟨_, _, he, .inr ⟨rfl, ?_⟩⟩
            rw [hJx]
            exact ⟨.exit i, S4, G4, good_put .done (some (.exit i)) hg4, .inr ⟨i, rfl, rfl⟩⟩
          | _ => cases hr
      have hcl := hcalls 0 l J Jx (fun pre W W' hj fr => by
          subst hJ
          obtain ⟨hp, nx, S1, G1, hg, hr⟩ := hj
          exact ⟨hp, nx, S1, G1, good_frame hg fr, hr⟩) (fun pre W W' hj fr => by
          subst hJx
          obtain ⟨c, S1, G1, hg, hr⟩ := hj
          exact ⟨c, S1, G1, good_frame hg fr, hr⟩) (fun pre W hj => by
          subst hJ
          obtain ⟨hp, nx, S1, G1, hg, hr⟩ := hj
          rw [hGood] at hg
          exact hg.1.inv.glo.mono fun b hb => ⟨hg.1.inv.st b hb, rfl⟩) hround W1 hJ0 (fun b hb => hold1 b (hBlt b hb)) (by omega)
      refine callsIn_wide.2 ((callsIn_wide.1 hcl).mono ?_)
      rintro e W2 ⟨⟨v, rfl⟩, hj | ⟨pre, hj⟩⟩
      · rw [hJ] at hj
        obtain ⟨hp, nx, S1, G1, hg, hr⟩ := hj
        rw [List.drop_length] at hr
        simp only [List.map_nil, roundsA] at hr
        injection hr with hr
        injection hr with r1 hr
        injection hr with r2 r3
        subst r1; subst r2; subst r3
        have hl2 : W2.heap[l]? = some (.loop (rec .ready none)) := by rw [hGood] at hg; exact hg.2.2.2.1
        have he := run_endLoop (P := C.P) hl2 (by rw [hrec]; simp)
        have hrr : ({ rec .ready none with state := .exhausted } : Loop) = rec .exhausted none := by rw [hrec]
        have hrp : (rec .ready none).pending = none := by rw [hrec]
        rw [hrr, hrp] at he
        have hg' := good_put .exhausted none hg
        rw [hGood] at hg'
        have hq := hQ a1 _ ⟨S1, G1, hg'.1⟩
        rw [ha1] at hq
        exact ⟨none, _, he, hq⟩
      · rw [hJx] at hj
        obtain ⟨c, S1, G1, hg, hc⟩ := hj
        have hl2 : W2.heap[l]? = some (.loop (rec .done (some c))) := by rw [hGood] at hg; exact hg.2.2.2.1
        have he := run_endLoop (P := C.P) hl2 (by rw [hrec]; simp)
        have hrr : ({ rec .done (some c) with state := .exhausted } : Loop) = rec .exhausted (some c) := by rw [hrec]
        have hrp : (rec .done (some c)).pending = some c := by rw [hrec]
        rw [hrr, hrp] at he
        have hg' := good_put .exhausted (some c) hg
        rw [hGood] at hg'
        have hq := hQ a1 _ ⟨S1, G1, hg'.1⟩
        rw [ha1] at hq
        refine ⟨some c, _, he, ?_⟩
        rcases hc with ⟨rfl, rfl⟩ | ⟨i, rfl, rfl⟩
        · exact wpIn_ret hq
        · exact wpIn_exit hq
  | exit id =>
    intro _ F n hF _ w0 S0 L nx0 G0 n0 st st' e a w Q _ h hs hQ
    simp only [evalCode] at h
    injection h with h
    injection h with e1 e2
    subst e1; subst e2
    exact wpIn_exit (hQ a w hs)
  | scope b _ => intro _ F n hF _ w0 S0 L nx0 G0 n0 st st' e a w Q _ h; simp [evalCode] at h
  | label l =>
    intro _ F n hF _ w0 S0 L nx0 G0 n0 st st' e a w Q _ h hs hQ
    simp only [evalCode] at h
    injection h with h
    injection h with e1 e2
    subst e1; subst e2
    exact wpIn_label (hQ a w hs)
  | goto l => intro _ F n hF _ w0 S0 L nx0 G0 n0 st st' e a w Q _ h; simp [evalCode] at h
  | ret =>
    intro _ F n hF _ w0 S0 L nx0 G0 n0 st st' e a w Q _ h hs hQ
    simp only [evalCode] at h
    injection h with h
    injection h with e1 e2
    subst e1; subst e2
    exact wpIn_ret (hQ a w hs)
  | refuse why => intro _ F n hF _ w0 S0 L nx0 G0 n0 st st' e a w Q _ h; simp [evalCode] at h

end
end Go.AM
namespace Go.AM
open Go.RowKit

section
variable {C : Ctx} {pf : FuncId → Bool}

theorem results_sound {w : World} {S : Nat → Prop} {G : Nat → GI} {st : St} {a : Act} (hi : Inv C.P w S G st.hp st.nx) (hs : ∀ t, RepO w S G st.nx (st.σ t) (a.tmps.getD t undef)) :
    ∀ {l : List ResultVar} {xs : List PV}, allSome (l.map (resultA C.P st)) = some xs → ∃ vs, (l.mapM (m := Sem) fun r => match r with
      | .tmp t => pure (a.tmps.getD t undef)
      | .cell p t => do loadVar t (← asAddr (a.tmps.getD p undef))).run C.P w = .ok vs w ∧ Zip (RepO w S G st.nx) xs vs
  | [], xs, h => by
    simp only [List.map_nil, allSome] at h
    injection h with h
    subst h
    exact ⟨[], by simp, .nil⟩
  | r :: l, xs, h => by
    simp only [List.map_cons] at h
    cases hr : resultA C.P st r with
    | none => rw [hr] at h; simp [allSome] at h
    | some p =>
      rw [hr] at h
      simp only [allSome] at h
      cases hl : allSome (l.map (resultA C.P st)) with
      | none => rw [hl] at h; simp at h
      | some ys =>
        rw [hl] at h
        simp at h
        subst h
        obtain ⟨vs, h1, h2⟩ := results_sound hi hs hl
        cases r with
        | tmp t =>
          simp only [resultA] at hr
          injection hr with hr
          subst hr
          refine ⟨a.tmps.getD t undef :: vs, ?_, .cons (hs t) h2⟩
          simp only [List.mapM_cons, Sem.run_bind, Sem.run_pure, Result.andThen_ok, h1]
        | cell q t =>
          simp only [resultA] at hr
          obtain ⟨v, w', S', G', e1, k, hx⟩ := load_done hi hr (hs q)
          have hq := hs q
          have hld : ∃ v, (do loadVar t (← asAddr (a.tmps.getD q undef)) : Sem Value).run C.P w = .ok v w ∧ RepO w S G st.nx p v := by
            unfold loadA at hr
            split at hr
            · rename_i cs hσ
              rw [hσ] at hq
              have hc := hq.ptr_inv
              generalize a.tmps.getD q undef = u at *
              cases hc with
              | ptr us g1 g2 =>
                obtain ⟨v, hv, hr'⟩ := read_done (G := G) (nx := st.nx) (w := w) (S := S) hr _ us (fun j pv hj => ⟨(g1 j pv hj).2, .c (g2 j pv hj)⟩)
                exact ⟨v, by simp [asAddr, hv], hr'⟩
            · rename_i id i j hσ
              rw [hσ] at hq
              have hrp := hq.ref_pos
              obtain ⟨hid, hu⟩ := hq.ref_inv
              rw [hu] at e1 ⊢
              split at hr
              · rename_i b hb
                split at hr
                · rename_i c hc
                  obtain ⟨cur, h3, h4, h5⟩ := (hi.live id b hb).row hrp
                  have hcell : ∀ k : Nat, w.cell? ((⟨(G id).g, i * (G id).s + j, none⟩ : Addr).add k) = cur[i * (G id).s + j + k]? := by
                    intro k
                    rw [Addr.add_lit, cell_of_row w _ _ cur _ _ h3]
                  obtain ⟨v, hv, hr'⟩ := read_done (G := G) (nx := st.nx) (w := w) (S := S) hr ⟨(G id).g, i * (G id).s + j, none⟩ (fun k => (cur[i * (G id).s + j + k]?).getD undef) (fun k pv hk => by
                    rw [List.getElem?_drop] at hk
                    obtain ⟨u, h6, h7⟩ := h5 i (j + k) c pv hc hk
                    rw [hcell]
                    have e : i * (G id).s + j + k = i * (G id).s + (j + k) := by omega
                    rw [e, h6]
                    exact ⟨rfl, h7.2.1⟩)
                  exact ⟨v, by simp [asAddr, hv], hr'⟩
                · cases hr
              · cases hr
            · cases hr
          obtain ⟨v, hv, hvr⟩ := hld
          refine ⟨v :: vs, ?_, .cons hvr h2⟩
          simp only [List.mapM_cons, Sem.run_bind, hv, Result.andThen_ok, h1, Sem.run_pure]

theorem leaves_marks {P : Program} {fn : Func} {tmps : Array Value} {R : Ending → World → Prop} : ∀ (Ds : List Nat) (w : World), Ds.Nodup → (∀ D ∈ Ds, w.heap[D]? = some (.deferred (some []))) → (∀ w2, Fr w (fun b => b ∈ Ds) w2 → LeavesIn Fence.wide 0 P fn tmps R [] .returning w2) → LeavesInM Fence.wide 0 P fn tmps R (Ds.map mark) .returning w
  | [], w, _, _, h => h w (Fr.refl _ _)
  | D :: Ds, w, hn, hd, h => by
    obtain ⟨h1, h2⟩ := List.nodup_cons.1 hn
    refine ⟨by simp, .inl ⟨D, _, rfl, run_takeDeferred (hd D (by simp)), leaves_marks Ds _ h2 (fun D' hD' => ?_) fun w2 fr => h w2 ?_⟩⟩
    · exact (World.putObj_heap_other (k := D') (r := D) fun e => h1 (by rw [← e]; exact hD')).trans (hd D' (by simp [hD']))
    · exact (fr_put (.deferred none) (fun b => b ∈ D :: Ds) (by simp)).trans fr (fun b _ hb => by simp [hb])
theorem func_calls (hΓ : ∀ g spec, C.Γ g = some spec → SpecSound C.P g spec) (hpf : ∀ g spec, pf g = true → C.Γ g = some spec → Quiet spec) (hbk : ∀ g spec, C.bk g = true → C.Γ g = some spec → BoxKeep spec) (hit : ∀ g it, C.it g = some it → IterSound C.P g it) (hm : C.P.follows .mixedOrders = true)
    {f : FuncId} {fn : Func} {code : Code} (hf : C.P.funcs[f]? = some fn) (hb : fn.body = some code) (hok : codeOk pf C.dyn C.lds C.bk fn.ntmps code = true)
    {args : List PV} {hp hp' : Hp} {nx nx' : Nat} {x : PV} (h : evalFunc C fn args hp nx = some (x, hp', nx')) {w : World} {S : Nat → Prop} {G : Nat → GI} {vs : List Value} (hi : Inv C.P w S G hp nx) (hz : Zip (RepO w S G nx) args vs) (hn : args.length ≤ fn.ntmps) :
    Calls C.P f vs.toArray w fun e w' => ∃ v S' G', e = .returned v ∧ Stp C.P hp nx S G w hp' nx' S' G' w' ∧ RepO w' S' G' nx' x v := by
  unfold evalFunc at h
  simp only [hb] at h
  refine callsIn_wide.1 (callsIn_of_wp_marks (n := 0) hf hb trivial ?_)
  have hsim : Sim C.P w S (liveIn hp G) fn.ntmps nx G w.heap.size ⟨startσ args, hp, nx⟩ { tmps := vs.toArray ++ Array.replicate (fn.ntmps - vs.toArray.size) undef, defers := [] } w := by
    refine ⟨S, G, hi, fun t => ?_, ?_, .nil (Nat.le_refl _), fun _ h => h, fun _ h => .inl h, fun id b hb => .inl ⟨id, b, hb, rfl⟩, Fr.refl _ _, Nat.le_refl _, fun _ _ => rfl⟩
    · have hvl : vs.length = args.length := hz.1.symm
      unfold startσ
      by_cases ht : t < args.length
      · have h1 : args[t]? = some args[t] := List.getElem?_eq_getElem ht
        have h2 : vs[t]? = some (vs[t]'(by omega)) := List.getElem?_eq_getElem (by omega)
        have h3 := hz.2 t _ _ h1 h2
        have h4 : (vs.toArray ++ Array.replicate (fn.ntmps - vs.toArray.size) undef)[t]? = vs[t]? := by
          rw [Array.getElem?_append_left (by simpa using (by omega : t < vs.length))]
          simp
        simp only [h1, Option.getD_some]
        rw [Array.getD_eq_getD_getElem?, h4, h2]
        exact h3
      · have h1 : args[t]? = none := List.getElem?_eq_none (by omega)
        have h4 : (vs.toArray ++ Array.replicate (fn.ntmps - vs.toArray.size) undef).getD t undef = undef := by
          rw [Array.getD_eq_getD_getElem?, Array.getElem?_append_right (by simpa using (by omega : vs.length ≤ t)), Array.getElem?_replicate]
          split <;> rfl
        simp only [h1, Option.getD_none]
        rw [h4]
        exact repO_undef
    · have hvl : vs.length = args.length := hz.1.symm
      simp
      omega
  have fin : ∀ (e : Exit) (st : St), (e = .normal ∨ e = .ret) → evalCode C code ⟨startσ args, hp, nx⟩ = some (e, st) → (resultsA C.P fn st).map (fun x => (x, st.hp, st.nx)) = some (x, hp', nx') →
      code.wpIn Fence.wide 0 C.P (bodyPostM Fence.wide 0 C.P fn fun e w' => ∃ v S' G', e = .returned v ∧ Stp C.P hp nx S G w hp' nx' S' G' w' ∧ RepO w' S' G' nx' x v) { tmps := vs.toArray ++ Array.replicate (fn.ntmps - vs.toArray.size) undef, defers := [] } w := by
    intro e st he hev hr
    obtain ⟨r, hr1, hr2⟩ := map_some_inv hr
    injection hr2 with e1 hr2
    injection hr2 with e2 e3
    subst e1; subst e2; subst e3
    refine code_sound hΓ hpf hbk hit hm code hok Fence.wide 0 (.inl rfl) (.inl rfl) w S (liveIn hp G) nx G w.heap.size _ st e _ w _ (Nat.le_refl _) hev hsim fun a' w1 hs' => ?_
    obtain ⟨S', G', hS1⟩ := hs'
    obtain ⟨hd0, Ds, hd1, hd2, hd3⟩ := hS1.defers
    have key : LeavesInM Fence.wide 0 C.P fn a'.tmps (fun e w' => ∃ v S' G', e = .returned v ∧ Stp C.P hp nx S G w st.hp st.nx S' G' w' ∧ RepO w' S' G' st.nx r v) a'.defers .returning w1 := by
     rw [hd1]
     refine leaves_marks Ds w1 hd2 (fun D hD => (hd3 D hD).2.1) fun w' frD => ?_
     have haw : ∀ b, b ∈ Ds → Away S' G' st.hp b := fun b hb => ⟨(hd3 b hb).2.2.1, (hd3 b hb).2.2.2⟩
     have hinv := hS1.inv.frame frD haw
     have hsl : ∀ t, RepO w' S' G' st.nx (st.σ t) (a'.tmps.getD t undef) := fun t => (hS1.slots t).mono (fun b hb => ⟨hb, frD.block b (hS1.inv.st b hb) fun hb' => (haw b hb').1 hb⟩) (Nat.le_refl _) (fun _ _ => rfl)
     have hk : Stp C.P hp nx S G w st.hp st.nx S' G' w' := ⟨hinv, hS1.up, hS1.loc, hS1.s0, hS1.s1, hS1.own, hS1.fr.trans frD fun b hb h1 => by have := (hd3 b h1).1; omega⟩
     have hres : ∃ v, (results fn a'.tmps).run C.P w' = .ok v w' ∧ RepO w' S' G' st.nx r v := by
       unfold resultsA at hr1
       have go : ∀ xs, allSome (fn.results.toList.map (resultA C.P st)) = some xs → r = (match xs with | [x] => x | xs => .tup xs) → ∃ v, (results fn a'.tmps).run C.P w' = .ok v w' ∧ RepO w' S' G' st.nx r v := by
         intro xs hx hrx
         obtain ⟨us, h1, h2⟩ := results_sound hinv hsl hx
         have hrun : (results fn a'.tmps).run C.P w' = .ok (if h : us.toArray.size = 1 then us.toArray[0] else .tuple us.toArray) w' := by
           unfold results
           rw [Array.mapM_eq_mapM_toList]
           simp only [Sem.run_bind, Sem.run_map]
           erw [h1]
           rfl
         refine ⟨_, hrun, ?_⟩
         match xs, h2, hrx with
         | [], h2, hrx =>
           rw [h2.unnil]
           subst hrx
           exact .tup rfl (by simp)
         | [y], h2, hrx =>
           obtain ⟨u, rfl, hu⟩ := zip_one h2
           subst hrx
           simpa using hu
         | y :: z :: ys, h2, hrx =>
           have hl := h2.1
           subst hrx
           rw [dif_neg (by simp at hl ⊢; omega)]
           exact .tup (by simpa using hl) (fun j pv u hj hu => h2.2 j pv u hj (by simpa using hu))
       split at hr1
       · rename_i y hy
         injection hr1 with hr1
         exact go [y] hy hr1.symm
       · rename_i xs hne hx
         injection hr1 with hr1
         refine go xs hx ?_
         rw [← hr1]
         match xs, hne with
         | [], _ => rfl
         | [y], hne => exact (hne y rfl).elim
         | y :: z :: ys, _ => rfl
       · cases hr1
     obtain ⟨v, hv1, hv2⟩ := hres
     exact ⟨v, hv1, v, S', G', rfl, hk, hv2⟩
    rcases he with rfl | rfl
    · exact key
    · exact key
  split at h
  · rename_i st hev; exact fin _ st (.inl rfl) hev h
  · rename_i st hev; exact fin _ st (.inr rfl) hev h
  · cases h

end
end Go.AM
namespace Go.AM
open Go.RowKit

def PV.isV : PV → Bool
  | .v _ => true
  | _ => false
def PV.flat : PV → Bool
  | .v _ => true
  | .tup cs => cs.all PV.isV
  | _ => false

/-- nil is a slice without elements. -/
def nilTo (s : Nat) : PV → PV
  | .nil => .sl s []
  | x => x
def normArgs : List Nat → List PV → List PV
  | s :: ns, x :: l => nilTo s x :: normArgs ns l
  | _, l => l
def NilUp1 (x y : PV) : Prop := x = y ∨ (x = .nil ∧ ∃ s, y = .sl s [])
def NilUp : PV → PV → Prop
  | .tup xs, .tup ys => xs.length = ys.length ∧ ∀ (j : Nat) (x y : PV), xs[j]? = some x → ys[j]? = some y → NilUp1 x y
  | x, y => NilUp1 x y

/-- A function of closed data. Where it is given slices of the caller's own and returns more than numbers and texts, these are given up (kill), or the call is not allowed. -/
def hPure (kill : Bool) (ns : List Nat) (F : List PV → Option PV) : AM.Spec := fun args hp nx =>
  match freezeVals hp args with
  | some (as, hp1) => match F (normArgs ns as) with
    | some r => if r.flat = true ∨ args.all PV.noOwn = true then some (r, hp, nx) else if kill = true then some (r, hp1, nx) else none
    | none => none
  | none => none

/-- A function of closed data that returns a slice of its own (or nil). -/
def hFresh (ns : List Nat) (F : List PV → Option (Option Blk)) : AM.Spec := fun args hp nx =>
  match freezeVals hp args with
  | some (as, hp1) => match F (normArgs ns as) with
    | some none => some (.nil, hp1, nx)
    | some (some b) => some (.own nx 0 b.es.length, upd hp1 nx (some b), nx + 1)
    | none => none
  | none => none

/-- A function that takes a slice of the caller's own over (or nil), and returns one (or nil). -/
def hMove (ns : List Nat) (F : Option Blk → List PV → Option (Option Blk)) : AM.Spec := fun args hp nx =>
  match args with
  | .nil :: l => match freezeVals hp l with
    | some (as, hp1) => match F none (normArgs ns as) with
      | some none => some (.nil, hp1, nx)
      | some (some b) => some (.own nx 0 b.es.length, upd hp1 nx (some b), nx + 1)
      | none => none
    | none => none
  | .own id 0 n :: l => match freezeVals hp l with
    | some (as, hp1) => match hp1 id with
      | some b0 => if b0.arr = true ∧ n = b0.es.length then match F (some b0) (normArgs ns as) with
          | some none => some (.nil, upd hp1 id none, nx)
          | some (some b) => some (.own nx 0 b.es.length, upd (upd hp1 id none) nx (some b), nx + 1)
          | none => none
        else none
      | none => none
    | none => none
  | _ => none

theorem hPure_quiet (ns : List Nat) (F : List PV → Option PV) : Quiet (hPure false ns F) := by
  intro args hp nx r hp' nx' h
  unfold hPure at h
  split at h
  · split at h
    · split at h
      · injection h with h
        injection h with _ h
        injection h with h1 h2
        exact ⟨h1.symm, h2.symm⟩
      · simp at h
    · cases h
  · cases h

/-- What is known of a function's text. -/
structure Known (C : Ctx) (pf : FuncId → Bool) (f : FuncId) (fn : Func) (code : Code) : Prop where
  func : C.P.funcs[f]? = some fn
  name : (fn.name == "runtime.NumGoroutine") = false
  body : fn.body = some code
  ok : codeOk pf C.dyn C.lds C.bk fn.ntmps code = true

/-- What is known of the functions that are called. -/
structure Good (C : Ctx) (pf : FuncId → Bool) : Prop where
  spec : ∀ g spec, C.Γ g = some spec → SpecSound C.P g spec
  quiet : ∀ g spec, pf g = true → C.Γ g = some spec → Quiet spec
  mixed : C.P.follows .mixedOrders = true
  box : ∀ g spec, C.bk g = true → C.Γ g = some spec → BoxKeep spec := by intro _ _ h; cases h
  iter : ∀ g it, C.it g = some it → IterSound C.P g it := by intro _ _ h; cases h

theorem freezeCell_same {hp hp1 : Hp} {x y : PV} (h : freezeCell hp x = some (y, hp1)) (hn : x.cellOpen = false) : hp1 = hp := by
  unfold freezeCell at h
  split at h <;> first
    | (injection h with h; injection h with _ h; exact h.symm)
    | (simp [PV.cellOpen] at hn; done)
    | (split at h <;> first | (injection h with h; injection h with _ h; exact h.symm) | cases h)
    | cases h

theorem freezeCells_same : ∀ {xs ys : List PV} {hp hp1 : Hp}, freezeCells hp xs = some (ys, hp1) → xs.any PV.cellOpen = false → hp1 = hp
  | [], ys, hp, hp1, h, _ => by
    simp only [freezeCells] at h
    injection h with h
    injection h with _ h
    exact h.symm
  | x :: l, ys, hp, hp1, h, hn => by
    simp only [freezeCells] at h
    simp only [List.any_cons, Bool.or_eq_false_iff] at hn
    split at h
    · rename_i y h1 hf
      split at h
      · rename_i r h2 hr
        injection h with h
        injection h with _ h
        subst h
        rw [freezeCells_same hr hn.2, freezeCell_same hf hn.1]
      · cases h
    · cases h

theorem freezeVal_same {hp hp1 : Hp} {x y : PV} (h : freezeVal hp x = some (y, hp1)) (hn : x.noOwn = true) : hp1 = hp := by
  unfold freezeVal at h
  split at h
  · split at h
    · rename_i l h2 hf
      injection h with h
      injection h with _ h
      subst h
      exact freezeCells_same hf (by simpa [PV.noOwn] using hn)
    · cases h
  · refine freezeCell_same h ?_
    cases x <;> simp_all [PV.noOwn, PV.cellOpen]

theorem freezeVals_same : ∀ {xs ys : List PV} {hp hp1 : Hp}, freezeVals hp xs = some (ys, hp1) → xs.all PV.noOwn = true → hp1 = hp
  | [], ys, hp, hp1, h, _ => by
    simp only [freezeVals] at h
    injection h with h
    injection h with _ h
    exact h.symm
  | x :: l, ys, hp, hp1, h, hn => by
    simp only [freezeVals] at h
    simp only [List.all_cons, Bool.and_eq_true] at hn
    split at h
    · rename_i y h1 hf
      split at h
      · rename_i r h2 hr
        injection h with h
        injection h with _ h
        subst h
        rw [freezeVals_same hr hn.2, freezeVal_same hf hn.1]
      · cases h
    · cases h

section
variable {C : Ctx} {pf : FuncId → Bool} {f : FuncId} {fn : Func} {code : Code}

/-- Nothing that was there has changed; what is new is stable. -/
theorem Stp.outer {P : Program} {hp : Hp} {nx : Nat} {S : Nat → Prop} {G : Nat → GI} {w w' : World} (h : Inv P w S G hp nx) (k : Fr w (fun _ => False) w') :
    Stp P hp nx S G w hp nx (fun b => S b ∨ (w.heap.size ≤ b ∧ b < w'.heap.size)) G w' := by
  have hold : ∀ b, b < w.heap.size → w'.heap[b]? = w.heap[b]? := fun b hb => k.block b hb fun h => h
  have hS : ∀ b, S b → (S b ∨ (w.heap.size ≤ b ∧ b < w'.heap.size)) ∧ w'.heap[b]? = w.heap[b]? := fun b hb => ⟨.inl hb, hold b (h.st b hb)⟩
  refine ⟨⟨fun b hb => ?_, h.top, fun id b hb => (h.live id b hb).mono hS (Nat.le_refl _) (fun _ _ => rfl) (hold _ (h.live id b hb).lt), fun id b hb hs => ?_, h.inj, h.glo.mono hS⟩, Nat.le_refl _, fun _ _ => rfl, fun _ hb => .inl hb, fun b hb => ?_, fun id b hb => .inl ⟨id, b, hb, rfl⟩, ⟨k.os, k.tape, k.output, k.size, k.drawn, fun b hb _ => hold b hb⟩⟩
  · rcases hb with hb | hb
    · exact Nat.lt_of_lt_of_le (h.st b hb) k.size
    · exact hb.2
  · rcases hs with hs | hs
    · exact h.apart id b hb hs
    · have := (h.live id b hb).lt; omega
  · rcases hb with hb | hb
    · exact .inl hb
    · exact .inr (.inr hb.1)

theorem inv_empty {P : Program} {w : World} {S : Nat → Prop} (G : Nat → GI) (hS : ∀ b, S b → b < w.heap.size) (hg : Glo P w S) : Inv P w S G (fun _ => none) 0 :=
  ⟨hS, fun _ _ h => (by cases h), fun _ _ h => (by cases h), fun _ _ h => (by cases h), fun _ _ _ _ h => (by cases h), hg⟩

theorem live_empty {G : Nat → GI} {b : Nat} (h : liveIn (fun _ => none) G b) : False := by
  obtain ⟨_, _, h, _⟩ := h
  cases h

theorem Zip.closed {w : World} {S : Nat → Prop} {G : Nat → GI} {nx : Nat} {xs : List PV} {us : List Value} (h : Zip (RepC w S) xs us) : Zip (RepO w S G nx) xs us := h.imp fun _ _ h => .c h

theorem flat_any {w w' : World} {S S' : Nat → Prop} {r : PV} {v : Value} (h : RepC w S r v) (hf : r.flat = true) : RepC w' S' r v := by
  cases h with
  | v h => exact .v h
  | tup hl hr =>
    refine .tup hl fun j pv u hj hu => ?_
    simp only [PV.flat, List.all_eq_true] at hf
    have := hf pv (List.mem_of_getElem? hj)
    have h2 := hr j pv u hj hu
    cases pv <;> simp [PV.isV] at this
    obtain ⟨rfl, hl⟩ := h2.v_inv
    exact .v hl
  | _ => simp [PV.flat] at hf

/-- A run on closed data, seen from the caller. -/
theorem run_closed (hg : Good C pf) (hk : Known C pf f fn code) {args : List PV} {x : PV} {hp1 : Hp} {nx1 : Nat} (h : evalFunc C fn args (fun _ => none) 0 = some (x, hp1, nx1)) (hn : args.length ≤ fn.ntmps)
    {w : World} {S : Nat → Prop} {vs : List Value} (hS : ∀ b, S b → b < w.heap.size) (hgl : Glo C.P w S) (hz : Zip (RepC w S) args vs) :
    Calls C.P f vs.toArray w fun e w' => ∃ v S' G', e = .returned v ∧ Fr w (fun _ => False) w' ∧ Inv C.P w' S' G' hp1 nx1 ∧ RepO w' S' G' nx1 x v ∧ (∀ b, S b → S' b) ∧ (∀ b, S' b → S b ∨ w.heap.size ≤ b) ∧ (∀ id blk, hp1 id = some blk → w.heap.size ≤ (G' id).g) := by
  refine (func_calls hg.spec hg.quiet hg.box hg.iter hg.mixed hk.func hk.body hk.ok h (inv_empty (fun _ => ⟨0, 0, 0⟩) hS hgl) hz.closed hn).mono fun e w' hh => ?_
  obtain ⟨v, S', G', he, k, hx⟩ := hh
  refine ⟨v, S', G', he, ⟨k.fr.os, k.fr.tape, k.fr.output, k.fr.size, k.fr.drawn, fun b hb _ => k.fr.block b hb live_empty⟩, k.inv, hx, k.keep, fun b hb => ?_, fun id blk hb => ?_⟩
  · rcases k.from_ b hb with h | h | h
    · exact .inl h
    · exact (live_empty h).elim
    · exact .inr h
  · rcases k.own id blk hb with h | h
    · exact (live_empty h).elim
    · exact h

theorem nilTo_rep {w : World} {S : Nat → Prop} {x : PV} {u : Value} (h : RepC w S x u) (s : Nat) : RepC w S (nilTo s x) u := by
  unfold nilTo
  split
  · cases h
    exact .sl (es := []) (fun _ _ => undef) (by simp) (by simp) (by simp [maxLen]) (by simp) (by simp) (by simp)
  · exact h

theorem norm_rep {w : World} {S : Nat → Prop} : ∀ {ns : List Nat} {xs : List PV} {us : List Value}, Zip (RepC w S) xs us → Zip (RepC w S) (normArgs ns xs) us
  | [], xs, us, h => by unfold normArgs; exact h
  | s :: ns, [], us, h => by unfold normArgs; exact h
  | s :: ns, x :: xs, us, h => by
    obtain ⟨u, us', rfl, hu, hz⟩ := h.uncons
    simp only [normArgs]
    exact .cons (nilTo_rep hu s) (norm_rep hz)

theorem up_rep1 {w : World} {S : Nat → Prop} {x y : PV} {u : Value} (h : RepC w S x u) (hu : NilUp1 x y) : RepC w S y u := by
  rcases hu with rfl | ⟨rfl, s, rfl⟩
  · exact h
  · exact nilTo_rep h s

theorem up_rep {w : World} {S : Nat → Prop} {x y : PV} {u : Value} (h : RepC w S x u) (hu : NilUp x y) : RepC w S y u := by
  unfold NilUp at hu
  split at hu
  · cases h with
    | tup hl hr =>
      rename_i xs ys us
      refine .tup (by omega) fun j pv v hj hv => ?_
      have hjl : j < xs.length := by rw [hu.1]; exact (List.getElem?_eq_some_iff.1 hj).1
      exact up_rep1 (hr j xs[j] v (List.getElem?_eq_getElem hjl) hv) (hu.2 j xs[j] pv (List.getElem?_eq_getElem hjl) hj)
  · exact up_rep1 h hu

theorem hPure_sound (hg : Good C pf) (hk : Known C pf f fn code) (kill : Bool) (ns : List Nat) (F : List PV → Option PV) (hF : ∀ args r, F args = some r → args.length ≤ fn.ntmps ∧ ∃ r0, evalPure C fn args = some r0 ∧ NilUp r0 r) : SpecSound C.P f (hPure kill ns F) := by
  refine ⟨⟨fn, hk.func, hk.name, by rw [hk.body]; rfl⟩, ?_⟩
  intro args hp nx r hp' nx' h w S G vs hi hz
  unfold hPure at h
  split at h
  · rename_i as hp1 hfr
    split at h
    · rename_i r0 hF0
      obtain ⟨hn, rr, hev, hup⟩ := hF _ r0 hF0
      unfold evalPure at hev
      split at hev
      · rename_i x hpe nxe hef
        obtain ⟨⟨r1, hpf1⟩, hfz, hr1⟩ := map_some_inv hev
        simp only at hr1
        subst hr1
        obtain ⟨S1, k1, hz1, hsn⟩ := freezeVals_sound hi hfr hz
        refine (run_closed hg hk hef hn k1.inv.st k1.inv.glo (norm_rep hz1)).mono fun e w' hh => ?_
        obtain ⟨v, S', G', he, fr, inv', hx, hs0, hs1, _⟩ := hh
        obtain ⟨S2, k2, hc0⟩ := freeze_sound inv' hfz hx
        have hc := up_rep hc0 hup
        have hS2 : ∀ b, S2 b → S1 b ∨ (w.heap.size ≤ b ∧ b < w'.heap.size) := by
          intro b hb
          have hlt := k2.inv.st b hb
          rcases k2.from_ b hb with h1 | ⟨id, blk, h1, rfl⟩ | h1
          · rcases hs1 b h1 with h2 | h2
            · exact .inl h2
            · exact .inr ⟨h2, hlt⟩
          · rcases Nat.lt_or_ge (G' id).g w.heap.size with h3 | h3
            · rename_i hown
              have := hown id blk h1
              omega
            · exact .inr ⟨h3, hlt⟩
          · exact absurd h1 (by omega)
        split at h
        · rename_i hflat
          injection h with h
          injection h with e1 h
          injection h with e2 e3
          subst e1; subst e2; subst e3
          refine ⟨v, _, G, he, Stp.outer hi fr, .c ?_⟩
          rcases hflat with hfl | hno
          · exact flat_any hc hfl
          · have hno' := hsn hno
            exact hc.mono fun b hb => ⟨by rw [← hno']; exact hS2 b hb, rfl⟩
        · split at h
          · injection h with h
            injection h with e1 h
            injection h with e2 e3
            subst e1; subst e2; subst e3
            exact ⟨v, _, G, he, k1.trans (Stp.outer k1.inv fr), .c (hc.mono fun b hb => ⟨hS2 b hb, rfl⟩)⟩
          · cases h
      · cases hev
    · cases h
  · cases h

end
end Go.AM
namespace Go.AM
open Go.RowKit

section
variable {P : Program} {hp1 hp2 hpe : Hp} {nx nxe : Nat} {S1 S' : Nat → Prop} {G G' : Nat → GI} {w w' : World} {D : Nat → Prop}

/-- A callee that was lent some blocks (D) has returned; the caller goes on without them. -/
theorem back_drop (hi : Inv P w S1 G hp1 nx) (hsub : ∀ id b, hp2 id = some b → hp1 id = some b ∧ ¬ D (G id).g) (hD : ∀ b, D b → liveIn hp1 G b) (fr : Fr w D w') (inv' : Inv P w' S' G' hpe nxe) (hs0 : ∀ b, S1 b → S' b) (hs1 : ∀ b, S' b → S1 b ∨ D b ∨ w.heap.size ≤ b) :
    Stp P hp1 nx S1 G w hp2 nx S' G w' := by
  have hnD : ∀ b, S1 b → ¬ D b := fun b hb hd => by
    obtain ⟨id, blk, h1, rfl⟩ := hD b hd
    exact hi.apart id blk h1 hb
  have hS : ∀ b, S1 b → S' b ∧ w'.heap[b]? = w.heap[b]? := fun b hb => ⟨hs0 b hb, fr.block b (hi.st b hb) (hnD b hb)⟩
  refine ⟨⟨inv'.st, fun id b hb => hi.top id b (hsub id b hb).1, fun id b hb => ?_, fun id b hb hs => ?_, fun id id' b b' hb hb' he => hi.inj id id' b b' (hsub id b hb).1 (hsub id' b' hb').1 he, inv'.glo⟩, Nat.le_refl _, fun _ _ => rfl, hs0, fun b hb => ?_, fun id b hb => .inl ⟨id, b, (hsub id b hb).1, rfl⟩, ⟨fr.os, fr.tape, fr.output, fr.size, fr.drawn, fun k hk hn => fr.block k hk fun hd => hn (hD k hd)⟩⟩
  · have hl := hi.live id b (hsub id b hb).1
    exact hl.mono hS (Nat.le_refl _) (fun _ _ => rfl) (fr.block _ hl.lt (hsub id b hb).2)
  · have hl := hi.live id b (hsub id b hb).1
    rcases hs1 _ hs with h | h | h
    · exact hi.apart id b (hsub id b hb).1 h
    · exact (hsub id b hb).2 h
    · have := hl.lt; omega
  · rcases hs1 b hb with h | h | h
    · exact .inl h
    · exact .inr (.inl (hD b h))
    · exact .inr (.inr h)

/-- The same, where the callee hands back a slice of its own. -/
theorem back_own (hi : Inv P w S1 G hp1 nx) (hsub : ∀ id b, hp2 id = some b → hp1 id = some b ∧ ¬ D (G id).g) (hD : ∀ b, D b → liveIn hp1 G b) (fr : Fr w D w') (inv' : Inv P w' S' G' hpe nxe) (hs0 : ∀ b, S1 b → S' b) (hs1 : ∀ b, S' b → S1 b ∨ D b ∨ w.heap.size ≤ b)
    {id : Nat} {b : Blk} (hb : hpe id = some b) (harr : b.arr = true) (hown : D (G' id).g ∨ w.heap.size ≤ (G' id).g) :
    Stp P hp1 nx S1 G w (upd hp2 nx (some b)) (nx + 1) S' (upd G nx (G' id)) w' := by
  have kk := back_drop hi hsub hD fr inv' hs0 hs1
  have hne : ∀ id' b', hp2 id' = some b' → (G id').g ≠ (G' id).g := fun id' b' h' he => by
    rcases hown with h | h
    · exact (hsub id' b' h').2 (he ▸ h)
    · have := (hi.live id' b' (hsub id' b' h').1).lt; omega
  have hG : ∀ k, k < nx → upd G nx (G' id) k = G k := fun k hk => upd_other _ _ _ _ (by omega)
  have hpo : ∀ k, k ≠ nx → upd hp2 nx (some b) k = hp2 k := fun k hk => upd_other _ _ _ _ hk
  have hSS : ∀ b, S' b → S' b ∧ w'.heap[b]? = w'.heap[b]? := fun b hb => ⟨hb, rfl⟩
  have htop : ∀ k c, hp2 k = some c → k < nx := fun k c hk => hi.top k c (hsub k c hk).1
  refine ⟨⟨inv'.st, fun k c hk => ?_, fun k c hk => ?_, fun k c hk => ?_, fun k k' c c' hk hk' he => ?_, inv'.glo⟩, by omega, hG, kk.keep, kk.from_, fun k' c hk => ?_, kk.fr⟩
  · by_cases hkn : k = nx
    · omega
    · rw [hpo k hkn] at hk; have := htop k c hk; omega
  · by_cases hkn : k = nx
    · subst hkn
      simp only [upd_same] at hk ⊢
      injection hk with hk
      subst hk
      have hl := inv'.live id _ hb
      refine ⟨hl.bs, fun h0 => ⟨hl.size h0, hl.len h0, hl.fit h0, ?_⟩, hl.ent⟩
      obtain ⟨cur, h1, h2, h3⟩ := hl.row h0
      refine ⟨cur, h1, h2, fun i j c pv hi' hj => ?_⟩
      obtain ⟨u, h4, h5⟩ := h3 i j c pv hi' hj
      exact ⟨u, h4, h5.1, .c (h5.1 harr), h5.2.2⟩
    · rw [hpo k hkn] at hk
      rw [hG k (htop k c hk)]
      exact (kk.inv.live k c hk).mono hSS (by omega) hG rfl
  · by_cases hkn : k = nx
    · subst hkn
      simp only [upd_same]
      exact inv'.apart id b hb
    · rw [hpo k hkn] at hk
      rw [hG k (htop k c hk)]
      exact kk.inv.apart k c hk
  · by_cases hkn : k = nx <;> by_cases hkn' : k' = nx
    · omega
    · subst hkn
      rw [hpo k' hkn'] at hk'
      rw [hG k' (htop k' c' hk')] at he
      simp only [upd_same] at he
      exact (hne k' c' hk' he.symm).elim
    · subst hkn'
      rw [hpo k hkn] at hk
      rw [hG k (htop k c hk)] at he
      simp only [upd_same] at he
      exact (hne k c hk he).elim
    · rw [hpo k hkn] at hk
      rw [hpo k' hkn'] at hk'
      rw [hG k (htop k c hk), hG k' (htop k' c' hk')] at he
      exact hi.inj k k' c c' (hsub k c hk).1 (hsub k' c' hk').1 he
  · by_cases hkn : k' = nx
    · subst hkn
      simp only [upd_same]
      rcases hown with h | h
      · exact .inl (hD _ h)
      · exact .inr h
    · rw [hpo k' hkn] at hk
      rw [hG k' (htop k' c hk)]
      exact .inl ⟨k', c, (hsub k' c hk).1, rfl⟩

theorem own_back {id n : Nat} {v : Value} (h : RepO w' S' G' nxe (.own id 0 n) v) : RepO w' S' (upd G nx (G' id)) (nx + 1) (.own nx 0 n) v := by
  have hop := h.own_pos
  obtain ⟨cap, h1, h2, h3, h4, rfl⟩ := h.own_inv
  have := RepO.own (w := w') (S := S') (G := upd G nx (G' id)) (nx := nx + 1) (id := nx) (off := 0) (n := n) (cap := cap) (by omega) h2 h3 (by simpa using h4) (by simpa using hop)
  simpa using this
end

section
variable {C : Ctx} {pf : FuncId → Bool} {f : FuncId} {fn : Func} {code : Code}

/-- What a function's run must come to, for hFresh and hMove. -/
def OwnR (r : Option Blk) (x : PV) (hp : Hp) (_ : Nat) : Prop := match r with
  | none => x = .nil
  | some b => ∃ id, x = .own id 0 b.es.length ∧ hp id = some b ∧ b.arr = true

theorem hFresh_sound (hg : Good C pf) (hk : Known C pf f fn code) (ns : List Nat) (F : List PV → Option (Option Blk)) (hF : ∀ args r, F args = some r → args.length ≤ fn.ntmps ∧ ∃ x hp nx, evalFunc C fn args (fun _ => none) 0 = some (x, hp, nx) ∧ OwnR r x hp nx) :
    SpecSound C.P f (hFresh ns F) := by
  refine ⟨⟨fn, hk.func, hk.name, by rw [hk.body]; rfl⟩, ?_⟩
  intro args hp nx r hp' nx' h w S G vs hi hz
  unfold hFresh at h
  split at h
  · rename_i as hp1 hfr
    obtain ⟨S1, k1, hz1, _⟩ := freezeVals_sound hi hfr hz
    have hsub : ∀ id b, hp1 id = some b → hp1 id = some b ∧ ¬ False := fun id b h => ⟨h, fun h => h⟩
    split at h
    · rename_i hF0
      obtain ⟨hn, x, hpe, nxe, hef, hx0⟩ := hF _ none hF0
      injection h with h
      injection h with e1 h
      injection h with e2 e3
      subst e1; subst e2; subst e3
      simp only [OwnR] at hx0
      subst hx0
      refine (run_closed hg hk hef hn k1.inv.st k1.inv.glo (norm_rep hz1)).mono fun e w' hh => ?_
      obtain ⟨v, S', G', he, fr, inv', hx, hs0, hs1, _⟩ := hh
      have k2 := back_drop (D := fun _ => False) (hp2 := hp1) k1.inv hsub (fun _ h => h.elim) fr inv' hs0 (fun b hb => (hs1 b hb).imp (fun h => h) .inr)
      have := hx.nil_inv
      subst this
      exact ⟨_, _, _, he, k1.trans k2, .c .nil⟩
    · rename_i b hF0
      obtain ⟨hn, x, hpe, nxe, hef, hx0⟩ := hF _ (some b) hF0
      injection h with h
      injection h with e1 h
      injection h with e2 e3
      subst e1; subst e2; subst e3
      obtain ⟨id, rfl, hid, harr⟩ := hx0
      refine (run_closed hg hk hef hn k1.inv.st k1.inv.glo (norm_rep hz1)).mono fun e w' hh => ?_
      obtain ⟨v, S', G', he, fr, inv', hx, hs0, hs1, hown⟩ := hh
      have k2 := back_own (D := fun _ => False) (hp2 := hp1) k1.inv hsub (fun _ h => h.elim) fr inv' hs0 (fun b hb => (hs1 b hb).imp (fun h => h) .inr) hid harr (.inr (hown id b hid))
      exact ⟨_, _, _, he, k1.trans k2, own_back hx⟩
    · cases h
  · cases h

theorem hMove_sound (hg : Good C pf) (hk : Known C pf f fn code) (ns : List Nat) (F : Option Blk → List PV → Option (Option Blk))
    (h0 : ∀ args r, F none args = some r → args.length + 1 ≤ fn.ntmps ∧ ∃ x hp nx, evalFunc C fn (.nil :: args) (fun _ => none) 0 = some (x, hp, nx) ∧ OwnR r x hp nx)
    (h1 : ∀ b args r, F (some b) args = some r → args.length + 1 ≤ fn.ntmps ∧ (b.arr = true → ∃ x hp nx, evalFunc C fn (.own 0 0 b.es.length :: args) (upd (fun _ => none) 0 (some b)) 1 = some (x, hp, nx) ∧ OwnR r x hp nx)) :
    SpecSound C.P f (hMove ns F) := by
  refine ⟨⟨fn, hk.func, hk.name, by rw [hk.body]; rfl⟩, ?_⟩
  intro args hp nx r hp' nx' h w S G vs hi hz
  unfold hMove at h
  split at h
  · rename_i l
    obtain ⟨u, us, rfl, hu, hz'⟩ := hz.uncons
    have := hu.nil_inv
    subst this
    split at h
    · rename_i as hp1 hfr
      obtain ⟨S1, k1, hz1, _⟩ := freezeVals_sound hi hfr hz'
      have hz2 : Zip (RepC w S1) (.nil :: normArgs ns as) (.slice none 0 0 :: us) := .cons .nil (norm_rep hz1)
      have hsub : ∀ id b, hp1 id = some b → hp1 id = some b ∧ ¬ False := fun id b h => ⟨h, fun h => h⟩
      split at h
      · rename_i hF0
        obtain ⟨hn, x, hpe, nxe, hef, hx0⟩ := h0 _ none hF0
        injection h with h
        injection h with e1 h
        injection h with e2 e3
        subst e1; subst e2; subst e3
        simp only [OwnR] at hx0
        subst hx0
        refine (run_closed hg hk hef (by simpa using hn) k1.inv.st k1.inv.glo hz2).mono fun e w' hh => ?_
        obtain ⟨v, S', G', he, fr, inv', hx, hs0, hs1, _⟩ := hh
        have k2 := back_drop (D := fun _ => False) (hp2 := hp1) k1.inv hsub (fun _ h => h.elim) fr inv' hs0 (fun b hb => (hs1 b hb).imp (fun h => h) .inr)
        have := hx.nil_inv
        subst this
        exact ⟨_, _, _, he, k1.trans k2, .c .nil⟩
      · rename_i b hF0
        obtain ⟨hn, x, hpe, nxe, hef, hx0⟩ := h0 _ (some b) hF0
        injection h with h
        injection h with e1 h
        injection h with e2 e3
        subst e1; subst e2; subst e3
        obtain ⟨id, rfl, hid, harr⟩ := hx0
        refine (run_closed hg hk hef (by simpa using hn) k1.inv.st k1.inv.glo hz2).mono fun e w' hh => ?_
        obtain ⟨v, S', G', he, fr, inv', hx, hs0, hs1, hown⟩ := hh
        have k2 := back_own (D := fun _ => False) (hp2 := hp1) k1.inv hsub (fun _ h => h.elim) fr inv' hs0 (fun b hb => (hs1 b hb).imp (fun h => h) .inr) hid harr (.inr (hown id b hid))
        exact ⟨_, _, _, he, k1.trans k2, own_back hx⟩
      · cases h
    · cases h
  · rename_i id n l
    obtain ⟨u, us, rfl, hu, hz'⟩ := hz.uncons
    split at h
    · rename_i as hp1 hfr
      obtain ⟨S1, k1, hz1, _⟩ := freezeVals_sound hi hfr hz'
      have hu1 : RepO w S1 G nx (.own id 0 n) u := hu.mono (k1.same hi) (Nat.le_refl _) (fun _ _ => rfl)
      split at h
      · rename_i b0 hb0
        split at h
        · rename_i hc
          obtain ⟨hba, rfl⟩ := hc
          have hop := hu1.own_pos
          obtain ⟨cap, g1, g2, g3, g4, rfl⟩ := hu1.own_inv
          -- the callee's own heap: the lent block alone
          have hbr := k1.inv.live id b0 hb0
          have hinv : Inv C.P w S1 (fun _ => G id) (upd (fun _ => none) 0 (some b0)) 1 := by
            have hx : ∀ k b, upd (fun _ => none) 0 (some b0) k = some b → k = 0 ∧ b = b0 := by
              intro k b hk
              unfold upd at hk
              split at hk
              · injection hk with hk; exact ⟨by assumption, hk.symm⟩
              · cases hk
            refine ⟨k1.inv.st, fun k b hk => by rw [(hx k b hk).1]; omega, fun k b hk => ?_, fun k b hk => ?_, fun k k' b b' hk hk' _ => by rw [(hx k b hk).1, (hx k' b' hk').1], k1.inv.glo⟩
            · rw [(hx k b hk).2]
              refine ⟨hbr.bs, fun h0 => ⟨hbr.size h0, hbr.len h0, hbr.fit h0, ?_⟩, hbr.ent⟩
              obtain ⟨cur, q1, q2, q3⟩ := hbr.row h0
              refine ⟨cur, q1, q2, fun i j c pv hi' hj => ?_⟩
              obtain ⟨u, h4, h5⟩ := q3 i j c pv hi' hj
              exact ⟨u, h4, h5.1, .c (h5.1 hba), h5.2.2⟩
            · exact k1.inv.apart id b0 hb0
          have hz2 : Zip (RepO w S1 (fun _ => G id) 1) (.own 0 0 b0.es.length :: normArgs ns as) (.slice (some ⟨(G id).g, 0 * (G id).s, none⟩) b0.es.length cap :: us) :=
            .cons (.own (G := fun _ => G id) (id := 0) (by omega) g2 g3 g4 hop) (norm_rep hz1).closed
          have hlive : ∀ b, liveIn (upd (fun _ => none) 0 (some b0)) (fun _ => G id) b → b = (G id).g := by
            rintro b ⟨_, _, _, rfl⟩; rfl
          have hD : ∀ b, b = (G id).g → liveIn hp1 G b := fun b hb => ⟨id, b0, hb0, hb.symm⟩
          have hsub : ∀ k b, upd hp1 id none k = some b → hp1 k = some b ∧ ¬ (G k).g = (G id).g := fun k b hk => by
            have hne : k ≠ id := by rintro rfl; simp at hk
            exact ⟨upd_none hk, fun he => hne (k1.inv.inj k id b b0 (upd_none hk) hb0 he)⟩
          have frD : ∀ {w' : World}, Fr w (liveIn (upd (fun _ => none) 0 (some b0)) (fun _ => G id)) w' → Fr w (fun b => b = (G id).g) w' := fun fr => ⟨fr.os, fr.tape, fr.output, fr.size, fr.drawn, fun k hk hn => fr.block k hk fun hl => hn (hlive k hl)⟩
          split at h
          · rename_i hF0
            obtain ⟨hn, hx1⟩ := h1 b0 _ none hF0
            obtain ⟨x, hpe, nxe, hef, hx0⟩ := hx1 hba
            injection h with h
            injection h with e1 h
            injection h with e2 e3
            subst e1; subst e2; subst e3
            simp only [OwnR] at hx0
            subst hx0
            refine (func_calls hg.spec hg.quiet hg.box hg.iter hg.mixed hk.func hk.body hk.ok hef hinv hz2 (by simpa using hn)).mono fun e w' hh => ?_
            obtain ⟨v, S', G', he, k, hx⟩ := hh
            have k2 := back_drop (D := fun b => b = (G id).g) (hp2 := upd hp1 id none) k1.inv hsub hD (frD k.fr) k.inv k.keep (fun b hb => by
              rcases k.from_ b hb with h | h | h
              · exact .inl h
              · exact .inr (.inl (hlive b h))
              · exact .inr (.inr h))
            have := hx.nil_inv
            subst this
            exact ⟨_, _, _, he, k1.trans k2, .c .nil⟩
          · rename_i b hF0
            obtain ⟨hn, hx1⟩ := h1 b0 _ (some b) hF0
            obtain ⟨x, hpe, nxe, hef, hx0⟩ := hx1 hba
            injection h with h
            injection h with e1 h
            injection h with e2 e3
            subst e1; subst e2; subst e3
            obtain ⟨id', rfl, hid, harr⟩ := hx0
            refine (func_calls hg.spec hg.quiet hg.box hg.iter hg.mixed hk.func hk.body hk.ok hef hinv hz2 (by simpa using hn)).mono fun e w' hh => ?_
            obtain ⟨v, S', G', he, k, hx⟩ := hh
            have k2 := back_own (D := fun b => b = (G id).g) (hp2 := upd hp1 id none) k1.inv hsub hD (frD k.fr) k.inv k.keep (fun b hb => by
              rcases k.from_ b hb with h | h | h
              · exact .inl h
              · exact .inr (.inl (hlive b h))
              · exact .inr (.inr h)) hid harr (by
              rcases k.own id' b hid with h | h
              · exact .inl (hlive _ h)
              · exact .inr h)
            exact ⟨_, _, _, he, k1.trans k2, own_back hx⟩
          · cases h
        · cases h
      · cases h
    · cases h
  · cases h

end
end Go.AM
namespace Go.AM
open Go.RowKit Go.WideShapes Go.ChangeShapes

/-- Pure cells of a type. Bl: what is known of lengths. -/
def Typed (P : Program) (Bl : Nat → Prop) : Nat → TypeId → List PV → Prop
  | 0, _, _ => False
  | n + 1, t, pvs => match P.underlying t with
    | some .bool => ∃ b, pvs = [.v (.bool b)]
    | some (.int k) => ∃ i, pvs = [.v (.int k i)] ∧ (Lit.int k i).wf = true
    | some .string => ∃ s : ByteArray, pvs = [.v (.string s)] ∧ s.size ≤ maxLen ∧ Bl s.size
    | some (.slice e) => ∃ es, pvs = [.sl (P.cellsOf e) es] ∧ es.length ≤ maxLen ∧ Bl es.length ∧ ∀ c ∈ es, c.length = P.cellsOf e ∧ Typed P Bl n e c
    | some (.struct fs) => pvs.length = P.cellsOf t ∧ ∀ f ∈ fs.toList, Typed P Bl n f.type ((pvs.drop f.offset).take (P.cellsOf f.type))
    | _ => False

/-- Types that are read: bools, ints, strings, slices and structs of these, the fields one after the other. -/
def tiled (P : Program) : Nat → List Field → Option Nat
  | o, [] => some o
  | o, f :: fs => if f.offset = o then tiled P (o + P.cellsOf f.type) fs else none

def typesOk (P : Program) (T : List TypeId) : Bool := T.all fun t => match P.underlying t with
  | some .bool | some (.int _) | some .string => P.cellsOf t == 1
  | some (.slice e) => P.cellsOf t == 1 && T.contains e && decide (0 < P.cellsOf e)
  | some (.struct fs) => tiled P 0 fs.toList == some (P.cellsOf t) && fs.toList.all fun f => T.contains f.type
  | _ => false

/-- What a bound on the data gives. -/
structure Bounds (H : Type) (Bl : Nat → Prop) (Bd : DataW H → Prop) : Prop where
  slice : ∀ es sp, Bd (.slice es sp) → Bl es.length ∧ ∀ d ∈ es, Bd d
  nil : Bl 0
  agg : ∀ l, Bd (.agg l) → ∀ d ∈ l, Bd d
  str : ∀ b, Bd (.lit (.string b)) → Bl b.length

theorem bounds_all (H : Type) : Bounds H (fun _ => True) (fun _ => True) := ⟨fun _ _ _ => ⟨trivial, fun _ _ => trivial⟩, trivial, fun _ _ _ _ => trivial, fun _ _ => trivial⟩

section
variable {H : Type} {enc : TypeId × Value → H} {P : Program} {w : World} {sp : Nat → Bool} {held : Bool} {Bl : Nat → Prop} {Bd : DataW H → Prop}

theorem drop_take_get {α : Type} {l : List α} {o n j : Nat} (hj : j < n) : ((l.drop o).take n)[j]? = l[o + j]? := by
  rw [List.getElem?_take, if_pos hj, List.getElem?_drop]

/-- The fields' cells put together. -/
theorem tile_join {R : PV → Value → Prop} {Q : Field → List PV → Prop} : ∀ (fs : List Field) (o n : Nat) (cs : List Value), tiled P o fs = some n → cs.length = n →
    (∀ f ∈ fs, ∃ pvs, Zip R pvs ((cs.drop f.offset).take (P.cellsOf f.type)) ∧ Q f pvs) →
    ∃ pvs : List PV, pvs.length + o = n ∧ (∀ (j : Nat) (pv : PV) (u : Value), pvs[j]? = some pv → cs[o + j]? = some u → R pv u) ∧ ∀ f ∈ fs, o ≤ f.offset ∧ Q f ((pvs.drop (f.offset - o)).take (P.cellsOf f.type))
  | [], o, n, cs, ht, hl, _ => by
    simp only [tiled] at ht
    injection ht with ht
    subst ht
    exact ⟨[], by simp, by simp, by simp⟩
  | f :: fs, o, n, cs, ht, hl, h => by
    simp only [tiled] at ht
    split at ht
    · rename_i ho
      obtain ⟨p1, hz, hq⟩ := h f (by simp)
      obtain ⟨p2, h1, h2, h3⟩ := tile_join fs (o + P.cellsOf f.type) n cs ht hl (fun f' hf' => h f' (by simp [hf']))
      have hl1 : p1.length = P.cellsOf f.type := by
        have := hz.1
        simp only [List.length_take, List.length_drop] at this
        omega
      refine ⟨p1 ++ p2, by simp; omega, fun j pv u hj hu => ?_, fun f' hf' => ?_⟩
      · by_cases hjl : j < p1.length
        · rw [List.getElem?_append_left hjl] at hj
          refine hz.2 j pv u hj ?_
          rw [drop_take_get (by omega), ho]
          exact hu
        · rw [List.getElem?_append_right (by omega)] at hj
          refine h2 (j - p1.length) pv u hj ?_
          rw [show o + P.cellsOf f.type + (j - p1.length) = o + j from by omega]
          exact hu
      · rcases List.mem_cons.1 hf' with rfl | hf'
        · refine ⟨by omega, ?_⟩
          have : ((p1 ++ p2).drop (f'.offset - o)).take (P.cellsOf f'.type) = p1 := by
            rw [show f'.offset - o = 0 from by omega, List.drop_zero, ← hl1, List.take_left]
          rw [this]
          exact hq
        · obtain ⟨a1, a2⟩ := h3 f' hf'
          refine ⟨by omega, ?_⟩
          have : (p1 ++ p2).drop (f'.offset - o) = p2.drop (f'.offset - (o + P.cellsOf f.type)) := by
            rw [List.drop_append, List.drop_eq_nil_of_le (by omega), List.nil_append]
            congr 1
            omega
          rw [this]
          exact a2
    · cases ht

theorem trod_typed (hb : Bounds H Bl Bd) {T : List TypeId} (hT : typesOk P T = true) : ∀ (fuel : Nat) (t : TypeId) (cs : List Value) (d : DataW H) (ps : List MemPlace), t ∈ T → Bd d → DataW.trod enc P w 0 sp held fuel t cs = some (d, ps) →
    ∃ pvs, Zip (fun pv u => RepC w (fun b => b < w.heap.size) pv u ∧ u.oneCell' = true) pvs cs ∧ cs.length = P.cellsOf t ∧ Typed P Bl fuel t pvs
  | 0, t, cs, d, ps, _, _, h => by simp [DataW.trod] at h
  | n + 1, t, cs, d, ps, ht, hd, h => by
    have hTt := List.all_eq_true.1 hT t ht
    have one : ∀ {pv : PV} {u : Value}, RepC w (fun b => b < w.heap.size) pv u → u.oneCell' = true → Zip (fun pv u => RepC w (fun b => b < w.heap.size) pv u ∧ u.oneCell' = true) [pv] [u] := fun h1 h2 => .cons ⟨h1, h2⟩ .nil
    split at hTt
    · rename_i hu
      obtain ⟨b, rfl, hx⟩ := DataW.trod_bool hu h
      exact ⟨[.v (.bool b)], one (.v rfl) rfl, by simpa using (by simpa using hTt : P.cellsOf t = 1).symm, by unfold Typed; rw [hu]; exact ⟨b, rfl⟩⟩
    · rename_i k hu
      obtain ⟨i, rfl, hx, hwf⟩ := DataW.trod_int hu h
      exact ⟨[.v (.int k i)], one (.v rfl) rfl, by simpa using (by simpa using hTt : P.cellsOf t = 1).symm, by unfold Typed; rw [hu]; exact ⟨i, rfl, hwf⟩⟩
    · rename_i hu
      obtain ⟨s, rfl, hx, hs⟩ := DataW.trod_string hu h
      simp only [Prod.mk.injEq] at hx
      have hbl := hb.str s.data.toList (hx.1 ▸ hd)
      have hsz : s.data.toList.length = s.size := Array.length_toList
      rw [hsz] at hbl
      exact ⟨[.v (.string s)], one (.v rfl) rfl, by simpa using (by simpa using hTt : P.cellsOf t = 1).symm, by unfold Typed; rw [hu]; exact ⟨s, rfl, hs, hbl⟩⟩
    · rename_i e hu
      simp only [Bool.and_eq_true, beq_iff_eq, decide_eq_true_eq, List.contains_iff_mem] at hTt
      obtain ⟨⟨hc1, heT⟩, hce⟩ := hTt
      rcases DataW.trod_slice hu h with ⟨rfl, hx⟩ | ⟨a, len, cap, elems, rest, m, hm, rfl, hx, _, hlc, hcm, hel, hget, _, _⟩
      · refine ⟨[.sl (P.cellsOf e) []], one ?_ rfl, by simp [hc1], by unfold Typed; rw [hu]; exact ⟨[], rfl, by simp, hb.nil, by simp⟩⟩
        exact RepC.sl (es := []) (s := P.cellsOf e) (fun _ _ => undef) (by simp) (by simp) (by simp [maxLen]) (by simp) (by simp) (by simp)
      · obtain rfl : m = n := by omega
        simp only [Prod.mk.injEq] at hx
        obtain ⟨hbl, hbe⟩ := hb.slice _ _ (hx.1 ▸ hd)
        have hel' : ∀ i, i < len → ∃ cs' y, w.cells? 0 (a.add (i * P.cellsOf e)) (P.cellsOf e) = some cs' ∧ elems[i]? = some y ∧ DataW.trod enc P w 0 sp held m e cs' = some y := by
          intro i hi
          have h1 := hget i hi
          have h2 : elems[i]? = some (elems[i]'(by omega)) := List.getElem?_eq_getElem (by omega)
          rw [h2] at h1
          cases hc : w.cells? 0 (a.add (i * P.cellsOf e)) (P.cellsOf e) with
          | none => simp [hc] at h1
          | some cs' => exact ⟨cs', _, rfl, h2, by simpa [hc] using h1⟩
        have hall : ∀ i, ∃ pvs cs' : List Value × List PV, i < len → w.cells? 0 (a.add (i * P.cellsOf e)) (P.cellsOf e) = some pvs.1 ∧ Zip (fun pv u => RepC w (fun b => b < w.heap.size) pv u ∧ u.oneCell' = true) pvs.2 pvs.1 ∧ pvs.1.length = P.cellsOf e ∧ Typed P Bl m e pvs.2 := by
          intro i
          by_cases hi : i < len
          · obtain ⟨cs', y, g1, g2, g3⟩ := hel' i hi
            obtain ⟨pvs, q1, q2, q3⟩ := trod_typed hb hT m e cs' y.1 y.2 heT (hbe y.1 (by
              have : elems.map (·.1) = elems.map (·.1) := rfl
              exact List.mem_map.2 ⟨y, List.mem_of_getElem? g2, rfl⟩)) (by rw [g3])
            exact ⟨(cs', pvs), (cs', pvs), fun _ => ⟨g1, q1, q2, q3⟩⟩
          · exact ⟨([], []), ([], []), fun h => absurd h hi⟩
        have hch : ∀ i, ∃ q : List Value × List PV, i < len → w.cells? 0 (a.add (i * P.cellsOf e)) (P.cellsOf e) = some q.1 ∧ Zip (fun pv u => RepC w (fun b => b < w.heap.size) pv u ∧ u.oneCell' = true) q.2 q.1 ∧ q.1.length = P.cellsOf e ∧ Typed P Bl m e q.2 := fun i => by
          obtain ⟨q, _, hq⟩ := hall i
          exact ⟨q, hq⟩
        let q : Nat → List Value × List PV := fun i => Classical.choose (hch i)
        have hq : ∀ i, i < len → w.cells? 0 (a.add (i * P.cellsOf e)) (P.cellsOf e) = some (q i).1 ∧ Zip (fun pv u => RepC w (fun b => b < w.heap.size) pv u ∧ u.oneCell' = true) (q i).2 (q i).1 ∧ (q i).1.length = P.cellsOf e ∧ Typed P Bl m e (q i).2 := fun i => Classical.choose_spec (hch i)
        have hlen : ((List.range len).map fun i => (q i).2).length = len := by simp
        have hgi : ∀ (i : Nat) (c : List PV), ((List.range len).map fun i => (q i).2)[i]? = some c → i < len ∧ c = (q i).2 := by
          intro i c hi
          have hil : i < len := by have := (List.getElem?_eq_some_iff.1 hi).1; simpa using this
          rw [List.getElem?_map, List.getElem?_range hil] at hi
          simp at hi
          exact ⟨hil, hi.symm⟩
        have key : RepC w (fun b => b < w.heap.size) (.sl (P.cellsOf e) ((List.range len).map fun i => (q i).2)) (.slice (some a) ((List.range len).map fun i => (q i).2).length cap) := by
          refine .sl (fun i j => ((q i).1[j]?).getD undef) (by simp) (by rw [hlen]; exact hlc) hcm (fun c hc => ?_) (fun i j c pv hi hj => ?_) (fun i j c pv hi hj => ?_)
          · obtain ⟨i, hi, rfl⟩ := List.mem_map.1 hc
            have h1 := hq i (List.mem_range.1 hi)
            rw [h1.2.1.1, h1.2.2.1]
          · obtain ⟨hil, rfl⟩ := hgi i c hi
            obtain ⟨g1, g2, g3, _⟩ := hq i hil
            have hjl : j < (q i).1.length := by rw [← g2.1]; exact (List.getElem?_eq_some_iff.1 hj).1
            have hju : (q i).1[j]? = some ((q i).1[j]) := List.getElem?_eq_getElem hjl
            obtain ⟨_, g5, g6⟩ := World.cells?_some g1
            have hcell := g6 j (by omega)
            rw [add_add] at hcell
            rw [hju] at hcell
            refine ⟨a, rfl, ?_, ?_, ?_⟩
            · have := block_lt_of_cell hcell
              rwa [add_block] at this
            · rw [hcell, hju]; rfl
            · rw [hju]; exact (g2.2 j pv _ hj hju).2
          · obtain ⟨hil, rfl⟩ := hgi i c hi
            obtain ⟨g1, g2, g3, _⟩ := hq i hil
            have hjl : j < (q i).1.length := by rw [← g2.1]; exact (List.getElem?_eq_some_iff.1 hj).1
            have hju : (q i).1[j]? = some ((q i).1[j]) := List.getElem?_eq_getElem hjl
            rw [hju]
            exact (g2.2 j pv _ hj hju).1
        rw [hlen] at key
        refine ⟨[.sl (P.cellsOf e) ((List.range len).map fun i => (q i).2)], one key rfl, by simp [hc1], ?_⟩
        unfold Typed
        rw [hu]
        refine ⟨_, rfl, by rw [hlen]; omega, ?_, fun c hc => ?_⟩
        · rw [hlen]
          have : (elems.map (·.1)).length = len := by simpa using hel
          rwa [this] at hbl
        · obtain ⟨i, hi, rfl⟩ := List.mem_map.1 hc
          have h1 := hq i (List.mem_range.1 hi)
          exact ⟨by rw [h1.2.1.1, h1.2.2.1], h1.2.2.2⟩
    · rename_i fs hu
      simp only [Bool.and_eq_true, beq_iff_eq, List.all_eq_true, List.contains_iff_mem] at hTt
      obtain ⟨htile, hfT⟩ := hTt
      obtain ⟨xs, m, hm, hx, hcl, hxl, hf⟩ := DataW.trod_struct hu h
      obtain rfl : m = n := by omega
      simp only [Prod.mk.injEq] at hx
      have hba := hb.agg _ (hx.1 ▸ hd)
      obtain ⟨pvs, g1, g2, g3⟩ := tile_join (P := P) (R := fun pv u => RepC w (fun b => b < w.heap.size) pv u ∧ u.oneCell' = true) (Q := fun f pvs => Typed P Bl m f.type pvs) fs.toList 0 (P.cellsOf t) cs htile hcl (fun f hfm => by
        obtain ⟨i, hi⟩ := List.getElem?_of_mem hfm
        have hfi := hf i f (by simpa using hi)
        have hil : i < xs.length := by rw [hxl]; have := (List.getElem?_eq_some_iff.1 hi).1; simpa using this
        rw [List.getElem?_eq_getElem hil] at hfi
        obtain ⟨pvs, q1, _, q3⟩ := trod_typed hb hT m f.type _ (xs[i]).1 (xs[i]).2 (hfT f hfm) (hba _ (List.mem_map.2 ⟨xs[i], List.getElem_mem hil, rfl⟩)) hfi
        exact ⟨pvs, q1, q3⟩)
      refine ⟨pvs, ⟨by omega, fun j pv u hj hu' => g2 j pv u hj (by simpa using hu')⟩, hcl, ?_⟩
      unfold Typed
      rw [hu]
      exact ⟨by omega, fun f hfm => by have := (g3 f hfm).2; simpa using this⟩
    · cases hTt

/-- An argument, as a pure value. -/
theorem arg_typed (hb : Bounds H Bl Bd) {T : List TypeId} (hT : typesOk P T = true) {t : TypeId} {v : Value} {d : DataW H} {ps : List MemPlace} {r : Reach} {base : Nat} (ht : t ∈ T) (hd : Bd d) (hv : Value.okWide P w r base t v) (h : DataW.Trod enc P w 0 sp held t v d ps) :
    ∃ (n : Nat) (pvs : List PV) (p : PV), Typed P Bl n t pvs ∧ RepC w (fun b => b < w.heap.size) p v ∧ p.cells = pvs ∧ ((∃ fs, P.underlying t = some (.struct fs)) → p = .agg pvs) ∧ ((¬ ∃ fs, P.underlying t = some (.struct fs)) → pvs = [p]) := by
  obtain ⟨n, hn⟩ := h
  obtain ⟨pvs, h1, h2, h3⟩ := trod_typed hb hT n t v.cells.toList d ps ht hd hn
  by_cases hs : ∃ fs, P.underlying t = some (.struct fs)
  · obtain ⟨fs, hu⟩ := hs
    obtain ⟨cs, rfl, hsz⟩ := okWide_struct hu hv
    refine ⟨n, pvs, .agg pvs, h3, .agg (by have := h1.1; simpa [Value.cells] using this) (fun j pv u hj hu' => (h1.2 j pv u hj (by simpa [Value.cells] using hu')).1), rfl, fun _ => rfl, fun h => absurd ⟨fs, hu⟩ h⟩
  · have hTt := List.all_eq_true.1 hT t ht
    have hc1 : P.cellsOf t = 1 := by
      split at hTt
      · simpa using hTt
      · simpa using hTt
      · simpa using hTt
      · simp only [Bool.and_eq_true, beq_iff_eq] at hTt; exact hTt.1.1
      · rename_i fs hu; exact absurd ⟨fs, hu⟩ hs
      · cases hTt
    rw [hc1] at h2
    match pvs, h1, h3 with
    | [], h1, h3 => have := h1.1; rw [h2] at this; simp at this
    | p :: q :: l, h1, h3 => have := h1.1; rw [h2] at this; simp at this
    | [p], h1, h3 =>
      obtain ⟨u, hu, hr, ho⟩ := zip_one h1
      have hvu : v = u := by
        cases v with
        | agg cs =>
          simp only [Value.cells] at hu
          -- a value of a type of one cell that is no struct is no aggregate
          exfalso
          split at hTt
          · rename_i hun; simp [Value.okWide, hun, Cell.okWide, Cell.ok] at hv
          · rename_i hun; simp [Value.okWide, hun, Cell.okWide, Cell.ok] at hv
          · rename_i hun; simp [Value.okWide, hun, Cell.okWide, Cell.ok] at hv
          · rename_i hun; simp [Value.okWide, hun, Cell.okWide, Cell.ok] at hv
          · rename_i fs hun; exact hs ⟨fs, hun⟩
          · cases hTt
        | _ => simpa [Value.cells] using hu
      subst hvu
      refine ⟨n, [p], p, h3, hr, ?_, fun h => absurd h hs, fun _ => rfl⟩
      have hp : p.isCell = true ∨ p.isCell = false := by cases p.isCell <;> simp
      rcases hp with hp | hp
      · cases p <;> first | rfl | simp [PV.isCell] at hp
      · cases hr <;> first | rfl | (simp [Value.oneCell'] at ho)

end

section
variable {C : Ctx} {pf : FuncId → Bool} {f : FuncId} {fn : Func} {code : Code}

/-- A law's call. -/
theorem law_calls (hg : Good C pf) (hk : Known C pf f fn code) {args : List PV} (h : evalPure C fn args = some (.v (.bool true))) (hn : args.length ≤ fn.ntmps) {w : World} {vs : List Value} (hsh : w.ShapedOpen C.P) (hz : Zip (RepC w (fun b => b < w.heap.size)) args vs) :
    Calls C.P f vs.toArray w fun e w' => e = .returned (.bool true) ∧ Below w.heap.size w w' := by
  unfold evalPure at h
  split at h
  · rename_i x hpe nxe hef
    obtain ⟨⟨r, hp2⟩, hfz, hr⟩ := map_some_inv h
    simp only at hr
    subst hr
    refine (run_closed hg hk hef hn (fun _ hb => hb) (Glo.of_shape hsh) hz).mono fun e w' hh => ?_
    obtain ⟨v, S', G', he, fr, inv', hx, _⟩ := hh
    obtain ⟨S2, _, hc⟩ := freeze_sound inv' hfz hx
    obtain ⟨rfl, _⟩ := hc.v_inv
    exact ⟨he, fr.os, fr.tape, fr.output, fr.size, fun k hk => fr.block k hk fun h => h⟩
  · cases h

end
end Go.AM
namespace Go.AM
open Go.RowKit

attribute [congr] bindK_congr condK_congr
attribute [simp] EvC_skip EvC_exit EvC_ret EvC_label EvC_seq EvC_cond EvC_block EvL_nil EvL_cons restK_eq bindK_some condK_true condK_false thenK_normal thenK_ret thenK_exit blockK_normal blockK_ret blockK_exit_same
  roundK_normal roundK_ret roundK_exit retK_normal retK_ret

@[simp] theorem normK_eq (K : Exit → St → Prop) (st : St) : normK K st = K .normal st := rfl
@[simp] theorem blockK_other (id i : Nat) (K : Exit → St → Prop) (st : St) (h : ¬ i = id) : blockK id K (.exit i) st = K (.exit i) st := by simp [blockK, h]

theorem upd_app {α : Type} (f : Nat → α) (k i : Nat) (x : α) : upd f k x i = if i = k then x else f i := rfl
@[simp] theorem upd_hit {α : Type} (f : Nat → α) (k : Nat) (x : α) : upd f k x k = x := by simp [upd]
@[simp] theorem upd_miss {α : Type} (f : Nat → α) (k i : Nat) (x : α) (h : ¬ i = k) : upd f k x i = f i := by simp [upd, h]
@[simp] theorem put_some (σ : Nat → PV) (d : Nat) (x : PV) : put σ (some d) x = upd σ d x := rfl
@[simp] theorem put_none (σ : Nat → PV) (x : PV) : put σ none x = σ := rfl
@[simp] theorem start_app (args : List PV) (t : Nat) : startσ args t = (args[t]?).getD (.tup []) := rfl

@[simp] theorem get_tmp (σ : Nat → PV) (t : Nat) : get σ (.tmp t) = some (σ t) := rfl
@[simp] theorem get_func (σ : Nat → PV) (f : Nat) : get σ (.func f) = some (.fn (.func f) [] []) := rfl
@[simp] theorem get_int (σ : Nat → PV) (k : IntKind) (n : Int) : get σ (.const (.int k n)) = some (.v (.int k n)) := rfl
@[simp] theorem get_bool (σ : Nat → PV) (b : Bool) : get σ (.const (.bool b)) = some (.v (.bool b)) := rfl
@[simp] theorem get_str (σ : Nat → PV) (s : ByteArray) : get σ (.const (.string s)) = some (.v (.string s)) := rfl
@[simp] theorem get_nil (σ : Nat → PV) : get σ (.const (.slice none 0 0)) = some .nil := rfl
@[simp] theorem get_nilFunc (σ : Nat → PV) : get σ (.const .nilFunc) = some (.v .nilFunc) := rfl
@[simp] theorem get_agg (σ : Nat → PV) (cs : Array Value) : get σ (.const (.agg cs)) = (ofCells cs.toList).map .agg := rfl

@[simp] theorem step_plain (C : Ctx) (ops : Array Oper) (d : Option Tmp) (op : Op) (t : TypeId) (p : String) (af : Array Edge) (st : St) : stepA C ops ⟨d, op, t, p, af, none⟩ st =
    (evalOp C (get st.σ) st.hp st.nx op).map fun r => ⟨put st.σ d r.1, r.2.1, r.2.2⟩ := stepA_eq C ops d op t p af st
/-- A guarded operation: whether it is carried out is asked first. -/
def guardA (C : Ctx) (d : Option Tmp) (op : Op) (st : St) (y : Option Bool) (b : Bool) : Option St :=
  if y = some b then (evalOp C (get st.σ) st.hp st.nx op).map fun r => ⟨put st.σ d r.1, r.2.1, r.2.2⟩ else some ⟨put st.σ d (.tup []), st.hp, st.nx⟩
theorem guardA_congr {C : Ctx} {d : Option Tmp} {op : Op} {st : St} {y y' : Option Bool} {b : Bool} (h : y = y') : guardA C d op st y b = guardA C d op st y' b := by rw [h]
@[simp] theorem step_guard (C : Ctx) (ops : Array Oper) (d : Option Tmp) (op : Op) (t : TypeId) (p : String) (af : Array Edge) (j : Nat) (b : Bool) (st : St) : stepA C ops ⟨d, op, t, p, af, some (j, b)⟩ st =
    guardA C d op st (yieldA ops st.σ j) b := by
  unfold stepA guardA Region.wanted
  simp only [beq_iff_eq]
  split
  · cases evalOp C (get st.σ) st.hp st.nx op <;> rfl
  · rfl
@[simp] theorem guard_hit (C : Ctx) (d : Option Tmp) (op : Op) (st : St) (b : Bool) : guardA C d op st (some b) b = (evalOp C (get st.σ) st.hp st.nx op).map fun r => ⟨put st.σ d r.1, r.2.1, r.2.2⟩ := by simp [guardA]
@[simp] theorem guard_tf (C : Ctx) (d : Option Tmp) (op : Op) (st : St) : guardA C d op st (some true) false = some ⟨put st.σ d (.tup []), st.hp, st.nx⟩ := by simp [guardA]
@[simp] theorem guard_ft (C : Ctx) (d : Option Tmp) (op : Op) (st : St) : guardA C d op st (some false) true = some ⟨put st.σ d (.tup []), st.hp, st.nx⟩ := by simp [guardA]
@[simp] theorem guard_none (C : Ctx) (d : Option Tmp) (op : Op) (st : St) (b : Bool) : guardA C d op st none b = some ⟨put st.σ d (.tup []), st.hp, st.nx⟩ := by simp [guardA]
attribute [congr] guardA_congr

/-- The guard's outcome, out of the slot. -/
def boolOf : PV → Option Bool
  | .v (.bool b) => some b
  | _ => none
@[simp] theorem boolOf_bool (b : Bool) : boolOf (.v (.bool b)) = some b := rfl
@[simp] theorem boolOf_tup (l : List PV) : boolOf (.tup l) = none := rfl
def slotOf (σ : Nat → PV) : Option Nat → Option Bool
  | some d => boolOf (σ d)
  | none => none
@[simp] theorem slotOf_some (σ : Nat → PV) (d : Nat) : slotOf σ (some d) = boolOf (σ d) := rfl
@[simp] theorem yield_get (ops : Array Oper) (σ : Nat → PV) (j : Nat) : yieldA ops σ j = slotOf σ ((ops[j]?).bind (·.dst)) := by
  unfold yieldA slotOf boolOf
  cases (ops[j]?).bind (·.dst) with
  | none => rfl
  | some d => rfl

section
variable (C : Ctx) (ρ : Operand → Option PV) (hp : Hp) (nx : Nat)
@[simp] theorem op_move (x : Operand) : evalOp C ρ hp nx (.move x) = (ρ x).map fun y => (y, hp, nx) := rfl
@[simp] theorem op_assign (x : Operand) : evalOp C ρ hp nx (.assign x) = (ρ x).map fun y => (y, hp, nx) := rfl
def pickA (c a b : Option PV) : Option PV := match c with
  | some (.v (.bool true)) => a
  | some (.v (.bool false)) => b
  | _ => none
@[simp] theorem pickA_true (a b : Option PV) : pickA (some (.v (.bool true))) a b = a := rfl
@[simp] theorem pickA_false (a b : Option PV) : pickA (some (.v (.bool false))) a b = b := rfl
@[simp] theorem op_pick (c a b : Operand) : evalOp C ρ hp nx (.pick c a b) = (pickA (ρ c) (ρ a) (ρ b)).map fun y => (y, hp, nx) := by
  unfold pickA
  simp only [evalOp]
  generalize ρ c = o
  cases o with
  | none => rfl
  | some p =>
    cases p <;> (try rfl)
    rename_i x
    cases x <;> (try rfl)
    rename_i t
    cases t <;> rfl
@[simp] theorem op_bin (op : BinOp) (t t2 : TypeId) (x y : Operand) : evalOp C ρ hp nx (.binOp op t x y t2) = (do let p ← ρ x; let q ← ρ y; let r ← binC (isK y) C.P op t p q; some (r, hp, nx)) := by
  simp only [evalOp]; cases ρ x <;> cases ρ y <;> (try rfl); simp; cases binC (isK y) C.P op t _ _ <;> rfl
@[simp] theorem op_un (op : UnOp) (t : TypeId) (x : Operand) : evalOp C ρ hp nx (.unOp op t x) = (do let p ← ρ x; let r ← unA op p; some (r, hp, nx)) := by
  simp only [evalOp]; cases ρ x <;> (try rfl); simp; cases unA op _ <;> rfl
@[simp] theorem op_conv (s d : TypeId) (x : Operand) : evalOp C ρ hp nx (.convert s d x) = (do let p ← ρ x; let r ← convA C.P s d p; some (r, hp, nx)) := by
  simp only [evalOp]; cases ρ x <;> (try rfl); simp; cases convA C.P s d _ <;> rfl
@[simp] theorem op_load (t : TypeId) (x : Operand) : evalOp C ρ hp nx (.load t x) = (do let p ← ρ x; let r ← loadA C.P hp t p; some (r, hp, nx)) := by
  simp only [evalOp]; cases ρ x <;> (try rfl); simp; cases loadA C.P hp t _ <;> rfl
@[simp] theorem op_store (t : TypeId) (a x : Operand) : evalOp C ρ hp nx (.store t a x) = (do let p ← ρ a; let q ← ρ x; let h ← storeA C.P hp t p q; some (.tup [], h, nx)) := by
  simp only [evalOp]; cases ρ a <;> cases ρ x <;> (try rfl); simp; cases storeA C.P hp t _ _ <;> rfl
@[simp] theorem op_fieldAddr (t : TypeId) (x : Operand) (f : Nat) : evalOp C ρ hp nx (.fieldAddr t x f) = (do let p ← ρ x; let r ← fieldAddrA C.P t f p; some (r, hp, nx)) := by
  simp only [evalOp]; cases ρ x <;> (try rfl); simp; cases fieldAddrA C.P t f _ <;> rfl
@[simp] theorem op_field (t : TypeId) (x : Operand) (f : Nat) : evalOp C ρ hp nx (.field t x f) = (do let p ← ρ x; let r ← fieldValA C.P t f p; some (r, hp, nx)) := by
  simp only [evalOp]; cases ρ x <;> (try rfl); simp; cases fieldValA C.P t f _ <;> rfl
@[simp] theorem op_indexAddr (t : TypeId) (x i : Operand) : evalOp C ρ hp nx (.indexAddr t x i) = (do let p ← ρ x; let q ← ρ i; let r ← indexAddrA C.P hp t p q; some (r, hp, nx)) := by
  simp only [evalOp]; cases ρ x <;> cases ρ i <;> (try rfl); simp; cases indexAddrA C.P hp t _ _ <;> rfl
@[simp] theorem op_index (t : TypeId) (x i : Operand) : evalOp C ρ hp nx (.index t x i) = (do let p ← ρ x; let q ← ρ i; let r ← indexA C.P t p q; some (r, hp, nx)) := by
  simp only [evalOp]; cases ρ x <;> cases ρ i <;> (try rfl); simp; cases indexA C.P t _ _ <;> rfl
@[simp] theorem op_slice (t : TypeId) (x : Operand) (lo hi : Option Operand) : evalOp C ρ hp nx (.slice t x lo hi none) = (do let p ← ρ x; let r ← sliceA C.P hp t p (lo.map ρ) (hi.map ρ); some (r, hp, nx)) := by
  simp only [evalOp]; cases ρ x <;> (try rfl); simp; cases sliceA C.P hp t _ _ _ <;> rfl
@[simp] theorem op_makeSlice (t : TypeId) (l c : Operand) : evalOp C ρ hp nx (.makeSlice t l c) = (do let p ← ρ l; let q ← ρ c; makeSliceA C.P hp nx t p q) := by
  simp only [evalOp]; cases ρ l <;> cases ρ c <;> rfl
def extractA (i : Nat) : PV → Option PV
  | .tup vs => vs[i]?
  | _ => none
@[simp] theorem extractA_tup (i : Nat) (vs : List PV) : extractA i (.tup vs) = vs[i]? := rfl
@[simp] theorem op_extract (x : Operand) (i : Nat) : evalOp C ρ hp nx (.extract x i) = (do let p ← ρ x; let r ← extractA i p; some (r, hp, nx)) := by
  simp only [evalOp]
  cases ρ x with
  | none => rfl
  | some p => cases p <;> (try rfl); simp [extractA]; rename_i vs; cases vs[i]? <;> rfl
@[simp] theorem op_alloc (t : TypeId) : evalOp C ρ hp nx (.alloc t) = (do let n ← sizeA C.P t; let z ← zeroA C.P t; if 0 < n ∧ z.length = n then some (.ref nx 0 0, upd hp nx (some ⟨t, n, false, [z]⟩), nx + 1) else none) := by
  simp only [evalOp]; cases sizeA C.P t <;> cases zeroA C.P t <;> rfl
@[simp] theorem op_box (t : TypeId) (x : Operand) : evalOp C ρ hp nx (.box t x) = (do let n ← sizeA C.P t; let y ← ρ x; if 0 < n ∧ y.cells.length = n ∧ y.cells.all PV.isCell = true then some (.ref nx 0 0, upd hp nx (some ⟨t, n, false, [y.cells]⟩), nx + 1) else none) := by
  simp only [evalOp]; cases sizeA C.P t <;> cases ρ x <;> rfl
@[simp] theorem op_build (t : TypeId) (ps : Array (Nat × Operand)) : evalOp C ρ hp nx (.build t ps) = (do let q ← partsA ρ ps.toList; let r ← buildA C.P t q; some (r, hp, nx)) := by
  simp only [evalOp]; cases partsA ρ ps.toList <;> (try rfl); simp; cases buildA C.P t _ <;> rfl
@[simp] theorem op_buildSlice (t : TypeId) (n : Nat) (ps : Array (Nat × Operand)) : evalOp C ρ hp nx (.buildSlice t n ps) = (do let q ← partsA ρ ps.toList; buildSliceA C.P hp nx t n q) := by
  simp only [evalOp]; cases partsA ρ ps.toList <;> rfl
@[simp] theorem op_makeFunc (f : Fn) (a b : Array Operand) : evalOp C ρ hp nx (.makeFunc f a b) = (do let p ← allSome (a.toList.map ρ); let q ← allSome (b.toList.map ρ); some (.fn f p q, hp, nx)) := by
  simp only [evalOp]; cases allSome (a.toList.map ρ) <;> cases allSome (b.toList.map ρ) <;> rfl
@[simp] theorem op_call (f : Operand) (args : Array Operand) (ts : Array TypeId) : evalOp C ρ hp nx (.call { callee := .value f, args := args, argTypes := ts }) = (do let xs ← allSome (args.toList.map ρ); callVal C hp nx (ρ f) xs) := by
  simp only [evalOp, evalCall]; cases allSome (args.toList.map ρ) <;> rfl
@[simp] theorem op_builtin (b : Builtin) (args : Array Operand) (ts : Array TypeId) : evalOp C ρ hp nx (.call { callee := .builtin b, args := args, argTypes := ts }) = (do let xs ← allSome (args.toList.map ρ); evalBuiltin C.P hp nx ts b xs) := by
  simp only [evalOp, evalCall]; cases allSome (args.toList.map ρ) <;> rfl
end

@[simp] theorem allSome_nil {α : Type} : allSome ([] : List (Option α)) = some [] := rfl
@[simp] theorem allSome_cons {α : Type} (x : α) (l : List (Option α)) : allSome (some x :: l) = (allSome l).map (x :: ·) := rfl
@[simp] theorem parts_nil (ρ : Operand → Option PV) : partsA ρ [] = some [] := rfl
@[simp] theorem parts_cons (ρ : Operand → Option PV) (i : Nat) (x : Operand) (l : List (Nat × Operand)) : partsA ρ ((i, x) :: l) = (do let p ← ρ x; let r ← partsA ρ l; some ((i, p) :: r)) := by
  simp only [partsA]; cases ρ x <;> cases partsA ρ l <;> rfl
theorem callVal_fn (C : Ctx) (hp : Hp) (nx g : Nat) (first captured xs : List PV) (spec : AM.Spec) (h : C.Γ g = some spec) : callVal C hp nx (some (.fn (.func g) first captured)) xs = spec (first ++ xs ++ captured) hp nx := by simp [callVal, h]

section
variable (P : Program) (hp : Hp) (nx : Nat) (t : TypeId)
@[simp] theorem bin_int (op : BinOp) (k : IntKind) (a b : Int) : binA P op t (.v (.int k a)) (.v (.int k b)) = intA op k a b := by simp [binA]
@[simp] theorem bin_str (op : BinOp) (a b : ByteArray) : binA P op t (.v (.string a)) (.v (.string b)) = strA op a b := rfl
theorem bin_agg (op : BinOp) (xs ys : List PV) : binA P op t (.agg xs) (.agg ys) = match flatA P t with
    | some ks => match op with
      | .eql => (eqCells ks xs ys).map fun r => .v (.bool r)
      | .neq => (eqCells ks xs ys).map fun r => .v (.bool !r)
      | _ => none
    | none => none := rfl
@[simp] theorem un_not (b : Bool) : unA .not (.v (.bool b)) = some (.v (.bool !b)) := rfl
@[simp] theorem un_neg (k : IntKind) (n : Int) : unA .neg (.v (.int k n)) = some (.v (.int k (k.wrap (0 - n)))) := rfl
@[simp] theorem load_ptr (cs : List PV) : loadA P hp t (.ptr cs) = readCells P t cs := rfl
@[simp] theorem load_ref (id i j : Nat) : loadA P hp t (.ref id i j) = (do let b ← hp id; let c ← b.es[i]?; readCells P t (c.drop j)) := by
  simp only [loadA]; cases hp id with
  | none => rfl
  | some b => simp; cases b.es[i]? <;> rfl
@[simp] theorem fieldAddr_ptr (f : Nat) (cs : List PV) : fieldAddrA P t f (.ptr cs) = (do let q ← fieldA P t f; if q.2.1 = 0 then none else some (.ptr (cs.drop q.1))) := by
  simp only [fieldAddrA]; cases fieldA P t f <;> rfl
@[simp] theorem fieldAddr_ref (f id i j : Nat) : fieldAddrA P t f (.ref id i j) = (do let q ← fieldA P t f; if q.2.1 = 0 then none else some (.ref id i (j + q.1))) := by
  simp only [fieldAddrA]; cases fieldA P t f <;> rfl
@[simp] theorem len_str (s : ByteArray) : lenA P t (.v (.string s)) = match P.underlying t with | some .string => some (.v (.int .i64 s.size)) | _ => none := rfl
@[simp] theorem len_sl (s : Nat) (es : List (List PV)) : lenA P t (.sl s es) = (elemA P t).map fun _ => .v (.int .i64 es.length) := rfl
@[simp] theorem len_nil : lenA P t .nil = (elemA P t).map fun _ => .v (.int .i64 0) := rfl
@[simp] theorem len_own (id off n : Nat) : lenA P t (.own id off n) = (elemA P t).map fun _ => .v (.int .i64 n) := rfl
theorem arr_other (i : Int) (x : PV) (h1 : ∀ cs, x ≠ .ptr cs) (h2 : ∀ a b c, x ≠ .ref a b c) : indexArrA P t i x = none := by
  unfold indexArrA
  split
  · split
    · split
      · split
        · exact absurd rfl (h1 _)
        · exact absurd rfl (h2 _ _ _)
        · rfl
      · rfl
    · rfl
  · rfl
@[simp] theorem index_sl (s : Nat) (es : List (List PV)) (k : IntKind) (i : Int) : indexAddrA P hp t (.sl s es) (.v (.int k i)) = (do let e ← elemA P t; let n ← sizeA P e; if s = n ∧ 0 < n ∧ 0 ≤ i then (es[i.toNat]?).map .ptr else none) := by
  simp only [indexAddrA]; cases elemA P t with
  | none => exact (arr_other P t i _ (fun _ => by simp) (fun _ _ _ => by simp)).trans rfl
  | some e => simp; cases sizeA P e <;> rfl
@[simp] theorem index_own (id off n : Nat) (k : IntKind) (i : Int) : indexAddrA P hp t (.own id off n) (.v (.int k i)) = (do let e ← elemA P t; let m ← sizeA P e; let b ← hp id; if b.e = e ∧ 0 < m ∧ 0 ≤ i ∧ i.toNat < n then some (.ref id (off + i.toNat) 0) else none) := by
  simp only [indexAddrA]; cases elemA P t with
  | none => exact (arr_other P t i _ (fun _ => by simp) (fun _ _ _ => by simp)).trans rfl
  | some e => simp; cases sizeA P e <;> (try rfl); simp; cases hp id <;> rfl
theorem index_aptr (cs : List PV) (k : IntKind) (i : Int) (h : elemA P t = none) : indexAddrA P hp t (.ptr cs) (.v (.int k i)) = indexArrA P t i (.ptr cs) := by simp only [indexAddrA, h]
theorem index_aref (id a b : Nat) (k : IntKind) (i : Int) (h : elemA P t = none) : indexAddrA P hp t (.ref id a b) (.v (.int k i)) = indexArrA P t i (.ref id a b) := by simp only [indexAddrA, h]
end

@[simp] theorem blt_len (P : Program) (hp : Hp) (nx : Nat) (ts : Array TypeId) (x : PV) : evalBuiltin P hp nx ts .len [x] = (do let t ← ts[0]?; let y ← lenA P t x; some (y, hp, nx)) := by
  simp only [evalBuiltin]; cases ts[0]? with
  | none => rfl
  | some t => simp; cases lenA P t x <;> rfl
@[simp] theorem blt_min (P : Program) (hp : Hp) (nx : Nat) (ts : Array TypeId) (xs : List PV) : evalBuiltin P hp nx ts .min xs = (minA xs).map fun y => (y, hp, nx) := rfl
@[simp] theorem blt_max (P : Program) (hp : Hp) (nx : Nat) (ts : Array TypeId) (xs : List PV) : evalBuiltin P hp nx ts .max xs = (maxA xs).map fun y => (y, hp, nx) := rfl
@[simp] theorem blt_append (P : Program) (hp : Hp) (nx : Nat) (ts : Array TypeId) (s x : PV) : evalBuiltin P hp nx ts .append [s, x] = (do let t ← ts[0]?; let u ← ts[1]?; appendA P hp nx t u s x) := by
  simp only [evalBuiltin]; cases ts[0]? <;> cases ts[1]? <;> rfl
@[simp] theorem blt_clear (P : Program) (hp : Hp) (nx : Nat) (ts : Array TypeId) (x : PV) : evalBuiltin P hp nx ts .clear [x] = (do let t ← ts[0]?; clearA P hp nx t x) := by
  simp only [evalBuiltin]; cases ts[0]? <;> rfl
@[simp] theorem blt_copy (P : Program) (hp : Hp) (nx : Nat) (ts : Array TypeId) (s x : PV) : evalBuiltin P hp nx ts .copy [s, x] = (do let t ← ts[0]?; copyA P hp nx t s x) := by
  simp only [evalBuiltin]; cases ts[0]? <;> rfl
attribute [simp] minA minFrom maxA maxFrom intA strA setCells resultsA resultA
@[simp] theorem cells_agg (cs : List PV) : PV.cells (.agg cs) = cs := rfl
@[simp] theorem cells_tup (cs : List PV) : PV.cells (.tup cs) = [.tup cs] := rfl
@[simp] theorem cells_v (x : Value) : PV.cells (.v x) = [.v x] := rfl
@[simp] theorem cells_nil : PV.cells .nil = [.nil] := rfl
@[simp] theorem cells_em : PV.cells .em = [.em] := rfl
@[simp] theorem cells_sl (s : Nat) (es : List (List PV)) : PV.cells (.sl s es) = [.sl s es] := rfl
@[simp] theorem cells_ptr (cs : List PV) : PV.cells (.ptr cs) = [.ptr cs] := rfl
@[simp] theorem cells_own (i o n : Nat) : PV.cells (.own i o n) = [.own i o n] := rfl
@[simp] theorem cells_ref (i o n : Nat) : PV.cells (.ref i o n) = [.ref i o n] := rfl
@[simp] theorem cells_fn (f : Fn) (a b : List PV) : PV.cells (.fn f a b) = [.fn f a b] := rfl
@[simp] theorem isCell_v (x : Value) : PV.isCell (.v x) = true := rfl
@[simp] theorem isCell_nil : PV.isCell .nil = true := rfl
@[simp] theorem isCell_em : PV.isCell .em = true := rfl
@[simp] theorem isCell_sl (s : Nat) (es : List (List PV)) : PV.isCell (.sl s es) = true := rfl
@[simp] theorem isCell_ptr (cs : List PV) : PV.isCell (.ptr cs) = true := rfl
@[simp] theorem isCell_own (i o n : Nat) : PV.isCell (.own i o n) = true := rfl
@[simp] theorem isCell_ref (i o n : Nat) : PV.isCell (.ref i o n) = true := rfl
@[simp] theorem isCell_fn (f : Fn) (a b : List PV) : PV.isCell (.fn f a b) = true := rfl
@[simp] theorem isCell_agg (cs : List PV) : PV.isCell (.agg cs) = false := rfl
@[simp] theorem isCell_tup (cs : List PV) : PV.isCell (.tup cs) = false := rfl

attribute [simp] freezeCell freezeVal freezeVals freezeCells AM.freeze PV.flat PV.isV PV.noOwn
@[simp] theorem cellOpen_own (i o n : Nat) : PV.cellOpen (.own i o n) = true := rfl
@[simp] theorem cellOpen_v (x : Value) : PV.cellOpen (.v x) = false := rfl
@[simp] theorem cellOpen_nil : PV.cellOpen .nil = false := rfl
@[simp] theorem cellOpen_em : PV.cellOpen .em = false := rfl
@[simp] theorem cellOpen_sl (s : Nat) (es : List (List PV)) : PV.cellOpen (.sl s es) = false := rfl
@[simp] theorem cellOpen_ptr (cs : List PV) : PV.cellOpen (.ptr cs) = false := rfl
@[simp] theorem cellOpen_ref (i o n : Nat) : PV.cellOpen (.ref i o n) = false := rfl
@[simp] theorem cellOpen_fn (f : Fn) (a b : List PV) : PV.cellOpen (.fn f a b) = false := rfl
@[simp] theorem upd_upd {α : Type} (f : Nat → α) (k : Nat) (x y : α) : upd (upd f k x) k y = upd f k y := by
  funext i; simp only [upd]; split <;> rfl
@[simp] theorem store_ref (P : Program) (hp : Hp) (t : TypeId) (id i j : Nat) (x : PV) : storeA P hp t (.ref id i j) x = (do
    let b0 ← hp id
    let q ← (if b0.arr = true then freezeVal hp x else some (x, hp))
    let b ← q.2 id
    let n ← sizeA P t
    let c ← b.es[i]?
    if q.1.cells.length = n ∧ j + n ≤ c.length ∧ q.1.cells.all PV.isCell = true then some (upd q.2 id (some ⟨b.e, b.s, b.arr, b.es.set i (setCells c j q.1.cells)⟩)) else none) := by
  simp only [storeA]
  cases hp id with
  | none => rfl
  | some b0 =>
    simp only [Option.bind_eq_bind, Option.bind_some]
    generalize (if b0.arr = true then freezeVal hp x else some (x, hp)) = o
    cases o with
    | none => rfl
    | some q =>
      obtain ⟨y, h1⟩ := q
      simp only [Option.bind_some]
      cases h1 id with
      | none => rfl
      | some b =>
        simp only [Option.bind_some]
        cases sizeA P t with
        | none => rfl
        | some n =>
          simp only [Option.bind_some]
          cases b.es[i]? <;> rfl

theorem pureR_eq (r x : PV) (hp : Hp) (nx : Nat) : pureR r x hp nx = ((AM.freeze hp x).map (·.1) = some r) := rfl
@[simp] theorem pureR_v (x y : Value) (hp : Hp) (nx : Nat) : pureR (.v y) (.v x) hp nx = (x = y) := by simp [pureR]

/-- The number in a slot. -/
def numAt : PV → Int
  | .v (.int _ n) => n
  | _ => 0
@[simp] theorem numAt_int (k : IntKind) (n : Int) : numAt (.v (.int k n)) = n := rfl

/-- Numbers that fit. -/
theorem wrap_fit {n : Int} (h1 : -9223372036854775808 ≤ n) (h2 : n ≤ 9223372036854775807) : IntKind.i64.wrap n = n := by rw [IntKind.wrap_i64]; omega

end Go.AM
namespace Go.AM
open Go.RowKit

open Classical in
/-- A model as a partial function on pure arguments: enc writes its arguments out, pre says where it speaks. -/
noncomputable def specOf {α β : Type} (enc : α → List PV) (pre : α → Prop) (out : α → β) : List PV → Option β := fun args =>
  if h : ∃ a, args = enc a ∧ pre a then some (out (Classical.choose h)) else none

theorem specOf_eq {α β : Type} {enc : α → List PV} {pre : α → Prop} {out : α → β} (inj : ∀ a b, enc a = enc b → a = b) {a : α} (h : pre a) : specOf enc pre out (enc a) = some (out a) := by
  have hex : ∃ b, enc a = enc b ∧ pre b := ⟨a, rfl, h⟩
  unfold specOf
  rw [dif_pos hex]
  have := Classical.choose_spec hex
  rw [← inj _ _ this.1]

theorem specOf_inv {α β : Type} {enc : α → List PV} {pre : α → Prop} {out : α → β} {args : List PV} {r : β} (h : specOf enc pre out args = some r) : ∃ a, args = enc a ∧ pre a ∧ r = out a := by
  unfold specOf at h
  split at h
  · rename_i hex
    injection h with h
    have := Classical.choose_spec hex
    exact ⟨_, this.1, this.2, h.symm⟩
  · cases h

abbrev Tab := List (Nat × AM.Spec)
def lookup : Tab → Nat → Option AM.Spec
  | [], _ => none
  | (k, s) :: l, g => if g = k then some s else lookup l g
@[simp] theorem lookup_cons (k : Nat) (s : AM.Spec) (l : Tab) (g : Nat) : lookup ((k, s) :: l) g = if g = k then some s else lookup l g := rfl
def mkCtx (P : Program) (l : Tab) : Ctx := ⟨P, lookup l, fun _ => [], fun _ => [], fun _ => false, fun _ => [], fun _ => none⟩
@[simp] theorem mkCtx_dyn (P : Program) (l : Tab) (i : Nat) : (mkCtx P l).dyn i = [] := rfl
@[simp] theorem EvC_region_mk (P : Program) (l : Tab) (i : Nat) (ops : Array Oper) (d : Bool) (st : St) (K : Exit → St → Prop) : EvC (mkCtx P l) (.region i ops d) st K = EvL (mkCtx P l) ops ops.toList st (normK K) := EvC_region _ i ops d st K rfl rfl
/-- With what is asked of regions that draw their order. -/
def mkCtxD (P : Program) (l : Tab) (dyn : Nat → List (Tmp × Tmp)) : Ctx := ⟨P, lookup l, dyn, fun _ => [], fun _ => false, fun _ => [], fun _ => none⟩
@[simp] theorem mkCtxD_P (P : Program) (l : Tab) (dyn : Nat → List (Tmp × Tmp)) : (mkCtxD P l dyn).P = P := rfl
@[simp] theorem mkCtx_P (P : Program) (l : Tab) : (mkCtx P l).P = P := rfl
@[simp] theorem call_mk (P : Program) (l : Tab) (hp : Hp) (nx g : Nat) (a b xs : List PV) : callVal (mkCtx P l) hp nx (some (.fn (.func g) a b)) xs = (lookup l g).bind fun s => s (a ++ xs ++ b) hp nx := by
  unfold callVal mkCtx
  simp only
  cases lookup l g <;> rfl

@[simp] theorem call_mkD (P : Program) (l : Tab) (dyn : Nat → List (Tmp × Tmp)) (hp : Hp) (nx g : Nat) (a b xs : List PV) : callVal (mkCtxD P l dyn) hp nx (some (.fn (.func g) a b)) xs = (lookup l g).bind fun s => s (a ++ xs ++ b) hp nx := by
  unfold callVal mkCtxD
  simp only
  cases lookup l g <;> rfl

def AllOk (P : Program) (q : List Nat) : Tab → Prop
  | [] => True
  | (g, s) :: l => SpecSound P g s ∧ (q.contains g = true → Quiet s) ∧ AllOk P q l

theorem good_of {P : Program} {l : Tab} {q : List Nat} (hm : P.follows .mixedOrders = true) (h : AllOk P q l) : Good (mkCtx P l) (fun g => q.contains g) := by
  have key : ∀ (l : Tab), AllOk P q l → ∀ g s, lookup l g = some s → SpecSound P g s ∧ (q.contains g = true → Quiet s) := by
    intro l
    induction l with
    | nil => intro _ g s h; cases h
    | cons x l ih =>
      obtain ⟨k, sp⟩ := x
      rintro ⟨h1, h2, h3⟩ g s hs
      simp only [lookup_cons] at hs
      split at hs
      · rename_i hgk
        injection hs with hs
        subst hs
        subst hgk
        exact ⟨h1, h2⟩
      · exact ih h3 g s hs
  exact ⟨fun g s hs => (key l h g s hs).1, fun g s hq hs => (key l h g s hs).2 hq, hm, (fun _ _ h => by cases h), (fun _ _ h => by cases h)⟩

theorem good_ofD {P : Program} {l : Tab} {q : List Nat} (dyn : Nat → List (Tmp × Tmp)) (hm : P.follows .mixedOrders = true) (h : AllOk P q l) : Good (mkCtxD P l dyn) (fun g => q.contains g) :=
  let g := good_of hm h
  ⟨g.spec, g.quiet, g.mixed, (fun _ _ h => by cases h), (fun _ _ h => by cases h)⟩

/-- A pure function's outcome, nil taken for no elements. -/
def pureN (r : PV) (x : PV) (hp : Hp) (_ : Nat) : Prop := ∃ r0, (AM.freeze hp x).map (·.1) = some r0 ∧ NilUp r0 r
theorem evalPureN_of {C : Ctx} {fn : Func} {code : Code} {args : List PV} {r : PV} (hb : fn.body = some code)
    (h : EvC C code ⟨startσ args, fun _ => none, 0⟩ (retK C.P fn (pureN r))) : ∃ r0, evalPure C fn args = some r0 ∧ NilUp r0 r := by
  obtain ⟨x, hp', nx', h1, r0, h2, h3⟩ := evalFunc_of hb h
  exact ⟨r0, by unfold evalPure; simp only [h1]; exact h2, h3⟩
theorem up1_rfl (x : PV) : NilUp1 x x := .inl rfl
theorem up_of (x : PV) : NilUp x x := by
  unfold NilUp
  split
  · exact ⟨rfl, fun j x y hx hy => by rw [hx] at hy; injection hy with hy; exact .inl hy⟩
  · exact .inl rfl
@[simp] theorem pureN_v (x y : Value) (hp : Hp) (nx : Nat) : pureN (.v y) (.v x) hp nx = (x = y) := by
  simp only [pureN, AM.freeze, freezeVal, freezeCell, Option.map_some, Option.some.injEq, exists_eq_left', NilUp, NilUp1]
  simp
theorem evalFuncR_of {C : Ctx} {fn : Func} {code : Code} {args : List PV} {hp : Hp} {nx : Nat} {r : Option Blk} (hb : fn.body = some code)
    (h : EvC C code ⟨startσ args, hp, nx⟩ (retK C.P fn (OwnR r))) : ∃ x hp' nx', evalFunc C fn args hp nx = some (x, hp', nx') ∧ OwnR r x hp' nx' := evalFunc_of hb h

/-- A slice that the function itself builds: nil so far, or a block of its own. -/
def OwnS (hp : Hp) (nx : Nat) (e s : Nat) (v : PV) (xs : List (List PV)) : Prop := (v = .nil ∧ xs = []) ∨ ∃ id, id < nx ∧ v = .own id 0 xs.length ∧ hp id = some ⟨e, s, true, xs⟩
def killV (v : PV) (hp : Hp) : Hp := match v with
  | .own id _ _ => upd hp id none
  | _ => hp
theorem OwnS.nil (hp : Hp) (nx e s : Nat) : OwnS hp nx e s .nil [] := .inl ⟨rfl, rfl⟩
theorem OwnS.own {hp : Hp} {nx e s id : Nat} {xs : List (List PV)} (h1 : id < nx) (h2 : hp id = some ⟨e, s, true, xs⟩) : OwnS hp nx e s (.own id 0 xs.length) xs := .inr ⟨id, h1, rfl, h2⟩
theorem OwnS.len {P : Program} {hp : Hp} {nx e s : Nat} {v : PV} {xs : List (List PV)} {t : TypeId} (h : OwnS hp nx e s v xs) (ht : elemA P t = some e) : lenA P t v = some (.v (.int .i64 xs.length)) := by
  rcases h with ⟨rfl, rfl⟩ | ⟨id, _, rfl, _⟩ <;> simp [ht]
theorem OwnS.view {hp : Hp} {nx e s : Nat} {v : PV} {xs : List (List PV)} (h : OwnS hp nx e s v xs) : view hp s v = some xs := by
  rcases h with ⟨rfl, rfl⟩ | ⟨id, _, rfl, h⟩ <;> simp [AM.view, *]

/-- append of one element. -/
theorem OwnS.append1 {P : Program} {hp : Hp} {nx e s by_ : Nat} {v : PV} {xs : List (List PV)} {c z : List PV} {t : TypeId} (h : OwnS hp nx e s v xs) (ht : elemA P t = some e) (hs : sizeA P e = some s) (hb : bytesA P e = some by_) (hz : zeroA P e = some z)
    (hzl : z.length = s) (h0 : 0 < s) (h1 : xs.length + 1 ≤ maxLen) (h2 : (xs.length + 1) * by_ ≤ 140737488355328) :
    appendA P (upd hp nx (some ⟨e, s, true, [c]⟩)) (nx + 1) t t v (.own nx 0 1) =
      some (.own (nx + 1) 0 (xs.length + 1), upd (killV v (upd hp nx (some ⟨e, s, true, [c]⟩))) (nx + 1) (some ⟨e, s, true, xs ++ [c]⟩), nx + 2) := by
  rcases h with ⟨rfl, rfl⟩ | ⟨id, hid, rfl, hh⟩
  · simp at h1 h2
    simp [appendA, ht, hs, hb, hz, hzl, h0, h1, h2, AM.view, killV]
  · have hne : ¬ id = nx := by omega
    simp [appendA, ht, hs, hb, hz, hzl, h0, h1, h2, AM.view, killV, hne, hh]
theorem OwnS.after {hp : Hp} {nx e s : Nat} {v : PV} {xs : List (List PV)} {c : List PV} {tmp : Option Blk} : OwnS (upd (killV v (upd hp nx tmp)) (nx + 1) (some ⟨e, s, true, xs ++ [c]⟩)) (nx + 2) e s (.own (nx + 1) 0 (xs.length + 1)) (xs ++ [c]) :=
  .inr ⟨nx + 1, by omega, by simp, by simp⟩
/-- What else is live stays so. -/
theorem killV_other {hp : Hp} {nx e s : Nat} {v : PV} {xs : List (List PV)} (h : OwnS hp nx e s v xs) (hp' : Hp) (id : Nat) (hne : ∀ n, v ≠ .own id 0 n) : killV v hp' id = hp' id := by
  rcases h with ⟨rfl, rfl⟩ | ⟨k, hk, rfl, hh⟩
  · rfl
  · have : ¬ id = k := fun e => hne _ (by rw [e])
    simp [killV, this]
/-- Its end as a result. -/
theorem OwnS.ret {hp : Hp} {nx e s : Nat} {v : PV} {xs : List (List PV)} (h : OwnS hp nx e s v xs) (nx' : Nat) : OwnR (match v with | .nil => none | _ => some ⟨e, s, true, xs⟩) v hp nx' := by
  rcases h with ⟨rfl, rfl⟩ | ⟨id, hid, rfl, hh⟩
  · rfl
  · exact ⟨id, rfl, hh, rfl⟩
theorem OwnS.freeze {hp : Hp} {nx e s : Nat} {v : PV} {xs : List (List PV)} (h : OwnS hp nx e s v xs) (nx' : Nat) : pureN (.sl s xs) v hp nx' := by
  rcases h with ⟨rfl, rfl⟩ | ⟨id, hid, rfl, hh⟩
  · exact ⟨.nil, by simp, .inr ⟨rfl, s, rfl⟩⟩
  · exact ⟨.sl s xs, by simp [hh], up_of _⟩
/-- As one of two results. -/
theorem OwnS.freeze2 {hp : Hp} {nx e s : Nat} {v : PV} {xs : List (List PV)} (h : OwnS hp nx e s v xs) (y : Value) (nx' : Nat) : pureN (.tup [.sl s xs, .v y]) (.tup [v, .v y]) hp nx' := by
  rcases h with ⟨rfl, rfl⟩ | ⟨id, hid, rfl, hh⟩
  · refine ⟨.tup [.nil, .v y], by simp, rfl, fun j a b ha hb => ?_⟩
    match j, ha, hb with
    | 0, ha, hb => simp at ha hb; subst ha; subst hb; exact .inr ⟨rfl, s, rfl⟩
    | 1, ha, hb => simp at ha hb; subst ha; subst hb; exact .inl rfl
    | j + 2, ha, hb => simp at ha
  · exact ⟨.tup [.sl s xs, .v y], by simp [hh], up_of _⟩

theorem map_inj {α β : Type} {f : α → β} (h : ∀ a b, f a = f b → a = b) : ∀ {xs ys : List α}, xs.map f = ys.map f → xs = ys
  | [], [], _ => rfl
  | [], y :: ys, e => by simp at e
  | x :: xs, [], e => by simp at e
  | x :: xs, y :: ys, e => by
    simp at e
    rw [h x y e.1, map_inj h e.2]

/-- A loop that counts: I k holds at the head of round k. -/
def forK (I : Nat → (Nat → PV) → Hp → Nat → Prop) (n k : Nat) (K : Exit → St → Prop) (e : Exit) (st : St) : Prop := match e with
  | .normal => k + 1 ≤ n ∧ I (k + 1) st.σ st.hp st.nx
  | e => K e st
@[simp] theorem forK_normal (I : Nat → (Nat → PV) → Hp → Nat → Prop) (n k : Nat) (K : Exit → St → Prop) (st : St) : forK I n k K .normal st = (k + 1 ≤ n ∧ I (k + 1) st.σ st.hp st.nx) := rfl
@[simp] theorem forK_ret (I : Nat → (Nat → PV) → Hp → Nat → Prop) (n k : Nat) (K : Exit → St → Prop) (st : St) : forK I n k K .ret st = K .ret st := rfl
@[simp] theorem forK_exit (I : Nat → (Nat → PV) → Hp → Nat → Prop) (n k i : Nat) (K : Exit → St → Prop) (st : St) : forK I n k K (.exit i) st = K (.exit i) st := rfl
theorem EvC_for {C : Ctx} {b : Code} {st : St} {K : Exit → St → Prop} (I : Nat → (Nat → PV) → Hp → Nat → Prop) (n : Nat) (h0 : I 0 st.σ st.hp st.nx)
    (round : ∀ k σ hp nx, k ≤ n → I k σ hp nx → EvC C b ⟨σ, hp, nx⟩ (forK I n k K)) : EvC C (.loop b) st K := by
  have key : ∀ d k st, n - k = d → k ≤ n → I k st.σ st.hp st.nx → EvC C (.loop b) st K := by
    intro d
    induction d with
    | zero =>
      intro k st hd hk hI
      rw [EvC_loop_unfold]
      refine (round k st.σ st.hp st.nx hk hI).mono fun e st' h => ?_
      cases e
      case normal => have := h.1; omega
      all_goals exact h
    | succ d ih =>
      intro k st hd hk hI
      rw [EvC_loop_unfold]
      refine (round k st.σ st.hp st.nx hk hI).mono fun e st' h => ?_
      cases e
      case normal => exact ih (k + 1) st' (by omega) h.1 h.2
      all_goals exact h
  exact key _ 0 st rfl (Nat.zero_le _) h0

end Go.AM
namespace Go.AM
open Go.RowKit

abbrev str (l : List UInt8) : PV := .v (.string ⟨l.toArray⟩)
theorem str_eq (s : ByteArray) : PV.v (.string s) = str s.data.toList := by
  obtain ⟨a⟩ := s
  simp
@[simp] theorem bsize (l : List UInt8) : (ByteArray.mk l.toArray).size = l.length := by simp [ByteArray.size]
@[simp] theorem bget (l : List UInt8) (i : Nat) : (ByteArray.mk l.toArray)[i]? = l[i]? := by
  by_cases h : i < l.length
  · rw [getElem?_pos (ByteArray.mk l.toArray) i (by simpa using h), List.getElem?_eq_getElem h]; rfl
  · rw [getElem?_neg (ByteArray.mk l.toArray) i (by simpa using h), List.getElem?_eq_none (by omega)]
@[simp] theorem bextract (l : List UInt8) (a b : Nat) : (ByteArray.mk l.toArray).extract a b = ⟨((l.drop a).take (b - a)).toArray⟩ := by
  have h := Lib.extract_data (ByteArray.mk l.toArray) a b
  rw [ByteArray.ext_iff]
  apply Array.toList_inj.1
  rw [h]
@[simp] theorem bappend (a b : List UInt8) : ByteArray.mk a.toArray ++ ByteArray.mk b.toArray = ⟨(a ++ b).toArray⟩ := by
  rw [ByteArray.ext_iff]
  apply Array.toList_inj.1
  simp [ByteArray.data_append]
@[simp] theorem btoList (l : List UInt8) : (ByteArray.mk l.toArray).toList = l := by rw [Lib.toList_data]
theorem str_inj {a b : List UInt8} (h : str a = str b) : a = b := by
  injection h with h; injection h with h; injection h with h
  simpa using congrArg Array.toList h
@[simp] theorem str_inj_iff (a b : List UInt8) : (str a = str b) = (a = b) := propext ⟨str_inj, fun h => by rw [h]⟩

@[simp] theorem index_str (P : Program) (t : TypeId) (l : List UInt8) (k : IntKind) (i : Int) (h : P.underlying t = some .string) : indexA P t (.v (.string ⟨l.toArray⟩)) (.v (.int k i)) =
    if 0 ≤ i then (l[i.toNat]?).map fun b => .v (.int .u8 b.toNat) else none := by
  simp only [indexA, h, bget]
  split
  · cases l[i.toNat]? <;> rfl
  · rfl
@[simp] theorem slice_str (P : Program) (hp : Hp) (t : TypeId) (l : List UInt8) (lo hi : Option (Option PV)) (h : P.underlying t = some .string) : sliceA P hp t (.v (.string ⟨l.toArray⟩)) lo hi =
    (boundA 0 lo).bind fun a => (boundA l.length hi).bind fun b => if a ≤ b ∧ b ≤ l.length then some (str ((l.drop a).take (b - a))) else none := by
  simp only [sliceA, h, bsize, bextract]
  cases boundA 0 lo <;> (try rfl)
  cases boundA l.length hi <;> rfl
attribute [simp] boundA
@[simp] theorem bin_bool_eql (P : Program) (t : TypeId) (a b : Bool) (h : P.underlying t = some .bool) : binA P .eql t (.v (.bool a)) (.v (.bool b)) = some (.v (.bool (a == b))) := by simp [binA, h]
@[simp] theorem bin_bool_neq (P : Program) (t : TypeId) (a b : Bool) (h : P.underlying t = some .bool) : binA P .neq t (.v (.bool a)) (.v (.bool b)) = some (.v (.bool (!(a == b)))) := by simp [binA, h]
@[simp] theorem conv_int (P : Program) (s d : TypeId) (k : IntKind) (n : Int) : convA P s d (.v (.int k n)) = (P.underlying s).bind fun _ => (P.underlying d).bind fun u => match u with | .int k' => some (.v (.int k' (k'.wrap n))) | _ => none := by
  simp only [convA]
  cases P.underlying s <;> (try rfl)
  cases P.underlying d <;> (try rfl)
  rename_i u
  cases u <;> rfl

theorem wn (n : Nat) (h : n ≤ 9223372036854775807) : IntKind.i64.wrap (n : Int) = n := wrap_fit (by omega) (by omega)
theorem u8_eq (a b : UInt8) : ((a.toNat : Int) == (b.toNat : Int)) = decide (a = b) := by
  rw [Bool.eq_iff_iff]; simp [← UInt8.toNat_inj]; omega

/-- Splitting at a guard that is not known. -/
theorem guard_split {C : Ctx} {d : Option Tmp} {op : Op} {st : St} {y b : Bool} {K : St → Prop} (h1 : y = b → bindK ((evalOp C (get st.σ) st.hp st.nx op).map fun r => (⟨put st.σ d r.1, r.2.1, r.2.2⟩ : St)) K) (h2 : y = !b → K ⟨put st.σ d (.tup []), st.hp, st.nx⟩) :
    bindK (guardA C d op st (some y) b) K := by
  by_cases h : y = b
  · subst h; simpa using h1 rfl
  · have : y = !b := by cases y <;> cases b <;> simp_all
    subst this
    have h2 := h2 rfl
    cases b <;> simpa using h2
theorem pick_split {α : Type} {y : Bool} {a b : Option PV} {f : PV → Option α} {K : α → Prop} (h1 : y = true → bindK ((pickA (some (.v (.bool true))) a b).bind f) K) (h2 : y = false → bindK ((pickA (some (.v (.bool false))) a b).bind f) K) :
    bindK ((pickA (some (.v (.bool y))) a b).bind f) K := by
  cases y
  · exact h2 rfl
  · exact h1 rfl

theorem hPure_v {F : List PV → Option PV} {ns : List Nat} {kill : Bool} {args as : List PV} {hp hp1 : Hp} {nx : Nat} {r : PV} (h1 : freezeVals hp args = some (as, hp1)) (h2 : F (normArgs ns as) = some r) (h3 : r.flat = true ∨ args.all PV.noOwn = true) :
    hPure kill ns F args hp nx = some (r, hp, nx) := by
  unfold hPure
  simp only [h1, h2, h3, if_true]
theorem pint_inj {k : IntKind} {a b : Int} (h : PV.v (.int k a) = .v (.int k b)) : a = b := by
  injection h with h; injection h
theorem pbool_inj {a b : Bool} (h : PV.v (.bool a) = .v (.bool b)) : a = b := by
  injection h with h; injection h
/-- What follows, not looked into before its argument is known. -/
def compK {α β : Type} (f : α → β) (K : β → Prop) (x : α) : Prop := K (f x)
def bindC {α β : Type} (f : α → Option β) (K : β → Prop) (x : α) : Prop := bindK (f x) K
@[simp] theorem compK_app {α β : Type} (f : α → β) (K : β → Prop) (x : α) : compK f K x = K (f x) := rfl
@[simp] theorem bindC_app {α β : Type} (f : α → Option β) (K : β → Prop) (x : α) : bindC f K x = bindK (f x) K := rfl
@[simp] theorem bindK_map {α β : Type} (f : α → β) (o : Option α) (K : β → Prop) : bindK (o.map f) K = bindK o (compK f K) := by
  cases o <;> simp [bindK]
@[simp] theorem bindK_bind {α β : Type} (f : α → Option β) (o : Option α) (K : β → Prop) : bindK (o.bind f) K = bindK o (bindC f K) := by
  cases o <;> simp [bindK]
/-- A function whose text is known. -/
def KnownF (C : Ctx) (pf : FuncId → Bool) (f : FuncId) (fn : Func) : Prop := ∃ code, Known C pf f fn code
theorem pureS {C : Ctx} {pf : FuncId → Bool} {f : FuncId} {fn : Func} (hg : AM.Good C pf) (hk : KnownF C pf f fn) (kill : Bool) (ns : List Nat) (F : List PV → Option PV) (hF : ∀ args r, F args = some r → args.length ≤ fn.ntmps ∧ ∃ r0, evalPure C fn args = some r0 ∧ NilUp r0 r) : SpecSound C.P f (hPure kill ns F) :=
  let ⟨_, hk⟩ := hk
  hPure_sound hg hk kill ns F hF
theorem bindK_show {α : Type} {o : Option α} {K : α → Prop} (x : α) (h : o = some x) (hk : K x) : bindK o K := ⟨x, h, hk⟩

/-- A function that is run in place, on what is live. -/
noncomputable def hRun (C : Ctx) (fn : Func) : AM.Spec := fun args hp nx => if args.length ≤ fn.ntmps then evalFunc C fn args hp nx else none
theorem hRun_sound {C : Ctx} {pf : FuncId → Bool} {f : FuncId} {fn : Func} {code : Code} (hg : Good C pf) (hk : Known C pf f fn code) : SpecSound C.P f (hRun C fn) := by
  refine ⟨⟨fn, hk.func, hk.name, by rw [hk.body]; rfl⟩, ?_⟩
  intro args hp nx r hp' nx' h w S G vs hi hz
  unfold hRun at h
  split at h
  · rename_i hn
    exact func_calls hg.spec hg.quiet hg.box hg.iter hg.mixed hk.func hk.body hk.ok h hi hz hn
  · cases h
end Go.AM
namespace Go.AM
open Go.RowKit Go.WideShapes Go.ChangeShapes

section
variable {H : Type} {enc : TypeId × Value → H} {P : Program}

theorem trodAll_stays (hl : laidOutB P = true) {W W' : World} (hb : Below W.heap.size W W') {sp : Nat → Bool} : ∀ {ts : List TypeId} {vs : List Value} {ds : List (DataW H)} {ps : List MemPlace}, (∀ t ∈ ts, P.readableRec t = true ∧ t < P.types.size) →
    DataW.TrodAll enc P W 0 (fun _ => true) true ts vs ds ps → (∀ p ∈ ps, p.block < W.heap.size) → (∀ p ∈ ps, sp p.block = true) → DataW.TrodAll enc P W' 0 sp true ts vs ds ps
  | [], vs, ds, ps, _, h, _, _ => by
    obtain ⟨rfl, rfl, rfl⟩ := trodAll_nil h
    exact trodAll_mk0
  | t :: ts, vs, ds, ps, ht, h, hlt, hsp => by
    obtain ⟨v, vs', d, ds', p, q, rfl, rfl, rfl, h0, h1⟩ := trodAll_cons h
    exact trodAll_cons_mk (WideElems.Trod_stays hl (ht t (by simp)).1 (ht t (by simp)).2 h0 (fun x hx => hb.same (hlt x (by simp [hx]))) (fun x hx => hsp x (by simp [hx])))
      (trodAll_stays hl hb (fun u hu => ht u (by simp [hu])) h1 (fun x hx => hlt x (by simp [hx])) (fun x hx => hsp x (by simp [hx])))

/-- A law that answers true and leaves all that was there alone. -/
theorem law_post {f : Func} {s : ChangeSpec} {apart fresh handsOn again : Bool} {W W' : World} {args : Array Value} {ds gs : List (DataW H)} {before : List MemPlace} (hl : laidOutB P = true) (hT : ∀ t ∈ f.params.toList, P.readableRec t = true ∧ t < P.types.size)
    (hv : s.vars = []) (hW : DataW.Whole enc P f.params.toList s.vars apart W args.toList ds gs before) (hfn : s.fn H ds = { results := [.lit (.bool true)], args := ds }) {tb : TypeId} (hr : f.resultTypes = #[tb]) (hub : P.underlying tb = some .bool) (hb : Below W.heap.size W W') :
    s.post enc P f apart fresh handsOn again W args (.bool true) W' := by
  have hlt : ∀ p ∈ before, p.block < W.heap.size := fun p hp => hW.lt p hp
  have hW' := hW
  obtain ⟨p, q, hA, hV, hpq, hz, hn⟩ := hW
  rw [hv] at hV
  obtain ⟨rfl, rfl⟩ := trodVars_none hV
  simp only [List.append_nil] at hpq
  subst hpq
  have hA' : DataW.TrodAll enc P W 0 (fun _ => true) true f.params.toList args.toList ds before := hA
  have hargs : ∀ sp : Nat → Bool, (∀ p ∈ before, sp p.block = true) → DataW.TrodAll enc P W' 0 sp true f.params.toList args.toList ds before := fun sp hsp => trodAll_stays hl hb hT hA' hlt hsp
  have hold : ∀ p ∈ before, (fun b => decide (b < W.heap.size)) p.block = true := fun p hp => by simpa using hlt p hp
  have hres : ∀ (b : Nat) (sp : Nat → Bool) (hd : Bool), DataW.TrodAll enc P W' b sp hd f.resultTypes.toList ((Value.bool true).resultList f.resultTypes.size) [.lit (.bool true)] [] := fun b sp hd => by
    rw [hr]
    exact trodAll_cons_mk (shut_bool hub _) trodAll_mk0
  have hvars : ∀ sp, DataW.TrodVars enc P W' sp s.vars [] [] := fun sp => by rw [hv]; rfl
  refine ⟨ds, [], before, [], before, [], by simpa using hW', ?_, ?_, ?_, World.keptBut_mono (fun p hp => ⟨hp, .inr (.inl hp)⟩) (hb.frame (· ∈ before)), fun _ => ?_⟩
  · rw [List.append_nil, hfn]; exact hres _ _ _
  · rw [List.append_nil, hfn]; exact hargs _ hold
  · rw [List.append_nil, hfn]; exact hvars _
  · refine ⟨ok_one hr rfl (okWide_bool_mk hub _), _, _, ([] ++ before) ++ [], ⟨[] ++ before, [], trodAll_append (hargs _ (fun _ _ => rfl)) (hres _ _ _), hvars _, rfl, ?_, ?_⟩, ?_⟩
    · intro b off hp
      have hin : MemPlace.cell b off ∈ before := by simpa using hp
      rw [hb.frozen (hlt _ hin)]
      exact hz b off (by simpa using hin)
    · intro ha
      have := hn ha
      simpa using this
    · intro p hp _
      simpa using hp
end
end Go.AM
namespace Go.AM
open Go.RowKit

/-- Operations that leave what is live alone. -/
def pureOp : Op → Bool
  | .move _ | .assign _ | .pick _ _ _ | .load _ _ | .binOp _ _ _ _ _ | .unOp _ _ _ | .convert _ _ _ | .fieldAddr _ _ _ | .field _ _ _ | .indexAddr _ _ _ | .index _ _ _ | .extract _ _ => true
  | .slice _ _ _ _ none => true
  | .call c => match c.callee with
    | .builtin .len => true
    | .builtin .min => true
    | .builtin .max => true
    | _ => false
  | _ => false
def valA (C : Ctx) (st : St) (op : Op) : Option PV := (evalOp C (get st.σ) st.hp st.nx op).map (·.1)
theorem back_map {o : Option PV} {hp : Hp} {nx : Nat} : (o.map fun y => (y, hp, nx)) = ((o.map fun y => (y, hp, nx)).map (·.1)).map fun x => (x, hp, nx) := by cases o <;> rfl
theorem back_bind {o : Option PV} {hp : Hp} {nx : Nat} : (o.bind fun y => some (y, hp, nx)) = ((o.bind fun y => some (y, hp, nx)).map (·.1)).map fun x => (x, hp, nx) := by cases o <;> rfl
theorem pureOp_eq {C : Ctx} {st : St} {op : Op} (h : pureOp op = true) : evalOp C (get st.σ) st.hp st.nx op = (valA C st op).map fun x => (x, st.hp, st.nx) := by
  unfold valA
  generalize get st.σ = ρ
  cases op with
  | move x => simp only [op_move]; exact back_map
  | assign x => simp only [op_assign]; exact back_map
  | pick c a b => simp only [op_pick]; exact back_map
  | load t a => simp only [op_load]; cases ρ a <;> (try rfl); exact back_bind
  | binOp op t x y t2 => simp only [op_bin]; cases ρ x <;> cases ρ y <;> (try rfl); exact back_bind
  | unOp op t x => simp only [op_un]; cases ρ x <;> (try rfl); exact back_bind
  | convert s d x => simp only [op_conv]; cases ρ x <;> (try rfl); exact back_bind
  | fieldAddr t x f => simp only [op_fieldAddr]; cases ρ x <;> (try rfl); exact back_bind
  | field t x f => simp only [op_field]; cases ρ x <;> (try rfl); exact back_bind
  | indexAddr t x i => simp only [op_indexAddr]; cases ρ x <;> cases ρ i <;> (try rfl); exact back_bind
  | index t x i => simp only [op_index]; cases ρ x <;> cases ρ i <;> (try rfl); exact back_bind
  | extract x i => simp only [op_extract]; cases ρ x <;> (try rfl); exact back_bind
  | slice t x lo hi mx =>
    cases mx with
    | none => simp only [op_slice]; cases ρ x <;> (try rfl); exact back_bind
    | some m => simp [pureOp] at h
  | call c =>
    obtain ⟨callee, args, ts⟩ := c
    cases callee with
    | builtin b =>
      simp only [op_builtin]
      cases allSome (args.toList.map ρ) with
      | none => rfl
      | some xs =>
        simp only [Option.bind_eq_bind, Option.bind_some]
        cases b <;> (try (simp [pureOp] at h; done))
        case len =>
          cases xs with
          | nil => rfl
          | cons x l =>
            cases l with
            | nil =>
              simp only [blt_len]
              cases ts[0]? <;> (try rfl)
              exact back_bind
            | cons _ _ => rfl
        case min => simp only [blt_min]; exact back_map
        case max => simp only [blt_max]; exact back_map
    | _ => simp [pureOp] at h
  | _ => simp [pureOp] at h

/-- A function that leaves what is live alone, by what is known of it. -/
def QuietIn (C : Ctx) (g : FuncId) : Prop := ∀ spec, C.Γ g = some spec → Quiet spec
/-- The same, for simp. -/
def PureOp (C : Ctx) (op : Op) : Prop := ∀ st : St, evalOp C (get st.σ) st.hp st.nx op = (valA C st op).map fun x => (x, st.hp, st.nx)
theorem pureOp_of {C : Ctx} {op : Op} (h : pureOp op = true) : PureOp C op := fun _ => pureOp_eq h
@[simp] theorem pu_call (C : Ctx) (g : FuncId) (a : Array Operand) (ts : Array TypeId) (h : QuietIn C g) : PureOp C (.call ⟨.value (.func g), a, ts⟩) := by
  intro st
  unfold valA
  simp only [op_call, get_func]
  cases allSome (a.toList.map (get st.σ)) with
  | none => rfl
  | some xs =>
    simp only [Option.bind_eq_bind, Option.bind_some]
    cases hs : C.Γ g with
    | none => simp [callVal, hs]
    | some spec =>
      rw [callVal_fn C st.hp st.nx g [] [] xs spec hs]
      cases hr : spec ([] ++ xs ++ []) st.hp st.nx with
      | none => rfl
      | some r =>
        obtain ⟨x, hp', nx'⟩ := r
        obtain ⟨rfl, rfl⟩ := h spec hs _ _ _ _ _ _ hr
        rfl
theorem quietIn_of {P : Program} {l : Tab} {g : Nat} {spec : AM.Spec} (h : lookup l g = some spec) (hq : Quiet spec) : QuietIn (mkCtx P l) g := fun s hs => by
  have : lookup l g = some s := hs
  rw [h] at this
  injection this with this
  exact this ▸ hq
@[simp] theorem pu_move (C : Ctx) (x : Operand) : PureOp C (.move x) := pureOp_of rfl
@[simp] theorem pu_assign (C : Ctx) (x : Operand) : PureOp C (.assign x) := pureOp_of rfl
@[simp] theorem pu_pick (C : Ctx) (c a b : Operand) : PureOp C (.pick c a b) := pureOp_of rfl
@[simp] theorem pu_load (C : Ctx) (t : TypeId) (x : Operand) : PureOp C (.load t x) := pureOp_of rfl
@[simp] theorem pu_bin (C : Ctx) (o : BinOp) (t t2 : TypeId) (x y : Operand) : PureOp C (.binOp o t x y t2) := pureOp_of rfl
@[simp] theorem pu_un (C : Ctx) (o : UnOp) (t : TypeId) (x : Operand) : PureOp C (.unOp o t x) := pureOp_of rfl
@[simp] theorem pu_conv (C : Ctx) (t u : TypeId) (x : Operand) : PureOp C (.convert t u x) := pureOp_of rfl
@[simp] theorem pu_fa (C : Ctx) (t : TypeId) (x : Operand) (f : Nat) : PureOp C (.fieldAddr t x f) := pureOp_of rfl
@[simp] theorem pu_fi (C : Ctx) (t : TypeId) (x : Operand) (f : Nat) : PureOp C (.field t x f) := pureOp_of rfl
@[simp] theorem pu_ia (C : Ctx) (t : TypeId) (x i : Operand) : PureOp C (.indexAddr t x i) := pureOp_of rfl
@[simp] theorem pu_ix (C : Ctx) (t : TypeId) (x i : Operand) : PureOp C (.index t x i) := pureOp_of rfl
@[simp] theorem pu_ex (C : Ctx) (x : Operand) (i : Nat) : PureOp C (.extract x i) := pureOp_of rfl
@[simp] theorem pu_sl (C : Ctx) (t : TypeId) (x : Operand) (lo hi : Option Operand) : PureOp C (.slice t x lo hi none) := pureOp_of rfl
@[simp] theorem pu_len (C : Ctx) (a : Array Operand) (ts : Array TypeId) : PureOp C (.call ⟨.builtin .len, a, ts⟩) := pureOp_of rfl
@[simp] theorem pu_min (C : Ctx) (a : Array Operand) (ts : Array TypeId) : PureOp C (.call ⟨.builtin .min, a, ts⟩) := pureOp_of rfl
@[simp] theorem pu_max (C : Ctx) (a : Array Operand) (ts : Array TypeId) : PureOp C (.call ⟨.builtin .max, a, ts⟩) := pureOp_of rfl
/-- One of two, by a bool that is not known. -/
def bc {α : Type} (y : Bool) (a b : α) : α := match y with
  | true => a
  | false => b
@[simp] theorem bc_true {α : Type} (a b : α) : bc true a b = a := rfl
@[simp] theorem bc_false {α : Type} (a b : α) : bc false a b = b := rfl
@[simp] theorem bc_not {α : Type} (y : Bool) (a b : α) : bc (!y) a b = bc y b a := by cases y <;> rfl
@[simp] theorem bc_same {α : Type} (y : Bool) (a : α) : bc y a a = a := by cases y <;> rfl
/-- A bool that is not looked into. -/
def bx (y : Bool) : Bool := y
@[simp] theorem bx_true : bx true = true := rfl
@[simp] theorem bx_false : bx false = false := rfl
@[simp] theorem bc_bc1 {α : Type} (y : Bool) (a b c : α) : bc y (bc y a b) c = bc y a c := by cases y <;> rfl
@[simp] theorem bc_bc2 {α : Type} (y : Bool) (a b c : α) : bc y a (bc y b c) = bc y a c := by cases y <;> rfl
/-- A guarded operation's value. -/
def gval (C : Ctx) (st : St) (op : Op) (y : Option Bool) (b : Bool) : Option PV := if y = some b then valA C st op else some (.tup [])
section
variable (C : Ctx) (d : Option Tmp) (op : Op) (st : St)
theorem guard_gval (y : Option Bool) (b : Bool) (h : PureOp C op) : guardA C d op st y b = (gval C st op y b).map fun x => ⟨put st.σ d x, st.hp, st.nx⟩ := by
  unfold guardA gval
  rw [h st]
  split
  · cases valA C st op <;> rfl
  · rfl
@[simp low] theorem guard_lazy (y b : Bool) (h : PureOp C op) : guardA C d op st (some y) b = (gval C st op (some y) b).map fun x => ⟨put st.σ d x, st.hp, st.nx⟩ := guard_gval C d op st _ b h
@[simp] theorem guard_bc (y : Bool) (p q : Option Bool) (b : Bool) (h : PureOp C op) : guardA C d op st (bc y p q) b = (gval C st op (bc y p q) b).map fun x => ⟨put st.σ d x, st.hp, st.nx⟩ := guard_gval C d op st _ b h
@[simp] theorem gval_bc (y : Bool) (p q : Option Bool) (b : Bool) : gval C st op (bc y p q) b = bc y (gval C st op p b) (gval C st op q b) := by cases y <;> rfl
@[simp] theorem gval_none (b : Bool) : gval C st op none b = some (.tup []) := rfl
@[simp] theorem gval_t (y : Bool) : gval C st op (some y) true = bc (bx y) (valA C st op) (some (.tup [])) := by cases y <;> rfl
@[simp] theorem gval_f (y : Bool) : gval C st op (some y) false = bc (bx y) (some (.tup [])) (valA C st op) := by cases y <;> rfl
end
@[simp] theorem boolOf_bc (y : Bool) (a b : PV) : boolOf (bc y a b) = bc y (boolOf a) (boolOf b) := by cases y <;> rfl
@[simp] theorem bc_some {α : Type} (y : Bool) (a b : α) : bc y (some a) (some b) = some (bc y a b) := by cases y <;> rfl
@[simp] theorem pick_and (y z : Bool) (w : PV) : pickA (some (.v (.bool y))) (some (bc (bx y) (.v (.bool z)) w)) (some (.v (.bool false))) = some (.v (.bool (y && z))) := by cases y <;> rfl
@[simp] theorem pick_or (y z : Bool) (w : PV) : pickA (some (.v (.bool y))) (some (.v (.bool true))) (some (bc (bx y) w (.v (.bool z)))) = some (.v (.bool (y || z))) := by cases y <;> rfl

@[simp] theorem bc_deep1 {α : Type} (y q1 : Bool) (a b d0 d1 : α) : bc y (bc q1 (bc y a b) d1) d0 = bc y (bc q1 a d1) d0 := by cases y <;> rfl
@[simp] theorem bc_deep2 {α : Type} (y q1 : Bool) (a b d0 d1 : α) : bc y (bc q1 d1 (bc y a b)) d0 = bc y (bc q1 d1 a) d0 := by cases y <;> rfl
@[simp] theorem bc_deep3 {α : Type} (y q1 : Bool) (a b d0 d1 : α) : bc y d0 (bc q1 (bc y a b) d1) = bc y d0 (bc q1 b d1) := by cases y <;> rfl
@[simp] theorem bc_deep4 {α : Type} (y q1 : Bool) (a b d0 d1 : α) : bc y d0 (bc q1 d1 (bc y a b)) = bc y d0 (bc q1 d1 b) := by cases y <;> rfl
@[simp] theorem bc_deep5 {α : Type} (y q1 q2 : Bool) (a b d0 d1 d2 : α) : bc y (bc q1 (bc q2 (bc y a b) d2) d1) d0 = bc y (bc q1 (bc q2 a d2) d1) d0 := by cases y <;> rfl
@[simp] theorem bc_deep6 {α : Type} (y q1 q2 : Bool) (a b d0 d1 d2 : α) : bc y (bc q1 (bc q2 d2 (bc y a b)) d1) d0 = bc y (bc q1 (bc q2 d2 a) d1) d0 := by cases y <;> rfl
@[simp] theorem bc_deep7 {α : Type} (y q1 q2 : Bool) (a b d0 d1 d2 : α) : bc y (bc q1 d1 (bc q2 (bc y a b) d2)) d0 = bc y (bc q1 d1 (bc q2 a d2)) d0 := by cases y <;> rfl
@[simp] theorem bc_deep8 {α : Type} (y q1 q2 : Bool) (a b d0 d1 d2 : α) : bc y (bc q1 d1 (bc q2 d2 (bc y a b))) d0 = bc y (bc q1 d1 (bc q2 d2 a)) d0 := by cases y <;> rfl
@[simp] theorem bc_deep9 {α : Type} (y q1 q2 : Bool) (a b d0 d1 d2 : α) : bc y d0 (bc q1 (bc q2 (bc y a b) d2) d1) = bc y d0 (bc q1 (bc q2 b d2) d1) := by cases y <;> rfl
@[simp] theorem bc_deep10 {α : Type} (y q1 q2 : Bool) (a b d0 d1 d2 : α) : bc y d0 (bc q1 (bc q2 d2 (bc y a b)) d1) = bc y d0 (bc q1 (bc q2 d2 b) d1) := by cases y <;> rfl
@[simp] theorem bc_deep11 {α : Type} (y q1 q2 : Bool) (a b d0 d1 d2 : α) : bc y d0 (bc q1 d1 (bc q2 (bc y a b) d2)) = bc y d0 (bc q1 d1 (bc q2 b d2)) := by cases y <;> rfl
@[simp] theorem bc_deep12 {α : Type} (y q1 q2 : Bool) (a b d0 d1 d2 : α) : bc y d0 (bc q1 d1 (bc q2 d2 (bc y a b))) = bc y d0 (bc q1 d1 (bc q2 d2 b)) := by cases y <;> rfl
@[simp] theorem bc_deep13 {α : Type} (y q1 q2 q3 : Bool) (a b d0 d1 d2 d3 : α) : bc y (bc q1 (bc q2 (bc q3 (bc y a b) d3) d2) d1) d0 = bc y (bc q1 (bc q2 (bc q3 a d3) d2) d1) d0 := by cases y <;> rfl
@[simp] theorem bc_deep14 {α : Type} (y q1 q2 q3 : Bool) (a b d0 d1 d2 d3 : α) : bc y (bc q1 (bc q2 (bc q3 d3 (bc y a b)) d2) d1) d0 = bc y (bc q1 (bc q2 (bc q3 d3 a) d2) d1) d0 := by cases y <;> rfl
@[simp] theorem bc_deep15 {α : Type} (y q1 q2 q3 : Bool) (a b d0 d1 d2 d3 : α) : bc y (bc q1 (bc q2 d2 (bc q3 (bc y a b) d3)) d1) d0 = bc y (bc q1 (bc q2 d2 (bc q3 a d3)) d1) d0 := by cases y <;> rfl
@[simp] theorem bc_deep16 {α : Type} (y q1 q2 q3 : Bool) (a b d0 d1 d2 d3 : α) : bc y (bc q1 (bc q2 d2 (bc q3 d3 (bc y a b))) d1) d0 = bc y (bc q1 (bc q2 d2 (bc q3 d3 a)) d1) d0 := by cases y <;> rfl
@[simp] theorem bc_deep17 {α : Type} (y q1 q2 q3 : Bool) (a b d0 d1 d2 d3 : α) : bc y (bc q1 d1 (bc q2 (bc q3 (bc y a b) d3) d2)) d0 = bc y (bc q1 d1 (bc q2 (bc q3 a d3) d2)) d0 := by cases y <;> rfl
@[simp] theorem bc_deep18 {α : Type} (y q1 q2 q3 : Bool) (a b d0 d1 d2 d3 : α) : bc y (bc q1 d1 (bc q2 (bc q3 d3 (bc y a b)) d2)) d0 = bc y (bc q1 d1 (bc q2 (bc q3 d3 a) d2)) d0 := by cases y <;> rfl
@[simp] theorem bc_deep19 {α : Type} (y q1 q2 q3 : Bool) (a b d0 d1 d2 d3 : α) : bc y (bc q1 d1 (bc q2 d2 (bc q3 (bc y a b) d3))) d0 = bc y (bc q1 d1 (bc q2 d2 (bc q3 a d3))) d0 := by cases y <;> rfl
@[simp] theorem bc_deep20 {α : Type} (y q1 q2 q3 : Bool) (a b d0 d1 d2 d3 : α) : bc y (bc q1 d1 (bc q2 d2 (bc q3 d3 (bc y a b)))) d0 = bc y (bc q1 d1 (bc q2 d2 (bc q3 d3 a))) d0 := by cases y <;> rfl
@[simp] theorem bc_deep21 {α : Type} (y q1 q2 q3 : Bool) (a b d0 d1 d2 d3 : α) : bc y d0 (bc q1 (bc q2 (bc q3 (bc y a b) d3) d2) d1) = bc y d0 (bc q1 (bc q2 (bc q3 b d3) d2) d1) := by cases y <;> rfl
@[simp] theorem bc_deep22 {α : Type} (y q1 q2 q3 : Bool) (a b d0 d1 d2 d3 : α) : bc y d0 (bc q1 (bc q2 (bc q3 d3 (bc y a b)) d2) d1) = bc y d0 (bc q1 (bc q2 (bc q3 d3 b) d2) d1) := by cases y <;> rfl
@[simp] theorem bc_deep23 {α : Type} (y q1 q2 q3 : Bool) (a b d0 d1 d2 d3 : α) : bc y d0 (bc q1 (bc q2 d2 (bc q3 (bc y a b) d3)) d1) = bc y d0 (bc q1 (bc q2 d2 (bc q3 b d3)) d1) := by cases y <;> rfl
@[simp] theorem bc_deep24 {α : Type} (y q1 q2 q3 : Bool) (a b d0 d1 d2 d3 : α) : bc y d0 (bc q1 (bc q2 d2 (bc q3 d3 (bc y a b))) d1) = bc y d0 (bc q1 (bc q2 d2 (bc q3 d3 b)) d1) := by cases y <;> rfl
@[simp] theorem bc_deep25 {α : Type} (y q1 q2 q3 : Bool) (a b d0 d1 d2 d3 : α) : bc y d0 (bc q1 d1 (bc q2 (bc q3 (bc y a b) d3) d2)) = bc y d0 (bc q1 d1 (bc q2 (bc q3 b d3) d2)) := by cases y <;> rfl
@[simp] theorem bc_deep26 {α : Type} (y q1 q2 q3 : Bool) (a b d0 d1 d2 d3 : α) : bc y d0 (bc q1 d1 (bc q2 (bc q3 d3 (bc y a b)) d2)) = bc y d0 (bc q1 d1 (bc q2 (bc q3 d3 b) d2)) := by cases y <;> rfl
@[simp] theorem bc_deep27 {α : Type} (y q1 q2 q3 : Bool) (a b d0 d1 d2 d3 : α) : bc y d0 (bc q1 d1 (bc q2 d2 (bc q3 (bc y a b) d3))) = bc y d0 (bc q1 d1 (bc q2 d2 (bc q3 b d3))) := by cases y <;> rfl
@[simp] theorem bc_deep28 {α : Type} (y q1 q2 q3 : Bool) (a b d0 d1 d2 d3 : α) : bc y d0 (bc q1 d1 (bc q2 d2 (bc q3 d3 (bc y a b)))) = bc y d0 (bc q1 d1 (bc q2 d2 (bc q3 d3 b))) := by cases y <;> rfl

section
variable (P : Program) (C : Ctx) (hp : Hp) (nx : Nat) (t u : TypeId) (y : Bool) (a b : PV)
@[simp] theorem load_bc : loadA P hp t (bc y a b) = bc y (loadA P hp t a) (loadA P hp t b) := by cases y <;> rfl
@[simp] theorem bin_bc1 (o : BinOp) (x : PV) : binA P o t (bc y a b) x = bc y (binA P o t a x) (binA P o t b x) := by cases y <;> rfl
@[simp] theorem bin_bc2 (o : BinOp) (x : PV) : binA P o t x (bc y a b) = bc y (binA P o t x a) (binA P o t x b) := by cases y <;> rfl
@[simp] theorem binC_bc1 (c : Bool) (o : BinOp) (x : PV) : binC c P o t (bc y a b) x = bc y (binC c P o t a x) (binC c P o t b x) := by cases y <;> rfl
@[simp] theorem binC_bc2 (c : Bool) (o : BinOp) (x : PV) : binC c P o t x (bc y a b) = bc y (binC c P o t x a) (binC c P o t x b) := by cases y <;> rfl
@[simp] theorem un_bc (o : UnOp) : unA o (bc y a b) = bc y (unA o a) (unA o b) := by cases y <;> rfl
@[simp] theorem conv_bc : convA P t u (bc y a b) = bc y (convA P t u a) (convA P t u b) := by cases y <;> rfl
@[simp] theorem fieldAddr_bc (f : Nat) : fieldAddrA P t f (bc y a b) = bc y (fieldAddrA P t f a) (fieldAddrA P t f b) := by cases y <;> rfl
@[simp] theorem fieldVal_bc (f : Nat) : fieldValA P t f (bc y a b) = bc y (fieldValA P t f a) (fieldValA P t f b) := by cases y <;> rfl
@[simp] theorem indexAddr_bc1 (x : PV) : indexAddrA P hp t (bc y a b) x = bc y (indexAddrA P hp t a x) (indexAddrA P hp t b x) := by cases y <;> rfl
@[simp] theorem indexAddr_bc2 (x : PV) : indexAddrA P hp t x (bc y a b) = bc y (indexAddrA P hp t x a) (indexAddrA P hp t x b) := by cases y <;> rfl
@[simp] theorem index_bc1 (x : PV) : indexA P t (bc y a b) x = bc y (indexA P t a x) (indexA P t b x) := by cases y <;> rfl
@[simp] theorem index_bc2 (x : PV) : indexA P t x (bc y a b) = bc y (indexA P t x a) (indexA P t x b) := by cases y <;> rfl
@[simp] theorem len_bc : lenA P t (bc y a b) = bc y (lenA P t a) (lenA P t b) := by cases y <;> rfl
@[simp] theorem slice_bc1 (lo hi : Option (Option PV)) : sliceA P hp t (bc y a b) lo hi = bc y (sliceA P hp t a lo hi) (sliceA P hp t b lo hi) := by cases y <;> rfl
@[simp] theorem slice_bc2 (x : PV) (hi : Option (Option PV)) : sliceA P hp t x (some (some (bc y a b))) hi = bc y (sliceA P hp t x (some (some a)) hi) (sliceA P hp t x (some (some b)) hi) := by cases y <;> rfl
@[simp] theorem slice_bc3 (x : PV) (lo : Option (Option PV)) : sliceA P hp t x lo (some (some (bc y a b))) = bc y (sliceA P hp t x lo (some (some a))) (sliceA P hp t x lo (some (some b))) := by cases y <;> rfl
@[simp] theorem extract_bc (i : Nat) : extractA i (bc y a b) = bc y (extractA i a) (extractA i b) := by cases y <;> rfl
@[simp] theorem pick_bc1 (p q : Option PV) : pickA (some (bc y a b)) p q = bc y (pickA (some a) p q) (pickA (some b) p q) := by cases y <;> rfl
@[simp low] theorem pick_bc2 (p q : Option PV) : pickA p (some (bc y a b)) q = bc y (pickA p (some a) q) (pickA p (some b) q) := by cases y <;> rfl
@[simp low] theorem pick_bc3 (p q : Option PV) : pickA p q (some (bc y a b)) = bc y (pickA p q (some a)) (pickA p q (some b)) := by cases y <;> rfl
@[simp] theorem pure_bc1 (kill : Bool) (ns : List Nat) (F : List PV → Option PV) (l : List PV) : hPure kill ns F (bc y a b :: l) hp nx = bc y (hPure kill ns F (a :: l) hp nx) (hPure kill ns F (b :: l) hp nx) := by cases y <;> rfl
@[simp] theorem pure_bc2 (kill : Bool) (ns : List Nat) (F : List PV → Option PV) (x : PV) (l : List PV) : hPure kill ns F (x :: bc y a b :: l) hp nx = bc y (hPure kill ns F (x :: a :: l) hp nx) (hPure kill ns F (x :: b :: l) hp nx) := by cases y <;> rfl
@[simp] theorem pure_bc3 (kill : Bool) (ns : List Nat) (F : List PV → Option PV) (x z : PV) (l : List PV) : hPure kill ns F (x :: z :: bc y a b :: l) hp nx = bc y (hPure kill ns F (x :: z :: a :: l) hp nx) (hPure kill ns F (x :: z :: b :: l) hp nx) := by cases y <;> rfl
end
@[simp] theorem map_bc {α β : Type} (y : Bool) (f : α → β) (a b : Option α) : (bc y a b).map f = bc y (a.map f) (b.map f) := by cases y <;> rfl
@[simp] theorem bind_bc {α β : Type} (y : Bool) (f : α → Option β) (a b : Option α) : (bc y a b).bind f = bc y (a.bind f) (b.bind f) := by cases y <;> rfl
attribute [simp] valA
end Go.AM
namespace Go.AM
open Go.RowKit

/-- One region that asks for something. -/
def dynAt (k : Nat) (D : List (Tmp × Tmp)) (i : Nat) : List (Tmp × Tmp) := if i = k then D else []
@[simp] theorem mkCtxD_dyn (P : Program) (l : Tab) (k : Nat) (D : List (Tmp × Tmp)) (i : Nat) : (mkCtxD P l (dynAt k D)).dyn i = if i = k then D else [] := rfl
@[simp] theorem EvC_region_mkD (P : Program) (l : Tab) (k : Nat) (D : List (Tmp × Tmp)) (i : Nat) (ops : Array Oper) (d : Bool) (st : St) (K : Exit → St → Prop) (h : ¬ i = k) : EvC (mkCtxD P l (dynAt k D)) (.region i ops d) st K = EvL (mkCtxD P l (dynAt k D)) ops ops.toList st (normK K) := EvC_region _ i ops d st K (by simp [h]) rfl
theorem apartA_one {a b : Tmp} {st : St} {id i j id' i' j' : Nat} {blk : Blk} (h1 : st.σ a = .ref id i j) (h2 : st.σ b = .ref id' i' j') (h3 : id ≠ id') (h4 : st.hp id' = some blk) (h5 : blk.arr = false) : ApartA [(a, b)] st := by
  intro p hp
  obtain rfl := List.mem_singleton.1 hp
  intro id0 i0 j0 e0
  rw [h1] at e0
  injection e0 with e0 _ _
  subst e0
  exact ⟨id', i', j', blk, h2, h3, h4, h5⟩

theorem zip_lits {w : World} {S : Nat → Prop} {G : Nat → GI} {nx : Nat} : ∀ {us vs : List Value}, (∀ u ∈ us, lit u = true) → Zip (RepO w S G nx) (us.map PV.v) vs → vs = us
  | [], vs, _, h => by
    have := h.1
    simp at this
    exact List.length_eq_zero_iff.1 this.symm
  | u :: us, vs, hl, h => by
    obtain ⟨v, vs', rfl, hv, hz⟩ := h.uncons
    rw [zip_lits (fun x hx => hl x (by simp [hx])) hz]
    congr 1
    cases hv with
    | c hc => exact hc.v_inv.1

theorem freezeVals_lits (hp : Hp) : ∀ us : List Value, freezeVals hp (us.map PV.v) = some (us.map PV.v, hp)
  | [] => rfl
  | u :: us => by
    simp only [List.map_cons, freezeVals, freezeVal, freezeCell, freezeVals_lits hp us]

/-- A contract on numbers and texts. -/
theorem sound_scalar {P : Program} {g : FuncId} {F : List PV → Option PV} (hfn : ∃ fn, P.funcs[g]? = some fn ∧ (fn.name == "runtime.NumGoroutine") = false ∧ fn.body.isNone = false)
    (h : ∀ args r, F args = some r → ∃ us : List Value, args = us.map PV.v ∧ (∀ u ∈ us, lit u = true) ∧ ∃ v, r = .v v ∧ lit v = true ∧ ∀ w, Calls P g us.toArray w fun e w' => e = .returned v ∧ w' = w) : SpecSound P g (hPure false [] F) := by
  refine ⟨hfn, ?_⟩
  intro args hp nx r hp' nx' hs w S G vs hi hz
  unfold hPure at hs
  split at hs
  · rename_i as hp1 hfr
    split at hs
    · rename_i r0 hF
      obtain ⟨us, e, hl, v, rfl, hv, hc⟩ := h _ _ hF
      have e' : normArgs [] as = as := by cases as <;> rfl
      rw [e'] at e
      subst e
      have hargs : args = us.map PV.v := by
        have key : ∀ (args : List PV) (us : List Value) (hp1 : Hp), freezeVals hp args = some (us.map PV.v, hp1) → args = us.map PV.v := by
          intro args
          induction args with
          | nil => intro us hp1 hh; simp only [freezeVals] at hh; injection hh with hh; injection hh with hh _
          | cons x l ih =>
            intro us hp1 hh
            simp only [freezeVals] at hh
            split at hh
            · rename_i y hp2 hy
              split at hh
              · rename_i r2 hp3 hr2
                injection hh with hh
                injection hh with hh _
                cases us with
                | nil => simp at hh
                | cons u us =>
                  simp only [List.map_cons, List.cons.injEq] at hh
                  obtain ⟨rfl, rfl⟩ := hh
                  have hx : x = .v u ∧ hp2 = hp := by
                    unfold freezeVal at hy
                    split at hy
                    · split at hy
                      · injection hy with hy; injection hy with hy _; cases hy
                      · cases hy
                    · unfold freezeCell at hy
                      split at hy <;> first
                        | (split at hy <;> first | (split at hy <;> first | (injection hy with hy; injection hy with hy _; cases hy; done) | cases hy) | cases hy)
                        | (injection hy with hy; injection hy with h1 h2; first | (exact ⟨by rw [← h1], h2.symm⟩) | cases h1)
                        | cases hy
                  obtain ⟨rfl, rfl⟩ := hx
                  rw [ih us hp3 hr2]
                  rfl
              · cases hh
            · cases hh
        exact key args us hp1 hfr
      subst hargs
      simp only [PV.flat, true_or, if_true] at hs
      injection hs with hs
      injection hs with h1 h2
      injection h2 with h2 h3
      subst h1; subst h2; subst h3
      rw [zip_lits hl hz]
      refine (hc w).mono fun e w' hh => ?_
      obtain ⟨rfl, rfl⟩ := hh
      exact ⟨v, S, G, rfl, Stp.refl hi, .c (.v hv)⟩
    · cases hs
  · cases hs
theorem setCells_at : ∀ (l cs : List PV) (off : Nat), off + l.length ≤ cs.length → setCells cs off l = cs.take off ++ l ++ cs.drop (off + l.length)
  | [], cs, off, _ => by simp
  | x :: l, cs, off, h => by
    simp only [List.length_cons] at h
    rw [setCells, setCells_at l (cs.set off x) (off + 1) (by simp; omega)]
    have e1 : (cs.set off x).take (off + 1) = cs.take off ++ [x] := by
      rw [List.take_succ_eq_append_getElem (by simp; omega)]
      have e0 : (cs.set off x).take off = cs.take off := by
        apply List.ext_getElem?
        intro j
        simp only [List.getElem?_take, List.getElem?_set]
        by_cases hj : j < off
        · simp [hj, show ¬ off = j by omega]
        · simp [hj]
      rw [e0]
      simp
    have e2 : (cs.set off x).drop (off + 1 + l.length) = cs.drop (off + (x :: l).length) := by
      rw [List.drop_set_of_lt (by omega)]
      simp only [List.length_cons]
      congr 1
      omega
    rw [e1, e2]
    simp
@[simp] theorem setCells_whole (z cs : List PV) (h : cs.length = z.length) : setCells z 0 cs = cs := by
  rw [setCells_at cs z 0 (by omega)]
  simp [h]
@[simp] theorem setCells_tail (x : PV) (z cs : List PV) (h : cs.length = z.length) : setCells (x :: z) 1 cs = x :: cs := by
  rw [setCells_at cs (x :: z) 1 (by simp; omega)]
  simp [show 1 + cs.length = z.length + 1 by omega]
end Go.AM
