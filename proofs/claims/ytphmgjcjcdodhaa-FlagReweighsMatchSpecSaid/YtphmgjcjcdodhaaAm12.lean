/-
  The abstract machine, part 12: a region that draws its order: the evaluator comes to one state in every order that is allowed.
  The abstract machine, part 12b: a load and a store that touch different blocks can change places.
-/
import Derived.Test.YtphmgjcjcdodhaaAm10
import Derived.Orders
namespace Go.AM
open Go.RowKit

/-- How an operation touches the heap: 0 not at all; 1 it may read it; 2 it may change it. pf: the functions that change nothing. -/
def kindOf (pf : FuncId → Bool) : Op → Nat
  | .move _ | .assign _ | .pick .. | .build .. | .binOp .. | .unOp .. | .convert .. | .makeFunc .. | .fieldAddr .. | .field .. | .index .. | .extract .. | .nilCheck _ => 0
  | .load .. | .indexAddr .. | .slice .. => 1
  | .call c => match c.callee with
    | .builtin .len | .builtin .min | .builtin .max => 0
    | .value (.func g) => if pf g then 1 else 2
    | _ => 2
  | _ => 2

def Quiet (spec : AM.Spec) : Prop := ∀ args hp nx r hp' nx', spec args hp nx = some (r, hp', nx') → hp' = hp ∧ nx' = nx

section
variable {C : Ctx} {pf : FuncId → Bool}

theorem mapQ {α : Type} {o : Option PV} {hp hp' : α} {nx nx' : Nat} {x : PV} (h : (o.map fun y => (y, hp, nx)) = some (x, hp', nx')) : o = some x ∧ hp' = hp ∧ nx' = nx := by
  obtain ⟨y, h1, h2⟩ := map_some_inv h
  injection h2 with e1 h2
  injection h2 with e2 e3
  subst e1; subst e2; subst e3
  exact ⟨h1, rfl, rfl⟩

theorem quiet1 (hpf : ∀ g spec, pf g = true → C.Γ g = some spec → Quiet spec) {op : Op} (hk : kindOf pf op ≤ 1) {σ : Nat → PV} {hp hp' : Hp} {nx nx' : Nat} {x : PV} (h : evalOp C (get σ) hp nx op = some (x, hp', nx')) : hp' = hp ∧ nx' = nx := by
  have triv : ∀ {y : PV}, some (y, hp, nx) = some (x, hp', nx') → hp' = hp ∧ nx' = nx := by
    intro y h
    injection h with h
    injection h with _ h
    injection h with h1 h2
    exact ⟨h1.symm, h2.symm⟩
  cases op <;> simp only [kindOf] at hk <;> (try omega) <;> simp only [evalOp] at h
  case move => exact (mapQ h).2
  case assign => exact (mapQ h).2
  case pick => split at h <;> first | exact (mapQ h).2 | cases h
  case build => split at h <;> first | exact (mapQ h).2 | cases h
  case load => split at h <;> first | exact (mapQ h).2 | cases h
  case nilCheck => split at h <;> first | exact triv h | cases h
  case binOp => split at h <;> first | exact (mapQ h).2 | cases h
  case unOp => split at h <;> first | exact (mapQ h).2 | cases h
  case convert => split at h <;> first | exact (mapQ h).2 | cases h
  case makeFunc => split at h <;> first | exact triv h | cases h
  case slice t x lo hi mx => cases mx <;> simp only at h <;> first | (split at h <;> first | exact (mapQ h).2 | cases h) | cases h
  case fieldAddr => split at h <;> first | exact (mapQ h).2 | cases h
  case field => split at h <;> first | exact (mapQ h).2 | cases h
  case indexAddr => split at h <;> first | exact (mapQ h).2 | cases h
  case index => split at h <;> first | exact (mapQ h).2 | cases h
  case extract => split at h <;> first | exact (mapQ h).2 | cases h
  case call c =>
    unfold evalCall at h
    split at h
    · rename_i xs _
      cases hc : c.callee with
      | invoke r m => rw [hc] at h; cases h
      | builtin b =>
        rw [hc] at hk h
        cases b <;> simp at hk <;> simp only [evalBuiltin] at h
        · split at h <;> first | exact (mapQ h).2 | cases h
        · exact (mapQ h).2
        · exact (mapQ h).2
      | value f =>
        rw [hc] at hk h
        cases f <;> simp at hk
        rename_i g'
        simp only [callVal, get] at h
        split at h
        · rename_i spec hg
          exact hpf g' spec (by by_cases hx : pf g' = true; exact hx; simp [hx] at hk) hg _ _ _ _ _ _ h
        · cases h
    · cases h

theorem quiet0_eq {op : Op} (hk : kindOf pf op = 0) {ρ : Operand → Option PV} (hp hp2 : Hp) (nx nx2 : Nat) : evalOp C ρ hp2 nx2 op = (evalOp C ρ hp nx op).map fun r => (r.1, hp2, nx2) := by
  cases op <;> simp only [kindOf] at hk <;> (try (exact absurd hk (by omega))) <;> simp only [evalOp]
  case move x => cases ρ x <;> rfl
  case assign x => cases ρ x <;> rfl
  case pick c a b => split <;> simp [Option.map_map, Function.comp_def]
  case build t ps => split <;> simp [Option.map_map, Function.comp_def]
  case nilCheck x => split <;> rfl
  case binOp => split <;> simp [Option.map_map, Function.comp_def]
  case unOp => split <;> simp [Option.map_map, Function.comp_def]
  case convert => split <;> simp [Option.map_map, Function.comp_def]
  case makeFunc => split <;> rfl
  case fieldAddr => split <;> simp [Option.map_map, Function.comp_def]
  case field => split <;> simp [Option.map_map, Function.comp_def]
  case index => split <;> simp [Option.map_map, Function.comp_def]
  case extract => split <;> simp [Option.map_map, Function.comp_def]
  case call c =>
    unfold evalCall
    cases allSome (c.args.toList.map ρ) with
    | none => rfl
    | some xs =>
      simp only
      cases hc : c.callee with
      | value f =>
        rw [hc] at hk
        cases f <;> simp at hk
        split at hk <;> omega
      | invoke r m => rfl
      | builtin b =>
        rw [hc] at hk
        cases b <;> simp at hk <;> simp only [evalBuiltin]
        · split <;> simp [Option.map_map, Function.comp_def]
        · simp [Option.map_map, Function.comp_def]
        · simp [Option.map_map, Function.comp_def]

theorem quiet0 {op : Op} (hk : kindOf pf op = 0) {ρ : Operand → Option PV} {hp hp' : Hp} {nx nx' : Nat} {x : PV} (h : evalOp C ρ hp nx op = some (x, hp', nx')) (hp2 : Hp) (nx2 : Nat) : evalOp C ρ hp2 nx2 op = some (x, hp2, nx2) := by
  rw [quiet0_eq hk hp hp2 nx nx2, h]
  rfl

theorem partsA_congr {ρ ρ' : Operand → Option PV} : ∀ {l : List (Nat × Operand)}, (∀ p ∈ l, ρ p.2 = ρ' p.2) → partsA ρ l = partsA ρ' l
  | [], _ => rfl
  | (i, x) :: l, h => by
    simp only [partsA]
    rw [h (i, x) (by simp), partsA_congr (l := l) fun p hp => h p (by simp [hp])]

theorem evalOp_congr {ρ ρ' : Operand → Option PV} {op : Op} {hp : Hp} {nx : Nat} (h : ∀ x ∈ op.operands.toList, ρ x = ρ' x) : evalOp C ρ hp nx op = evalOp C ρ' hp nx op := by
  cases op <;> simp only [Op.operands] at h <;> simp only [evalOp]
  case move x => rw [h x (by simp)]
  case assign x => rw [h x (by simp)]
  case pick c a b => rw [h c (by simp), h a (by simp), h b (by simp)]
  case box t x => rw [h x (by simp)]
  case build t ps => rw [partsA_congr (l := ps.toList) fun p hp => h p.2 (by simp only [List.mem_map]; exact ⟨p, hp, rfl⟩)]
  case buildSlice t n ps => rw [partsA_congr (l := ps.toList) fun p hp => h p.2 (by simp only [List.mem_map]; exact ⟨p, hp, rfl⟩)]
  case load t x => rw [h x (by simp)]
  case store t a x => rw [h a (by simp), h x (by simp)]
  case nilCheck x => rw [h x (by simp)]
  case binOp op t x y t2 => rw [h x (by simp), h y (by simp)]
  case unOp op t x => rw [h x (by simp)]
  case convert s d x => rw [h x (by simp)]
  case makeFunc f a b =>
    rw [List.map_congr_left (g := ρ') fun x hx => h x (by simp at hx ⊢; exact .inl hx), List.map_congr_left (l := b.toList) (g := ρ') fun x hx => h x (by simp at hx ⊢; exact .inr hx)]
  case makeSlice t l c => rw [h l (by simp), h c (by simp)]
  case slice t x lo hi mx =>
    cases mx with
    | some m => rfl
    | none =>
      simp only
      rw [h x (by simp)]
      have hlo : lo.map ρ = lo.map ρ' := by cases lo with
        | none => rfl
        | some y => simp only [Option.map_some]; rw [h y (by simp)]
      have hhi : hi.map ρ = hi.map ρ' := by cases hi with
        | none => rfl
        | some y => simp only [Option.map_some]; rw [h y (by simp)]
      rw [hlo, hhi]
  case fieldAddr t x f => rw [h x (by simp)]
  case field t x f => rw [h x (by simp)]
  case indexAddr t x i => rw [h x (by simp), h i (by simp)]
  case index t x i => rw [h x (by simp), h i (by simp)]
  case extract x i => rw [h x (by simp)]
  case call c =>
    unfold evalCall
    have ha : c.args.toList.map ρ = c.args.toList.map ρ' := List.map_congr_left fun x hx => h x (by simp only [Call.operands, Array.toList_append, List.mem_append]; exact .inr hx)
    rw [ha]
    cases allSome (c.args.toList.map ρ') with
    | none => rfl
    | some xs =>
      simp only
      cases hc : c.callee with
      | value f =>
        simp only
        rw [h f (by simp [Call.operands, hc])]
      | invoke r m => rfl
      | builtin b => rfl

/-- What an operation comes to, its guard with it. -/
def rawA (C : Ctx) (ops : Array Oper) (o : Oper) (σ : Nat → PV) (hp : Hp) (nx : Nat) : Option (PV × Hp × Nat) :=
  if Region.wanted o (yieldA ops σ) = true then evalOp C (get σ) hp nx o.op else some (.tup [], hp, nx)

theorem stepA_raw (ops : Array Oper) (o : Oper) (st : St) : stepA C ops o st = (rawA C ops o st.σ st.hp st.nx).map fun r => ⟨put st.σ o.dst r.1, r.2.1, r.2.2⟩ := by
  unfold stepA rawA
  split
  · cases evalOp C (get st.σ) st.hp st.nx o.op <;> rfl
  · rfl

theorem rawA_congr {ops : Array Oper} {o : Oper} {σ σ' : Nat → PV} {hp : Hp} {nx : Nat} (h : ∀ t, t ∈ o.looksAt ops → σ t = σ' t) : rawA C ops o σ hp nx = rawA C ops o σ' hp nx := by
  have hw : Region.wanted o (yieldA ops σ) = Region.wanted o (yieldA ops σ') := by
    unfold Region.wanted
    split
    · rfl
    · rename_i j b hg
      have : yieldA ops σ j = yieldA ops σ' j := by
        unfold yieldA
        split
        · rename_i d hd
          rw [h d (by simp [Oper.looksAt, hg, hd])]
        · rfl
      rw [this]
  unfold rawA
  rw [hw]
  split
  · refine evalOp_congr fun x hx => ?_
    cases x with
    | tmp t =>
      simp only [get]
      rw [h t]
      simp only [Oper.looksAt, List.mem_append, List.mem_filterMap]
      exact .inl ⟨.tmp t, hx, rfl⟩
    | const x => rfl
    | global g => rfl
    | func f => rfl
  · rfl

theorem put_other {σ : Nat → PV} {d : Option Tmp} {x : PV} {t : Nat} (h : ∀ e, d = some e → e ≠ t) : put σ d x t = σ t := by
  cases d with
  | none => rfl
  | some e => exact upd_other _ _ _ _ fun he => h e rfl he.symm

theorem put_comm {σ : Nat → PV} {d e : Option Tmp} {x y : PV} (h : ∀ k, d = some k → e ≠ some k) : put (put σ d x) e y = put (put σ e y) d x := by
  cases d with
  | none => rfl
  | some k =>
    cases e with
    | none => rfl
    | some m =>
      have hne : m ≠ k := fun he => h k rfl (by rw [he])
      funext i
      simp only [put, upd]
      by_cases h1 : i = m <;> by_cases h2 : i = k <;> simp_all

def commB (pf : FuncId → Bool) (ops : Array Oper) (a b : Oper) : Bool :=
  a.apart ops b && (kindOf pf a.op == 0 || kindOf pf b.op == 0 || (decide (kindOf pf a.op ≤ 1) && decide (kindOf pf b.op ≤ 1)))

theorem raw_quiet0 {ops : Array Oper} {o : Oper} {σ : Nat → PV} {hp hp' : Hp} {nx nx' : Nat} {x : PV} (hk : kindOf pf o.op = 0) (h : rawA C ops o σ hp nx = some (x, hp', nx')) (hp2 : Hp) (nx2 : Nat) : rawA C ops o σ hp2 nx2 = some (x, hp2, nx2) := by
  unfold rawA at h ⊢
  split at h
  · rename_i hw
    rw [if_pos hw]
    exact quiet0 hk h hp2 nx2
  · rename_i hw
    rw [if_neg hw]
    injection h with h
    injection h with e _
    subst e
    rfl

theorem raw_quiet1 (hpf : ∀ g spec, pf g = true → C.Γ g = some spec → Quiet spec) {ops : Array Oper} {o : Oper} {σ : Nat → PV} {hp hp' : Hp} {nx nx' : Nat} {x : PV} (hk : kindOf pf o.op ≤ 1) (h : rawA C ops o σ hp nx = some (x, hp', nx')) : hp' = hp ∧ nx' = nx := by
  unfold rawA at h
  split at h
  · exact quiet1 hpf hk h
  · injection h with h
    injection h with _ h
    injection h with h1 h2
    exact ⟨h1.symm, h2.symm⟩

theorem comm_of0 {ops : Array Oper} {a b : Oper} (hk : kindOf pf a.op = 0) (h1 : ∀ d, a.dst = some d → d ∉ b.looksAt ops) (h2 : ∀ d, a.dst = some d → b.dst ≠ some d) (h3 : ∀ d, b.dst = some d → d ∉ a.looksAt ops) (st : St) :
    (stepA C ops a st).bind (stepA C ops b) = (stepA C ops b st).bind (stepA C ops a) := by
  have cb : ∀ x hp nx, rawA C ops b (put st.σ a.dst x) hp nx = rawA C ops b st.σ hp nx := fun x hp nx => rawA_congr fun t ht => put_other fun e he hte => h1 e he (hte ▸ ht)
  have ca : ∀ x hp nx, rawA C ops a (put st.σ b.dst x) hp nx = rawA C ops a st.σ hp nx := fun x hp nx => rawA_congr fun t ht => put_other fun e he hte => h3 e he (hte ▸ ht)
  have comm : ∀ x y, put (put st.σ a.dst x) b.dst y = put (put st.σ b.dst y) a.dst x := fun x y => put_comm h2
  rw [stepA_raw ops a st, stepA_raw ops b st]
  cases hra : rawA C ops a st.σ st.hp st.nx with
  | none =>
    cases hrb : rawA C ops b st.σ st.hp st.nx with
    | none => rfl
    | some r =>
      obtain ⟨y, hp2, n2⟩ := r
      simp only [Option.map_none, Option.bind_none, Option.map_some, Option.bind_some]
      rw [stepA_raw]
      simp only [ca]
      cases hx : rawA C ops a st.σ hp2 n2 with
      | none => rfl
      | some r' =>
        obtain ⟨x, hp3, n3⟩ := r'
        rw [raw_quiet0 hk hx st.hp st.nx] at hra
        cases hra
  | some r =>
    obtain ⟨x, hp1, n1⟩ := r
    have h0 := raw_quiet0 hk hra st.hp st.nx
    rw [hra] at h0
    injection h0 with h0
    injection h0 with _ h0
    injection h0 with e1 e2
    subst e1; subst e2
    simp only [Option.map_some, Option.bind_some]
    rw [stepA_raw]
    simp only [cb]
    cases hrb : rawA C ops b st.σ st.hp st.nx with
    | none => rfl
    | some r =>
      obtain ⟨y, hp2, n2⟩ := r
      simp only [Option.map_some, Option.bind_some]
      rw [stepA_raw]
      simp only [ca, raw_quiet0 hk hra hp2 n2, Option.map_some, comm]

theorem step_comm (hpf : ∀ g spec, pf g = true → C.Γ g = some spec → Quiet spec) {ops : Array Oper} {a b : Oper} (h : commB pf ops a b = true) (st : St) :
    (stepA C ops a st).bind (stepA C ops b) = (stepA C ops b st).bind (stepA C ops a) := by
  simp only [commB, Bool.and_eq_true] at h
  obtain ⟨hap, hkk⟩ := h
  obtain ⟨h1, h2, h3⟩ := Oper.apart_spec hap
  simp only [Bool.or_eq_true, beq_iff_eq, Bool.and_eq_true, decide_eq_true_eq] at hkk
  rcases hkk with (h | h) | ⟨ka, kb⟩
  · exact comm_of0 h h1 h2 h3 st
  · exact (comm_of0 h h3 (fun d hd hb => h2 d hb hd) h1 st).symm
  · have cb : ∀ x hp nx, rawA C ops b (put st.σ a.dst x) hp nx = rawA C ops b st.σ hp nx := fun x hp nx => rawA_congr fun t ht => put_other fun e he hte => h1 e he (hte ▸ ht)
    have ca : ∀ x hp nx, rawA C ops a (put st.σ b.dst x) hp nx = rawA C ops a st.σ hp nx := fun x hp nx => rawA_congr fun t ht => put_other fun e he hte => h3 e he (hte ▸ ht)
    have comm : ∀ x y, put (put st.σ a.dst x) b.dst y = put (put st.σ b.dst y) a.dst x := fun x y => put_comm h2
    rw [stepA_raw ops a st, stepA_raw ops b st]
    cases hra : rawA C ops a st.σ st.hp st.nx with
    | none =>
      cases hrb : rawA C ops b st.σ st.hp st.nx with
      | none => rfl
      | some r =>
        obtain ⟨y, hp2, n2⟩ := r
        obtain ⟨rfl, rfl⟩ := raw_quiet1 hpf kb hrb
        simp only [Option.map_none, Option.bind_none, Option.map_some, Option.bind_some]
        rw [stepA_raw]
        simp only [ca, hra, Option.map_none]
    | some r =>
      obtain ⟨x, hp1, n1⟩ := r
      obtain ⟨rfl, rfl⟩ := raw_quiet1 hpf ka hra
      simp only [Option.map_some, Option.bind_some]
      rw [stepA_raw]
      simp only [cb]
      cases hrb : rawA C ops b st.σ st.hp st.nx with
      | none => rfl
      | some r =>
        obtain ⟨y, hp2, n2⟩ := r
        obtain ⟨rfl, rfl⟩ := raw_quiet1 hpf kb hrb
        simp only [Option.map_some, Option.bind_some]
        rw [stepA_raw]
        simp only [ca, hra, Option.map_some, comm]

/-- The operations with these numbers, one after the other. -/
def evalIdx (C : Ctx) (ops : Array Oper) : List Nat → St → Option St
  | [], st => some st
  | i :: l, st => match ops[i]? with
    | none => evalIdx C ops l st
    | some o => (stepA C ops o st).bind (evalIdx C ops l)

def maskOf (acc : List Nat) (o : Oper) : Nat := o.after.toList.foldl (fun s e => if Region.binds .any e then s ||| 2 ^ e.on ||| acc.getD e.on 0 else s) 0

/-- Whether every two operations that no chain of edges puts in order can be exchanged. -/
def okFrom (cm : Oper → Oper → Bool) (ops : Array Oper) : List Oper → Nat → List Nat → Bool
  | [], _, _ => true
  | o :: l, i, acc =>
    o.after.toList.all (fun e => !Region.binds .any e || decide (e.on < i)) &&
    (List.range i).all (fun j => (maskOf acc o).testBit j || (match ops[j]? with | some p => cm p o | none => false)) &&
    okFrom cm ops l (i + 1) (acc ++ [maskOf acc o])

def Closed (ops : Array Oper) (L : Nat → Prop) : Prop := ∀ k o, L k → ops[k]? = some o → ∀ e ∈ o.after.toList, Region.binds .any e = true → L e.on
def Preds (L : Nat → Prop) (o : Oper) : Prop := ∀ e ∈ o.after.toList, Region.binds .any e = true → L e.on

theorem mask_bits (acc : List Nat) (j : Nat) : ∀ (l : List Edge) (s : Nat), (l.foldl (fun s e => if Region.binds .any e then s ||| 2 ^ e.on ||| acc.getD e.on 0 else s) s).testBit j = true →
    s.testBit j = true ∨ ∃ e ∈ l, Region.binds .any e = true ∧ (j = e.on ∨ (acc.getD e.on 0).testBit j = true)
  | [], s, h => .inl h
  | e :: l, s, h => by
    simp only [List.foldl_cons] at h
    rcases mask_bits acc j l _ h with h1 | ⟨e', h1, h2, h3⟩
    · split at h1
      · rename_i hb
        simp only [Nat.testBit_or, Bool.or_eq_true] at h1
        rcases h1 with (h1 | h1) | h1
        · exact .inl h1
        · refine .inr ⟨e, by simp, hb, .inl ?_⟩
          by_cases hj : j = e.on
          · exact hj
          · rw [Nat.testBit_two_pow_of_ne (fun h => hj h.symm)] at h1; cases h1
        · exact .inr ⟨e, by simp, hb, .inr h1⟩
      · exact .inl h1
    · exact .inr ⟨e', by simp [h1], h2, h3⟩

def GoodMasks (ops : Array Oper) (acc : List Nat) : Prop := ∀ (k m : Nat), acc[k]? = some m → ∀ o, ops[k]? = some o → ∀ L, Closed ops L → Preds L o → ∀ j, m.testBit j = true → L j

theorem good_step {ops : Array Oper} {acc : List Nat} (hg : GoodMasks ops acc) {o : Oper} (L : Nat → Prop) (hL : Closed ops L) (hp : Preds L o) (hb : ∀ e ∈ o.after.toList, Region.binds .any e = true → e.on < ops.size) (j : Nat) (h : (maskOf acc o).testBit j = true) : L j := by
  rcases mask_bits acc j _ 0 h with h1 | ⟨e, h1, h2, h3⟩
  · simp at h1
  · have hle := hp e h1 h2
    rcases h3 with rfl | h3
    · exact hle
    · cases hk : acc[e.on]? with
      | none => rw [List.getD_eq_getElem?_getD, hk] at h3; simp at h3
      | some m =>
        rw [List.getD_eq_getElem?_getD, hk] at h3
        have hlt := hb e h1 h2
        exact hg e.on m hk ops[e.on] (by simp [hlt]) L hL (hL e.on _ hle (by simp [hlt])) j h3

theorem okFrom_spec {cm : Oper → Oper → Bool} {ops : Array Oper} : ∀ {l : List Oper} {i : Nat} {acc : List Nat}, okFrom cm ops l i acc = true → acc.length = i → (∀ k, l[k]? = ops[i + k]?) → GoodMasks ops acc →
    ∀ k o, l[k]? = some o → (∀ e ∈ o.after.toList, Region.binds .any e = true → e.on < i + k) ∧ ∀ j, j < i + k → (∀ L, Closed ops L → Preds L o → L j) ∨ ∃ p, ops[j]? = some p ∧ cm p o = true
  | [], i, acc, _, _, _, _, k, o, hk => by simp at hk
  | o' :: l, i, acc, h, hl, hlk, hg, k, o, hk => by
    simp only [okFrom, Bool.and_eq_true, List.all_eq_true, Bool.or_eq_true, Bool.not_eq_true', decide_eq_true_eq, List.mem_range] at h
    obtain ⟨⟨h1, h2⟩, h3⟩ := h
    have hoi : ops[i]? = some o' := by have := hlk 0; simpa using this.symm
    have hi : i < ops.size := (Array.getElem?_eq_some_iff.1 hoi).1
    have hb : ∀ e ∈ o'.after.toList, Region.binds .any e = true → e.on < i := fun e he hbe => by
      rcases h1 e he with h | h
      · rw [hbe] at h; cases h
      · exact h
    have hgo : ∀ L, Closed ops L → Preds L o' → ∀ j, (maskOf acc o').testBit j = true → L j := fun L hL hp j hj => good_step hg L hL hp (fun e he hbe => by have := hb e he hbe; omega) j hj
    cases k with
    | zero =>
      simp at hk
      subst hk
      refine ⟨by simpa using hb, fun j hj => ?_⟩
      rcases h2 j (by simpa using hj) with h | h
      · exact .inl fun L hL hp => hgo L hL hp j h
      · split at h
        · rename_i p hp; exact .inr ⟨p, hp, h⟩
        · cases h
    | succ k =>
      have hg' : GoodMasks ops (acc ++ [maskOf acc o']) := by
        intro k' m hm ok hok L hL hp j hj
        by_cases hkl : k' < acc.length
        · rw [List.getElem?_append_left hkl] at hm
          exact hg k' m hm ok hok L hL hp j hj
        · rw [List.getElem?_append_right (by omega)] at hm
          have : k' = i := by
            have := (List.getElem?_eq_some_iff.1 hm).1
            simp at this
            omega
          subst this
          rw [hl] at hm
          simp at hm
          subst hm
          rw [hoi] at hok
          injection hok with hok
          subst hok
          exact hgo L hL hp j hj
      have := okFrom_spec h3 (by simp [hl]) (fun k' => by have := hlk (k' + 1); simpa [Nat.add_assoc, Nat.add_comm 1 k'] using this) hg' k o (by simpa using hk)
      rwa [show i + 1 + k = i + (k + 1) from by omega] at this

def okDraw (cm : Oper → Oper → Bool) (ops : Array Oper) : Bool := okFrom cm ops ops.toList 0 []

theorem okDraw_spec {cm : Oper → Oper → Bool} {ops : Array Oper} (h : okDraw cm ops = true) : ∀ i o, ops[i]? = some o → (∀ e ∈ o.after.toList, Region.binds .any e = true → e.on < i) ∧ ∀ j, j < i → (∀ L, Closed ops L → Preds L o → L j) ∨ ∃ p, ops[j]? = some p ∧ cm p o = true := by
  intro i o ho
  have := okFrom_spec h rfl (by simp) (fun k m hm => by simp at hm) i o (by simpa using ho)
  simpa using this

/-- Operations that can be exchanged in states of a kind that every operation keeps. -/
structure CommOk (C : Ctx) (ops : Array Oper) (cm : Oper → Oper → Bool) (A : St → Prop) : Prop where
  keep : ∀ (i : Nat) (o : Oper) (st st' : St), ops[i]? = some o → A st → stepA C ops o st = some st' → A st'
  comm : ∀ (i j : Nat) (a b : Oper) (st : St), ops[i]? = some a → ops[j]? = some b → cm a b = true → A st → (stepA C ops a st).bind (stepA C ops b) = (stepA C ops b st).bind (stepA C ops a)

theorem evalIdx_front {ops : Array Oper} {cm : Oper → Oper → Bool} {A : St → Prop} (hc : CommOk C ops cm A) {i : Nat} {o : Oper} (ho : ops[i]? = some o) (post : List Nat) : ∀ (pre : List Nat) (st : St), A st → (∀ j ∈ pre, ∃ p, ops[j]? = some p ∧ cm p o = true) →
    evalIdx C ops (pre ++ i :: post) st = evalIdx C ops (i :: (pre ++ post)) st
  | [], st, _, _ => rfl
  | j :: pre, st, hA, h => by
    obtain ⟨p, hp, hcp⟩ := h j (by simp)
    have e1 : evalIdx C ops (j :: pre ++ i :: post) st = (stepA C ops p st).bind fun st' => evalIdx C ops (i :: (pre ++ post)) st' := by
      simp only [List.cons_append, evalIdx, hp]
      cases hs : stepA C ops p st with
      | none => rfl
      | some st' =>
        simp only [Option.bind_some]
        have := evalIdx_front hc ho post pre st' (hc.keep j p st st' hp hA hs) fun k hk => h k (by simp [hk])
        simpa only [evalIdx, ho] using this
    rw [e1]
    simp only [evalIdx, ho, List.cons_append, hp]
    have hcm := hc.comm j i p o st hp ho hcp hA
    rw [← Option.bind_assoc, hcm, Option.bind_assoc]

/-- What a function does to variables: nothing. -/
def BoxKeep (spec : AM.Spec) : Prop := ∀ args hp nx r hp' nx', spec args hp nx = some (r, hp', nx') → nx ≤ nx' ∧ ∀ id blk, id < nx → hp id = some blk → blk.arr = false → hp' id = some blk
/-- A load and a store that are known to touch different blocks; a load of a variable and a call that leaves variables alone. -/
def pairB (D : List (Tmp × Tmp)) (L : List Tmp) (bk : FuncId → Bool) (ops : Array Oper) (p o : Oper) : Bool :=
  p.apart ops o && o.apart ops p && p.guard.isNone && o.guard.isNone && match p.op, o.op with
  | .load _ (.tmp a), .store _ (.tmp b) _ => D.contains (a, b)
  | .store _ (.tmp b) _, .load _ (.tmp a) => D.contains (a, b)
  | .load _ (.tmp a), .call ⟨.value (.func g), _, _⟩ => L.contains a && bk g
  | .call ⟨.value (.func g), _, _⟩, .load _ (.tmp a) => L.contains a && bk g
  | _, _ => false
def commD (pf : FuncId → Bool) (D : List (Tmp × Tmp)) (L : List Tmp) (bk : FuncId → Bool) (ops : Array Oper) (p o : Oper) : Bool := commB pf ops p o || pairB D L bk ops p o
/-- Regions in which this stays so. -/
def plainB (pf : FuncId → Bool) (D : List (Tmp × Tmp)) (L : List Tmp) (bk : FuncId → Bool) (ops : Array Oper) : Bool := (D.isEmpty && L.isEmpty) || ops.all fun o => D.all (fun p => o.dst != some p.1 && o.dst != some p.2) &&
  L.all (fun s => o.dst != some s || match o.op with
    | .fieldAddr _ (.tmp b) _ => L.contains b
    | _ => false) &&
  (decide (kindOf pf o.op ≤ 1) || match o.op with
    | .store _ _ _ => true
    | .call ⟨.value (.func g), _, _⟩ => D.isEmpty && bk g
    | _ => false)

end
end Go.AM
namespace Go.AM
open Go.RowKit
section
variable {C : Ctx} {pf : FuncId → Bool}

theorem freezeCell_box {hp hp1 : Hp} {x y : PV} (h : freezeCell hp x = some (y, hp1)) {id : Nat} {b : Blk} (hb : hp id = some b) (ha : b.arr = false) : hp1 id = some b := by
  unfold freezeCell at h
  split at h
  · split at h
    · rename_i b' hb'
      split at h
      · rename_i hc
        injection h with h
        injection h with _ h
        subst h
        rw [upd_other]
        · exact hb
        · rintro rfl
          rw [hb] at hb'
          injection hb' with hb'
          subst hb'
          rw [ha] at hc
          cases hc.1
      · cases h
    · cases h
  all_goals first
    | (injection h with h; injection h with _ h; subst h; exact hb)
    | cases h
theorem freezeCells_box : ∀ {xs ys : List PV} {hp hp1 : Hp}, freezeCells hp xs = some (ys, hp1) → ∀ {id : Nat} {b : Blk}, hp id = some b → b.arr = false → hp1 id = some b
  | [], ys, hp, hp1, h, id, b, hb, ha => by
    simp only [freezeCells] at h
    injection h with h; injection h with _ h; subst h; exact hb
  | x :: l, ys, hp, hp1, h, id, b, hb, ha => by
    simp only [freezeCells] at h
    split at h
    · rename_i y hp2 h1
      split at h
      · rename_i r hp3 h2
        injection h with h; injection h with _ h; subst h
        exact freezeCells_box h2 (freezeCell_box h1 hb ha) ha
      · cases h
    · cases h
theorem freezeVal_box {hp hp1 : Hp} {x y : PV} (h : freezeVal hp x = some (y, hp1)) {id : Nat} {b : Blk} (hb : hp id = some b) (ha : b.arr = false) : hp1 id = some b := by
  unfold freezeVal at h
  split at h
  · split at h
    · rename_i l h2 hf
      injection h with h; injection h with _ h; subst h
      exact freezeCells_box hf hb ha
    · cases h
  · exact freezeCell_box h hb ha

/-- A store keeps variables variables. -/
theorem store_box {P : Program} {hp hp' : Hp} {t : TypeId} {p x : PV} (h : storeA P hp t p x = some hp') {id : Nat} {b : Blk} (hb : hp id = some b) (ha : b.arr = false) : ∃ b', hp' id = some b' ∧ b'.arr = false := by
  unfold storeA at h
  split at h
  · rename_i id' i j
    split at h
    · rename_i b0 hb0
      split at h
      · rename_i y hp1 hf
        have h1 : hp1 id = some b := by
          split at hf
          · exact freezeVal_box hf hb ha
          · injection hf with hf; injection hf with _ hf; subst hf; exact hb
        split at h
        · rename_i b1 n hb1 _
          split at h
          · split at h
            · injection h with h
              subst h
              by_cases he : id = id'
              · subst he
                rw [h1] at hb1
                injection hb1 with hb1
                subst hb1
                exact ⟨_, upd_same _ _ _, ha⟩
              · exact ⟨b, by rw [upd_other _ _ _ _ he]; exact h1, ha⟩
            · cases h
          · cases h
        · cases h
      · cases h
    · cases h
  · cases h
/-- A store into a variable touches its block alone. -/
theorem store_only {P : Program} {hp hp' : Hp} {t : TypeId} {id i j : Nat} {x : PV} {b : Blk} (h : storeA P hp t (.ref id i j) x = some hp') (hb : hp id = some b) (ha : b.arr = false) {k : Nat} (hk : k ≠ id) : hp' k = hp k := by
  simp only [storeA, hb, ha] at h
  simp only [Bool.false_eq_true, if_false] at h
  split at h
  · split at h
    · split at h
      · injection h with h
        subst h
        exact upd_other _ _ _ _ hk
      · cases h
    · cases h
  · cases h
theorem store_upd {P : Program} {hp : Hp} {t : TypeId} {id i j : Nat} {x : PV} {b : Blk} (hb : hp id = some b) (ha : b.arr = false) : ∃ o : Option Blk, storeA P hp t (.ref id i j) x = o.map fun b' => upd hp id (some b') := by
  simp only [storeA, hb, ha]
  simp only [Bool.false_eq_true, if_false]
  split
  · split
    · split
      · exact ⟨some _, rfl⟩
      · exact ⟨none, rfl⟩
    · exact ⟨none, rfl⟩
  · exact ⟨none, rfl⟩

theorem pair_comm {D : List (Tmp × Tmp)} {ops : Array Oper} {l s : Oper} {t t' : TypeId} {a b : Tmp} {x : Operand} (hl : l.op = .load t (.tmp a)) (hs : s.op = .store t' (.tmp b) x) (gl : l.guard = none) (gs : s.guard = none) (hap : l.apart ops s = true) {st : St} (hA : apart1 st a b) :
    (stepA C ops l st).bind (stepA C ops s) = (stepA C ops s st).bind (stepA C ops l) := by
  obtain ⟨h1, h2, h3⟩ := Oper.apart_spec hap
  have wl : ∀ σ, Region.wanted l (yieldA ops σ) = true := fun σ => by unfold Region.wanted; rw [gl]
  have ws : ∀ σ, Region.wanted s (yieldA ops σ) = true := fun σ => by unfold Region.wanted; rw [gs]
  have rl : ∀ σ hp nx, rawA C ops l σ hp nx = (loadA C.P hp t (σ a)).map fun y => (y, hp, nx) := fun σ hp nx => by simp only [rawA, wl, if_true, hl, evalOp, get]
  have cs : ∀ y hp nx, rawA C ops s (put st.σ l.dst y) hp nx = rawA C ops s st.σ hp nx := fun y hp nx => rawA_congr fun u hu => put_other fun e he hte => h1 e he (hte ▸ hu)
  have cl : ∀ y hp nx, rawA C ops l (put st.σ s.dst y) hp nx = rawA C ops l st.σ hp nx := fun y hp nx => rawA_congr fun u hu => put_other fun e he hte => h3 e he (hte ▸ hu)
  have comm : ∀ y z, put (put st.σ l.dst y) s.dst z = put (put st.σ s.dst z) l.dst y := fun y z => put_comm h2
  obtain ⟨id, i, j, id', i', j', blk, ea, eb, hne, hb, harr⟩ := hA
  have rs : ∃ o : Option Blk, rawA C ops s st.σ st.hp st.nx = o.map fun b' => (.tup [], upd st.hp id' (some b'), st.nx) := by
    simp only [rawA, ws, if_true, hs, evalOp]
    cases hx : get st.σ x with
    | none => exact ⟨none, by simp [get]⟩
    | some y =>
      obtain ⟨o, ho⟩ := store_upd (P := C.P) (t := t') (i := i') (j := j') (x := y) hb harr
      refine ⟨o, ?_⟩
      simp only [get, eb, ho]
      cases o <;> rfl
  obtain ⟨o, ho⟩ := rs
  have hload : ∀ b' : Blk, loadA C.P (upd st.hp id' (some b')) t (st.σ a) = loadA C.P st.hp t (st.σ a) := fun b' => by
    rw [ea]
    simp only [loadA, upd_other _ _ _ _ hne]
  rw [stepA_raw ops l st, stepA_raw ops s st, rl, ho]
  cases hv : loadA C.P st.hp t (st.σ a) with
  | none =>
    cases o with
    | none => rfl
    | some b' =>
      simp only [Option.map_some, Option.map_none, Option.bind_some, Option.bind_none]
      rw [stepA_raw]
      simp only [cl, rl, hload, hv, Option.map_none]
  | some y =>
    simp only [Option.map_some, Option.bind_some]
    rw [stepA_raw]
    simp only [cs, ho]
    cases o with
    | none => rfl
    | some b' =>
      simp only [Option.map_some, Option.bind_some]
      rw [stepA_raw]
      simp only [cl, rl, hload, hv, Option.map_some, comm]

theorem load_comm {ops : Array Oper} {l c : Oper} {t : TypeId} {a : Tmp} {g : FuncId} {as : Array Operand} {ts : Array TypeId} {L : List Tmp} (hl : l.op = .load t (.tmp a)) (hc : c.op = .call ⟨.value (.func g), as, ts⟩) (hk : ∀ spec, C.Γ g = some spec → BoxKeep spec) (gl : l.guard = none) (gc : c.guard = none) (hap : l.apart ops c = true) {st : St} (hA : RefsA L st) (ha : a ∈ L) :
    (stepA C ops l st).bind (stepA C ops c) = (stepA C ops c st).bind (stepA C ops l) := by
  obtain ⟨h1, h2, h3⟩ := Oper.apart_spec hap
  have wl : ∀ σ, Region.wanted l (yieldA ops σ) = true := fun σ => by unfold Region.wanted; rw [gl]
  have wc : ∀ σ, Region.wanted c (yieldA ops σ) = true := fun σ => by unfold Region.wanted; rw [gc]
  have rl : ∀ σ hp nx, rawA C ops l σ hp nx = (loadA C.P hp t (σ a)).map fun y => (y, hp, nx) := fun σ hp nx => by simp only [rawA, wl, if_true, hl, evalOp, get]
  have cs : ∀ y hp nx, rawA C ops c (put st.σ l.dst y) hp nx = rawA C ops c st.σ hp nx := fun y hp nx => rawA_congr fun u hu => put_other fun e he hte => h1 e he (hte ▸ hu)
  have cl : ∀ y hp nx, rawA C ops l (put st.σ c.dst y) hp nx = rawA C ops l st.σ hp nx := fun y hp nx => rawA_congr fun u hu => put_other fun e he hte => h3 e he (hte ▸ hu)
  have comm : ∀ y z, put (put st.σ l.dst y) c.dst z = put (put st.σ c.dst z) l.dst y := fun y z => put_comm h2
  have hload : ∀ z hp' nx', rawA C ops c st.σ st.hp st.nx = some (z, hp', nx') → loadA C.P hp' t (st.σ a) = loadA C.P st.hp t (st.σ a) := by
    intro z hp' nx' hr
    simp only [rawA, wc, if_true, hc, evalOp, evalCall] at hr
    split at hr
    · simp only [get, callVal] at hr
      split at hr
      · rename_i spec hs
        have hb := (hk spec hs _ _ _ _ _ _ hr).2
        cases hσ : st.σ a with
        | ref id i j =>
          obtain ⟨e1, blk, e2, e3⟩ := hA a ha id i j hσ
          simp only [loadA, hb id blk e1 e2 e3, e2]
        | _ => rfl
      · cases hr
    · cases hr
  rw [stepA_raw ops l st, stepA_raw ops c st, rl]
  cases hr : rawA C ops c st.σ st.hp st.nx with
  | none =>
    cases hv : loadA C.P st.hp t (st.σ a) with
    | none => rfl
    | some y =>
      simp only [Option.map_some, Option.map_none, Option.bind_some, Option.bind_none]
      rw [stepA_raw]
      simp only [cs, hr, Option.map_none]
  | some q =>
    obtain ⟨z, hp', nx'⟩ := q
    have hlo := hload z hp' nx' hr
    cases hv : loadA C.P st.hp t (st.σ a) with
    | none =>
      simp only [Option.map_some, Option.map_none, Option.bind_some, Option.bind_none]
      rw [stepA_raw]
      simp only [cl, rl, hlo, hv, Option.map_none]
    | some y =>
      simp only [Option.map_some, Option.bind_some]
      rw [stepA_raw, stepA_raw]
      simp only [cs, hr, cl, rl, hlo, hv, Option.map_some, comm]

theorem commD_ok (hpf : ∀ g spec, pf g = true → C.Γ g = some spec → Quiet spec) {bk : FuncId → Bool} (hbk : ∀ g spec, bk g = true → C.Γ g = some spec → BoxKeep spec) {D : List (Tmp × Tmp)} {L : List Tmp} {ops : Array Oper} (hpl : plainB pf D L bk ops = true) : CommOk C ops (commD pf D L bk ops) (fun st => ApartA D st ∧ RefsA L st) := by
  refine ⟨fun i o st st' ho hA hs => ?_, fun i j a b st ha hb hcm hA => ?_⟩
  · simp only [plainB, Bool.or_eq_true, Bool.and_eq_true] at hpl
    rcases hpl with ⟨hD, hL⟩ | hpl
    · have hD : D = [] := by simpa using hD
      have hL : L = [] := by simpa using hL
      subst hD; subst hL
      exact ⟨(fun p hp => (by cases hp)), (fun s hs => (by cases hs))⟩
    have h0 := Array.all_eq_true'.1 hpl o (Array.mem_of_getElem? ho)
    simp only [Bool.and_eq_true, Bool.or_eq_true, decide_eq_true_eq] at h0
    obtain ⟨⟨hd, hld⟩, hk⟩ := h0
    rw [stepA_raw] at hs
    obtain ⟨r, hr, hst⟩ := map_some_inv hs
    obtain ⟨y, hp1, nx1⟩ := r
    subst hst
    -- what becomes of variables
    have hbox : (∀ id blk, st.hp id = some blk → blk.arr = false → D ≠ [] ∨ id < st.nx → ∃ b', hp1 id = some b' ∧ b'.arr = false) ∧ st.nx ≤ nx1 := by
      rcases hk with hk | hk
      · obtain ⟨rfl, rfl⟩ := raw_quiet1 hpf hk hr
        exact ⟨fun id blk h1 h2 _ => ⟨blk, h1, h2⟩, Nat.le_refl _⟩
      · unfold rawA at hr
        split at hr
        · split at hk
          · rename_i t q x hop
            rw [hop] at hr
            simp only [evalOp] at hr
            split at hr
            · obtain ⟨h2, e1, e2⟩ := map_some_inv hr
              injection e2 with _ e2
              injection e2 with e2 e3
              subst e2; subst e3
              exact ⟨fun id blk h1 h2 _ => store_box e1 h1 h2, Nat.le_refl _⟩
            · cases hr
          · rename_i g as ts hop
            simp only [Bool.and_eq_true] at hk
            rw [hop] at hr
            simp only [evalOp, evalCall] at hr
            split at hr
            · simp only [get, callVal] at hr
              split at hr
              · rename_i spec hsp
                obtain ⟨e1, e2⟩ := hbk g spec hk.2 hsp _ _ _ _ _ _ hr
                refine ⟨fun id blk h1 h2 h3 => ?_, e1⟩
                rcases h3 with h3 | h3
                · exact absurd (by simpa using hk.1) h3
                · exact ⟨blk, e2 id blk h3 h1 h2, h2⟩
              · cases hr
            · cases hr
          · cases hk
        · injection hr with hr
          injection hr with _ hr
          injection hr with e1 e2
          subst e1; subst e2
          exact ⟨fun id blk h1 h2 _ => ⟨blk, h1, h2⟩, Nat.le_refl _⟩
    refine ⟨fun p hp => ?_, fun s hsL id i' j' hs' => ?_⟩
    rotate_left
    · replace hs' : put st.σ o.dst y s = .ref id i' j' := hs'
      have hlow : id < st.nx ∧ ∃ blk, st.hp id = some blk ∧ blk.arr = false := by
        have hl := List.all_eq_true.1 hld s hsL
        simp only [Bool.or_eq_true, bne_iff_ne] at hl
        by_cases hds : o.dst = some s
        · rcases hl with hl | hl
          · exact absurd hds hl
          · split at hl
            · rename_i t b f hop
              have hy : y = .ref id i' j' := by
                simp only [hds, put] at hs'
                rw [upd_same] at hs'
                exact hs'
              subst hy
              unfold rawA at hr
              split at hr
              · rw [hop] at hr
                simp only [evalOp, get] at hr
                obtain ⟨z, e1, e2⟩ := map_some_inv hr
                injection e2 with e2 _
                subst e2
                unfold fieldAddrA at e1
                split at e1
                · split at e1
                  · split at e1
                    · cases e1
                    · injection e1 with e1; cases e1
                  · cases e1
                · rename_i id0 i0 j0 hσ
                  split at e1
                  · split at e1
                    · cases e1
                    · injection e1 with e1
                      injection e1 with e1 _ _
                      subst e1
                      exact hA.2 b (by simpa using hl) _ _ _ hσ
                  · cases e1
                · cases e1
              · injection hr with hr
                injection hr with hr _
                cases hr
            · cases hl
        · rw [put_other (fun e he => by rintro rfl; exact hds he)] at hs'
          exact hA.2 s hsL id i' j' hs'
      obtain ⟨h1, blk, h2, h3⟩ := hlow
      exact ⟨Nat.lt_of_lt_of_le h1 hbox.2, hbox.1 id blk h2 h3 (.inr h1)⟩
    · obtain ⟨id, k, m, id', k', m', blk, ea, eb, hne, hbl, harr⟩ := hA.1 p hp
      have hd := List.all_eq_true.1 hd p hp
      simp only [Bool.and_eq_true, bne_iff_ne] at hd
      have ea' : put st.σ o.dst y p.1 = .ref id k m := by rw [put_other (fun e he => by rintro rfl; exact hd.1 he)]; exact ea
      have eb' : put st.σ o.dst y p.2 = .ref id' k' m' := by rw [put_other (fun e he => by rintro rfl; exact hd.2 he)]; exact eb
      obtain ⟨b', hb1, hb2⟩ := hbox.1 id' blk hbl harr (.inl (by rintro rfl; cases hp))
      exact ⟨id, k, m, id', k', m', b', ea', eb', hne, hb1, hb2⟩
  · simp only [commD, Bool.or_eq_true] at hcm
    rcases hcm with hcm | hcm
    · exact step_comm hpf hcm st
    · simp only [pairB, Bool.and_eq_true, Option.isNone_iff_eq_none] at hcm
      obtain ⟨⟨⟨⟨hap, hap2⟩, ga⟩, gb⟩, hm⟩ := hcm
      split at hm
      · rename_i t u t' v x h1 h2
        exact pair_comm (D := D) h1 h2 ga gb hap (hA.1 _ (by simpa using hm))
      · rename_i t v x t' u h1 h2
        exact (pair_comm (D := D) h2 h1 gb ga hap2 (hA.1 _ (by simpa using hm))).symm
      · rename_i t u g as ts h1 h2
        simp only [Bool.and_eq_true, List.contains_iff_mem] at hm
        exact load_comm h1 h2 (fun spec hs => hbk g spec hm.2 hs) ga gb hap hA.2 hm.1
      · rename_i g as ts t u h1 h2
        simp only [Bool.and_eq_true, List.contains_iff_mem] at hm
        exact (load_comm h2 h1 (fun spec hs => hbk g spec hm.2 hs) gb ga hap2 hA.2 hm.1).symm
      · cases hm
end
end Go.AM
