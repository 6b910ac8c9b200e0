/-
  The abstract machine, part 18: rules for running it on code that is written out.
-/
import Derived.Test.YtphmgjcjcdodhaaAm17
namespace Go.AM
open Go.RowKit

attribute [congr] bindK_congr condK_congr
attribute [simp] EvC_skip EvC_exit EvC_ret EvC_label EvC_seq EvC_cond EvC_block EvL_nil EvL_cons restK_eq bindK_some condK_true condK_false thenK_normal thenK_ret thenK_exit blockK_normal blockK_ret blockK_exit_same
  roundK_normal roundK_ret roundK_exit retK_normal retK_ret

@[simp] theorem normK_eq (K : Exit → St → Prop) (st : St) : normK K st = K .normal st := rfl
@[simp] theorem blockK_other (id i : Nat) (K : Exit → St → Prop) (st : St) (h : ¬ i = id) : blockK id K (.exit i) st = K (.exit i) st := by simp [blockK, h]

theorem upd_app {α : Type} (f : Nat → α) (k i : Nat) (x : α) : upd f k x i = if i = k then x else f i := rfl
@[simp] theorem upd_hit {α : Type} (f : Nat → α) (k : Nat) (x : α) : upd f k x k = x := by simp [upd]
@[simp] theorem upd_miss {α : Type} (f : Nat → α) (k i : Nat) (x : α) (h : ¬ i = k) : upd f k x i = f i := by simp [upd, h]
@[simp] theorem put_some (σ : Nat → PV) (d : Nat) (x : PV) : put σ (some d) x = upd σ d x := rfl
@[simp] theorem put_none (σ : Nat → PV) (x : PV) : put σ none x = σ := rfl
@[simp] theorem start_app (args : List PV) (t : Nat) : startσ args t = (args[t]?).getD (.tup []) := rfl

@[simp] theorem get_tmp (σ : Nat → PV) (t : Nat) : get σ (.tmp t) = some (σ t) := rfl
@[simp] theorem get_func (σ : Nat → PV) (f : Nat) : get σ (.func f) = some (.fn (.func f) [] []) := rfl
@[simp] theorem get_int (σ : Nat → PV) (k : IntKind) (n : Int) : get σ (.const (.int k n)) = some (.v (.int k n)) := rfl
@[simp] theorem get_bool (σ : Nat → PV) (b : Bool) : get σ (.const (.bool b)) = some (.v (.bool b)) := rfl
@[simp] theorem get_str (σ : Nat → PV) (s : ByteArray) : get σ (.const (.string s)) = some (.v (.string s)) := rfl
@[simp] theorem get_nil (σ : Nat → PV) : get σ (.const (.slice none 0 0)) = some .nil := rfl
@[simp] theorem get_nilFunc (σ : Nat → PV) : get σ (.const .nilFunc) = some (.v .nilFunc) := rfl
@[simp] theorem get_agg (σ : Nat → PV) (cs : Array Value) : get σ (.const (.agg cs)) = (ofCells cs.toList).map .agg := rfl

@[simp] theorem step_plain (C : Ctx) (ops : Array Oper) (d : Option Tmp) (op : Op) (t : TypeId) (p : String) (af : Array Edge) (st : St) : stepA C ops ⟨d, op, t, p, af, none⟩ st =
    (evalOp C (get st.σ) st.hp st.nx op).map fun r => ⟨put st.σ d r.1, r.2.1, r.2.2⟩ := stepA_eq C ops d op t p af st
/-- A guarded operation: whether it is carried out is asked first. -/
def guardA (C : Ctx) (d : Option Tmp) (op : Op) (st : St) (y : Option Bool) (b : Bool) : Option St :=
  if y = some b then (evalOp C (get st.σ) st.hp st.nx op).map fun r => ⟨put st.σ d r.1, r.2.1, r.2.2⟩ else some ⟨put st.σ d (.tup []), st.hp, st.nx⟩
theorem guardA_congr {C : Ctx} {d : Option Tmp} {op : Op} {st : St} {y y' : Option Bool} {b : Bool} (h : y = y') : guardA C d op st y b = guardA C d op st y' b := by rw [h]
@[simp] theorem step_guard (C : Ctx) (ops : Array Oper) (d : Option Tmp) (op : Op) (t : TypeId) (p : String) (af : Array Edge) (j : Nat) (b : Bool) (st : St) : stepA C ops ⟨d, op, t, p, af, some (j, b)⟩ st =
    guardA C d op st (yieldA ops st.σ j) b := by
  unfold stepA guardA Region.wanted
  simp only [beq_iff_eq]
  split
  · cases evalOp C (get st.σ) st.hp st.nx op <;> rfl
  · rfl
@[simp] theorem guard_hit (C : Ctx) (d : Option Tmp) (op : Op) (st : St) (b : Bool) : guardA C d op st (some b) b = (evalOp C (get st.σ) st.hp st.nx op).map fun r => ⟨put st.σ d r.1, r.2.1, r.2.2⟩ := by simp [guardA]
@[simp] theorem guard_tf (C : Ctx) (d : Option Tmp) (op : Op) (st : St) : guardA C d op st (some true) false = some ⟨put st.σ d (.tup []), st.hp, st.nx⟩ := by simp [guardA]
@[simp] theorem guard_ft (C : Ctx) (d : Option Tmp) (op : Op) (st : St) : guardA C d op st (some false) true = some ⟨put st.σ d (.tup []), st.hp, st.nx⟩ := by simp [guardA]
@[simp] theorem guard_none (C : Ctx) (d : Option Tmp) (op : Op) (st : St) (b : Bool) : guardA C d op st none b = some ⟨put st.σ d (.tup []), st.hp, st.nx⟩ := by simp [guardA]
attribute [congr] guardA_congr

/-- The guard's outcome, out of the slot. -/
def boolOf : PV → Option Bool
  | .v (.bool b) => some b
  | _ => none
@[simp] theorem boolOf_bool (b : Bool) : boolOf (.v (.bool b)) = some b := rfl
@[simp] theorem boolOf_tup (l : List PV) : boolOf (.tup l) = none := rfl
def slotOf (σ : Nat → PV) : Option Nat → Option Bool
  | some d => boolOf (σ d)
  | none => none
@[simp] theorem slotOf_some (σ : Nat → PV) (d : Nat) : slotOf σ (some d) = boolOf (σ d) := rfl
@[simp] theorem yield_get (ops : Array Oper) (σ : Nat → PV) (j : Nat) : yieldA ops σ j = slotOf σ ((ops[j]?).bind (·.dst)) := by
  unfold yieldA slotOf boolOf
  cases (ops[j]?).bind (·.dst) with
  | none => rfl
  | some d => rfl

section
variable (C : Ctx) (ρ : Operand → Option PV) (hp : Hp) (nx : Nat)
@[simp] theorem op_move (x : Operand) : evalOp C ρ hp nx (.move x) = (ρ x).map fun y => (y, hp, nx) := rfl
@[simp] theorem op_assign (x : Operand) : evalOp C ρ hp nx (.assign x) = (ρ x).map fun y => (y, hp, nx) := rfl
def pickA (c a b : Option PV) : Option PV := match c with
  | some (.v (.bool true)) => a
  | some (.v (.bool false)) => b
  | _ => none
@[simp] theorem pickA_true (a b : Option PV) : pickA (some (.v (.bool true))) a b = a := rfl
@[simp] theorem pickA_false (a b : Option PV) : pickA (some (.v (.bool false))) a b = b := rfl
@[simp] theorem op_pick (c a b : Operand) : evalOp C ρ hp nx (.pick c a b) = (pickA (ρ c) (ρ a) (ρ b)).map fun y => (y, hp, nx) := by
  unfold pickA
  simp only [evalOp]
  generalize ρ c = o
  cases o with
  | none => rfl
  | some p =>
    cases p <;> (try rfl)
    rename_i x
    cases x <;> (try rfl)
    rename_i t
    cases t <;> rfl
@[simp] theorem op_bin (op : BinOp) (t t2 : TypeId) (x y : Operand) : evalOp C ρ hp nx (.binOp op t x y t2) = (do let p ← ρ x; let q ← ρ y; let r ← binA C.P op t p q; some (r, hp, nx)) := by
  simp only [evalOp]; cases ρ x <;> cases ρ y <;> (try rfl); simp; cases binA C.P op t _ _ <;> rfl
@[simp] theorem op_un (op : UnOp) (t : TypeId) (x : Operand) : evalOp C ρ hp nx (.unOp op t x) = (do let p ← ρ x; let r ← unA op p; some (r, hp, nx)) := by
  simp only [evalOp]; cases ρ x <;> (try rfl); simp; cases unA op _ <;> rfl
@[simp] theorem op_conv (s d : TypeId) (x : Operand) : evalOp C ρ hp nx (.convert s d x) = (do let p ← ρ x; let r ← convA C.P s d p; some (r, hp, nx)) := by
  simp only [evalOp]; cases ρ x <;> (try rfl); simp; cases convA C.P s d _ <;> rfl
@[simp] theorem op_load (t : TypeId) (x : Operand) : evalOp C ρ hp nx (.load t x) = (do let p ← ρ x; let r ← loadA C.P hp t p; some (r, hp, nx)) := by
  simp only [evalOp]; cases ρ x <;> (try rfl); simp; cases loadA C.P hp t _ <;> rfl
@[simp] theorem op_store (t : TypeId) (a x : Operand) : evalOp C ρ hp nx (.store t a x) = (do let p ← ρ a; let q ← ρ x; let h ← storeA C.P hp t p q; some (.tup [], h, nx)) := by
  simp only [evalOp]; cases ρ a <;> cases ρ x <;> (try rfl); simp; cases storeA C.P hp t _ _ <;> rfl
@[simp] theorem op_fieldAddr (t : TypeId) (x : Operand) (f : Nat) : evalOp C ρ hp nx (.fieldAddr t x f) = (do let p ← ρ x; let r ← fieldAddrA C.P t f p; some (r, hp, nx)) := by
  simp only [evalOp]; cases ρ x <;> (try rfl); simp; cases fieldAddrA C.P t f _ <;> rfl
@[simp] theorem op_field (t : TypeId) (x : Operand) (f : Nat) : evalOp C ρ hp nx (.field t x f) = (do let p ← ρ x; let r ← fieldValA C.P t f p; some (r, hp, nx)) := by
  simp only [evalOp]; cases ρ x <;> (try rfl); simp; cases fieldValA C.P t f _ <;> rfl
@[simp] theorem op_indexAddr (t : TypeId) (x i : Operand) : evalOp C ρ hp nx (.indexAddr t x i) = (do let p ← ρ x; let q ← ρ i; let r ← indexAddrA C.P hp t p q; some (r, hp, nx)) := by
  simp only [evalOp]; cases ρ x <;> cases ρ i <;> (try rfl); simp; cases indexAddrA C.P hp t _ _ <;> rfl
@[simp] theorem op_index (t : TypeId) (x i : Operand) : evalOp C ρ hp nx (.index t x i) = (do let p ← ρ x; let q ← ρ i; let r ← indexA C.P t p q; some (r, hp, nx)) := by
  simp only [evalOp]; cases ρ x <;> cases ρ i <;> (try rfl); simp; cases indexA C.P t _ _ <;> rfl
@[simp] theorem op_slice (t : TypeId) (x : Operand) (lo hi : Option Operand) : evalOp C ρ hp nx (.slice t x lo hi none) = (do let p ← ρ x; let r ← sliceA C.P hp t p (lo.map ρ) (hi.map ρ); some (r, hp, nx)) := by
  simp only [evalOp]; cases ρ x <;> (try rfl); simp; cases sliceA C.P hp t _ _ _ <;> rfl
@[simp] theorem op_makeSlice (t : TypeId) (l c : Operand) : evalOp C ρ hp nx (.makeSlice t l c) = (do let p ← ρ l; let q ← ρ c; makeSliceA C.P hp nx t p q) := by
  simp only [evalOp]; cases ρ l <;> cases ρ c <;> rfl
def extractA (i : Nat) : PV → Option PV
  | .tup vs => vs[i]?
  | _ => none
@[simp] theorem extractA_tup (i : Nat) (vs : List PV) : extractA i (.tup vs) = vs[i]? := rfl
@[simp] theorem op_extract (x : Operand) (i : Nat) : evalOp C ρ hp nx (.extract x i) = (do let p ← ρ x; let r ← extractA i p; some (r, hp, nx)) := by
  simp only [evalOp]
  cases ρ x with
  | none => rfl
  | some p => cases p <;> (try rfl); simp [extractA]; rename_i vs; cases vs[i]? <;> rfl
@[simp] theorem op_alloc (t : TypeId) : evalOp C ρ hp nx (.alloc t) = (do let n ← sizeA C.P t; let z ← zeroA C.P t; if z.length = n then some (.ref nx 0 0, upd hp nx (some ⟨t, n, false, [z]⟩), nx + 1) else none) := by
  simp only [evalOp]; cases sizeA C.P t <;> cases zeroA C.P t <;> rfl
@[simp] theorem op_box (t : TypeId) (x : Operand) : evalOp C ρ hp nx (.box t x) = (do let n ← sizeA C.P t; let y ← ρ x; if y.cells.length = n ∧ y.cells.all PV.isCell = true then some (.ref nx 0 0, upd hp nx (some ⟨t, n, false, [y.cells]⟩), nx + 1) else none) := by
  simp only [evalOp]; cases sizeA C.P t <;> cases ρ x <;> rfl
@[simp] theorem op_build (t : TypeId) (ps : Array (Nat × Operand)) : evalOp C ρ hp nx (.build t ps) = (do let q ← partsA ρ ps.toList; let r ← buildA C.P t q; some (r, hp, nx)) := by
  simp only [evalOp]; cases partsA ρ ps.toList <;> (try rfl); simp; cases buildA C.P t _ <;> rfl
@[simp] theorem op_buildSlice (t : TypeId) (n : Nat) (ps : Array (Nat × Operand)) : evalOp C ρ hp nx (.buildSlice t n ps) = (do let q ← partsA ρ ps.toList; buildSliceA C.P hp nx t n q) := by
  simp only [evalOp]; cases partsA ρ ps.toList <;> rfl
@[simp] theorem op_makeFunc (f : Fn) (a b : Array Operand) : evalOp C ρ hp nx (.makeFunc f a b) = (do let p ← allSome (a.toList.map ρ); let q ← allSome (b.toList.map ρ); some (.fn f p q, hp, nx)) := by
  simp only [evalOp]; cases allSome (a.toList.map ρ) <;> cases allSome (b.toList.map ρ) <;> rfl
@[simp] theorem op_call (f : Operand) (args : Array Operand) (ts : Array TypeId) : evalOp C ρ hp nx (.call { callee := .value f, args := args, argTypes := ts }) = (do let xs ← allSome (args.toList.map ρ); callVal C hp nx (ρ f) xs) := by
  simp only [evalOp, evalCall]; cases allSome (args.toList.map ρ) <;> rfl
@[simp] theorem op_builtin (b : Builtin) (args : Array Operand) (ts : Array TypeId) : evalOp C ρ hp nx (.call { callee := .builtin b, args := args, argTypes := ts }) = (do let xs ← allSome (args.toList.map ρ); evalBuiltin C.P hp nx ts b xs) := by
  simp only [evalOp, evalCall]; cases allSome (args.toList.map ρ) <;> rfl
end

@[simp] theorem allSome_nil {α : Type} : allSome ([] : List (Option α)) = some [] := rfl
@[simp] theorem allSome_cons {α : Type} (x : α) (l : List (Option α)) : allSome (some x :: l) = (allSome l).map (x :: ·) := rfl
@[simp] theorem parts_nil (ρ : Operand → Option PV) : partsA ρ [] = some [] := rfl
@[simp] theorem parts_cons (ρ : Operand → Option PV) (i : Nat) (x : Operand) (l : List (Nat × Operand)) : partsA ρ ((i, x) :: l) = (do let p ← ρ x; let r ← partsA ρ l; some ((i, p) :: r)) := by
  simp only [partsA]; cases ρ x <;> cases partsA ρ l <;> rfl
theorem callVal_fn (C : Ctx) (hp : Hp) (nx g : Nat) (first captured xs : List PV) (spec : AM.Spec) (h : C.Γ g = some spec) : callVal C hp nx (some (.fn (.func g) first captured)) xs = spec (first ++ xs ++ captured) hp nx := by simp [callVal, h]

section
variable (P : Program) (hp : Hp) (nx : Nat) (t : TypeId)
@[simp] theorem bin_int (op : BinOp) (k : IntKind) (a b : Int) : binA P op t (.v (.int k a)) (.v (.int k b)) = intA op k a b := by simp [binA]
@[simp] theorem bin_str (op : BinOp) (a b : ByteArray) : binA P op t (.v (.string a)) (.v (.string b)) = strA op a b := rfl
theorem bin_agg (op : BinOp) (xs ys : List PV) : binA P op t (.agg xs) (.agg ys) = match flatA P t with
    | some ks => match op with
      | .eql => (eqCells ks xs ys).map fun r => .v (.bool r)
      | .neq => (eqCells ks xs ys).map fun r => .v (.bool !r)
      | _ => none
    | none => none := rfl
@[simp] theorem un_not (b : Bool) : unA .not (.v (.bool b)) = some (.v (.bool !b)) := rfl
@[simp] theorem un_neg (k : IntKind) (n : Int) : unA .neg (.v (.int k n)) = some (.v (.int k (k.wrap (0 - n)))) := rfl
@[simp] theorem load_ptr (cs : List PV) : loadA P hp t (.ptr cs) = readCells P t cs := rfl
@[simp] theorem load_ref (id i j : Nat) : loadA P hp t (.ref id i j) = (do let b ← hp id; let c ← b.es[i]?; readCells P t (c.drop j)) := by
  simp only [loadA]; cases hp id with
  | none => rfl
  | some b => simp; cases b.es[i]? <;> rfl
@[simp] theorem fieldAddr_ptr (f : Nat) (cs : List PV) : fieldAddrA P t f (.ptr cs) = (do let q ← fieldA P t f; if q.2.1 = 0 then none else some (.ptr (cs.drop q.1))) := by
  simp only [fieldAddrA]; cases fieldA P t f <;> rfl
@[simp] theorem fieldAddr_ref (f id i j : Nat) : fieldAddrA P t f (.ref id i j) = (do let q ← fieldA P t f; if q.2.1 = 0 then none else some (.ref id i (j + q.1))) := by
  simp only [fieldAddrA]; cases fieldA P t f <;> rfl
@[simp] theorem len_str (s : ByteArray) : lenA P t (.v (.string s)) = match P.underlying t with | some .string => some (.v (.int .i64 s.size)) | _ => none := rfl
@[simp] theorem len_sl (s : Nat) (es : List (List PV)) : lenA P t (.sl s es) = (elemA P t).map fun _ => .v (.int .i64 es.length) := rfl
@[simp] theorem len_nil : lenA P t .nil = (elemA P t).map fun _ => .v (.int .i64 0) := rfl
@[simp] theorem len_own (id off n : Nat) : lenA P t (.own id off n) = (elemA P t).map fun _ => .v (.int .i64 n) := rfl
@[simp] theorem index_sl (s : Nat) (es : List (List PV)) (k : IntKind) (i : Int) : indexAddrA P hp t (.sl s es) (.v (.int k i)) = (do let e ← elemA P t; let n ← sizeA P e; if s = n ∧ 0 < n ∧ 0 ≤ i then (es[i.toNat]?).map .ptr else none) := by
  simp only [indexAddrA]; cases elemA P t with
  | none => rfl
  | some e => simp; cases sizeA P e <;> rfl
@[simp] theorem index_own (id off n : Nat) (k : IntKind) (i : Int) : indexAddrA P hp t (.own id off n) (.v (.int k i)) = (do let e ← elemA P t; let m ← sizeA P e; let b ← hp id; if b.e = e ∧ 0 < m ∧ 0 ≤ i ∧ i.toNat < n then some (.ref id (off + i.toNat) 0) else none) := by
  simp only [indexAddrA]; cases elemA P t with
  | none => rfl
  | some e => simp; cases sizeA P e <;> (try rfl); simp; cases hp id <;> rfl
end

@[simp] theorem blt_len (P : Program) (hp : Hp) (nx : Nat) (ts : Array TypeId) (x : PV) : evalBuiltin P hp nx ts .len [x] = (do let t ← ts[0]?; let y ← lenA P t x; some (y, hp, nx)) := by
  simp only [evalBuiltin]; cases ts[0]? with
  | none => rfl
  | some t => simp; cases lenA P t x <;> rfl
@[simp] theorem blt_min (P : Program) (hp : Hp) (nx : Nat) (ts : Array TypeId) (xs : List PV) : evalBuiltin P hp nx ts .min xs = (minA xs).map fun y => (y, hp, nx) := rfl
@[simp] theorem blt_max (P : Program) (hp : Hp) (nx : Nat) (ts : Array TypeId) (xs : List PV) : evalBuiltin P hp nx ts .max xs = (maxA xs).map fun y => (y, hp, nx) := rfl
@[simp] theorem blt_append (P : Program) (hp : Hp) (nx : Nat) (ts : Array TypeId) (s x : PV) : evalBuiltin P hp nx ts .append [s, x] = (do let t ← ts[0]?; let u ← ts[1]?; appendA P hp nx t u s x) := by
  simp only [evalBuiltin]; cases ts[0]? <;> cases ts[1]? <;> rfl
@[simp] theorem blt_copy (P : Program) (hp : Hp) (nx : Nat) (ts : Array TypeId) (s x : PV) : evalBuiltin P hp nx ts .copy [s, x] = (do let t ← ts[0]?; copyA P hp nx t s x) := by
  simp only [evalBuiltin]; cases ts[0]? <;> rfl
attribute [simp] minA minFrom maxA maxFrom intA strA setCells resultsA resultA
@[simp] theorem cells_agg (cs : List PV) : PV.cells (.agg cs) = cs := rfl
@[simp] theorem cells_tup (cs : List PV) : PV.cells (.tup cs) = [.tup cs] := rfl
@[simp] theorem cells_v (x : Value) : PV.cells (.v x) = [.v x] := rfl
@[simp] theorem cells_nil : PV.cells .nil = [.nil] := rfl
@[simp] theorem cells_em : PV.cells .em = [.em] := rfl
@[simp] theorem cells_sl (s : Nat) (es : List (List PV)) : PV.cells (.sl s es) = [.sl s es] := rfl
@[simp] theorem cells_ptr (cs : List PV) : PV.cells (.ptr cs) = [.ptr cs] := rfl
@[simp] theorem cells_own (i o n : Nat) : PV.cells (.own i o n) = [.own i o n] := rfl
@[simp] theorem cells_ref (i o n : Nat) : PV.cells (.ref i o n) = [.ref i o n] := rfl
@[simp] theorem cells_fn (f : Fn) (a b : List PV) : PV.cells (.fn f a b) = [.fn f a b] := rfl
@[simp] theorem isCell_v (x : Value) : PV.isCell (.v x) = true := rfl
@[simp] theorem isCell_nil : PV.isCell .nil = true := rfl
@[simp] theorem isCell_em : PV.isCell .em = true := rfl
@[simp] theorem isCell_sl (s : Nat) (es : List (List PV)) : PV.isCell (.sl s es) = true := rfl
@[simp] theorem isCell_ptr (cs : List PV) : PV.isCell (.ptr cs) = true := rfl
@[simp] theorem isCell_own (i o n : Nat) : PV.isCell (.own i o n) = true := rfl
@[simp] theorem isCell_ref (i o n : Nat) : PV.isCell (.ref i o n) = true := rfl
@[simp] theorem isCell_fn (f : Fn) (a b : List PV) : PV.isCell (.fn f a b) = true := rfl
@[simp] theorem isCell_agg (cs : List PV) : PV.isCell (.agg cs) = false := rfl
@[simp] theorem isCell_tup (cs : List PV) : PV.isCell (.tup cs) = false := rfl

attribute [simp] freezeCell freezeVal freezeVals freezeCells AM.freeze PV.flat PV.isV PV.noOwn
@[simp] theorem cellOpen_own (i o n : Nat) : PV.cellOpen (.own i o n) = true := rfl
@[simp] theorem cellOpen_v (x : Value) : PV.cellOpen (.v x) = false := rfl
@[simp] theorem cellOpen_nil : PV.cellOpen .nil = false := rfl
@[simp] theorem cellOpen_em : PV.cellOpen .em = false := rfl
@[simp] theorem cellOpen_sl (s : Nat) (es : List (List PV)) : PV.cellOpen (.sl s es) = false := rfl
@[simp] theorem cellOpen_ptr (cs : List PV) : PV.cellOpen (.ptr cs) = false := rfl
@[simp] theorem cellOpen_ref (i o n : Nat) : PV.cellOpen (.ref i o n) = false := rfl
@[simp] theorem cellOpen_fn (f : Fn) (a b : List PV) : PV.cellOpen (.fn f a b) = false := rfl
@[simp] theorem upd_upd {α : Type} (f : Nat → α) (k : Nat) (x y : α) : upd (upd f k x) k y = upd f k y := by
  funext i; simp only [upd]; split <;> rfl
@[simp] theorem store_ref (P : Program) (hp : Hp) (t : TypeId) (id i j : Nat) (x : PV) : storeA P hp t (.ref id i j) x = (do
    let b0 ← hp id
    let q ← (if b0.arr = true then freezeVal hp x else some (x, hp))
    let b ← q.2 id
    let n ← sizeA P t
    let c ← b.es[i]?
    if q.1.cells.length = n ∧ j + n ≤ c.length ∧ q.1.cells.all PV.isCell = true then some (upd q.2 id (some ⟨b.e, b.s, b.arr, b.es.set i (setCells c j q.1.cells)⟩)) else none) := by
  simp only [storeA]
  cases hp id with
  | none => rfl
  | some b0 =>
    simp only [Option.bind_eq_bind, Option.bind_some]
    generalize (if b0.arr = true then freezeVal hp x else some (x, hp)) = o
    cases o with
    | none => rfl
    | some q =>
      obtain ⟨y, h1⟩ := q
      simp only [Option.bind_some]
      cases h1 id with
      | none => rfl
      | some b =>
        simp only [Option.bind_some]
        cases sizeA P t with
        | none => rfl
        | some n =>
          simp only [Option.bind_some]
          cases b.es[i]? <;> rfl

theorem pureR_eq (r x : PV) (hp : Hp) (nx : Nat) : pureR r x hp nx = ((AM.freeze hp x).map (·.1) = some r) := rfl
@[simp] theorem pureR_v (x y : Value) (hp : Hp) (nx : Nat) : pureR (.v y) (.v x) hp nx = (x = y) := by simp [pureR]

/-- The number in a slot. -/
def numAt : PV → Int
  | .v (.int _ n) => n
  | _ => 0
@[simp] theorem numAt_int (k : IntKind) (n : Int) : numAt (.v (.int k n)) = n := rfl

/-- Numbers that fit. -/
theorem wrap_fit {n : Int} (h1 : -9223372036854775808 ≤ n) (h2 : n ≤ 9223372036854775807) : IntKind.i64.wrap n = n := by rw [IntKind.wrap_i64]; omega

end Go.AM
