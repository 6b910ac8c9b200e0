/-
  The abstract machine, part 23: guarded operations whose guard is not known: both outcomes in one state.
  The abstract machine, part 24: contracts of the library on numbers and texts as specs; slices that may be nil; recursion.
-/
import Derived.Test.YtphmgjcjcdodhaaAm21
namespace Go.AM
open Go.RowKit

/-- Operations that leave what is live alone. -/
def pureOp : Op → Bool
  | .move _ | .assign _ | .pick _ _ _ | .load _ _ | .binOp _ _ _ _ _ | .unOp _ _ _ | .convert _ _ _ | .fieldAddr _ _ _ | .field _ _ _ | .indexAddr _ _ _ | .index _ _ _ | .extract _ _ => true
  | .slice _ _ _ _ none => true
  | .call c => match c.callee with
    | .builtin .len => true
    | .builtin .min => true
    | .builtin .max => true
    | _ => false
  | _ => false
def valA (C : Ctx) (st : St) (op : Op) : Option PV := (evalOp C (get st.σ) st.hp st.nx op).map (·.1)
theorem back_map {o : Option PV} {hp : Hp} {nx : Nat} : (o.map fun y => (y, hp, nx)) = ((o.map fun y => (y, hp, nx)).map (·.1)).map fun x => (x, hp, nx) := by cases o <;> rfl
theorem back_bind {o : Option PV} {hp : Hp} {nx : Nat} : (o.bind fun y => some (y, hp, nx)) = ((o.bind fun y => some (y, hp, nx)).map (·.1)).map fun x => (x, hp, nx) := by cases o <;> rfl
theorem pureOp_eq {C : Ctx} {st : St} {op : Op} (h : pureOp op = true) : evalOp C (get st.σ) st.hp st.nx op = (valA C st op).map fun x => (x, st.hp, st.nx) := by
  unfold valA
  generalize get st.σ = ρ
  cases op with
  | move x => simp only [op_move]; exact back_map
  | assign x => simp only [op_assign]; exact back_map
  | pick c a b => simp only [op_pick]; exact back_map
  | load t a => simp only [op_load]; cases ρ a <;> (try rfl); exact back_bind
  | binOp op t x y t2 => simp only [op_bin]; cases ρ x <;> cases ρ y <;> (try rfl); exact back_bind
  | unOp op t x => simp only [op_un]; cases ρ x <;> (try rfl); exact back_bind
  | convert s d x => simp only [op_conv]; cases ρ x <;> (try rfl); exact back_bind
  | fieldAddr t x f => simp only [op_fieldAddr]; cases ρ x <;> (try rfl); exact back_bind
  | field t x f => simp only [op_field]; cases ρ x <;> (try rfl); exact back_bind
  | indexAddr t x i => simp only [op_indexAddr]; cases ρ x <;> cases ρ i <;> (try rfl); exact back_bind
  | index t x i => simp only [op_index]; cases ρ x <;> cases ρ i <;> (try rfl); exact back_bind
  | extract x i => simp only [op_extract]; cases ρ x <;> (try rfl); exact back_bind
  | slice t x lo hi mx =>
    cases mx with
    | none => simp only [op_slice]; cases ρ x <;> (try rfl); exact back_bind
    | some m => simp [pureOp] at h
  | call c =>
    obtain ⟨callee, args, ts⟩ := c
    cases callee with
    | builtin b =>
      simp only [op_builtin]
      cases allSome (args.toList.map ρ) with
      | none => rfl
      | some xs =>
        simp only [Option.bind_eq_bind, Option.bind_some]
        cases b <;> (try (simp [pureOp] at h; done))
        case len =>
          cases xs with
          | nil => rfl
          | cons x l =>
            cases l with
            | nil =>
              simp only [blt_len]
              cases ts[0]? <;> (try rfl)
              exact back_bind
            | cons _ _ => rfl
        case min => simp only [blt_min]; exact back_map
        case max => simp only [blt_max]; exact back_map
    | _ => simp [pureOp] at h
  | _ => simp [pureOp] at h

/-- A function that leaves what is live alone, by what is known of it. -/
def QuietIn (C : Ctx) (g : FuncId) : Prop := ∀ spec, C.Γ g = some spec → Quiet spec
/-- The same, for simp. -/
def PureOp (C : Ctx) (op : Op) : Prop := ∀ st : St, evalOp C (get st.σ) st.hp st.nx op = (valA C st op).map fun x => (x, st.hp, st.nx)
theorem pureOp_of {C : Ctx} {op : Op} (h : pureOp op = true) : PureOp C op := fun _ => pureOp_eq h
@[simp] theorem pu_call (C : Ctx) (g : FuncId) (a : Array Operand) (ts : Array TypeId) (h : QuietIn C g) : PureOp C (.call ⟨.value (.func g), a, ts⟩) := by
  intro st
  unfold valA
  simp only [op_call, get_func]
  cases allSome (a.toList.map (get st.σ)) with
  | none => rfl
  | some xs =>
    simp only [Option.bind_eq_bind, Option.bind_some]
    cases hs : C.Γ g with
    | none => simp [callVal, hs]
    | some spec =>
      rw [callVal_fn C st.hp st.nx g [] [] xs spec hs]
      cases hr : spec ([] ++ xs ++ []) st.hp st.nx with
      | none => rfl
      | some r =>
        obtain ⟨x, hp', nx'⟩ := r
        obtain ⟨rfl, rfl⟩ := h spec hs _ _ _ _ _ _ hr
        rfl
theorem quietIn_of {P : Program} {l : Tab} {g : Nat} {spec : AM.Spec} (h : lookup l g = some spec) (hq : Quiet spec) : QuietIn (mkCtx P l) g := fun s hs => by
  have : lookup l g = some s := hs
  rw [h] at this
  injection this with this
  exact this ▸ hq
@[simp] theorem pu_move (C : Ctx) (x : Operand) : PureOp C (.move x) := pureOp_of rfl
@[simp] theorem pu_assign (C : Ctx) (x : Operand) : PureOp C (.assign x) := pureOp_of rfl
@[simp] theorem pu_pick (C : Ctx) (c a b : Operand) : PureOp C (.pick c a b) := pureOp_of rfl
@[simp] theorem pu_load (C : Ctx) (t : TypeId) (x : Operand) : PureOp C (.load t x) := pureOp_of rfl
@[simp] theorem pu_bin (C : Ctx) (o : BinOp) (t t2 : TypeId) (x y : Operand) : PureOp C (.binOp o t x y t2) := pureOp_of rfl
@[simp] theorem pu_un (C : Ctx) (o : UnOp) (t : TypeId) (x : Operand) : PureOp C (.unOp o t x) := pureOp_of rfl
@[simp] theorem pu_conv (C : Ctx) (t u : TypeId) (x : Operand) : PureOp C (.convert t u x) := pureOp_of rfl
@[simp] theorem pu_fa (C : Ctx) (t : TypeId) (x : Operand) (f : Nat) : PureOp C (.fieldAddr t x f) := pureOp_of rfl
@[simp] theorem pu_fi (C : Ctx) (t : TypeId) (x : Operand) (f : Nat) : PureOp C (.field t x f) := pureOp_of rfl
@[simp] theorem pu_ia (C : Ctx) (t : TypeId) (x i : Operand) : PureOp C (.indexAddr t x i) := pureOp_of rfl
@[simp] theorem pu_ix (C : Ctx) (t : TypeId) (x i : Operand) : PureOp C (.index t x i) := pureOp_of rfl
@[simp] theorem pu_ex (C : Ctx) (x : Operand) (i : Nat) : PureOp C (.extract x i) := pureOp_of rfl
@[simp] theorem pu_sl (C : Ctx) (t : TypeId) (x : Operand) (lo hi : Option Operand) : PureOp C (.slice t x lo hi none) := pureOp_of rfl
@[simp] theorem pu_len (C : Ctx) (a : Array Operand) (ts : Array TypeId) : PureOp C (.call ⟨.builtin .len, a, ts⟩) := pureOp_of rfl
@[simp] theorem pu_min (C : Ctx) (a : Array Operand) (ts : Array TypeId) : PureOp C (.call ⟨.builtin .min, a, ts⟩) := pureOp_of rfl
@[simp] theorem pu_max (C : Ctx) (a : Array Operand) (ts : Array TypeId) : PureOp C (.call ⟨.builtin .max, a, ts⟩) := pureOp_of rfl
/-- One of two, by a bool that is not known. -/
def bc {α : Type} (y : Bool) (a b : α) : α := match y with
  | true => a
  | false => b
@[simp] theorem bc_true {α : Type} (a b : α) : bc true a b = a := rfl
@[simp] theorem bc_false {α : Type} (a b : α) : bc false a b = b := rfl
@[simp] theorem bc_not {α : Type} (y : Bool) (a b : α) : bc (!y) a b = bc y b a := by cases y <;> rfl
@[simp] theorem bc_same {α : Type} (y : Bool) (a : α) : bc y a a = a := by cases y <;> rfl
/-- A bool that is not looked into. -/
def bx (y : Bool) : Bool := y
@[simp] theorem bx_true : bx true = true := rfl
@[simp] theorem bx_false : bx false = false := rfl
@[simp] theorem bc_bc1 {α : Type} (y : Bool) (a b c : α) : bc y (bc y a b) c = bc y a c := by cases y <;> rfl
@[simp] theorem bc_bc2 {α : Type} (y : Bool) (a b c : α) : bc y a (bc y b c) = bc y a c := by cases y <;> rfl
/-- A guarded operation's value. -/
def gval (C : Ctx) (st : St) (op : Op) (y : Option Bool) (b : Bool) : Option PV := if y = some b then valA C st op else some (.tup [])
section
variable (C : Ctx) (d : Option Tmp) (op : Op) (st : St)
theorem guard_gval (y : Option Bool) (b : Bool) (h : PureOp C op) : guardA C d op st y b = (gval C st op y b).map fun x => ⟨put st.σ d x, st.hp, st.nx⟩ := by
  unfold guardA gval
  rw [h st]
  split
  · cases valA C st op <;> rfl
  · rfl
@[simp low] theorem guard_lazy (y b : Bool) (h : PureOp C op) : guardA C d op st (some y) b = (gval C st op (some y) b).map fun x => ⟨put st.σ d x, st.hp, st.nx⟩ := guard_gval C d op st _ b h
@[simp] theorem guard_bc (y : Bool) (p q : Option Bool) (b : Bool) (h : PureOp C op) : guardA C d op st (bc y p q) b = (gval C st op (bc y p q) b).map fun x => ⟨put st.σ d x, st.hp, st.nx⟩ := guard_gval C d op st _ b h
@[simp] theorem gval_bc (y : Bool) (p q : Option Bool) (b : Bool) : gval C st op (bc y p q) b = bc y (gval C st op p b) (gval C st op q b) := by cases y <;> rfl
@[simp] theorem gval_none (b : Bool) : gval C st op none b = some (.tup []) := rfl
@[simp] theorem gval_t (y : Bool) : gval C st op (some y) true = bc (bx y) (valA C st op) (some (.tup [])) := by cases y <;> rfl
@[simp] theorem gval_f (y : Bool) : gval C st op (some y) false = bc (bx y) (some (.tup [])) (valA C st op) := by cases y <;> rfl
end
@[simp] theorem boolOf_bc (y : Bool) (a b : PV) : boolOf (bc y a b) = bc y (boolOf a) (boolOf b) := by cases y <;> rfl
@[simp] theorem bc_some {α : Type} (y : Bool) (a b : α) : bc y (some a) (some b) = some (bc y a b) := by cases y <;> rfl
@[simp] theorem pick_and (y z : Bool) (w : PV) : pickA (some (.v (.bool y))) (some (bc (bx y) (.v (.bool z)) w)) (some (.v (.bool false))) = some (.v (.bool (y && z))) := by cases y <;> rfl
@[simp] theorem pick_or (y z : Bool) (w : PV) : pickA (some (.v (.bool y))) (some (.v (.bool true))) (some (bc (bx y) w (.v (.bool z)))) = some (.v (.bool (y || z))) := by cases y <;> rfl

@[simp] theorem bc_deep1 {α : Type} (y q1 : Bool) (a b d0 d1 : α) : bc y (bc q1 (bc y a b) d1) d0 = bc y (bc q1 a d1) d0 := by cases y <;> rfl
@[simp] theorem bc_deep2 {α : Type} (y q1 : Bool) (a b d0 d1 : α) : bc y (bc q1 d1 (bc y a b)) d0 = bc y (bc q1 d1 a) d0 := by cases y <;> rfl
@[simp] theorem bc_deep3 {α : Type} (y q1 : Bool) (a b d0 d1 : α) : bc y d0 (bc q1 (bc y a b) d1) = bc y d0 (bc q1 b d1) := by cases y <;> rfl
@[simp] theorem bc_deep4 {α : Type} (y q1 : Bool) (a b d0 d1 : α) : bc y d0 (bc q1 d1 (bc y a b)) = bc y d0 (bc q1 d1 b) := by cases y <;> rfl
@[simp] theorem bc_deep5 {α : Type} (y q1 q2 : Bool) (a b d0 d1 d2 : α) : bc y (bc q1 (bc q2 (bc y a b) d2) d1) d0 = bc y (bc q1 (bc q2 a d2) d1) d0 := by cases y <;> rfl
@[simp] theorem bc_deep6 {α : Type} (y q1 q2 : Bool) (a b d0 d1 d2 : α) : bc y (bc q1 (bc q2 d2 (bc y a b)) d1) d0 = bc y (bc q1 (bc q2 d2 a) d1) d0 := by cases y <;> rfl
@[simp] theorem bc_deep7 {α : Type} (y q1 q2 : Bool) (a b d0 d1 d2 : α) : bc y (bc q1 d1 (bc q2 (bc y a b) d2)) d0 = bc y (bc q1 d1 (bc q2 a d2)) d0 := by cases y <;> rfl
@[simp] theorem bc_deep8 {α : Type} (y q1 q2 : Bool) (a b d0 d1 d2 : α) : bc y (bc q1 d1 (bc q2 d2 (bc y a b))) d0 = bc y (bc q1 d1 (bc q2 d2 a)) d0 := by cases y <;> rfl
@[simp] theorem bc_deep9 {α : Type} (y q1 q2 : Bool) (a b d0 d1 d2 : α) : bc y d0 (bc q1 (bc q2 (bc y a b) d2) d1) = bc y d0 (bc q1 (bc q2 b d2) d1) := by cases y <;> rfl
@[simp] theorem bc_deep10 {α : Type} (y q1 q2 : Bool) (a b d0 d1 d2 : α) : bc y d0 (bc q1 (bc q2 d2 (bc y a b)) d1) = bc y d0 (bc q1 (bc q2 d2 b) d1) := by cases y <;> rfl
@[simp] theorem bc_deep11 {α : Type} (y q1 q2 : Bool) (a b d0 d1 d2 : α) : bc y d0 (bc q1 d1 (bc q2 (bc y a b) d2)) = bc y d0 (bc q1 d1 (bc q2 b d2)) := by cases y <;> rfl
@[simp] theorem bc_deep12 {α : Type} (y q1 q2 : Bool) (a b d0 d1 d2 : α) : bc y d0 (bc q1 d1 (bc q2 d2 (bc y a b))) = bc y d0 (bc q1 d1 (bc q2 d2 b)) := by cases y <;> rfl
@[simp] theorem bc_deep13 {α : Type} (y q1 q2 q3 : Bool) (a b d0 d1 d2 d3 : α) : bc y (bc q1 (bc q2 (bc q3 (bc y a b) d3) d2) d1) d0 = bc y (bc q1 (bc q2 (bc q3 a d3) d2) d1) d0 := by cases y <;> rfl
@[simp] theorem bc_deep14 {α : Type} (y q1 q2 q3 : Bool) (a b d0 d1 d2 d3 : α) : bc y (bc q1 (bc q2 (bc q3 d3 (bc y a b)) d2) d1) d0 = bc y (bc q1 (bc q2 (bc q3 d3 a) d2) d1) d0 := by cases y <;> rfl
@[simp] theorem bc_deep15 {α : Type} (y q1 q2 q3 : Bool) (a b d0 d1 d2 d3 : α) : bc y (bc q1 (bc q2 d2 (bc q3 (bc y a b) d3)) d1) d0 = bc y (bc q1 (bc q2 d2 (bc q3 a d3)) d1) d0 := by cases y <;> rfl
@[simp] theorem bc_deep16 {α : Type} (y q1 q2 q3 : Bool) (a b d0 d1 d2 d3 : α) : bc y (bc q1 (bc q2 d2 (bc q3 d3 (bc y a b))) d1) d0 = bc y (bc q1 (bc q2 d2 (bc q3 d3 a)) d1) d0 := by cases y <;> rfl
@[simp] theorem bc_deep17 {α : Type} (y q1 q2 q3 : Bool) (a b d0 d1 d2 d3 : α) : bc y (bc q1 d1 (bc q2 (bc q3 (bc y a b) d3) d2)) d0 = bc y (bc q1 d1 (bc q2 (bc q3 a d3) d2)) d0 := by cases y <;> rfl
@[simp] theorem bc_deep18 {α : Type} (y q1 q2 q3 : Bool) (a b d0 d1 d2 d3 : α) : bc y (bc q1 d1 (bc q2 (bc q3 d3 (bc y a b)) d2)) d0 = bc y (bc q1 d1 (bc q2 (bc q3 d3 a) d2)) d0 := by cases y <;> rfl
@[simp] theorem bc_deep19 {α : Type} (y q1 q2 q3 : Bool) (a b d0 d1 d2 d3 : α) : bc y (bc q1 d1 (bc q2 d2 (bc q3 (bc y a b) d3))) d0 = bc y (bc q1 d1 (bc q2 d2 (bc q3 a d3))) d0 := by cases y <;> rfl
@[simp] theorem bc_deep20 {α : Type} (y q1 q2 q3 : Bool) (a b d0 d1 d2 d3 : α) : bc y (bc q1 d1 (bc q2 d2 (bc q3 d3 (bc y a b)))) d0 = bc y (bc q1 d1 (bc q2 d2 (bc q3 d3 a))) d0 := by cases y <;> rfl
@[simp] theorem bc_deep21 {α : Type} (y q1 q2 q3 : Bool) (a b d0 d1 d2 d3 : α) : bc y d0 (bc q1 (bc q2 (bc q3 (bc y a b) d3) d2) d1) = bc y d0 (bc q1 (bc q2 (bc q3 b d3) d2) d1) := by cases y <;> rfl
@[simp] theorem bc_deep22 {α : Type} (y q1 q2 q3 : Bool) (a b d0 d1 d2 d3 : α) : bc y d0 (bc q1 (bc q2 (bc q3 d3 (bc y a b)) d2) d1) = bc y d0 (bc q1 (bc q2 (bc q3 d3 b) d2) d1) := by cases y <;> rfl
@[simp] theorem bc_deep23 {α : Type} (y q1 q2 q3 : Bool) (a b d0 d1 d2 d3 : α) : bc y d0 (bc q1 (bc q2 d2 (bc q3 (bc y a b) d3)) d1) = bc y d0 (bc q1 (bc q2 d2 (bc q3 b d3)) d1) := by cases y <;> rfl
@[simp] theorem bc_deep24 {α : Type} (y q1 q2 q3 : Bool) (a b d0 d1 d2 d3 : α) : bc y d0 (bc q1 (bc q2 d2 (bc q3 d3 (bc y a b))) d1) = bc y d0 (bc q1 (bc q2 d2 (bc q3 d3 b)) d1) := by cases y <;> rfl
@[simp] theorem bc_deep25 {α : Type} (y q1 q2 q3 : Bool) (a b d0 d1 d2 d3 : α) : bc y d0 (bc q1 d1 (bc q2 (bc q3 (bc y a b) d3) d2)) = bc y d0 (bc q1 d1 (bc q2 (bc q3 b d3) d2)) := by cases y <;> rfl
@[simp] theorem bc_deep26 {α : Type} (y q1 q2 q3 : Bool) (a b d0 d1 d2 d3 : α) : bc y d0 (bc q1 d1 (bc q2 (bc q3 d3 (bc y a b)) d2)) = bc y d0 (bc q1 d1 (bc q2 (bc q3 d3 b) d2)) := by cases y <;> rfl
@[simp] theorem bc_deep27 {α : Type} (y q1 q2 q3 : Bool) (a b d0 d1 d2 d3 : α) : bc y d0 (bc q1 d1 (bc q2 d2 (bc q3 (bc y a b) d3))) = bc y d0 (bc q1 d1 (bc q2 d2 (bc q3 b d3))) := by cases y <;> rfl
@[simp] theorem bc_deep28 {α : Type} (y q1 q2 q3 : Bool) (a b d0 d1 d2 d3 : α) : bc y d0 (bc q1 d1 (bc q2 d2 (bc q3 d3 (bc y a b)))) = bc y d0 (bc q1 d1 (bc q2 d2 (bc q3 d3 b))) := by cases y <;> rfl

section
variable (P : Program) (C : Ctx) (hp : Hp) (nx : Nat) (t u : TypeId) (y : Bool) (a b : PV)
@[simp] theorem load_bc : loadA P hp t (bc y a b) = bc y (loadA P hp t a) (loadA P hp t b) := by cases y <;> rfl
@[simp] theorem bin_bc1 (o : BinOp) (x : PV) : binA P o t (bc y a b) x = bc y (binA P o t a x) (binA P o t b x) := by cases y <;> rfl
@[simp] theorem bin_bc2 (o : BinOp) (x : PV) : binA P o t x (bc y a b) = bc y (binA P o t x a) (binA P o t x b) := by cases y <;> rfl
@[simp] theorem un_bc (o : UnOp) : unA o (bc y a b) = bc y (unA o a) (unA o b) := by cases y <;> rfl
@[simp] theorem conv_bc : convA P t u (bc y a b) = bc y (convA P t u a) (convA P t u b) := by cases y <;> rfl
@[simp] theorem fieldAddr_bc (f : Nat) : fieldAddrA P t f (bc y a b) = bc y (fieldAddrA P t f a) (fieldAddrA P t f b) := by cases y <;> rfl
@[simp] theorem fieldVal_bc (f : Nat) : fieldValA P t f (bc y a b) = bc y (fieldValA P t f a) (fieldValA P t f b) := by cases y <;> rfl
@[simp] theorem indexAddr_bc1 (x : PV) : indexAddrA P hp t (bc y a b) x = bc y (indexAddrA P hp t a x) (indexAddrA P hp t b x) := by cases y <;> rfl
@[simp] theorem indexAddr_bc2 (x : PV) : indexAddrA P hp t x (bc y a b) = bc y (indexAddrA P hp t x a) (indexAddrA P hp t x b) := by cases y <;> rfl
@[simp] theorem index_bc1 (x : PV) : indexA P t (bc y a b) x = bc y (indexA P t a x) (indexA P t b x) := by cases y <;> rfl
@[simp] theorem index_bc2 (x : PV) : indexA P t x (bc y a b) = bc y (indexA P t x a) (indexA P t x b) := by cases y <;> rfl
@[simp] theorem len_bc : lenA P t (bc y a b) = bc y (lenA P t a) (lenA P t b) := by cases y <;> rfl
@[simp] theorem slice_bc1 (lo hi : Option (Option PV)) : sliceA P hp t (bc y a b) lo hi = bc y (sliceA P hp t a lo hi) (sliceA P hp t b lo hi) := by cases y <;> rfl
@[simp] theorem slice_bc2 (x : PV) (hi : Option (Option PV)) : sliceA P hp t x (some (some (bc y a b))) hi = bc y (sliceA P hp t x (some (some a)) hi) (sliceA P hp t x (some (some b)) hi) := by cases y <;> rfl
@[simp] theorem slice_bc3 (x : PV) (lo : Option (Option PV)) : sliceA P hp t x lo (some (some (bc y a b))) = bc y (sliceA P hp t x lo (some (some a))) (sliceA P hp t x lo (some (some b))) := by cases y <;> rfl
@[simp] theorem extract_bc (i : Nat) : extractA i (bc y a b) = bc y (extractA i a) (extractA i b) := by cases y <;> rfl
@[simp] theorem pick_bc1 (p q : Option PV) : pickA (some (bc y a b)) p q = bc y (pickA (some a) p q) (pickA (some b) p q) := by cases y <;> rfl
@[simp low] theorem pick_bc2 (p q : Option PV) : pickA p (some (bc y a b)) q = bc y (pickA p (some a) q) (pickA p (some b) q) := by cases y <;> rfl
@[simp low] theorem pick_bc3 (p q : Option PV) : pickA p q (some (bc y a b)) = bc y (pickA p q (some a)) (pickA p q (some b)) := by cases y <;> rfl
@[simp] theorem pure_bc1 (kill : Bool) (ns : List Nat) (F : List PV → Option PV) (l : List PV) : hPure kill ns F (bc y a b :: l) hp nx = bc y (hPure kill ns F (a :: l) hp nx) (hPure kill ns F (b :: l) hp nx) := by cases y <;> rfl
@[simp] theorem pure_bc2 (kill : Bool) (ns : List Nat) (F : List PV → Option PV) (x : PV) (l : List PV) : hPure kill ns F (x :: bc y a b :: l) hp nx = bc y (hPure kill ns F (x :: a :: l) hp nx) (hPure kill ns F (x :: b :: l) hp nx) := by cases y <;> rfl
@[simp] theorem pure_bc3 (kill : Bool) (ns : List Nat) (F : List PV → Option PV) (x z : PV) (l : List PV) : hPure kill ns F (x :: z :: bc y a b :: l) hp nx = bc y (hPure kill ns F (x :: z :: a :: l) hp nx) (hPure kill ns F (x :: z :: b :: l) hp nx) := by cases y <;> rfl
end
@[simp] theorem map_bc {α β : Type} (y : Bool) (f : α → β) (a b : Option α) : (bc y a b).map f = bc y (a.map f) (b.map f) := by cases y <;> rfl
@[simp] theorem bind_bc {α β : Type} (y : Bool) (f : α → Option β) (a b : Option α) : (bc y a b).bind f = bc y (a.bind f) (b.bind f) := by cases y <;> rfl
attribute [simp] valA
end Go.AM
namespace Go.AM
open Go.RowKit

/-- One region that asks for something. -/
def dynAt (k : Nat) (D : List (Tmp × Tmp)) (i : Nat) : List (Tmp × Tmp) := if i = k then D else []
@[simp] theorem mkCtxD_dyn (P : Program) (l : Tab) (k : Nat) (D : List (Tmp × Tmp)) (i : Nat) : (mkCtxD P l (dynAt k D)).dyn i = if i = k then D else [] := rfl
@[simp] theorem EvC_region_mkD (P : Program) (l : Tab) (k : Nat) (D : List (Tmp × Tmp)) (i : Nat) (ops : Array Oper) (d : Bool) (st : St) (K : Exit → St → Prop) (h : ¬ i = k) : EvC (mkCtxD P l (dynAt k D)) (.region i ops d) st K = EvL (mkCtxD P l (dynAt k D)) ops ops.toList st (normK K) := EvC_region _ i ops d st K (by simp [h]) rfl
theorem apartA_one {a b : Tmp} {st : St} {id i j id' i' j' : Nat} {blk : Blk} (h1 : st.σ a = .ref id i j) (h2 : st.σ b = .ref id' i' j') (h3 : id ≠ id') (h4 : st.hp id' = some blk) (h5 : blk.arr = false) : ApartA [(a, b)] st := by
  intro p hp
  obtain rfl := List.mem_singleton.1 hp
  exact ⟨id, i, j, id', i', j', blk, h1, h2, h3, h4, h5⟩

theorem zip_lits {w : World} {S : Nat → Prop} {G : Nat → GI} {nx : Nat} : ∀ {us vs : List Value}, (∀ u ∈ us, lit u = true) → Zip (RepO w S G nx) (us.map PV.v) vs → vs = us
  | [], vs, _, h => by
    have := h.1
    simp at this
    exact List.length_eq_zero_iff.1 this.symm
  | u :: us, vs, hl, h => by
    obtain ⟨v, vs', rfl, hv, hz⟩ := h.uncons
    rw [zip_lits (fun x hx => hl x (by simp [hx])) hz]
    congr 1
    cases hv with
    | c hc => exact hc.v_inv.1

theorem freezeVals_lits (hp : Hp) : ∀ us : List Value, freezeVals hp (us.map PV.v) = some (us.map PV.v, hp)
  | [] => rfl
  | u :: us => by
    simp only [List.map_cons, freezeVals, freezeVal, freezeCell, freezeVals_lits hp us]

/-- A contract on numbers and texts. -/
theorem sound_scalar {P : Program} {g : FuncId} {F : List PV → Option PV} (hfn : ∃ fn, P.funcs[g]? = some fn ∧ (fn.name == "runtime.NumGoroutine") = false ∧ fn.body.isNone = false)
    (h : ∀ args r, F args = some r → ∃ us : List Value, args = us.map PV.v ∧ (∀ u ∈ us, lit u = true) ∧ ∃ v, r = .v v ∧ lit v = true ∧ ∀ w, Calls P g us.toArray w fun e w' => e = .returned v ∧ w' = w) : SpecSound P g (hPure false [] F) := by
  refine ⟨hfn, ?_⟩
  intro args hp nx r hp' nx' hs w S G vs hi hz
  unfold hPure at hs
  split at hs
  · rename_i as hp1 hfr
    split at hs
    · rename_i r0 hF
      obtain ⟨us, e, hl, v, rfl, hv, hc⟩ := h _ _ hF
      have e' : normArgs [] as = as := by cases as <;> rfl
      rw [e'] at e
      subst e
      have hargs : args = us.map PV.v := by
        have key : ∀ (args : List PV) (us : List Value) (hp1 : Hp), freezeVals hp args = some (us.map PV.v, hp1) → args = us.map PV.v := by
          intro args
          induction args with
          | nil => intro us hp1 hh; simp only [freezeVals] at hh; injection hh with hh; injection hh with hh _
          | cons x l ih =>
            intro us hp1 hh
            simp only [freezeVals] at hh
            split at hh
            · rename_i y hp2 hy
              split at hh
              · rename_i r2 hp3 hr2
                injection hh with hh
                injection hh with hh _
                cases us with
                | nil => simp at hh
                | cons u us =>
                  simp only [List.map_cons, List.cons.injEq] at hh
                  obtain ⟨rfl, rfl⟩ := hh
                  have hx : x = .v u ∧ hp2 = hp := by
                    unfold freezeVal at hy
                    split at hy
                    · split at hy
                      · injection hy with hy; injection hy with hy _; cases hy
                      · cases hy
                    · unfold freezeCell at hy
                      split at hy <;> first
                        | (split at hy <;> first | (split at hy <;> first | (injection hy with hy; injection hy with hy _; cases hy; done) | cases hy) | cases hy)
                        | (injection hy with hy; injection hy with h1 h2; first | (exact ⟨by rw [← h1], h2.symm⟩) | cases h1)
                        | cases hy
                  obtain ⟨rfl, rfl⟩ := hx
                  rw [ih us hp3 hr2]
                  rfl
              · cases hh
            · cases hh
        exact key args us hp1 hfr
      subst hargs
      simp only [PV.flat, true_or, if_true] at hs
      injection hs with hs
      injection hs with h1 h2
      injection h2 with h2 h3
      subst h1; subst h2; subst h3
      rw [zip_lits hl hz]
      refine (hc w).mono fun e w' hh => ?_
      obtain ⟨rfl, rfl⟩ := hh
      exact ⟨v, S, G, rfl, Stp.refl hi, .c (.v hv)⟩
    · cases hs
  · cases hs
theorem setCells_at : ∀ (l cs : List PV) (off : Nat), off + l.length ≤ cs.length → setCells cs off l = cs.take off ++ l ++ cs.drop (off + l.length)
  | [], cs, off, _ => by simp
  | x :: l, cs, off, h => by
    simp only [List.length_cons] at h
    rw [setCells, setCells_at l (cs.set off x) (off + 1) (by simp; omega)]
    have e1 : (cs.set off x).take (off + 1) = cs.take off ++ [x] := by
      rw [List.take_succ_eq_append_getElem (by simp; omega)]
      have e0 : (cs.set off x).take off = cs.take off := by
        apply List.ext_getElem?
        intro j
        simp only [List.getElem?_take, List.getElem?_set]
        by_cases hj : j < off
        · simp [hj, show ¬ off = j by omega]
        · simp [hj]
      rw [e0]
      simp
    have e2 : (cs.set off x).drop (off + 1 + l.length) = cs.drop (off + (x :: l).length) := by
      rw [List.drop_set_of_lt (by omega)]
      simp only [List.length_cons]
      congr 1
      omega
    rw [e1, e2]
    simp
@[simp] theorem setCells_whole (z cs : List PV) (h : cs.length = z.length) : setCells z 0 cs = cs := by
  rw [setCells_at cs z 0 (by omega)]
  simp [h]
@[simp] theorem setCells_tail (x : PV) (z cs : List PV) (h : cs.length = z.length) : setCells (x :: z) 1 cs = x :: cs := by
  rw [setCells_at cs (x :: z) 1 (by simp; omega)]
  simp [show 1 + cs.length = z.length + 1 by omega]
end Go.AM
