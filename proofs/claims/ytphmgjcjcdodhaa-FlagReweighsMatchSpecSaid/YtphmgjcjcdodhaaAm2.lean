/-
  The abstract machine, part 2: the evaluator.
-/
import Derived.Test.YtphmgjcjcdodhaaAm1
namespace Go.AM
open Go.RowKit

abbrev Spec := List PV → Hp → Nat → Option (PV × Hp × Nat)

/-- The program and what is known of the functions that are called. -/
structure Ctx where
  P : Program
  Γ : FuncId → Option Spec
  dyn : Nat → List (Tmp × Tmp) := fun _ => []
  lds : Nat → List Tmp := fun _ => []
  bk : FuncId → Bool := fun _ => false
  fz : Nat → List Tmp := fun _ => []

/-- Two slots point into different blocks, the second into a variable's. -/
def apart1 (st : St) (a b : Tmp) : Prop := ∃ id i j id' i' j' blk, st.σ a = .ref id i j ∧ st.σ b = .ref id' i' j' ∧ id ≠ id' ∧ st.hp id' = some blk ∧ blk.arr = false
/-- What a region that draws its order asks of the state: loads and stores that may change places touch different blocks. -/
def ApartA (D : List (Tmp × Tmp)) (st : St) : Prop := ∀ p ∈ D, apart1 st p.1 p.2
/-- Slots that, if they point into what is live, point to variables. -/
def RefsA (L : List Tmp) (st : St) : Prop := ∀ s ∈ L, ∀ id i j, st.σ s = .ref id i j → id < st.nx ∧ ∃ blk, st.hp id = some blk ∧ blk.arr = false

def ofCell : Value → Option PV
  | .slice none 0 0 => some .nil
  | .bool b => some (.v (.bool b))
  | .int k n => some (.v (.int k n))
  | .string s => some (.v (.string s))
  | .nilFunc => some (.v .nilFunc)
  | .pointer none => some (.v (.pointer none))
  | .nilIface => some (.v .nilIface)
  | .map none => some (.v (.map none))
  | _ => none

def ofCells : List Value → Option (List PV)
  | [] => some []
  | x :: l => match ofCell x, ofCells l with
    | some p, some r => some (p :: r)
    | _, _ => none

def ofConst : Value → Option PV
  | .agg cs => (ofCells cs.toList).map .agg
  | x => ofCell x

def get (σ : Nat → PV) : Operand → Option PV
  | .tmp t => some (σ t)
  | .const x => ofConst x
  | .func f => some (.fn (.func f) [] [])
  | .global _ => none

def sizeA (P : Program) (t : TypeId) : Option Nat := (P.info? t).map (·.size)
def bytesA (P : Program) (t : TypeId) : Option Nat := (P.info? t).map (·.bytes)
def zeroA (P : Program) (t : TypeId) : Option (List PV) := ((P.info? t).bind (·.zero)).bind fun z => ofCells z.cells.toList
def isAggA (P : Program) (t : TypeId) : Option Bool := (P.underlying t).map fun
  | .struct _ | .array _ _ => true
  | _ => false
def elemA (P : Program) (t : TypeId) : Option TypeId := match P.underlying t with
  | some (.slice e) => some e
  | _ => none
/-- A struct's field: its cells' offset, how many it has, whether it is an aggregate. -/
def fieldA (P : Program) (t : TypeId) (f : Nat) : Option (Nat × Nat × Bool) := match P.underlying t with
  | some (.struct fs) => match fs[f]? with
    | some x => match sizeA P x.type, isAggA P x.type with
      | some n, some a => some (x.offset, n, a)
      | _, _ => none
    | none => none
  | _ => none

def PV.cells : PV → List PV
  | .agg cs => cs
  | x => [x]

def readCells (P : Program) (t : TypeId) (cs : List PV) : Option PV :=
  match isAggA P t, sizeA P t with
  | some true, some n => if n ≤ cs.length then some (.agg (cs.take n)) else none
  | some false, some _ => cs[0]?
  | _, _ => none

def PV.cellOpen : PV → Bool
  | .own _ _ _ => true
  | _ => false
def PV.noOwn : PV → Bool
  | .agg cs => !cs.any PV.cellOpen
  | .own _ _ _ => false
  | _ => true

def freezeCell (hp : Hp) : PV → Option (PV × Hp)
  | .own id off n => match hp id with
    | some b => if b.arr = true ∧ off + n ≤ b.es.length then some (.sl b.s ((b.es.drop off).take n), upd hp id none) else none
    | none => none
  | .v x => some (.v x, hp)
  | .nil => some (.nil, hp)
  | .sl s es => some (.sl s es, hp)
  | .em => some (.em, hp)
  | .ptr cs => some (.ptr cs, hp)
  | .fn f [] [] => some (.fn f [] [], hp)
  | _ => none

def freezeCells (hp : Hp) : List PV → Option (List PV × Hp)
  | [] => some ([], hp)
  | x :: l => match freezeCell hp x with
    | some (y, hp1) => match freezeCells hp1 l with
      | some (r, hp2) => some (y :: r, hp2)
      | none => none
    | none => none

def freezeVal (hp : Hp) : PV → Option (PV × Hp)
  | .agg cs => match freezeCells hp cs with
    | some (l, h) => some (.agg l, h)
    | none => none
  | x => freezeCell hp x

def freezeVals (hp : Hp) : List PV → Option (List PV × Hp)
  | [] => some ([], hp)
  | x :: l => match freezeVal hp x with
    | some (y, hp1) => match freezeVals hp1 l with
      | some (r, hp2) => some (y :: r, hp2)
      | none => none
    | none => none

def freeze (hp : Hp) : PV → Option (PV × Hp)
  | .tup cs => match freezeVals hp cs with
    | some (l, h) => some (.tup l, h)
    | none => none
  | x => freezeVal hp x

/-- The elements of a slice, of n cells each. -/
def view (hp : Hp) (n : Nat) : PV → Option (List (List PV))
  | .nil => some []
  | .em => some []
  | .sl s es => if s = n then some es else none
  | .own id off k => match hp id with
    | some b => if b.arr = true ∧ b.s = n ∧ off + k ≤ b.es.length then some ((b.es.drop off).take k) else none
    | none => none
  | _ => none

def intA (op : BinOp) (k : IntKind) (a b : Int) : Option PV :=
  match op with
  | .add => some (.v (.int k (k.wrap (a + b))))
  | .sub => some (.v (.int k (k.wrap (a - b))))
  | .mul => some (.v (.int k (k.wrap (a * b))))
  | .quo => if b = 0 then none else some (.v (.int k (k.wrap (a.tdiv b))))
  | .rem => if b = 0 then none else some (.v (.int k (a.tmod b)))
  | .eql => some (.v (.bool (a == b)))
  | .neq => some (.v (.bool (a != b)))
  | .lss => some (.v (.bool (decide (a < b))))
  | .leq => some (.v (.bool (decide (a ≤ b))))
  | .gtr => some (.v (.bool (decide (a > b))))
  | .geq => some (.v (.bool (decide (a ≥ b))))
  | .and => some (.v (.int k (k.wrap (BitVec.ofInt k.bits a &&& BitVec.ofInt k.bits b).toNat)))
  | .or => some (.v (.int k (k.wrap (BitVec.ofInt k.bits a ||| BitVec.ofInt k.bits b).toNat)))
  | .xor => some (.v (.int k (k.wrap (BitVec.ofInt k.bits a ^^^ BitVec.ofInt k.bits b).toNat)))
  | .andNot => some (.v (.int k (k.wrap (BitVec.ofInt k.bits a &&& ~~~ BitVec.ofInt k.bits b).toNat)))
  | .shr => if b < 0 then none else some (.v (.int k (a.fdiv (2 ^ (min b.toNat k.bits)))))
  | .shl => if b < 0 then none else some (.v (.int k (k.wrap (a * 2 ^ (min b.toNat k.bits)))))

def strA (op : BinOp) (a b : ByteArray) : Option PV :=
  match op with
  | .add => if a.size + b.size ≤ maxLen then some (.v (.string (a ++ b))) else none
  | .eql => some (.v (.bool (a.toList == b.toList)))
  | .neq => some (.v (.bool (!(a.toList == b.toList))))
  | .lss => some (.v (.bool (Op.bytesLess a.toList b.toList)))
  | .leq => some (.v (.bool (Op.bytesLess a.toList b.toList || a.toList == b.toList)))
  | .gtr => some (.v (.bool (!(Op.bytesLess a.toList b.toList || a.toList == b.toList))))
  | .geq => some (.v (.bool (!(Op.bytesLess a.toList b.toList))))
  | _ => none

/-- '==' of structs whose fields all are ints (0), bools (1) or strings (2). -/
def eqCells : List Nat → List PV → List PV → Option Bool
  | [], _, _ => some true
  | 0 :: ks, .v (.int k a) :: xs, .v (.int k' b) :: ys => if k = k' then (eqCells ks xs ys).map ((a == b) && ·) else none
  | 1 :: ks, .v (.bool a) :: xs, .v (.bool b) :: ys => (eqCells ks xs ys).map ((a == b) && ·)
  | 2 :: ks, .v (.string a) :: xs, .v (.string b) :: ys => (eqCells ks xs ys).map ((a == b) && ·)
  | _, _, _ => none

def tagA (P : Program) (t : TypeId) : Option Nat := match P.underlying t with
  | some (.int _) => some 0
  | some .bool => some 1
  | some .string => some 2
  | _ => none

def tagsA (P : Program) : Nat → List Field → Option (List Nat)
  | _, [] => some []
  | i, f :: fs => if f.offset = i ∧ f.name ≠ "_" then match tagA P f.type, tagsA P (i + 1) fs with
      | some k, some ks => some (k :: ks)
      | _, _ => none
    else none

/-- A struct type whose fields are ints, bools and strings, one cell each, in order: their kinds. -/
def flatA (P : Program) (t : TypeId) : Option (List Nat) :=
  if P.stoodInHeld t = true ∨ P.eqGuardType P.depth t = true then none else
  match P.underlying t with
  | some (.struct fs) => tagsA P 0 fs.toList
  | _ => none

/-- Whether a slice is nil, where it is known. -/
def isNilA : PV → Option Bool
  | .nil => some true
  | .em => some false
  | .own _ _ _ => some false
  | .sl _ (_ :: _) => some false
  | _ => none

def binA (P : Program) (op : BinOp) (t : TypeId) : PV → PV → Option PV
  | .v (.int k a), .v (.int k' b) => if k = k' then intA op k a b else none
  | .v (.string a), .v (.string b) => strA op a b
  | .v (.bool a), .v (.bool b) => match op, P.underlying t with
    | .eql, some .bool => some (.v (.bool (a == b)))
    | .neq, some .bool => some (.v (.bool (!(a == b))))
    | _, _ => none
  | .agg xs, .agg ys => match flatA P t with
    | some ks => match op with
      | .eql => (eqCells ks xs ys).map fun r => .v (.bool r)
      | .neq => (eqCells ks xs ys).map fun r => .v (.bool !r)
      | _ => none
    | none => none
  | p, .nil => match elemA P t, isNilA p, op with
    | some _, some r, .eql => some (.v (.bool r))
    | some _, some r, .neq => some (.v (.bool !r))
    | _, _, _ => none
  | _, _ => none

def unA (op : UnOp) : PV → Option PV
  | .v (.bool b) => match op with
    | .not => some (.v (.bool !b))
    | _ => none
  | .v (.int k n) => match op with
    | .neg => some (.v (.int k (k.wrap (0 - n))))
    | _ => none
  | _ => none

def convA (P : Program) (src dst : TypeId) : PV → Option PV
  | .v (.int _ n) => match P.underlying src, P.underlying dst with
    | some _, some (.int k) => some (.v (.int k (k.wrap n)))
    | _, _ => none
  | .v (.string s) => match P.underlying src, P.underlying dst with
    | some _, some .string => some (.v (.string s))
    | _, _ => none
  | _ => none

def boundA (dflt : Nat) : Option (Option PV) → Option Nat
  | none => some dflt
  | some (some (.v (.int _ i))) => if 0 ≤ i then some i.toNat else none
  | _ => none

def sliceA (P : Program) (hp : Hp) (t : TypeId) (x : PV) (lo hi : Option (Option PV)) : Option PV :=
  match P.underlying t, x with
  | some .string, .v (.string s) => match boundA 0 lo, boundA s.size hi with
    | some l, some h => if l ≤ h ∧ h ≤ s.size then some (.v (.string (s.extract l h))) else none
    | _, _ => none
  | some (.slice e), .sl s es => match sizeA P e, boundA 0 lo, boundA es.length hi with
    | some n, some l, some h => if s = n ∧ l ≤ h ∧ h ≤ es.length then some (.sl s ((es.drop l).take (h - l))) else none
    | _, _, _ => none
  | some (.slice e), .nil => match sizeA P e, boundA 0 lo, boundA 0 hi with
    | some _, some l, some h => if l = 0 ∧ h = 0 then some .nil else none
    | _, _, _ => none
  | some (.slice e), .own id off n => match sizeA P e, boundA 0 lo, boundA n hi with
    | some m, some l, some h => match hp id with
      | some b => if b.s = m ∧ l ≤ h ∧ h ≤ n then some (if l = 0 then .own id off h else if h = l then .sl m [] else .own id (off + l) (h - l)) else none
      | none => none
    | _, _, _ => none
  | _, _ => none

def minFrom (k : IntKind) (x : Int) : List PV → Option PV
  | [] => some (.v (.int k x))
  | .v (.int k' y) :: l => if k = k' then minFrom k (if y < x then y else x) l else none
  | _ => none
def minA : List PV → Option PV
  | .v (.int k x) :: l => minFrom k x l
  | _ => none
def maxFrom (k : IntKind) (x : Int) : List PV → Option PV
  | [] => some (.v (.int k x))
  | .v (.int k' y) :: l => if k = k' then maxFrom k (if y > x then y else x) l else none
  | _ => none
def maxA : List PV → Option PV
  | .v (.int k x) :: l => maxFrom k x l
  | _ => none

def lenA (P : Program) (t : TypeId) : PV → Option PV
  | .v (.string s) => match P.underlying t with
    | some .string => some (.v (.int .i64 s.size))
    | _ => none
  | .sl _ es => (elemA P t).map fun _ => .v (.int .i64 es.length)
  | .nil => (elemA P t).map fun _ => .v (.int .i64 0)
  | .em => (elemA P t).map fun _ => .v (.int .i64 0)
  | .own _ _ n => (elemA P t).map fun _ => .v (.int .i64 n)
  | _ => none

/-- The struct or array literal: parts laid into the zero value's cells. -/
def setCells (cs : List PV) (off : Nat) : List PV → List PV
  | [] => cs
  | x :: l => setCells (cs.set off x) (off + 1) l

def fillA (place : Nat → Option (Nat × Nat)) (cs : List PV) : List (Nat × PV) → Option (List PV)
  | [] => some cs
  | (i, x) :: rest => match place i with
    | some (off, n) => if x.cells.length = n ∧ off + n ≤ cs.length ∧ x.cells.all PV.isCell = true then fillA place (setCells cs off x.cells) rest else none
    | none => none

def allSome {α : Type} : List (Option α) → Option (List α)
  | [] => some []
  | some x :: l => (allSome l).map (x :: ·)
  | none :: _ => none

def partsA (ρ : Operand → Option PV) : List (Nat × Operand) → Option (List (Nat × PV))
  | [] => some []
  | (i, x) :: l => match ρ x, partsA ρ l with
    | some p, some r => some ((i, p) :: r)
    | _, _ => none

def placesA (P : Program) (t : TypeId) : Option (List (Nat × Nat)) := match P.underlying t with
  | some (.struct fs) => fs.toList.mapM (fun f => (P.info? f.type).map fun i => (f.offset, i.size))
  | _ => none

def buildA (P : Program) (t : TypeId) (parts : List (Nat × PV)) : Option PV :=
  match placesA P t, zeroA P t with
  | some pl, some z => (fillA (fun i => pl[i]?) z parts).map .agg
  | _, _ => none

def freezeParts (hp : Hp) : List (Nat × PV) → Option (List (Nat × PV) × Hp)
  | [] => some ([], hp)
  | (i, x) :: l => match freezeVal hp x with
    | some (y, hp1) => match freezeParts hp1 l with
      | some (r, hp2) => some ((i, y) :: r, hp2)
      | none => none
    | none => none

/-- Whole elements set into a list of elements. -/
def setElems (n : Nat) (es : List (List PV)) : List (Nat × PV) → Option (List (List PV))
  | [] => some es
  | (i, x) :: l => if x.cells.length = n ∧ i < es.length ∧ x.cells.all PV.isCell = true then setElems n (es.set i x.cells) l else none

def buildSliceA (P : Program) (hp : Hp) (nx : Nat) (t : TypeId) (len : Nat) (parts : List (Nat × PV)) : Option (PV × Hp × Nat) :=
  match elemA P t with
  | some e => match sizeA P e, zeroA P e, freezeParts hp parts with
    | some n, some z, some (ps, hp1) => if 0 < n ∧ z.length = n ∧ len * n ≤ 16777216 then
        match setElems n (List.replicate len z) ps with
        | some es => some (.own nx 0 len, upd hp1 nx (some ⟨e, n, true, es⟩), nx + 1)
        | none => none
      else none
    | _, _, _ => none
  | none => none

def makeSliceA (P : Program) (hp : Hp) (nx : Nat) (t : TypeId) : PV → PV → Option (PV × Hp × Nat)
  | .v (.int _ l), .v (.int _ c) => match elemA P t with
    | some e => match sizeA P e, bytesA P e, zeroA P e with
      | some n, some by_, some z => if 0 < n ∧ z.length = n ∧ 0 ≤ l ∧ l ≤ c ∧ c.toNat ≤ maxLen ∧ c.toNat * by_ ≤ 140737488355328 then
          some (.own nx 0 l.toNat, upd hp nx (some ⟨e, n, true, List.replicate l.toNat z⟩), nx + 1)
        else none
      | _, _, _ => none
    | none => none
  | _, _ => none

/-- append onto nothing, or onto a block of the call's own whose end is the slice's end. -/
def appendA (P : Program) (hp : Hp) (nx : Nat) (t u : TypeId) (s x : PV) : Option (PV × Hp × Nat) :=
  match elemA P t with
  | some e => match sizeA P e, bytesA P e, zeroA P e with
    | some n, some by_, some z => match view hp n x with
      | some xs => match s with
        | .nil =>
          if u = t ∧ 0 < n ∧ z.length = n ∧ xs.length ≤ maxLen ∧ xs.length * by_ ≤ 140737488355328 then
            if xs.length = 0 then some (.nil, hp, nx)
            else some (.own nx 0 xs.length, upd hp nx (some ⟨e, n, true, xs⟩), nx + 1)
          else none
        | .own id 0 k => match hp id with
          | some b => if u = t ∧ b.arr = true ∧ b.e = e ∧ k = b.es.length ∧ 0 < n ∧ z.length = n ∧ k + xs.length ≤ maxLen ∧ (k + xs.length) * by_ ≤ 140737488355328 then
              some (.own nx 0 (k + xs.length), upd (upd hp id none) nx (some ⟨e, n, true, b.es ++ xs⟩), nx + 1)
            else none
          | none => none
        | _ => none
      | none => none
    | _, _, _ => none
  | none => none

/-- copy into a block of the call's own. -/
def copyA (P : Program) (hp : Hp) (nx : Nat) (t : TypeId) (d x : PV) : Option (PV × Hp × Nat) :=
  match elemA P t, d with
  | some e, .own id off k => match hp id, sizeA P e with
    | some b, some n => match view hp n x with
      | some xs => if b.arr = true ∧ b.e = e ∧ off + k ≤ b.es.length ∧ 0 < n then
          some (.v (.int .i64 (min xs.length k : Nat)), upd hp id (some ⟨b.e, b.s, true, b.es.take off ++ xs.take (min xs.length k) ++ b.es.drop (off + min xs.length k)⟩), nx)
        else none
      | none => none
    | _, _ => none
  | _, _ => none

def loadA (P : Program) (hp : Hp) (t : TypeId) : PV → Option PV
  | .ptr cs => readCells P t cs
  | .ref id i j => match hp id with
    | some b => match b.es[i]? with
      | some c => readCells P t (c.drop j)
      | none => none
    | none => none
  | _ => none

def storeA (P : Program) (hp : Hp) (t : TypeId) (a x : PV) : Option Hp :=
  match a with
  | .ref id i j => match hp id with
    | some b0 => match (if b0.arr = true then freezeVal hp x else some (x, hp)) with
      | some (y, hp1) => match hp1 id, sizeA P t with
        | some b, some n => match b.es[i]? with
          | some c => if y.cells.length = n ∧ j + n ≤ c.length ∧ y.cells.all PV.isCell = true then
              some (upd hp1 id (some ⟨b.e, b.s, b.arr, b.es.set i (setCells c j y.cells)⟩)) else none
          | none => none
        | _, _ => none
      | none => none
    | none => none
  | _ => none

def fieldAddrA (P : Program) (t : TypeId) (f : Nat) : PV → Option PV
  | .ptr cs => match fieldA P t f with
    | some (o, n, _) => if n = 0 then none else some (.ptr (cs.drop o))
    | none => none
  | .ref id i j => match fieldA P t f with
    | some (o, n, _) => if n = 0 then none else some (.ref id i (j + o))
    | none => none
  | _ => none

def fieldValA (P : Program) (t : TypeId) (f : Nat) : PV → Option PV
  | .agg cs => match fieldA P t f with
    | some (o, n, true) => if o + n ≤ cs.length then some (.agg ((cs.drop o).take n)) else none
    | some (o, _, false) => cs[o]?
    | none => none
  | _ => none

def indexAddrA (P : Program) (hp : Hp) (t : TypeId) : PV → PV → Option PV
  | x, .v (.int _ i) => match elemA P t with
    | some e => match sizeA P e, x with
      | some n, .sl s es => if s = n ∧ 0 < n ∧ 0 ≤ i then (es[i.toNat]?).map .ptr else none
      | some n, .own id off k => match hp id with
        | some b => if b.e = e ∧ 0 < n ∧ 0 ≤ i ∧ i.toNat < k then some (.ref id (off + i.toNat) 0) else none
        | none => none
      | _, _ => none
    | none => none
  | _, _ => none

def indexA (P : Program) (t : TypeId) : PV → PV → Option PV
  | .v (.string s), .v (.int _ i) => match P.underlying t with
    | some .string => if 0 ≤ i then match s[i.toNat]? with
        | some b => some (.v (.int .u8 b.toNat))
        | none => none
      else none
    | _ => none
  | _, _ => none

def evalBuiltin (P : Program) (hp : Hp) (nx : Nat) (ts : Array TypeId) (b : Builtin) (xs : List PV) : Option (PV × Hp × Nat) :=
  match b with
  | .len => match xs, ts[0]? with
    | [x], some t => (lenA P t x).map fun y => (y, hp, nx)
    | _, _ => none
  | .min => (minA xs).map fun y => (y, hp, nx)
  | .max => (maxA xs).map fun y => (y, hp, nx)
  | .append => match xs, ts[0]?, ts[1]? with
    | [s, x], some t, some u => appendA P hp nx t u s x
    | _, _, _ => none
  | .copy => match xs, ts[0]? with
    | [d, x], some t => copyA P hp nx t d x
    | _, _ => none
  | _ => none

def callVal (C : Ctx) (hp : Hp) (nx : Nat) (f : Option PV) (xs : List PV) : Option (PV × Hp × Nat) :=
  match f with
  | some (.fn (.func g) first captured) => match C.Γ g with
    | some spec => spec (first ++ xs ++ captured) hp nx
    | none => none
  | _ => none

def evalCall (C : Ctx) (ρ : Operand → Option PV) (hp : Hp) (nx : Nat) (c : Call) : Option (PV × Hp × Nat) :=
  match allSome (c.args.toList.map ρ) with
  | some xs => match c.callee with
    | .builtin b => evalBuiltin C.P hp nx c.argTypes b xs
    | .value f => callVal C hp nx (ρ f) xs
    | .invoke _ _ => none
  | none => none

def evalOp (C : Ctx) (ρ : Operand → Option PV) (hp : Hp) (nx : Nat) (o : Op) : Option (PV × Hp × Nat) :=
  match o with
  | .move x => (ρ x).map fun y => (y, hp, nx)
  | .assign x => (ρ x).map fun y => (y, hp, nx)
  | .pick c a b => match ρ c with
    | some (.v (.bool true)) => (ρ a).map fun y => (y, hp, nx)
    | some (.v (.bool false)) => (ρ b).map fun y => (y, hp, nx)
    | _ => none
  | .alloc t => match sizeA C.P t, zeroA C.P t with
    | some n, some z => if z.length = n then some (.ref nx 0 0, upd hp nx (some ⟨t, n, false, [z]⟩), nx + 1) else none
    | _, _ => none
  | .box t x => match sizeA C.P t, ρ x with
    | some n, some y => if y.cells.length = n ∧ y.cells.all PV.isCell = true then some (.ref nx 0 0, upd hp nx (some ⟨t, n, false, [y.cells]⟩), nx + 1) else none
    | _, _ => none
  | .build t parts => match partsA ρ parts.toList with
    | some ps => (buildA C.P t ps).map fun y => (y, hp, nx)
    | none => none
  | .buildSlice t len parts => match partsA ρ parts.toList with
    | some ps => buildSliceA C.P hp nx t len ps
    | none => none
  | .load t a => match ρ a with
    | some p => (loadA C.P hp t p).map fun y => (y, hp, nx)
    | none => none
  | .store t a x => match ρ a, ρ x with
    | some p, some y => (storeA C.P hp t p y).map fun h => (.tup [], h, nx)
    | _, _ => none
  | .nilCheck x => match ρ x with
    | some (.ref id i j) => some (.ref id i j, hp, nx)
    | some (.ptr cs) => some (.ptr cs, hp, nx)
    | _ => none
  | .binOp op t x y _ => match ρ x, ρ y with
    | some p, some q => (binA C.P op t p q).map fun r => (r, hp, nx)
    | _, _ => none
  | .unOp op _ x => match ρ x with
    | some p => (unA op p).map fun r => (r, hp, nx)
    | none => none
  | .convert src dst x => match ρ x with
    | some p => (convA C.P src dst p).map fun r => (r, hp, nx)
    | none => none
  | .makeFunc f first captured => match allSome (first.toList.map ρ), allSome (captured.toList.map ρ) with
    | some xs, some ys => some (.fn f xs ys, hp, nx)
    | _, _ => none
  | .makeSlice t l c => match ρ l, ρ c with
    | some p, some q => makeSliceA C.P hp nx t p q
    | _, _ => none
  | .slice t x lo hi none => match ρ x with
    | some p => (sliceA C.P hp t p (lo.map ρ) (hi.map ρ)).map fun r => (r, hp, nx)
    | none => none
  | .fieldAddr t x f => match ρ x with
    | some p => (fieldAddrA C.P t f p).map fun r => (r, hp, nx)
    | none => none
  | .field t x f => match ρ x with
    | some p => (fieldValA C.P t f p).map fun r => (r, hp, nx)
    | none => none
  | .indexAddr t x i => match ρ x, ρ i with
    | some p, some q => (indexAddrA C.P hp t p q).map fun r => (r, hp, nx)
    | _, _ => none
  | .index t x i => match ρ x, ρ i with
    | some p, some q => (indexA C.P t p q).map fun r => (r, hp, nx)
    | _, _ => none
  | .extract x i => match ρ x with
    | some (.tup vs) => (vs[i]?).map fun r => (r, hp, nx)
    | _ => none
  | .call c => evalCall C ρ hp nx c
  | _ => none

def put (σ : Nat → PV) (dst : Option Tmp) (x : PV) : Nat → PV :=
  match dst with
  | some d => upd σ d x
  | none => σ

def yieldA (ops : Array Oper) (σ : Nat → PV) (j : Nat) : Option Bool :=
  match (ops[j]?).bind (·.dst) with
  | some d => match σ d with
    | .v (.bool b) => some b
    | _ => none
  | none => none

def stepA (C : Ctx) (ops : Array Oper) (o : Oper) (st : St) : Option St :=
  if Region.wanted o (yieldA ops st.σ) = true then
    match evalOp C (get st.σ) st.hp st.nx o.op with
    | some (x, hp, nx) => some ⟨put st.σ o.dst x, hp, nx⟩
    | none => none
  else some ⟨put st.σ o.dst (.tup []), st.hp, st.nx⟩

def evalList (C : Ctx) (ops : Array Oper) : List Oper → St → Option St
  | [], st => some st
  | o :: l, st => match stepA C ops o st with
    | some st' => evalList C ops l st'
    | none => none

def iter (f : St → Option (Exit × St)) : Nat → St → Option (Exit × St)
  | 0, _ => none
  | n + 1, st => match f st with
    | some (.normal, st') => iter f n st'
    | r => r

open Classical in
/-- A loop's outcome, if it comes to one. -/
noncomputable def loopR (f : St → Option (Exit × St)) (st : St) : Option (Exit × St) :=
  if h : ∃ n, (iter f n st).isSome = true then iter f (Classical.choose h) st else none

/-- Slots whose slices will not change any more. -/
def thaw : List Tmp → St → Option St
  | [], st => some st
  | t :: l, st => match freezeVal st.hp (st.σ t) with
    | some (y, hp1) => thaw l ⟨upd st.σ t y, hp1, st.nx⟩
    | none => none

open Classical in
noncomputable def evalCode (C : Ctx) : Code → St → Option (Exit × St)
  | .skip, st => some (.normal, st)
  | .region id ops _, st0 => match thaw (C.fz id) st0 with
    | some st => if ApartA (C.dyn id) st ∧ RefsA (C.lds id) st then match evalList C ops ops.toList st with
      | some st' => some (.normal, st')
      | none => none
      else none
    | none => none
  | .seq a b, st => match evalCode C a st with
    | some (.normal, st') => evalCode C b st'
    | r => r
  | .cond c x y, st => match get st.σ c with
    | some (.v (.bool true)) => evalCode C x st
    | some (.v (.bool false)) => evalCode C y st
    | _ => none
  | .block id body, st => match evalCode C body st with
    | some (.exit i, st') => if i = id then some (.normal, st') else some (.exit i, st')
    | r => r
  | .loop body, st => loopR (evalCode C body) st
  | .exit id, st => some (.exit id, st)
  | .ret, st => some (.ret, st)
  | .label _, st => some (.normal, st)
  | _, _ => none

def resultA (P : Program) (st : St) : ResultVar → Option PV
  | .tmp t => some (st.σ t)
  | .cell a t => loadA P st.hp t (st.σ a)

def resultsA (P : Program) (fn : Func) (st : St) : Option PV :=
  match allSome (fn.results.toList.map (resultA P st)) with
  | some [x] => some x
  | some xs => some (.tup xs)
  | none => none

def startσ (args : List PV) : Nat → PV := fun t => (args[t]?).getD (.tup [])

noncomputable def evalFunc (C : Ctx) (fn : Func) (args : List PV) (hp : Hp) (nx : Nat) : Option (PV × Hp × Nat) :=
  match fn.body with
  | some code => match evalCode C code ⟨startσ args, hp, nx⟩ with
    | some (.normal, st) => (resultsA C.P fn st).map fun x => (x, st.hp, st.nx)
    | some (.ret, st) => (resultsA C.P fn st).map fun x => (x, st.hp, st.nx)
    | _ => none
  | none => none

/-- A function on closed data: what it returns, closed. -/
noncomputable def evalPure (C : Ctx) (fn : Func) (args : List PV) : Option PV :=
  match evalFunc C fn args (fun _ => none) 0 with
  | some (x, hp, _) => (freeze hp x).map (·.1)
  | none => none

theorem iter_more (f : St → Option (Exit × St)) : ∀ (n k : Nat) (st : St) (r : Exit × St), iter f n st = some r → iter f (n + k) st = some r := by
  intro n
  induction n with
  | zero => intro k st r h; simp [iter] at h
  | succ n ih =>
    intro k st r h
    rw [show n + 1 + k = (n + k) + 1 from by omega]
    simp only [iter] at h ⊢
    split at h
    · rename_i st' hf
      simp only [ih k st' r h]
    · simpa using h

theorem loopR_of_iter {f : St → Option (Exit × St)} {n : Nat} {st : St} {r : Exit × St} (h : iter f n st = some r) : loopR f st = some r := by
  have hex : ∃ n, (iter f n st).isSome = true := ⟨n, by simp [h]⟩
  unfold loopR
  rw [dif_pos hex]
  have h2 := Classical.choose_spec hex
  obtain ⟨r2, hr2⟩ := Option.isSome_iff_exists.1 h2
  rw [hr2]
  have a := iter_more f _ (Classical.choose hex) st r h
  have b := iter_more f _ n st r2 hr2
  rw [Nat.add_comm] at b
  rw [a] at b
  exact b.symm

theorem iter_of_loopR {f : St → Option (Exit × St)} {st : St} {r : Exit × St} (h : loopR f st = some r) : ∃ n, iter f n st = some r := by
  unfold loopR at h
  split at h
  · exact ⟨_, h⟩
  · cases h

theorem loopR_unfold (f : St → Option (Exit × St)) (st : St) : loopR f st = match f st with
    | some (.normal, st') => loopR f st'
    | r => r := by
  cases hf : f st with
  | none =>
    simp only []
    cases hl : loopR f st with
    | none => rfl
    | some r =>
      obtain ⟨n, hn⟩ := iter_of_loopR hl
      cases n with
      | zero => simp [iter] at hn
      | succ n => simp [iter, hf] at hn
  | some p =>
    obtain ⟨e, st'⟩ := p
    by_cases he : e = .normal
    · subst he
      simp only []
      cases hl : loopR f st' with
      | some r =>
        obtain ⟨n, hn⟩ := iter_of_loopR hl
        exact loopR_of_iter (n := n + 1) (by simp [iter, hf, hn])
      | none =>
        cases hl2 : loopR f st with
        | none => rfl
        | some r =>
          obtain ⟨n, hn⟩ := iter_of_loopR hl2
          cases n with
          | zero => simp [iter] at hn
          | succ n =>
            simp only [iter, hf] at hn
            rw [loopR_of_iter hn] at hl
            cases hl
    · have h1 : iter f 1 st = some (e, st') := by
        simp only [iter, hf]
        cases e <;> simp_all
      rw [loopR_of_iter h1]
      cases e <;> simp_all

end Go.AM
