/-
  The abstract machine, part 1: pure values, what they mean in memory, and that this meaning is kept.
  The abstract machine, part 2: the evaluator.
  The abstract machine, part 4: steps of the heap.
  The abstract machine, part 5: each operation that is no call of a Go function does what the evaluator says.
  The abstract machine, part 6: giving up blocks, stores, addresses, values.
  The abstract machine, part 7: addresses, values, numbers, strings.
  The abstract machine, part 8: slices, literals, make, append, copy.
  The abstract machine, part 9: append, copy, the literals, len, min, max.
  The abstract machine: maps.
-/
import Derived.WalkKit
import Derived.ChangeAgain
import Derived.Maps.AppendAt
import Derived.MapKept
namespace Go.AM
open Go.RowKit

/-- A pure value: a slice carries its contents. -/
inductive PV where
  | v (x : Value)
  | nil
  | agg (cs : List PV)
  | tup (cs : List PV)
  | sl (s : Nat) (es : List (List PV))
  | em
  | ptr (cs : List PV)
  | own (id off n : Nat)
  | ref (id i j : Nat)
  | mp (id : Nat)
  | fn (f : Fn) (first captured : List PV)

def lit : Value → Bool
  | .bool _ | .int _ _ | .string _ | .nilFunc | .pointer none | .nilIface | .map none => true
  | _ => false

def PV.isCell : PV → Bool
  | .agg _ | .tup _ => false
  | _ => true

/-- A closed pure value in memory; S: the blocks that will not change. -/
inductive RepC (w : World) (S : Nat → Prop) : PV → Value → Prop
  | v {x : Value} : lit x = true → RepC w S (.v x) x
  | nil : RepC w S .nil (.slice none 0 0)
  | em {ad : Addr} {cap : Nat} : cap ≤ maxLen → RepC w S .em (.slice (some ad) 0 cap)
  | agg {cs : List PV} {us : Array Value} : cs.length = us.size → (∀ (j : Nat) (pv : PV) (u : Value), cs[j]? = some pv → us[j]? = some u → RepC w S pv u) → RepC w S (.agg cs) (.agg us)
  | tup {cs : List PV} {us : Array Value} : cs.length = us.size → (∀ (j : Nat) (pv : PV) (u : Value), cs[j]? = some pv → us[j]? = some u → RepC w S pv u) → RepC w S (.tup cs) (.tuple us)
  | sl {es : List (List PV)} {A : Option Addr} {cap s : Nat} (us : Nat → Nat → Value) : (A = none → cap = 0) → es.length ≤ cap → cap ≤ maxLen → (∀ c ∈ es, c.length = s) →
      (∀ (i j : Nat) (c : List PV) (pv : PV), es[i]? = some c → c[j]? = some pv → ∃ ad, A = some ad ∧ S ad.block ∧ w.cell? (ad.add (i * s + j)) = some (us i j) ∧ (us i j).oneCell' = true) →
      (∀ (i j : Nat) (c : List PV) (pv : PV), es[i]? = some c → c[j]? = some pv → RepC w S pv (us i j)) → RepC w S (.sl s es) (.slice A es.length cap)
  | ptr {cs : List PV} {ad : Addr} (us : Nat → Value) : (∀ (j : Nat) (pv : PV), cs[j]? = some pv → S ad.block ∧ w.cell? (ad.add j) = some (us j)) →
      (∀ (j : Nat) (pv : PV), cs[j]? = some pv → RepC w S pv (us j)) → RepC w S (.ptr cs) (.pointer (some ad))
  | fn {f : Fn} {xs ys : List PV} {us ts : Array Value} : xs.length = us.size → ys.length = ts.size → (∀ (j : Nat) (pv : PV) (u : Value), xs[j]? = some pv → us[j]? = some u → RepC w S pv u) →
      (∀ (j : Nat) (pv : PV) (u : Value), ys[j]? = some pv → ts[j]? = some u → RepC w S pv u) → RepC w S (.fn f xs ys) (.func f us ts)

/-- Where a live block lies: its number, how many cells it has, how many an element. -/
structure GI where
  g : Nat
  z : Nat
  s : Nat

/-- An open pure value: it may name live blocks (below nx). -/
inductive RepO (w : World) (S : Nat → Prop) (G : Nat → GI) (nx : Nat) : PV → Value → Prop
  | c {pv : PV} {x : Value} : RepC w S pv x → RepO w S G nx pv x
  | own {id off n cap : Nat} : id < nx → n ≤ cap → cap ≤ maxLen → (off + cap) * (G id).s = (G id).z → 0 < (G id).s → RepO w S G nx (.own id off n) (.slice (some ⟨(G id).g, off * (G id).s, none⟩) n cap)
  | ref {id i j : Nat} : id < nx → 0 < (G id).s → RepO w S G nx (.ref id i j) (.pointer (some ⟨(G id).g, i * (G id).s + j, none⟩))
  | mp {id : Nat} : id < nx → (G id).s = 0 → RepO w S G nx (.mp id) (.map (some (G id).g))
  | agg {cs : List PV} {us : Array Value} : cs.length = us.size → (∀ (j : Nat) (pv : PV) (u : Value), cs[j]? = some pv → us[j]? = some u → RepO w S G nx pv u) → RepO w S G nx (.agg cs) (.agg us)
  | tup {cs : List PV} {us : Array Value} : cs.length = us.size → (∀ (j : Nat) (pv : PV) (u : Value), cs[j]? = some pv → us[j]? = some u → RepO w S G nx pv u) → RepO w S G nx (.tup cs) (.tuple us)
  | fn {f : Fn} {xs ys : List PV} {us ts : Array Value} : xs.length = us.size → ys.length = ts.size → (∀ (j : Nat) (pv : PV) (u : Value), xs[j]? = some pv → us[j]? = some u → RepO w S G nx pv u) →
      (∀ (j : Nat) (pv : PV) (u : Value), ys[j]? = some pv → ts[j]? = some u → RepO w S G nx pv u) → RepO w S G nx (.fn f xs ys) (.func f us ts)

theorem add_block (a : Addr) (n : Nat) : (a.add n).block = a.block := by unfold Addr.add; split <;> rfl
theorem add_add (a : Addr) (i j : Nat) : (a.add i).add j = a.add (i + j) := by
  unfold Addr.add
  by_cases hi : i = 0 <;> by_cases hj : j = 0 <;> simp [hi, hj, Nat.add_assoc]

theorem RepC.mono {w w' : World} {S S' : Nat → Prop} {pv : PV} {x : Value} (h : RepC w S pv x) (hS : ∀ b, S b → S' b ∧ w'.heap[b]? = w.heap[b]?) : RepC w' S' pv x := by
  induction h with
  | v h => exact .v h
  | nil => exact .nil
  | em h => exact .em h
  | agg hl _ ih => exact .agg hl ih
  | tup hl _ ih => exact .tup hl ih
  | sl us h0 h1 h2 h3 h4 _ ih =>
    refine .sl us h0 h1 h2 h3 (fun i j c pv hi hj => ?_) ih
    obtain ⟨ad, e, hs, hc, h1c⟩ := h4 i j c pv hi hj
    refine ⟨ad, e, (hS _ hs).1, ?_, h1c⟩
    rw [← hc]
    apply World.cell?_of_block
    rw [add_block]
    exact (hS _ hs).2
  | ptr us h1 _ ih =>
    refine .ptr us (fun j pv hj => ?_) ih
    obtain ⟨hs, hc⟩ := h1 j pv hj
    refine ⟨(hS _ hs).1, ?_⟩
    rw [← hc]
    apply World.cell?_of_block
    rw [add_block]
    exact (hS _ hs).2
  | fn h1 h2 _ _ i1 i2 => exact .fn h1 h2 i1 i2

theorem RepO.mono {w w' : World} {S S' : Nat → Prop} {G G' : Nat → GI} {nx nx' : Nat} {pv : PV} {x : Value} (h : RepO w S G nx pv x) (hS : ∀ b, S b → S' b ∧ w'.heap[b]? = w.heap[b]?)
    (hn : nx ≤ nx') (hG : ∀ id, id < nx → G' id = G id) : RepO w' S' G' nx' pv x := by
  induction h with
  | c h => exact .c (h.mono hS)
  | own h1 h2 h3 h4 h5 => rw [← hG _ h1] at h4 h5 ⊢; exact .own (by omega) h2 h3 h4 h5
  | ref h1 h2 => rw [← hG _ h1] at h2 ⊢; exact .ref (by omega) h2
  | mp h1 h2 => rw [← hG _ h1] at h2 ⊢; exact .mp (by omega) h2
  | agg hl _ ih => exact .agg hl ih
  | tup hl _ ih => exact .tup hl ih
  | fn h1 h2 _ _ i1 i2 => exact .fn h1 h2 i1 i2

theorem RepC.oneCell {w : World} {S : Nat → Prop} {pv : PV} {x : Value} (h : RepC w S pv x) (hc : pv.isCell = true) : x.oneCell' = true := by
  cases h with
  | v h => cases x <;> simp_all [lit, Value.oneCell']
  | agg => simp [PV.isCell] at hc
  | tup => simp [PV.isCell] at hc
  | _ => rfl

theorem RepO.oneCell {w : World} {S : Nat → Prop} {G : Nat → GI} {nx : Nat} {pv : PV} {x : Value} (h : RepO w S G nx pv x) (hc : pv.isCell = true) : x.oneCell' = true := by
  cases h with
  | c h => exact h.oneCell hc
  | agg => simp [PV.isCell] at hc
  | tup => simp [PV.isCell] at hc
  | _ => rfl

/-- A live block: its element type, whether its cells are closed (an array), its elements. -/
structure Blk where
  e : TypeId
  s : Nat
  arr : Bool
  es : List (List PV)

abbrev Hp := Nat → Option Blk

def upd {α : Type} (f : Nat → α) (k : Nat) (x : α) : Nat → α := fun i => if i = k then x else f i

@[simp] theorem upd_same {α : Type} (f : Nat → α) (k : Nat) (x : α) : upd f k x k = x := by simp [upd]
theorem upd_other {α : Type} (f : Nat → α) (k i : Nat) (x : α) (h : i ≠ k) : upd f k x i = f i := by simp [upd, h]

def CellRep (w : World) (S : Nat → Prop) (G : Nat → GI) (nx : Nat) (arr : Bool) (pv : PV) (u : Value) : Prop :=
  (arr = true → RepC w S pv u) ∧ RepO w S G nx pv u ∧ u.oneCell' = true

/-- A block of cells. -/
structure BlkCells (P : Program) (w : World) (S : Nat → Prop) (G : Nat → GI) (nx : Nat) (gi : GI) (b : Blk) : Prop where
  size : (P.info? b.e).map (·.size) = some gi.s
  len : ∀ c ∈ b.es, c.length = gi.s
  fit : b.es.length * gi.s ≤ gi.z
  row : ∃ cur : Array Value, w.heap[gi.g]? = some (.cells cur b.e (0, 0)) ∧ cur.size = gi.z ∧
    ∀ (i j : Nat) (c : List PV) (pv : PV), b.es[i]? = some c → c[j]? = some pv → ∃ u, cur[i * gi.s + j]? = some u ∧ CellRep w S G nx b.arr pv u

/-- An entry of a map: its key and its value. -/
def EntRep (w : World) (S : Nat → Prop) (c : List PV) (e : MapEntry) : Prop := ∃ (k : Value) (pv : PV), c = [.v k, pv] ∧ e.key = k ∧ lit k = true ∧ RepC w S pv e.val

/-- A map. -/
structure BlkMap (w : World) (S : Nat → Prop) (gi : GI) (b : Blk) : Prop where
  row : ∃ (en : Array MapEntry) (clock : Nat), w.heap[gi.g]? = some (.map en clock) ∧ en.size = b.es.length ∧ ∀ (i : Nat) (c : List PV) (e : MapEntry), b.es[i]? = some c → en[i]? = some e → EntRep w S c e

structure BlkRep (P : Program) (w : World) (S : Nat → Prop) (G : Nat → GI) (nx : Nat) (gi : GI) (b : Blk) : Prop where
  bs : b.s = gi.s
  cel : 0 < gi.s → BlkCells P w S G nx gi b
  ent : gi.s = 0 → BlkMap w S gi b

theorem BlkRep.size {P : Program} {w : World} {S : Nat → Prop} {G : Nat → GI} {nx : Nat} {gi : GI} {b : Blk} (h : BlkRep P w S G nx gi b) (h0 : 0 < gi.s) : (P.info? b.e).map (·.size) = some gi.s := (h.cel h0).size
theorem BlkRep.len {P : Program} {w : World} {S : Nat → Prop} {G : Nat → GI} {nx : Nat} {gi : GI} {b : Blk} (h : BlkRep P w S G nx gi b) (h0 : 0 < gi.s) : ∀ c ∈ b.es, c.length = gi.s := (h.cel h0).len
theorem BlkRep.fit {P : Program} {w : World} {S : Nat → Prop} {G : Nat → GI} {nx : Nat} {gi : GI} {b : Blk} (h : BlkRep P w S G nx gi b) (h0 : 0 < gi.s) : b.es.length * gi.s ≤ gi.z := (h.cel h0).fit
theorem BlkRep.row {P : Program} {w : World} {S : Nat → Prop} {G : Nat → GI} {nx : Nat} {gi : GI} {b : Blk} (h : BlkRep P w S G nx gi b) (h0 : 0 < gi.s) : ∃ cur : Array Value, w.heap[gi.g]? = some (.cells cur b.e (0, 0)) ∧ cur.size = gi.z ∧
    ∀ (i j : Nat) (c : List PV) (pv : PV), b.es[i]? = some c → c[j]? = some pv → ∃ u, cur[i * gi.s + j]? = some u ∧ CellRep w S G nx b.arr pv u := (h.cel h0).row
theorem BlkRep.ofCells {P : Program} {w : World} {S : Nat → Prop} {G : Nat → GI} {nx : Nat} {gi : GI} {b : Blk} (h0 : 0 < gi.s) (hb : b.s = gi.s) (h : BlkCells P w S G nx gi b) : BlkRep P w S G nx gi b :=
  ⟨hb, fun _ => h, fun e => by omega⟩

/-- A package-level variable that is an int. -/
def IntVar (P : Program) (g : Nat) : Prop := g < P.globals.size ∧ ∃ zero t, ((begin P (fun _ _ => 0) default).world.heap[g]?).bind Obj.row? = some (zero, t) ∧ zero.size = 1 ∧ P.buildable t = true ∧ P.cellTypes P.depth t = some [t] ∧ P.underlying t = some (.int .i64)
/-- Package-level variables that are ints hold ints, and nobody changes them. -/
def Glo (P : Program) (w : World) (S : Nat → Prop) : Prop := ∀ g, IntVar P g → S g ∧ ∃ m, w.cell? ⟨g, 0, none⟩ = some (.int .i64 m)
theorem Glo.mono {P : Program} {w w' : World} {S S' : Nat → Prop} (h : Glo P w S) (hS : ∀ b, S b → S' b ∧ w'.heap[b]? = w.heap[b]?) : Glo P w' S' := by
  intro g hg
  obtain ⟨h1, m, h2⟩ := h g hg
  refine ⟨(hS g h1).1, m, ?_⟩
  rw [← h2]
  exact World.cell?_of_block (hS g h1).2
theorem cell_lt {w : World} {a : Addr} {v : Value} (h : w.cell? a = some v) : a.block < w.heap.size := by
  unfold World.cell? at h
  split at h
  · rename_i hb; exact (Array.getElem?_eq_some_iff.1 hb).1
  · cases h
theorem Glo.of_shape {P : Program} {w : World} (h : w.ShapedOpen P) : Glo P w (fun b => b < w.heap.size) := by
  rintro g ⟨hg, zero, t, h0, hz, hb, hc, hu⟩
  obtain ⟨cs, hh, hs, hr⟩ := h.1 g zero t hg h0
  obtain ⟨ts, hts, _, hall⟩ := hr hb
  rw [hc] at hts
  cases hts
  have h1 : 0 < cs.size := by omega
  obtain ⟨u, hu', hok⟩ := hall 0 cs[0] (by simp [h1])
  have : u = t := by simpa using hu'.symm
  subst this
  have hcell : w.cell? ⟨g, 0, none⟩ = some cs[0] := by simp [World.cell?, hh, h1]
  refine ⟨cell_lt hcell, ?_⟩
  rw [hcell]
  unfold Cell.ok at hok
  rw [hu] at hok
  cases hv : cs[0] <;> rw [hv] at hok <;> simp_all

structure Inv (P : Program) (w : World) (S : Nat → Prop) (G : Nat → GI) (hp : Hp) (nx : Nat) : Prop where
  st : ∀ b, S b → b < w.heap.size
  top : ∀ id b, hp id = some b → id < nx
  live : ∀ id b, hp id = some b → BlkRep P w S G nx (G id) b
  apart : ∀ id b, hp id = some b → ¬ S (G id).g
  inj : ∀ id id' b b', hp id = some b → hp id' = some b' → (G id).g = (G id').g → id = id'
  glo : Glo P w S

theorem BlkRep.lt {P : Program} {w : World} {S : Nat → Prop} {G : Nat → GI} {nx : Nat} {gi : GI} {b : Blk} (h : BlkRep P w S G nx gi b) : gi.g < w.heap.size := by
  rcases Nat.eq_zero_or_pos gi.s with h0 | h0
  · obtain ⟨en, clock, h1, _⟩ := (h.ent h0).row
    exact (Array.getElem?_eq_some_iff.1 h1).1
  · obtain ⟨cur, h1, _⟩ := h.row h0
    exact (Array.getElem?_eq_some_iff.1 h1).1

theorem CellRep.mono {w w' : World} {S S' : Nat → Prop} {G G' : Nat → GI} {nx nx' : Nat} {arr : Bool} {pv : PV} {u : Value} (h : CellRep w S G nx arr pv u) (hS : ∀ b, S b → S' b ∧ w'.heap[b]? = w.heap[b]?)
    (hn : nx ≤ nx') (hG : ∀ id, id < nx → G' id = G id) : CellRep w' S' G' nx' arr pv u :=
  ⟨fun ha => (h.1 ha).mono hS, h.2.1.mono hS hn hG, h.2.2⟩

theorem BlkRep.mono {P : Program} {w w' : World} {S S' : Nat → Prop} {G G' : Nat → GI} {nx nx' : Nat} {gi : GI} {b : Blk} (h : BlkRep P w S G nx gi b) (hS : ∀ b, S b → S' b ∧ w'.heap[b]? = w.heap[b]?)
    (hn : nx ≤ nx') (hG : ∀ id, id < nx → G' id = G id) (hb : w'.heap[gi.g]? = w.heap[gi.g]?) : BlkRep P w' S' G' nx' gi b := by
  refine ⟨h.bs, fun h0 => ⟨h.size h0, h.len h0, h.fit h0, ?_⟩, fun h0 => ⟨?_⟩⟩
  · obtain ⟨cur, h1, h2, h3⟩ := h.row h0
    refine ⟨cur, hb.trans h1, h2, fun i j c pv hi hj => ?_⟩
    obtain ⟨u, h4, h5⟩ := h3 i j c pv hi hj
    exact ⟨u, h4, h5.mono hS hn hG⟩
  · obtain ⟨en, clock, h1, h2, h3⟩ := (h.ent h0).row
    refine ⟨en, clock, hb.trans h1, h2, fun i c e hi he => ?_⟩
    obtain ⟨k, pv, e1, e2, e3, e4⟩ := h3 i c e hi he
    exact ⟨k, pv, e1, e2, e3, e4.mono hS⟩

/-- What may have changed between two worlds: the blocks of L, and what is new. -/
structure Fr (w : World) (L : Nat → Prop) (w' : World) : Prop where
  os : w'.os = w.os
  tape : w'.tape = w.tape
  output : w'.output = w.output
  size : w.heap.size ≤ w'.heap.size
  drawn : w.drawn ≤ w'.drawn
  block : ∀ k, k < w.heap.size → ¬ L k → w'.heap[k]? = w.heap[k]?

theorem Fr.refl (w : World) (L : Nat → Prop) : Fr w L w := ⟨rfl, rfl, rfl, Nat.le_refl _, Nat.le_refl _, fun _ _ _ => rfl⟩
theorem Fr.trans {w w' w'' : World} {L : Nat → Prop} (h : Fr w L w') {L' : Nat → Prop} (h' : Fr w' L' w'') (hL : ∀ b, b < w.heap.size → L' b → L b) : Fr w L w'' :=
  ⟨h'.os.trans h.os, h'.tape.trans h.tape, h'.output.trans h.output, Nat.le_trans h.size h'.size, Nat.le_trans h.drawn h'.drawn, fun k hk hn => (h'.block k (Nat.lt_of_lt_of_le hk h.size) (fun hl => hn (hL k hk hl))).trans (h.block k hk hn)⟩
theorem Fr.drew (w : World) (L : Nat → Prop) : Fr w L w.drew := ⟨rfl, rfl, rfl, Nat.le_refl _, Nat.le_succ _, fun _ _ _ => rfl⟩

/-- The state of the abstract machine. -/
structure St where
  σ : Nat → PV
  hp : Hp
  nx : Nat

/-- The mark of a loop over a function among an activation's deferred calls. -/
def mark (D : Nat) : Deferred := { target := .collected D, args := #[] }
/-- An activation's deferred calls are marks alone, each of a block of its own, none below n0. -/
def Marks (n0 : Nat) (w : World) (S : Nat → Prop) (hp : Hp) (G : Nat → GI) (ds : List Deferred) : Prop := n0 ≤ w.heap.size ∧ ∃ Ds : List Nat, ds = Ds.map mark ∧ Ds.Nodup ∧ ∀ D ∈ Ds, n0 ≤ D ∧ w.heap[D]? = some (.deferred (some [])) ∧ ¬ S D ∧ ∀ id b, hp id = some b → (G id).g ≠ D
theorem Marks.nil {n0 : Nat} {w : World} {S : Nat → Prop} {hp : Hp} {G : Nat → GI} (h : n0 ≤ w.heap.size) : Marks n0 w S hp G [] := ⟨h, [], rfl, by simp, by simp⟩

/-- The concrete state is one of those that the abstract one stands for. w0: the world at the call's start; S0: what could be read then; L: what was lent. -/
structure SimAt (P : Program) (w0 : World) (S0 L : Nat → Prop) (N nx0 : Nat) (G0 : Nat → GI) (n0 : Nat) (st : St) (S : Nat → Prop) (G : Nat → GI) (a : Act) (w : World) : Prop where
  inv : Inv P w S G st.hp st.nx
  slots : ∀ t, RepO w S G st.nx (st.σ t) (a.tmps.getD t undef)
  size : a.tmps.size = N
  defers : Marks n0 w S st.hp G a.defers
  s0 : ∀ b, S0 b → S b
  s1 : ∀ b, S b → S0 b ∨ L b ∨ w0.heap.size ≤ b
  own : ∀ id b, st.hp id = some b → L (G id).g ∨ w0.heap.size ≤ (G id).g
  fr : Fr w0 L w
  up : nx0 ≤ st.nx
  loc : ∀ id, id < nx0 → G id = G0 id

def Sim (P : Program) (w0 : World) (S0 L : Nat → Prop) (N nx0 : Nat) (G0 : Nat → GI) (n0 : Nat) (st : St) (a : Act) (w : World) : Prop := ∃ S G, SimAt P w0 S0 L N nx0 G0 n0 st S G a w

end Go.AM
namespace Go.AM
open Go.RowKit

abbrev Spec := List PV → Hp → Nat → Option (PV × Hp × Nat)

/-- What a function over which a loop ranges gives, one value a round, by what it has captured; and the heap without what it keeps for itself. -/
abbrev IterSpec := List PV → Hp → Option (List PV × Hp)

/-- The program and what is known of the functions that are called. -/
structure Ctx where
  P : Program
  Γ : FuncId → Option Spec
  dyn : Nat → List (Tmp × Tmp) := fun _ => []
  lds : Nat → List Tmp := fun _ => []
  bk : FuncId → Bool := fun _ => false
  fz : Nat → List Tmp := fun _ => []
  it : FuncId → Option IterSpec := fun _ => none

/-- Two slots point into different blocks, the second into a variable's. -/
def apart1 (st : St) (a b : Tmp) : Prop := ∀ id i j, st.σ a = .ref id i j → ∃ id' i' j' blk, st.σ b = .ref id' i' j' ∧ id ≠ id' ∧ st.hp id' = some blk ∧ blk.arr = false
/-- What a region that draws its order asks of the state: loads and stores that may change places touch different blocks. -/
def ApartA (D : List (Tmp × Tmp)) (st : St) : Prop := ∀ p ∈ D, apart1 st p.1 p.2
/-- Slots that, if they point into what is live, point to variables. -/
def RefsA (L : List Tmp) (st : St) : Prop := ∀ s ∈ L, (∀ id o n, st.σ s ≠ .own id o n) ∧ ∀ id i j, st.σ s = .ref id i j → id < st.nx ∧ ∃ blk, st.hp id = some blk ∧ blk.arr = false

def ofCell : Value → Option PV
  | .slice none 0 0 => some .nil
  | .bool b => some (.v (.bool b))
  | .int k n => some (.v (.int k n))
  | .string s => some (.v (.string s))
  | .nilFunc => some (.v .nilFunc)
  | .pointer none => some (.v (.pointer none))
  | .nilIface => some (.v .nilIface)
  | .map none => some (.v (.map none))
  | _ => none

def ofCells : List Value → Option (List PV)
  | [] => some []
  | x :: l => match ofCell x, ofCells l with
    | some p, some r => some (p :: r)
    | _, _ => none

def ofConst : Value → Option PV
  | .agg cs => (ofCells cs.toList).map .agg
  | x => ofCell x

def get (σ : Nat → PV) : Operand → Option PV
  | .tmp t => some (σ t)
  | .const x => ofConst x
  | .func f => some (.fn (.func f) [] [])
  | .global _ => none

def sizeA (P : Program) (t : TypeId) : Option Nat := (P.info? t).map (·.size)
def bytesA (P : Program) (t : TypeId) : Option Nat := (P.info? t).map (·.bytes)
def zeroA (P : Program) (t : TypeId) : Option (List PV) := ((P.info? t).bind (·.zero)).bind fun z => ofCells z.cells.toList
def isAggA (P : Program) (t : TypeId) : Option Bool := (P.underlying t).map fun
  | .struct _ | .array _ _ => true
  | _ => false
def elemA (P : Program) (t : TypeId) : Option TypeId := match P.underlying t with
  | some (.slice e) => some e
  | _ => none
/-- A struct's field: its cells' offset, how many it has, whether it is an aggregate. -/
def fieldA (P : Program) (t : TypeId) (f : Nat) : Option (Nat × Nat × Bool) := match P.underlying t with
  | some (.struct fs) => match fs[f]? with
    | some x => match sizeA P x.type, isAggA P x.type with
      | some n, some a => some (x.offset, n, a)
      | _, _ => none
    | none => none
  | _ => none

def PV.cells : PV → List PV
  | .agg cs => cs
  | x => [x]

def readCells (P : Program) (t : TypeId) (cs : List PV) : Option PV :=
  match isAggA P t, sizeA P t with
  | some true, some n => if n ≤ cs.length then some (.agg (cs.take n)) else none
  | some false, some _ => cs[0]?
  | _, _ => none

def PV.cellOpen : PV → Bool
  | .own _ _ _ => true
  | _ => false
def PV.noOwn : PV → Bool
  | .agg cs => !cs.any PV.cellOpen
  | .own _ _ _ => false
  | _ => true

/-- Closed, by its form. -/
def PV.shut1 : PV → Bool
  | .v _ | .nil | .em | .sl _ _ | .ptr _ => true
  | _ => false
def PV.shut : PV → Bool
  | .agg cs => cs.all PV.shut1
  | x => x.shut1

def freezeCell (hp : Hp) : PV → Option (PV × Hp)
  | .own id off n => match hp id with
    | some b => if b.arr = true ∧ off + n ≤ b.es.length then some (.sl b.s ((b.es.drop off).take n), upd hp id none) else none
    | none => none
  | .v x => some (.v x, hp)
  | .nil => some (.nil, hp)
  | .sl s es => some (.sl s es, hp)
  | .em => some (.em, hp)
  | .ptr cs => some (.ptr cs, hp)
  | .fn f xs ys => if xs.all PV.shut = true ∧ ys.all PV.shut = true then some (.fn f xs ys, hp) else none
  | _ => none

def freezeCells (hp : Hp) : List PV → Option (List PV × Hp)
  | [] => some ([], hp)
  | x :: l => match freezeCell hp x with
    | some (y, hp1) => match freezeCells hp1 l with
      | some (r, hp2) => some (y :: r, hp2)
      | none => none
    | none => none

def freezeVal (hp : Hp) : PV → Option (PV × Hp)
  | .agg cs => match freezeCells hp cs with
    | some (l, h) => some (.agg l, h)
    | none => none
  | x => freezeCell hp x

def freezeVals (hp : Hp) : List PV → Option (List PV × Hp)
  | [] => some ([], hp)
  | x :: l => match freezeVal hp x with
    | some (y, hp1) => match freezeVals hp1 l with
      | some (r, hp2) => some (y :: r, hp2)
      | none => none
    | none => none

def freeze (hp : Hp) : PV → Option (PV × Hp)
  | .tup cs => match freezeVals hp cs with
    | some (l, h) => some (.tup l, h)
    | none => none
  | x => freezeVal hp x

/-- The elements of a slice, of n cells each. -/
def view (hp : Hp) (n : Nat) : PV → Option (List (List PV))
  | .nil => some []
  | .em => some []
  | .sl s es => if s = n then some es else none
  | .own id off k => match hp id with
    | some b => if b.arr = true ∧ b.s = n ∧ off + k ≤ b.es.length then some ((b.es.drop off).take k) else none
    | none => none
  | _ => none

def intA (op : BinOp) (k : IntKind) (a b : Int) : Option PV :=
  match op with
  | .add => some (.v (.int k (k.wrap (a + b))))
  | .sub => some (.v (.int k (k.wrap (a - b))))
  | .mul => some (.v (.int k (k.wrap (a * b))))
  | .quo => if b = 0 then none else some (.v (.int k (k.wrap (a.tdiv b))))
  | .rem => if b = 0 then none else some (.v (.int k (a.tmod b)))
  | .eql => some (.v (.bool (a == b)))
  | .neq => some (.v (.bool (a != b)))
  | .lss => some (.v (.bool (decide (a < b))))
  | .leq => some (.v (.bool (decide (a ≤ b))))
  | .gtr => some (.v (.bool (decide (a > b))))
  | .geq => some (.v (.bool (decide (a ≥ b))))
  | .and => some (.v (.int k (k.wrap (BitVec.ofInt k.bits a &&& BitVec.ofInt k.bits b).toNat)))
  | .or => some (.v (.int k (k.wrap (BitVec.ofInt k.bits a ||| BitVec.ofInt k.bits b).toNat)))
  | .xor => some (.v (.int k (k.wrap (BitVec.ofInt k.bits a ^^^ BitVec.ofInt k.bits b).toNat)))
  | .andNot => some (.v (.int k (k.wrap (BitVec.ofInt k.bits a &&& ~~~ BitVec.ofInt k.bits b).toNat)))
  | .shr => if b < 0 then none else some (.v (.int k (a.fdiv (2 ^ (min b.toNat k.bits)))))
  | .shl => if b < 0 then none else some (.v (.int k (k.wrap (a * 2 ^ (min b.toNat k.bits)))))

def strA (op : BinOp) (a b : ByteArray) : Option PV :=
  match op with
  | .add => if a.size + b.size ≤ maxLen then some (.v (.string (a ++ b))) else none
  | .eql => some (.v (.bool (a.toList == b.toList)))
  | .neq => some (.v (.bool (!(a.toList == b.toList))))
  | .lss => some (.v (.bool (Op.bytesLess a.toList b.toList)))
  | .leq => some (.v (.bool (Op.bytesLess a.toList b.toList || a.toList == b.toList)))
  | .gtr => some (.v (.bool (!(Op.bytesLess a.toList b.toList || a.toList == b.toList))))
  | .geq => some (.v (.bool (!(Op.bytesLess a.toList b.toList))))
  | _ => none

/-- '==' of structs whose fields all are ints (0), bools (1) or strings (2). -/
def eqCells : List Nat → List PV → List PV → Option Bool
  | [], _, _ => some true
  | 0 :: ks, .v (.int k a) :: xs, .v (.int k' b) :: ys => if k = k' then (eqCells ks xs ys).map ((a == b) && ·) else none
  | 1 :: ks, .v (.bool a) :: xs, .v (.bool b) :: ys => (eqCells ks xs ys).map ((a == b) && ·)
  | 2 :: ks, .v (.string a) :: xs, .v (.string b) :: ys => (eqCells ks xs ys).map ((a == b) && ·)
  | _, _, _ => none

def tagA (P : Program) (t : TypeId) : Option Nat := match P.underlying t with
  | some (.int _) => some 0
  | some .bool => some 1
  | some .string => some 2
  | _ => none

def tagsA (P : Program) : Nat → List Field → Option (List Nat)
  | _, [] => some []
  | i, f :: fs => if f.offset = i ∧ f.name ≠ "_" then match tagA P f.type, tagsA P (i + 1) fs with
      | some k, some ks => some (k :: ks)
      | _, _ => none
    else none

/-- A struct type whose fields are ints, bools and strings, one cell each, in order: their kinds. -/
def flatA (P : Program) (t : TypeId) : Option (List Nat) :=
  if P.stoodInHeld t = true ∨ P.eqGuardType P.depth t = true then none else
  match P.underlying t with
  | some (.struct fs) => tagsA P 0 fs.toList
  | _ => none

/-- Whether a slice is nil, where it is known. -/
def isNilA : PV → Option Bool
  | .nil => some true
  | .em => some false
  | .own _ _ _ => some false
  | .sl _ (_ :: _) => some false
  | _ => none

def binA (P : Program) (op : BinOp) (t : TypeId) : PV → PV → Option PV
  | .v (.int k a), .v (.int k' b) => if k = k' then intA op k a b else none
  | .v (.string a), .v (.string b) => strA op a b
  | .v (.bool a), .v (.bool b) => match op, P.underlying t with
    | .eql, some .bool => some (.v (.bool (a == b)))
    | .neq, some .bool => some (.v (.bool (!(a == b))))
    | _, _ => none
  | .agg xs, .agg ys => match flatA P t with
    | some ks => match op with
      | .eql => (eqCells ks xs ys).map fun r => .v (.bool r)
      | .neq => (eqCells ks xs ys).map fun r => .v (.bool !r)
      | _ => none
    | none => none
  | p, .nil => match elemA P t, isNilA p, op with
    | some _, some r, .eql => some (.v (.bool r))
    | some _, some r, .neq => some (.v (.bool !r))
    | _, _, _ => none
  | _, _ => none

/-- An interface type. -/
def ifaceA (P : Program) (t : TypeId) : Bool := match P.underlying t with
  | some (.interface _) => true
  | _ => false
def isK : Operand → Bool
  | .const _ => true
  | _ => false
/-- A nil interface value held against the literal nil (c). -/
def nilIA (P : Program) (op : BinOp) (t : TypeId) : Option PV := if ifaceA P t = true then match op with
  | .eql => some (.v (.bool true))
  | .neq => some (.v (.bool false))
  | _ => none
  else none
def binC (c : Bool) (P : Program) (op : BinOp) (t : TypeId) (p q : PV) : Option PV := match c, q, p with
  | true, .v .nilIface, .v .nilIface => nilIA P op t
  | _, q, p => binA P op t p q
@[simp] theorem binC_tmp (P : Program) (op : BinOp) (t : TypeId) (p q : PV) : binC false P op t p q = binA P op t p q := rfl
@[simp] theorem isK_tmp (t : Tmp) : isK (.tmp t) = false := rfl
@[simp] theorem isK_const (v : Value) : isK (.const v) = true := rfl
@[simp] theorem isK_func (f : FuncId) : isK (.func f) = false := rfl
@[simp] theorem binC_int (c : Bool) (P : Program) (op : BinOp) (t : TypeId) (p : PV) (k : IntKind) (n : Int) : binC c P op t p (.v (.int k n)) = binA P op t p (.v (.int k n)) := by cases c <;> rfl
@[simp] theorem binC_str (c : Bool) (P : Program) (op : BinOp) (t : TypeId) (p : PV) (s : ByteArray) : binC c P op t p (.v (.string s)) = binA P op t p (.v (.string s)) := by cases c <;> rfl
@[simp] theorem binC_bool (c : Bool) (P : Program) (op : BinOp) (t : TypeId) (p : PV) (b : Bool) : binC c P op t p (.v (.bool b)) = binA P op t p (.v (.bool b)) := by cases c <;> rfl
@[simp] theorem binC_nil (c : Bool) (P : Program) (op : BinOp) (t : TypeId) (p : PV) : binC c P op t p .nil = binA P op t p .nil := by cases c <;> rfl
@[simp] theorem binC_nilI (P : Program) (op : BinOp) (t : TypeId) : binC true P op t (.v .nilIface) (.v .nilIface) = nilIA P op t := rfl

def unA (op : UnOp) : PV → Option PV
  | .v (.bool b) => match op with
    | .not => some (.v (.bool !b))
    | _ => none
  | .v (.int k n) => match op with
    | .neg => some (.v (.int k (k.wrap (0 - n))))
    | _ => none
  | _ => none

def convA (P : Program) (src dst : TypeId) : PV → Option PV
  | .v (.int _ n) => match P.underlying src, P.underlying dst with
    | some _, some (.int k) => some (.v (.int k (k.wrap n)))
    | _, _ => none
  | .v (.string s) => match P.underlying src, P.underlying dst with
    | some _, some .string => some (.v (.string s))
    | _, _ => none
  | _ => none

def boundA (dflt : Nat) : Option (Option PV) → Option Nat
  | none => some dflt
  | some (some (.v (.int _ i))) => if 0 ≤ i then some i.toNat else none
  | _ => none

def sliceA (P : Program) (hp : Hp) (t : TypeId) (x : PV) (lo hi : Option (Option PV)) : Option PV :=
  match P.underlying t, x with
  | some .string, .v (.string s) => match boundA 0 lo, boundA s.size hi with
    | some l, some h => if l ≤ h ∧ h ≤ s.size then some (.v (.string (s.extract l h))) else none
    | _, _ => none
  | some (.slice e), .sl s es => match sizeA P e, boundA 0 lo, boundA es.length hi with
    | some n, some l, some h => if s = n ∧ l ≤ h ∧ h ≤ es.length then some (.sl s ((es.drop l).take (h - l))) else none
    | _, _, _ => none
  | some (.slice e), .nil => match sizeA P e, boundA 0 lo, boundA 0 hi with
    | some _, some l, some h => if l = 0 ∧ h = 0 then some .nil else none
    | _, _, _ => none
  | some (.slice e), .own id off n => match sizeA P e, boundA 0 lo, boundA n hi with
    | some m, some l, some h => match hp id with
      | some b => if b.s = m ∧ l ≤ h ∧ h ≤ n then some (if l = 0 then .own id off h else if h = l then .sl m [] else .own id (off + l) (h - l)) else none
      | none => none
    | _, _, _ => none
  | _, _ => none

def minFrom (k : IntKind) (x : Int) : List PV → Option PV
  | [] => some (.v (.int k x))
  | .v (.int k' y) :: l => if k = k' then minFrom k (if y < x then y else x) l else none
  | _ => none
def minA : List PV → Option PV
  | .v (.int k x) :: l => minFrom k x l
  | _ => none
def maxFrom (k : IntKind) (x : Int) : List PV → Option PV
  | [] => some (.v (.int k x))
  | .v (.int k' y) :: l => if k = k' then maxFrom k (if y > x then y else x) l else none
  | _ => none
def maxA : List PV → Option PV
  | .v (.int k x) :: l => maxFrom k x l
  | _ => none

def lenA (P : Program) (t : TypeId) : PV → Option PV
  | .v (.string s) => match P.underlying t with
    | some .string => some (.v (.int .i64 s.size))
    | _ => none
  | .sl _ es => (elemA P t).map fun _ => .v (.int .i64 es.length)
  | .nil => (elemA P t).map fun _ => .v (.int .i64 0)
  | .em => (elemA P t).map fun _ => .v (.int .i64 0)
  | .own _ _ n => (elemA P t).map fun _ => .v (.int .i64 n)
  | _ => none

/-- The struct or array literal: parts laid into the zero value's cells. -/
def setCells (cs : List PV) (off : Nat) : List PV → List PV
  | [] => cs
  | x :: l => setCells (cs.set off x) (off + 1) l

def fillA (place : Nat → Option (Nat × Nat)) (cs : List PV) : List (Nat × PV) → Option (List PV)
  | [] => some cs
  | (i, x) :: rest => match place i with
    | some (off, n) => if x.cells.length = n ∧ off + n ≤ cs.length ∧ x.cells.all PV.isCell = true then fillA place (setCells cs off x.cells) rest else none
    | none => none

def allSome {α : Type} : List (Option α) → Option (List α)
  | [] => some []
  | some x :: l => (allSome l).map (x :: ·)
  | none :: _ => none

def partsA (ρ : Operand → Option PV) : List (Nat × Operand) → Option (List (Nat × PV))
  | [] => some []
  | (i, x) :: l => match ρ x, partsA ρ l with
    | some p, some r => some ((i, p) :: r)
    | _, _ => none

def placesA (P : Program) (t : TypeId) : Option (List (Nat × Nat)) := match P.underlying t with
  | some (.struct fs) => fs.toList.mapM (fun f => (P.info? f.type).map fun i => (f.offset, i.size))
  | _ => none

def buildA (P : Program) (t : TypeId) (parts : List (Nat × PV)) : Option PV :=
  match placesA P t, zeroA P t with
  | some pl, some z => (fillA (fun i => pl[i]?) z parts).map .agg
  | none, some z => match P.underlying t with
    | some (.array _ e) => match sizeA P e with
      | some n => (fillA (fun i => some (i * n, n)) z parts).map .agg
      | none => none
    | _ => none
  | _, _ => none

def freezeParts (hp : Hp) : List (Nat × PV) → Option (List (Nat × PV) × Hp)
  | [] => some ([], hp)
  | (i, x) :: l => match freezeVal hp x with
    | some (y, hp1) => match freezeParts hp1 l with
      | some (r, hp2) => some ((i, y) :: r, hp2)
      | none => none
    | none => none

/-- Whole elements set into a list of elements. -/
def setElems (n : Nat) (es : List (List PV)) : List (Nat × PV) → Option (List (List PV))
  | [] => some es
  | (i, x) :: l => if x.cells.length = n ∧ i < es.length ∧ x.cells.all PV.isCell = true then setElems n (es.set i x.cells) l else none

def buildSliceA (P : Program) (hp : Hp) (nx : Nat) (t : TypeId) (len : Nat) (parts : List (Nat × PV)) : Option (PV × Hp × Nat) :=
  match elemA P t with
  | some e => match sizeA P e, zeroA P e, freezeParts hp parts with
    | some n, some z, some (ps, hp1) => if 0 < n ∧ z.length = n ∧ len * n ≤ 16777216 then
        match setElems n (List.replicate len z) ps with
        | some es => some (.own nx 0 len, upd hp1 nx (some ⟨e, n, true, es⟩), nx + 1)
        | none => none
      else none
    | _, _, _ => none
  | none => none

def makeSliceA (P : Program) (hp : Hp) (nx : Nat) (t : TypeId) : PV → PV → Option (PV × Hp × Nat)
  | .v (.int _ l), .v (.int _ c) => match elemA P t with
    | some e => match sizeA P e, bytesA P e, zeroA P e with
      | some n, some by_, some z => if 0 < n ∧ z.length = n ∧ 0 ≤ l ∧ l ≤ c ∧ c.toNat ≤ maxLen ∧ c.toNat * by_ ≤ 140737488355328 then
          some (.own nx 0 l.toNat, upd hp nx (some ⟨e, n, true, List.replicate l.toNat z⟩), nx + 1)
        else none
      | _, _, _ => none
    | none => none
  | _, _ => none

/-- append onto nothing, or onto a block of the call's own whose end is the slice's end. -/
def appendA (P : Program) (hp : Hp) (nx : Nat) (t u : TypeId) (s x : PV) : Option (PV × Hp × Nat) :=
  match elemA P t with
  | some e => match sizeA P e, bytesA P e, zeroA P e with
    | some n, some by_, some z => match view hp n x with
      | some xs => match s with
        | .nil =>
          if u = t ∧ 0 < n ∧ z.length = n ∧ xs.length ≤ maxLen ∧ xs.length * by_ ≤ 140737488355328 then
            if xs.length = 0 then some (.nil, hp, nx)
            else some (.own nx 0 xs.length, upd hp nx (some ⟨e, n, true, xs⟩), nx + 1)
          else none
        | .own id 0 k => match hp id with
          | some b => if u = t ∧ b.arr = true ∧ b.e = e ∧ k = b.es.length ∧ 0 < n ∧ z.length = n ∧ k + xs.length ≤ maxLen ∧ (k + xs.length) * by_ ≤ 140737488355328 then
              some (.own nx 0 (k + xs.length), upd (upd hp id none) nx (some ⟨e, n, true, b.es ++ xs⟩), nx + 1)
            else none
          | none => none
        | _ => none
      | none => none
    | _, _, _ => none
  | none => none

/-- copy into a block of the call's own. -/
def copyA (P : Program) (hp : Hp) (nx : Nat) (t : TypeId) (d x : PV) : Option (PV × Hp × Nat) :=
  match elemA P t, d with
  | some e, .own id off k => match hp id, sizeA P e with
    | some b, some n => match view hp n x with
      | some xs => if b.arr = true ∧ b.e = e ∧ off + k ≤ b.es.length ∧ 0 < n then
          some (.v (.int .i64 (min xs.length k : Nat)), upd hp id (some ⟨b.e, b.s, true, b.es.take off ++ xs.take (min xs.length k) ++ b.es.drop (off + min xs.length k)⟩), nx)
        else none
      | none => none
    | _, _ => none
  | _, _ => none

/-- clear: a slice of one's own, of elements of one cell. -/
def clearA (P : Program) (hp : Hp) (nx : Nat) (t : TypeId) (x : PV) : Option (PV × Hp × Nat) :=
  match elemA P t, x with
  | some e, .own id off k => match hp id, sizeA P e, zeroA P e with
    | some b, some n, some [z] => if n = 1 ∧ b.arr = true ∧ b.e = e ∧ off + k ≤ b.es.length ∧ 0 < k then
        some (.tup [], upd hp id (some ⟨b.e, b.s, true, b.es.take off ++ List.replicate k [z] ++ b.es.drop (off + k)⟩), nx)
      else none
    | _, _, _ => none
  | _, _ => none

def loadA (P : Program) (hp : Hp) (t : TypeId) : PV → Option PV
  | .ptr cs => readCells P t cs
  | .ref id i j => match hp id with
    | some b => match b.es[i]? with
      | some c => readCells P t (c.drop j)
      | none => none
    | none => none
  | _ => none

def storeA (P : Program) (hp : Hp) (t : TypeId) (a x : PV) : Option Hp :=
  match a with
  | .ref id i j => match hp id with
    | some b0 => match (if b0.arr = true then freezeVal hp x else some (x, hp)) with
      | some (y, hp1) => match hp1 id, sizeA P t with
        | some b, some n => match b.es[i]? with
          | some c => if y.cells.length = n ∧ j + n ≤ c.length ∧ y.cells.all PV.isCell = true then
              some (upd hp1 id (some ⟨b.e, b.s, b.arr, b.es.set i (setCells c j y.cells)⟩)) else none
          | none => none
        | _, _ => none
      | none => none
    | none => none
  | _ => none

def fieldAddrA (P : Program) (t : TypeId) (f : Nat) : PV → Option PV
  | .ptr cs => match fieldA P t f with
    | some (o, n, _) => if n = 0 then none else some (.ptr (cs.drop o))
    | none => none
  | .ref id i j => match fieldA P t f with
    | some (o, n, _) => if n = 0 then none else some (.ref id i (j + o))
    | none => none
  | _ => none

def fieldValA (P : Program) (t : TypeId) (f : Nat) : PV → Option PV
  | .agg cs => match fieldA P t f with
    | some (o, n, true) => if o + n ≤ cs.length then some (.agg ((cs.drop o).take n)) else none
    | some (o, _, false) => cs[o]?
    | none => none
  | _ => none

/-- An array type: its length, its elements' type. -/
def arrA (P : Program) (t : TypeId) : Option (Nat × TypeId) := match P.underlying t with
  | some (.array n e) => some (n, e)
  | _ => none
def indexArrA (P : Program) (t : TypeId) (i : Int) (x : PV) : Option PV :=
  match arrA P t with
  | some (m, e) => match sizeA P e with
    | some n => if 0 ≤ i ∧ i < m then match x with
        | .ptr cs => some (.ptr (cs.drop (i.toNat * n)))
        | .ref id a b => some (.ref id a (b + i.toNat * n))
        | _ => none
      else none
    | none => none
  | none => none
def indexAddrA (P : Program) (hp : Hp) (t : TypeId) : PV → PV → Option PV
  | x, .v (.int _ i) => match elemA P t with
    | some e => match sizeA P e, x with
      | some n, .sl s es => if s = n ∧ 0 < n ∧ 0 ≤ i then (es[i.toNat]?).map .ptr else none
      | some n, .own id off k => match hp id with
        | some b => if b.e = e ∧ 0 < n ∧ 0 ≤ i ∧ i.toNat < k then some (.ref id (off + i.toNat) 0) else none
        | none => none
      | _, _ => none
    | none => indexArrA P t i x
  | _, _ => none

def indexA (P : Program) (t : TypeId) : PV → PV → Option PV
  | .v (.string s), .v (.int _ i) => match P.underlying t with
    | some .string => if 0 ≤ i then match s[i.toNat]? with
        | some b => some (.v (.int .u8 b.toNat))
        | none => none
      else none
    | _ => none
  | _, _ => none

/-! ### maps -/
/-- A map type whose keys are ints (of a kind) or strings; the type of its elements. -/
def mapKT (P : Program) (t : TypeId) : Option (Option IntKind × TypeId) := match P.underlying t with
  | some (.map kt et) => match P.underlying kt with
    | some (.int k) => some (some k, et)
    | some .string => some (none, et)
    | _ => none
  | _ => none
def keyOk : Option IntKind → Value → Bool
  | some k, .int k' _ => k' == k
  | none, .string _ => true
  | _, _ => false
def keySame : Value → Value → Option Bool
  | .int k a, .int k' b => if k = k' then some (a == b) else none
  | .string a, .string b => some (a.toList == b.toList)
  | _, _ => none
/-- The place of a key among a map's entries, and its value. -/
def findE (k : Value) : List (List PV) → Nat → Option (Option (Nat × PV))
  | [], _ => some none
  | [.v k', v] :: l, i => match keySame k k' with
    | some true => some (some (i, v))
    | some false => findE k l (i + 1)
    | none => none
  | _ :: _, _ => none
def zeroV (P : Program) (t : TypeId) : Option PV := ((P.info? t).bind (·.zero)).bind ofConst
def entsA (hp : Hp) : PV → Option (List (List PV))
  | .mp id => match hp id with
    | some b => if b.s = 0 then some b.es else none
    | none => none
  | .v (.map none) => some []
  | _ => none
def lookupA (P : Program) (hp : Hp) (t : TypeId) (x key : PV) (ok : Bool) : Option PV :=
  match mapKT P t, entsA hp x, key with
  | some (kk, et), some es, .v k => if keyOk kk k = true then match findE k es 0 with
      | some (some (_, v)) => some (if ok = true then .tup [v, .v (.bool true)] else v)
      | some none => (zeroV P et).map fun z => if ok = true then .tup [z, .v (.bool false)] else z
      | none => none
    else none
  | _, _, _ => none
def mapPutA (P : Program) (hp : Hp) (t : TypeId) (x key y : PV) : Option Hp :=
  match mapKT P t, x, key with
  | some (kk, _), .mp id, .v k => if keyOk kk k = true then match freezeVal hp y with
      | some (z, hp1) => match hp1 id with
        | some b => if b.s = 0 then match findE k b.es 0 with
            | some (some (i, _)) => some (upd hp1 id (some ⟨b.e, b.s, b.arr, b.es.set i [.v k, z]⟩))
            | some none => some (upd hp1 id (some ⟨b.e, b.s, b.arr, b.es ++ [[.v k, z]]⟩))
            | none => none
          else none
        | none => none
      | none => none
    else none
  | _, _, _ => none

def evalBuiltin (P : Program) (hp : Hp) (nx : Nat) (ts : Array TypeId) (b : Builtin) (xs : List PV) : Option (PV × Hp × Nat) :=
  match b with
  | .len => match xs, ts[0]? with
    | [x], some t => (lenA P t x).map fun y => (y, hp, nx)
    | _, _ => none
  | .min => (minA xs).map fun y => (y, hp, nx)
  | .max => (maxA xs).map fun y => (y, hp, nx)
  | .append => match xs, ts[0]?, ts[1]? with
    | [s, x], some t, some u => appendA P hp nx t u s x
    | _, _, _ => none
  | .copy => match xs, ts[0]? with
    | [d, x], some t => copyA P hp nx t d x
    | _, _ => none
  | .clear => match xs, ts[0]? with
    | [x], some t => clearA P hp nx t x
    | _, _ => none
  | _ => none

def callVal (C : Ctx) (hp : Hp) (nx : Nat) (f : Option PV) (xs : List PV) : Option (PV × Hp × Nat) :=
  match f with
  | some (.fn (.func g) first captured) => match C.Γ g with
    | some spec => spec (first ++ xs ++ captured) hp nx
    | none => none
  | _ => none

def evalCall (C : Ctx) (ρ : Operand → Option PV) (hp : Hp) (nx : Nat) (c : Call) : Option (PV × Hp × Nat) :=
  match allSome (c.args.toList.map ρ) with
  | some xs => match c.callee with
    | .builtin b => evalBuiltin C.P hp nx c.argTypes b xs
    | .value f => callVal C hp nx (ρ f) xs
    | .invoke _ _ => none
  | none => none

def evalOp (C : Ctx) (ρ : Operand → Option PV) (hp : Hp) (nx : Nat) (o : Op) : Option (PV × Hp × Nat) :=
  match o with
  | .move x => (ρ x).map fun y => (y, hp, nx)
  | .assign x => (ρ x).map fun y => (y, hp, nx)
  | .pick c a b => match ρ c with
    | some (.v (.bool true)) => (ρ a).map fun y => (y, hp, nx)
    | some (.v (.bool false)) => (ρ b).map fun y => (y, hp, nx)
    | _ => none
  | .alloc t => match sizeA C.P t, zeroA C.P t with
    | some n, some z => if 0 < n ∧ z.length = n then some (.ref nx 0 0, upd hp nx (some ⟨t, n, false, [z]⟩), nx + 1) else none
    | _, _ => none
  | .box t x => match sizeA C.P t, ρ x with
    | some n, some y => if 0 < n ∧ y.cells.length = n ∧ y.cells.all PV.isCell = true then some (.ref nx 0 0, upd hp nx (some ⟨t, n, false, [y.cells]⟩), nx + 1) else none
    | _, _ => none
  | .build t parts => match partsA ρ parts.toList with
    | some ps => (buildA C.P t ps).map fun y => (y, hp, nx)
    | none => none
  | .buildSlice t len parts => match partsA ρ parts.toList with
    | some ps => buildSliceA C.P hp nx t len ps
    | none => none
  | .load t a => match ρ a with
    | some p => (loadA C.P hp t p).map fun y => (y, hp, nx)
    | none => none
  | .store t a x => match ρ a, ρ x with
    | some p, some y => (storeA C.P hp t p y).map fun h => (.tup [], h, nx)
    | _, _ => none
  | .nilCheck x => match ρ x with
    | some (.ref id i j) => some (.ref id i j, hp, nx)
    | some (.ptr cs) => some (.ptr cs, hp, nx)
    | _ => none
  | .binOp op t x y _ => match ρ x, ρ y with
    | some p, some q => (binC (isK y) C.P op t p q).map fun r => (r, hp, nx)
    | _, _ => none
  | .unOp op _ x => match ρ x with
    | some p => (unA op p).map fun r => (r, hp, nx)
    | none => none
  | .convert src dst x => match ρ x with
    | some p => (convA C.P src dst p).map fun r => (r, hp, nx)
    | none => none
  | .makeFunc f first captured => match allSome (first.toList.map ρ), allSome (captured.toList.map ρ) with
    | some xs, some ys => some (.fn f xs ys, hp, nx)
    | _, _ => none
  | .makeSlice t l c => match ρ l, ρ c with
    | some p, some q => makeSliceA C.P hp nx t p q
    | _, _ => none
  | .slice t x lo hi none => match ρ x with
    | some p => (sliceA C.P hp t p (lo.map ρ) (hi.map ρ)).map fun r => (r, hp, nx)
    | none => none
  | .fieldAddr t x f => match ρ x with
    | some p => (fieldAddrA C.P t f p).map fun r => (r, hp, nx)
    | none => none
  | .field t x f => match ρ x with
    | some p => (fieldValA C.P t f p).map fun r => (r, hp, nx)
    | none => none
  | .indexAddr t x i => match ρ x, ρ i with
    | some p, some q => (indexAddrA C.P hp t p q).map fun r => (r, hp, nx)
    | _, _ => none
  | .index t x i => match ρ x, ρ i with
    | some p, some q => (indexA C.P t p q).map fun r => (r, hp, nx)
    | _, _ => none
  | .extract x i => match ρ x with
    | some (.tup vs) => (vs[i]?).map fun r => (r, hp, nx)
    | _ => none
  | .call c => evalCall C ρ hp nx c
  | .makeMap t none => match mapKT C.P t with
    | some _ => some (.mp nx, upd hp nx (some ⟨t, 0, false, []⟩), nx + 1)
    | none => none
  | .lookup t x i ok => match ρ x, ρ i with
    | some p, some q => (lookupA C.P hp t p q ok).map fun r => (r, hp, nx)
    | _, _ => none
  | .mapUpdate t m k x => match ρ m, ρ k, ρ x with
    | some p, some q, some y => (mapPutA C.P hp t p q y).map fun h => (.tup [], h, nx)
    | _, _, _ => none
  | .insert t m k x => match ρ m, ρ k, ρ x with
    | some p, some q, some y => (mapPutA C.P hp t p q y).map fun h => (.tup [], h, nx)
    | _, _, _ => none
  | _ => none

def put (σ : Nat → PV) (dst : Option Tmp) (x : PV) : Nat → PV :=
  match dst with
  | some d => upd σ d x
  | none => σ

def yieldA (ops : Array Oper) (σ : Nat → PV) (j : Nat) : Option Bool :=
  match (ops[j]?).bind (·.dst) with
  | some d => match σ d with
    | .v (.bool b) => some b
    | _ => none
  | none => none

def stepA (C : Ctx) (ops : Array Oper) (o : Oper) (st : St) : Option St :=
  if Region.wanted o (yieldA ops st.σ) = true then
    match evalOp C (get st.σ) st.hp st.nx o.op with
    | some (x, hp, nx) => some ⟨put st.σ o.dst x, hp, nx⟩
    | none => none
  else some ⟨put st.σ o.dst (.tup []), st.hp, st.nx⟩

def evalList (C : Ctx) (ops : Array Oper) : List Oper → St → Option St
  | [], st => some st
  | o :: l, st => match stepA C ops o st with
    | some st' => evalList C ops l st'
    | none => none

def iter (f : St → Option (Exit × St)) : Nat → St → Option (Exit × St)
  | 0, _ => none
  | n + 1, st => match f st with
    | some (.normal, st') => iter f n st'
    | r => r

open Classical in
/-- A loop's outcome, if it comes to one. -/
noncomputable def loopR (f : St → Option (Exit × St)) (st : St) : Option (Exit × St) :=
  if h : ∃ n, (iter f n st).isSome = true then iter f (Classical.choose h) st else none

/-- Slots whose slices will not change any more. -/
def thaw : List Tmp → St → Option St
  | [], st => some st
  | t :: l, st => match freezeVal st.hp (st.σ t) with
    | some (y, hp1) => thaw l ⟨upd st.σ t y, hp1, st.nx⟩
    | none => none

/-- The rounds of a loop over a function: each begins with the slots as they were at the loop's head. -/
def roundsA (fa fb : St → Option (Exit × St)) (σ : Nat → PV) (p : Tmp) : List PV → Hp → Nat → Option (Exit × Hp × Nat)
  | [], hp, nx => some (.normal, hp, nx)
  | x :: xs, hp, nx => match fa ⟨upd σ p x, hp, nx⟩ with
    | some (.normal, s1) => match fb s1 with
      | some (.normal, s2) => roundsA fa fb σ p xs s2.hp s2.nx
      | some (.ret, s2) => some (.ret, s2.hp, s2.nx)
      | some (.exit i, s2) => some (.exit i, s2.hp, s2.nx)
      | _ => none
    | _ => none

open Classical in
noncomputable def evalCode (C : Ctx) : Code → St → Option (Exit × St)
  | .skip, st => some (.normal, st)
  | .region id ops _, st0 => match thaw (C.fz id) st0 with
    | some st => if ApartA (C.dyn id) st ∧ RefsA (C.lds id) st then match evalList C ops ops.toList st with
      | some st' => some (.normal, st')
      | none => none
      else none
    | none => none
  | .seq a b, st => match evalCode C a st with
    | some (.normal, st') => evalCode C b st'
    | r => r
  | .cond c x y, st => match get st.σ c with
    | some (.v (.bool true)) => evalCode C x st
    | some (.v (.bool false)) => evalCode C y st
    | _ => none
  | .block id body, st => match evalCode C body st with
    | some (.exit i, st') => if i = id then some (.normal, st') else some (.exit i, st')
    | r => r
  | .loop body, st => loopR (evalCode C body) st
  | .exit id, st => some (.exit id, st)
  | .ret, st => some (.ret, st)
  | .label _, st => some (.normal, st)
  | .rangeFunc f ps a b, st => match ps.toList, get st.σ f with
    | [p], some (.fn (.func g) [] cap) => match C.it g with
      | some it => match it cap st.hp with
        | some (xs, hp1) => match roundsA (evalCode C a) (evalCode C b) st.σ p xs hp1 st.nx with
          | some (e, hp2, nx2) => some (e, ⟨st.σ, hp2, nx2⟩)
          | none => none
        | none => none
      | none => none
    | _, _ => none
  | _, _ => none

def resultA (P : Program) (st : St) : ResultVar → Option PV
  | .tmp t => some (st.σ t)
  | .cell a t => loadA P st.hp t (st.σ a)

def resultsA (P : Program) (fn : Func) (st : St) : Option PV :=
  match allSome (fn.results.toList.map (resultA P st)) with
  | some [x] => some x
  | some xs => some (.tup xs)
  | none => none

def startσ (args : List PV) : Nat → PV := fun t => (args[t]?).getD (.tup [])

noncomputable def evalFunc (C : Ctx) (fn : Func) (args : List PV) (hp : Hp) (nx : Nat) : Option (PV × Hp × Nat) :=
  match fn.body with
  | some code => match evalCode C code ⟨startσ args, hp, nx⟩ with
    | some (.normal, st) => (resultsA C.P fn st).map fun x => (x, st.hp, st.nx)
    | some (.ret, st) => (resultsA C.P fn st).map fun x => (x, st.hp, st.nx)
    | _ => none
  | none => none

/-- A function on closed data: what it returns, closed. -/
noncomputable def evalPure (C : Ctx) (fn : Func) (args : List PV) : Option PV :=
  match evalFunc C fn args (fun _ => none) 0 with
  | some (x, hp, _) => (freeze hp x).map (·.1)
  | none => none

theorem iter_more (f : St → Option (Exit × St)) : ∀ (n k : Nat) (st : St) (r : Exit × St), iter f n st = some r → iter f (n + k) st = some r := by
  intro n
  induction n with
  | zero => intro k st r h; simp [iter] at h
  | succ n ih =>
    intro k st r h
    rw [show n + 1 + k = (n + k) + 1 from by omega]
    simp only [iter] at h ⊢
    split at h
    · rename_i st' hf
      simp only [ih k st' r h]
    · simpa using h

theorem loopR_of_iter {f : St → Option (Exit × St)} {n : Nat} {st : St} {r : Exit × St} (h : iter f n st = some r) : loopR f st = some r := by
  have hex : ∃ n, (iter f n st).isSome = true := ⟨n, by simp [h]⟩
  unfold loopR
  rw [dif_pos hex]
  have h2 := Classical.choose_spec hex
  obtain ⟨r2, hr2⟩ := Option.isSome_iff_exists.1 h2
  rw [hr2]
  have a := iter_more f _ (Classical.choose hex) st r h
  have b := iter_more f _ n st r2 hr2
  rw [Nat.add_comm] at b
  rw [a] at b
  exact b.symm

theorem iter_of_loopR {f : St → Option (Exit × St)} {st : St} {r : Exit × St} (h : loopR f st = some r) : ∃ n, iter f n st = some r := by
  unfold loopR at h
  split at h
  · exact ⟨_, h⟩
  · cases h

theorem loopR_unfold (f : St → Option (Exit × St)) (st : St) : loopR f st = match f st with
    | some (.normal, st') => loopR f st'
    | r => r := by
  cases hf : f st with
  | none =>
    simp only []
    cases hl : loopR f st with
    | none => rfl
    | some r =>
      obtain ⟨n, hn⟩ := iter_of_loopR hl
      cases n with
      | zero => simp [iter] at hn
      | succ n => simp [iter, hf] at hn
  | some p =>
    obtain ⟨e, st'⟩ := p
    by_cases he : e = .normal
    · subst he
      simp only []
      cases hl : loopR f st' with
      | some r =>
        obtain ⟨n, hn⟩ := iter_of_loopR hl
        exact loopR_of_iter (n := n + 1) (by simp [iter, hf, hn])
      | none =>
        cases hl2 : loopR f st with
        | none => rfl
        | some r =>
          obtain ⟨n, hn⟩ := iter_of_loopR hl2
          cases n with
          | zero => simp [iter] at hn
          | succ n =>
            simp only [iter, hf] at hn
            rw [loopR_of_iter hn] at hl
            cases hl
    · have h1 : iter f 1 st = some (e, st') := by
        simp only [iter, hf]
        cases e <;> simp_all
      rw [loopR_of_iter h1]
      cases e <;> simp_all

end Go.AM
namespace Go.AM
open Go.RowKit

def liveIn (hp : Hp) (G : Nat → GI) (b : Nat) : Prop := ∃ id blk, hp id = some blk ∧ (G id).g = b

/-- A step of the heap: what is stable stays, the live blocks may change, new ones may come. -/
structure Stp (P : Program) (hp : Hp) (nx : Nat) (S : Nat → Prop) (G : Nat → GI) (w : World) (hp' : Hp) (nx' : Nat) (S' : Nat → Prop) (G' : Nat → GI) (w' : World) : Prop where
  inv : Inv P w' S' G' hp' nx'
  up : nx ≤ nx'
  loc : ∀ id, id < nx → G' id = G id
  keep : ∀ b, S b → S' b
  from_ : ∀ b, S' b → S b ∨ liveIn hp G b ∨ w.heap.size ≤ b
  own : ∀ id blk, hp' id = some blk → liveIn hp G (G' id).g ∨ w.heap.size ≤ (G' id).g
  fr : Fr w (liveIn hp G) w'

theorem Stp.same {P : Program} {hp hp' : Hp} {nx nx' : Nat} {S S' : Nat → Prop} {G G' : Nat → GI} {w w' : World} (h : Stp P hp nx S G w hp' nx' S' G' w') (hi : Inv P w S G hp nx) :
    ∀ b, S b → S' b ∧ w'.heap[b]? = w.heap[b]? := fun b hb =>
  ⟨h.keep b hb, h.fr.block b (hi.st b hb) fun ⟨id, blk, hid, e⟩ => hi.apart id blk hid (e ▸ hb)⟩

theorem Stp.refl {P : Program} {hp : Hp} {nx : Nat} {S : Nat → Prop} {G : Nat → GI} {w : World} (h : Inv P w S G hp nx) : Stp P hp nx S G w hp nx S G w :=
  ⟨h, Nat.le_refl _, fun _ _ => rfl, fun _ h => h, fun _ h => .inl h, fun id blk hb => .inl ⟨id, blk, hb, rfl⟩, Fr.refl _ _⟩

theorem Stp.trans {P : Program} {hp hp' hp'' : Hp} {nx nx' nx'' : Nat} {S S' S'' : Nat → Prop} {G G' G'' : Nat → GI} {w w' w'' : World}
    (h : Stp P hp nx S G w hp' nx' S' G' w') (k : Stp P hp' nx' S' G' w' hp'' nx'' S'' G'' w'') : Stp P hp nx S G w hp'' nx'' S'' G'' w'' := by
  have hl : ∀ b, liveIn hp' G' b → liveIn hp G b ∨ w.heap.size ≤ b := by
    rintro b ⟨id, blk, h1, rfl⟩
    exact h.own id blk h1
  refine ⟨k.inv, Nat.le_trans h.up k.up, fun id hid => (k.loc id (Nat.lt_of_lt_of_le hid h.up)).trans (h.loc id hid), fun b hb => k.keep b (h.keep b hb), fun b hb => ?_, fun id blk hb => ?_, ?_⟩
  · rcases k.from_ b hb with h1 | h1 | h1
    · exact h.from_ b h1
    · rcases hl b h1 with h2 | h2
      · exact .inr (.inl h2)
      · exact .inr (.inr h2)
    · exact .inr (.inr (Nat.le_trans h.fr.size h1))
  · rcases k.own id blk hb with h1 | h1
    · exact hl _ h1
    · exact .inr (Nat.le_trans h.fr.size h1)
  · refine h.fr.trans k.fr fun b hb h1 => ?_
    rcases hl b h1 with h2 | h2
    · exact h2
    · omega

theorem Inv.same {P : Program} {w w' : World} {S : Nat → Prop} {G : Nat → GI} {hp : Hp} {nx : Nat} (h : Inv P w S G hp nx) (hh : w'.heap = w.heap) : Inv P w' S G hp nx := by
  have hS : ∀ b, S b → S b ∧ w'.heap[b]? = w.heap[b]? := fun b hb => ⟨hb, by rw [hh]⟩
  exact ⟨fun b hb => by rw [hh]; exact h.st b hb, h.top, fun id b hb => (h.live id b hb).mono hS (Nat.le_refl _) (fun _ _ => rfl) (by rw [hh]), h.apart, h.inj, h.glo.mono hS⟩

theorem Stp.drew {P : Program} {hp : Hp} {nx : Nat} {S : Nat → Prop} {G : Nat → GI} {w : World} (h : Inv P w S G hp nx) : Stp P hp nx S G w hp nx S G w.drew :=
  ⟨h.same rfl, Nat.le_refl _, fun _ _ => rfl, fun _ h => h, fun _ h => .inl h, fun id blk hb => .inl ⟨id, blk, hb, rfl⟩, Fr.drew _ _⟩

/-- A new block. -/
theorem Stp.alloc {P : Program} {hp : Hp} {nx : Nat} {S : Nat → Prop} {G : Nat → GI} {w : World} (h : Inv P w S G hp nx) (cur : Array Value) (e : TypeId) (arr : Bool) (es : List (List PV)) (s : Nat) (hs0 : 0 < s)
    (hsz : (P.info? e).map (·.size) = some s) (hlen : ∀ c ∈ es, c.length = s) (hfit : es.length * s ≤ cur.size)
    (hrow : ∀ (i j : Nat) (c : List PV) (pv : PV), es[i]? = some c → c[j]? = some pv → ∃ u, cur[i * s + j]? = some u ∧ CellRep w S G nx arr pv u) :
    Stp P hp nx S G w (upd hp nx (some ⟨e, s, arr, es⟩)) (nx + 1) S (upd G nx ⟨w.heap.size, cur.size, s⟩) (w.alloc (.cells cur e)) := by
  have hold : ∀ b, b < w.heap.size → (w.alloc (.cells cur e)).heap[b]? = w.heap[b]? := fun b hb => Below.heap_alloc w _ b hb
  have hS : ∀ b, S b → S b ∧ (w.alloc (.cells cur e)).heap[b]? = w.heap[b]? := fun b hb => ⟨hb, hold b (h.st b hb)⟩
  have hG : ∀ id, id < nx → upd G nx ⟨w.heap.size, cur.size, s⟩ id = G id := fun id hid => upd_other _ _ _ _ (by omega)
  have hpo : ∀ id, id ≠ nx → upd hp nx (some ⟨e, s, arr, es⟩) id = hp id := fun id hid => upd_other _ _ _ _ hid
  have hsize : (w.alloc (.cells cur e)).heap.size = w.heap.size + 1 := by show (w.heap.push _).size = _; simp
  have hlv : ∀ id b, hp id = some b → (G id).g < w.heap.size := fun id b hb => (h.live id b hb).lt
  refine ⟨⟨fun b hb => by rw [hsize]; have := h.st b hb; omega, fun id b hb => ?_, fun id b hb => ?_, fun id b hb => ?_, fun id id' b b' hb hb' he => ?_, h.glo.mono hS⟩, by omega, hG, fun _ hb => hb, fun _ hb => .inl hb, fun id b hb => ?_, ⟨rfl, rfl, rfl, by rw [hsize]; omega, Nat.le_refl _, fun k hk _ => hold k hk⟩⟩
  · by_cases hid : id = nx
    · omega
    · rw [hpo id hid] at hb; have := h.top id b hb; omega
  · by_cases hid : id = nx
    · subst hid
      simp only [upd_same] at hb ⊢
      injection hb with hb
      subst hb
      refine .ofCells hs0 rfl ⟨hsz, hlen, hfit, cur, heap_alloc_new w _, rfl, fun i j c pv hi hj => ?_⟩
      obtain ⟨u, h1, h2⟩ := hrow i j c pv hi hj
      exact ⟨u, h1, h2.mono hS (by omega) hG⟩
    · rw [hpo id hid] at hb
      have ht := h.top id b hb
      rw [hG id ht]
      exact (h.live id b hb).mono hS (by omega) hG (hold _ (hlv id b hb))
  · by_cases hid : id = nx
    · subst hid
      simp only [upd_same]
      intro hs
      have := h.st _ hs
      omega
    · rw [hpo id hid] at hb
      rw [hG id (h.top id b hb)]
      exact h.apart id b hb
  · by_cases hid : id = nx <;> by_cases hid' : id' = nx
    · omega
    · subst hid
      rw [hpo id' hid'] at hb'
      rw [hG id' (h.top id' b' hb')] at he
      have := hlv id' b' hb'
      simp at he
      omega
    · subst hid'
      rw [hpo id hid] at hb
      rw [hG id (h.top id b hb)] at he
      have := hlv id b hb
      simp at he
      omega
    · rw [hpo id hid] at hb
      rw [hpo id' hid'] at hb'
      rw [hG id (h.top id b hb), hG id' (h.top id' b' hb')] at he
      exact h.inj id id' b b' hb hb' he
  · by_cases hid : id = nx
    · subst hid
      simp
    · rw [hpo id hid] at hb
      rw [hG id (h.top id b hb)]
      exact .inl ⟨id, b, hb, rfl⟩

/-- A live block's contents are replaced. -/
theorem Stp.set {P : Program} {hp : Hp} {nx : Nat} {S : Nat → Prop} {G : Nat → GI} {w : World} (h : Inv P w S G hp nx) {id : Nat} {b : Blk} (hid : hp id = some b) (hs0 : 0 < (G id).s) (cur' : Array Value) (es : List (List PV))
    (hz : cur'.size = (G id).z) (hlen : ∀ c ∈ es, c.length = (G id).s) (hfit : es.length * (G id).s ≤ (G id).z)
    (hrow : ∀ (i j : Nat) (c : List PV) (pv : PV), es[i]? = some c → c[j]? = some pv → ∃ u, cur'[i * (G id).s + j]? = some u ∧ CellRep w S G nx b.arr pv u) :
    Stp P hp nx S G w (upd hp id (some ⟨b.e, b.s, b.arr, es⟩)) nx S G (w.setRow (G id).g cur') := by
  have hother : ∀ k, k ≠ (G id).g → (w.setRow (G id).g cur').heap[k]? = w.heap[k]? := fun k hk => setRow_other w _ k _ hk
  have hS : ∀ b, S b → S b ∧ (w.setRow (G id).g cur').heap[b]? = w.heap[b]? := fun k hk => ⟨hk, hother k fun e => h.apart id b hid (e ▸ hk)⟩
  have hpo : ∀ k, k ≠ id → upd hp id (some ⟨b.e, b.s, b.arr, es⟩) k = hp k := fun k hk => upd_other _ _ _ _ hk
  obtain ⟨cur, hcur, hcz, _⟩ := (h.live id b hid).row hs0
  refine ⟨⟨fun k hk => by rw [setRow_size]; exact h.st k hk, fun k c hk => ?_, fun k c hk => ?_, fun k c hk => ?_, fun k k' c c' hk hk' he => ?_, h.glo.mono hS⟩, Nat.le_refl _, fun _ _ => rfl, fun _ hb => hb, fun _ hb => .inl hb, fun k c hk => ?_, ⟨rfl, rfl, rfl, by simp, Nat.le_refl _, fun k _ hn => hother k fun e => hn ⟨id, b, hid, e.symm⟩⟩⟩
  · by_cases hki : k = id
    · subst hki; exact h.top _ b hid
    · rw [hpo k hki] at hk; exact h.top k c hk
  · by_cases hki : k = id
    · subst hki
      simp only [upd_same] at hk
      injection hk with hk
      subst hk
      refine .ofCells hs0 (h.live _ b hid).bs ⟨(h.live _ b hid).size hs0, hlen, hfit, cur', setRow_heap w _ cur _ _ _ hcur, hz, fun i j c pv hi hj => ?_⟩
      obtain ⟨u, h1, h2⟩ := hrow i j c pv hi hj
      exact ⟨u, h1, h2.mono hS (Nat.le_refl _) (fun _ _ => rfl)⟩
    · rw [hpo k hki] at hk
      exact (h.live k c hk).mono hS (Nat.le_refl _) (fun _ _ => rfl) (hother _ fun e => hki (h.inj k id c b hk hid e))
  · by_cases hki : k = id
    · subst hki; exact h.apart _ b hid
    · rw [hpo k hki] at hk; exact h.apart k c hk
  · have hx : ∀ k c, upd hp id (some ⟨b.e, b.s, b.arr, es⟩) k = some c → ∃ c', hp k = some c' := by
      intro k c hk
      by_cases hki : k = id
      · subst hki; exact ⟨b, hid⟩
      · rw [hpo k hki] at hk; exact ⟨c, hk⟩
    obtain ⟨c1, h1⟩ := hx k c hk
    obtain ⟨c2, h2⟩ := hx k' c' hk'
    exact h.inj k k' c1 c2 h1 h2 he
  · by_cases hki : k = id
    · subst hki; exact .inl ⟨_, b, hid, rfl⟩
    · rw [hpo k hki] at hk; exact .inl ⟨k, c, hk, rfl⟩

/-- A live block is given up: from now on it is stable. -/
theorem Stp.kill {P : Program} {hp : Hp} {nx : Nat} {S : Nat → Prop} {G : Nat → GI} {w : World} (h : Inv P w S G hp nx) {id : Nat} {b : Blk} (hid : hp id = some b) :
    Stp P hp nx S G w (upd hp id none) nx (fun k => S k ∨ k = (G id).g) G w := by
  have hS : ∀ k, S k → (S k ∨ k = (G id).g) ∧ w.heap[k]? = w.heap[k]? := fun k hk => ⟨.inl hk, rfl⟩
  have hx : ∀ k c, upd hp id none k = some c → k ≠ id ∧ hp k = some c := by
    intro k c hk
    by_cases hki : k = id
    · subst hki; simp at hk
    · rw [upd_other _ _ _ _ hki] at hk; exact ⟨hki, hk⟩
  refine ⟨⟨fun k hk => ?_, fun k c hk => h.top k c (hx k c hk).2, fun k c hk => (h.live k c (hx k c hk).2).mono hS (Nat.le_refl _) (fun _ _ => rfl) rfl, fun k c hk => ?_, fun k k' c c' hk hk' he => h.inj k k' c c' (hx k c hk).2 (hx k' c' hk').2 he, h.glo.mono hS⟩,
    Nat.le_refl _, fun _ _ => rfl, fun _ hb => .inl hb, fun k hk => ?_, fun k c hk => .inl ⟨k, c, (hx k c hk).2, rfl⟩, Fr.refl _ _⟩
  · rcases hk with hk | rfl
    · exact h.st k hk
    · exact (h.live id b hid).lt
  · rintro (hs | he)
    · exact h.apart k c (hx k c hk).2 hs
    · exact (hx k c hk).1 (h.inj k id c b (hx k c hk).2 hid he)
  · rcases hk with hk | rfl
    · exact .inl hk
    · exact .inr (.inl ⟨id, b, hid, rfl⟩)

/-- A live block is simply forgotten. -/
theorem Stp.drop {P : Program} {hp : Hp} {nx : Nat} {S : Nat → Prop} {G : Nat → GI} {w : World} (h : Inv P w S G hp nx) (id : Nat) :
    Stp P hp nx S G w (upd hp id none) nx S G w := by
  have hS : ∀ k, S k → S k ∧ w.heap[k]? = w.heap[k]? := fun k hk => ⟨hk, rfl⟩
  have hx : ∀ k c, upd hp id none k = some c → hp k = some c := by
    intro k c hk
    by_cases hki : k = id
    · subst hki; simp at hk
    · rw [upd_other _ _ _ _ hki] at hk; exact hk
  exact ⟨⟨h.st, fun k c hk => h.top k c (hx k c hk), fun k c hk => (h.live k c (hx k c hk)).mono hS (Nat.le_refl _) (fun _ _ => rfl) rfl, fun k c hk => h.apart k c (hx k c hk), fun k k' c c' hk hk' he => h.inj k k' c c' (hx k c hk) (hx k' c' hk') he, h.glo.mono hS⟩,
    Nat.le_refl _, fun _ _ => rfl, fun _ hb => hb, fun k hk => .inl hk, fun k c hk => .inl ⟨k, c, hx k c hk, rfl⟩, Fr.refl _ _⟩

/-- The contents of an array that is given up. -/
theorem frozen_rep {P : Program} {hp : Hp} {nx : Nat} {S : Nat → Prop} {G : Nat → GI} {w : World} (h : Inv P w S G hp nx) {id off n cap : Nat} {b : Blk} (hid : hp id = some b) (hs0 : 0 < (G id).s) (harr : b.arr = true) (hn : off + n ≤ b.es.length)
    (hcap : n ≤ cap) (hmax : cap ≤ maxLen) (S' : Nat → Prop) (hS : ∀ k, S k → S' k) (hg : S' (G id).g) :
    RepC w S' (.sl b.s ((b.es.drop off).take n)) (.slice (some ⟨(G id).g, off * (G id).s, none⟩) n cap) := by
  have hb := h.live id b hid
  obtain ⟨cur, h1, h2, h3⟩ := hb.row hs0
  have hl : ((b.es.drop off).take n).length = n := by simp; omega
  have hget : ∀ (i : Nat) (c : List PV), ((b.es.drop off).take n)[i]? = some c → b.es[off + i]? = some c := by
    intro i c hi
    rw [List.getElem?_take] at hi
    split at hi
    · rwa [List.getElem?_drop] at hi
    · cases hi
  have hex : ∀ (i j : Nat), ∃ u, ∀ (c : List PV) (pv : PV), ((b.es.drop off).take n)[i]? = some c → c[j]? = some pv → cur[(off + i) * (G id).s + j]? = some u ∧ CellRep w S G nx b.arr pv u := by
    intro i j
    by_cases hc : ∃ c pv, ((b.es.drop off).take n)[i]? = some c ∧ c[j]? = some pv
    · obtain ⟨c, pv, hi, hj⟩ := hc
      obtain ⟨u, h4, h5⟩ := h3 (off + i) j c pv (hget i c hi) hj
      refine ⟨u, fun c' pv' hi' hj' => ?_⟩
      rw [hi] at hi'
      injection hi' with hi'
      subst hi'
      rw [hj] at hj'
      injection hj' with hj'
      subst hj'
      exact ⟨h4, h5⟩
    · exact ⟨undef, fun c pv hi hj => (hc ⟨c, pv, hi, hj⟩).elim⟩
  rw [hb.bs]
  have key : RepC w S' (.sl (G id).s ((b.es.drop off).take n)) (.slice (some ⟨(G id).g, off * (G id).s, none⟩) ((b.es.drop off).take n).length cap) := by
    refine .sl (s := (G id).s) (fun i j => Classical.choose (hex i j)) (by simp) (by omega) hmax (fun c hc => hb.len hs0 c (List.drop_subset _ _ (List.take_subset _ _ hc))) (fun i j c pv hi hj => ?_) (fun i j c pv hi hj => ?_)
    · obtain ⟨h4, h5⟩ := Classical.choose_spec (hex i j) c pv hi hj
      refine ⟨_, rfl, hg, ?_, h5.2.2⟩
      have hadd : (⟨(G id).g, off * (G id).s, none⟩ : Addr).add (i * (G id).s + j) = ⟨(G id).g, (off + i) * (G id).s + j, none⟩ := by
        unfold Addr.add
        split
        · rename_i h0
          have h01 : i * (G id).s = 0 := by omega
          have h02 : j = 0 := by omega
          simp [Nat.add_mul, h01, h02]
        · simp [Nat.add_mul]; omega
      rw [hadd, cell_of_row w _ _ cur _ _ h1]
      exact h4
    · obtain ⟨h4, h5⟩ := Classical.choose_spec (hex i j) c pv hi hj
      exact (h5.1 harr).mono fun k hk => ⟨hS k hk, rfl⟩
  rwa [hl] at key

theorem Marks.step {P : Program} {n0 : Nat} {hp hp' : Hp} {nx nx' : Nat} {S S' : Nat → Prop} {G G' : Nat → GI} {w w' : World} {ds : List Deferred} (h : Marks n0 w S hp G ds) (k : Stp P hp nx S G w hp' nx' S' G' w') : Marks n0 w' S' hp' G' ds := by
  obtain ⟨hn0, Ds, e, hn, hD⟩ := h
  refine ⟨Nat.le_trans hn0 k.fr.size, Ds, e, hn, fun D hd => ?_⟩
  obtain ⟨h1, h2, h4, h3⟩ := hD D hd
  have hlt : D < w.heap.size := (Array.getElem?_eq_some_iff.1 h2).1
  refine ⟨h1, (k.fr.block D hlt fun ⟨id, b, hb, e⟩ => h3 id b hb e).trans h2, fun hs => ?_, fun id b hb e => ?_⟩
  · rcases k.from_ D hs with h | ⟨id, b, hb, e⟩ | h
    · exact h4 h
    · exact h3 id b hb e
    · omega
  rcases k.own id b hb with ⟨id', b', h4, h5⟩ | h4
  · exact h3 id' b' h4 (h5.trans e)
  · omega

/-- The state after a step. -/
theorem SimAt.step {P : Program} {w0 : World} {S0 L : Nat → Prop} {N nx0 : Nat} {G0 : Nat → GI} {n0 : Nat} {st : St} {S S' : Nat → Prop} {G G' : Nat → GI} {a : Act} {w w' : World} {hp' : Hp} {nx' : Nat} {x : PV} {u : Value} {dst : Option Tmp}
    (h : SimAt P w0 S0 L N nx0 G0 n0 st S G a w) (k : Stp P st.hp st.nx S G w hp' nx' S' G' w') (hx : RepO w' S' G' nx' x u) (hd : ∀ d, dst = some d → d < N) :
    SimAt P w0 S0 L N nx0 G0 n0 ⟨put st.σ dst x, hp', nx'⟩ S' G' (a.put dst u) w' := by
  have hS := k.same h.inv
  have hl : ∀ b, liveIn st.hp G b → L b ∨ w0.heap.size ≤ b := by
    rintro b ⟨id, blk, h1, rfl⟩
    exact h.own id blk h1
  refine ⟨k.inv, fun t => ?_, ?_, ?_, fun b hb => k.keep b (h.s0 b hb), fun b hb => ?_, fun id blk hb => ?_, ?_, Nat.le_trans h.up k.up, fun id hid => (k.loc id (Nat.lt_of_lt_of_le hid h.up)).trans (h.loc id hid)⟩
  · have hold : RepO w' S' G' nx' (st.σ t) (a.tmps.getD t undef) := (h.slots t).mono hS k.up k.loc
    cases dst with
    | none => exact hold
    | some d =>
      show RepO w' S' G' nx' (upd st.σ d x t) ((a.tmps.setIfInBounds d u).getD t undef)
      by_cases e : t = d
      · subst e
        have : t < a.tmps.size := by rw [h.size]; exact hd t rfl
        simpa [upd, this] using hx
      · have e' : ¬ d = t := fun h => e h.symm
        simp only [upd, e, if_false]
        have : (a.tmps.setIfInBounds d u).getD t undef = a.tmps.getD t undef := by
          simp [Array.getElem?_setIfInBounds_ne e']
        rw [this]
        exact hold
  · cases dst with
    | none => exact h.size
    | some d => show (a.tmps.setIfInBounds d u).size = N; simp [h.size]
  · cases dst <;> exact h.defers.step k
  · rcases k.from_ b hb with h1 | h1 | h1
    · exact h.s1 b h1
    · rcases hl b h1 with h2 | h2
      · exact .inr (.inl h2)
      · exact .inr (.inr h2)
    · exact .inr (.inr (Nat.le_trans h.fr.size h1))
  · rcases k.own id blk hb with h1 | h1
    · exact hl _ h1
    · exact .inr (Nat.le_trans h.fr.size h1)
  · refine h.fr.trans k.fr fun b hb h1 => ?_
    rcases hl b h1 with h2 | h2
    · exact h2
    · omega

end Go.AM
namespace Go.AM
open Go.RowKit

section
variable {P : Program} {w : World} {S : Nat → Prop} {G : Nat → GI} {hp : Hp} {nx : Nat}

theorem RepC.v_inv {x u : Value} (h : RepC w S (.v x) u) : u = x ∧ lit x = true := by cases h; exact ⟨rfl, ‹_›⟩
theorem RepO.v_inv {x u : Value} (h : RepO w S G nx (.v x) u) : u = x ∧ lit x = true := by
  cases h with
  | c h => exact h.v_inv
theorem RepO.nil_inv {u : Value} (h : RepO w S G nx .nil u) : u = .slice none 0 0 := by
  cases h with
  | c h => cases h; rfl
theorem RepO.em_inv {u : Value} (h : RepO w S G nx .em u) : ∃ ad cap, u = .slice (some ad) 0 cap ∧ cap ≤ maxLen := by
  cases h with
  | c h => cases h; exact ⟨_, _, rfl, ‹_›⟩
theorem RepO.sl_inv {s : Nat} {es : List (List PV)} {u : Value} (h : RepO w S G nx (.sl s es) u) : RepC w S (.sl s es) u := by
  cases h with
  | c h => exact h
theorem RepO.ptr_inv {cs : List PV} {u : Value} (h : RepO w S G nx (.ptr cs) u) : RepC w S (.ptr cs) u := by
  cases h with
  | c h => exact h
theorem RepO.own_inv {id off n : Nat} {u : Value} (h : RepO w S G nx (.own id off n) u) : ∃ cap, id < nx ∧ n ≤ cap ∧ cap ≤ maxLen ∧ (off + cap) * (G id).s = (G id).z ∧ u = .slice (some ⟨(G id).g, off * (G id).s, none⟩) n cap := by
  cases h with
  | c h => cases h
  | own h1 h2 h3 h4 _ => exact ⟨_, h1, h2, h3, h4, rfl⟩
theorem RepO.own_pos {id off n : Nat} {u : Value} (h : RepO w S G nx (.own id off n) u) : 0 < (G id).s := by
  cases h with
  | c h => cases h
  | own _ _ _ _ h5 => exact h5
theorem RepO.ref_inv {id i j : Nat} {u : Value} (h : RepO w S G nx (.ref id i j) u) : id < nx ∧ u = .pointer (some ⟨(G id).g, i * (G id).s + j, none⟩) := by
  cases h with
  | c h => cases h
  | ref h1 _ => exact ⟨h1, rfl⟩
theorem RepO.ref_pos {id i j : Nat} {u : Value} (h : RepO w S G nx (.ref id i j) u) : 0 < (G id).s := by
  cases h with
  | c h => cases h
  | ref _ h2 => exact h2
theorem RepO.mp_inv {id : Nat} {u : Value} (h : RepO w S G nx (.mp id) u) : id < nx ∧ (G id).s = 0 ∧ u = .map (some (G id).g) := by
  cases h with
  | c h => cases h
  | mp h1 h2 => exact ⟨h1, h2, rfl⟩
theorem RepO.agg_inv {cs : List PV} {u : Value} (h : RepO w S G nx (.agg cs) u) : ∃ us : Array Value, u = .agg us ∧ cs.length = us.size ∧ ∀ (j : Nat) (pv : PV) (x : Value), cs[j]? = some pv → us[j]? = some x → RepO w S G nx pv x := by
  cases h with
  | c h => cases h with
    | agg h1 h2 => exact ⟨_, rfl, h1, fun j pv x a b => .c (h2 j pv x a b)⟩
  | agg h1 h2 => exact ⟨_, rfl, h1, h2⟩
theorem RepO.tup_inv {cs : List PV} {u : Value} (h : RepO w S G nx (.tup cs) u) : ∃ us : Array Value, u = .tuple us ∧ cs.length = us.size ∧ ∀ (j : Nat) (pv : PV) (x : Value), cs[j]? = some pv → us[j]? = some x → RepO w S G nx pv x := by
  cases h with
  | c h => cases h with
    | tup h1 h2 => exact ⟨_, rfl, h1, fun j pv x a b => .c (h2 j pv x a b)⟩
  | tup h1 h2 => exact ⟨_, rfl, h1, h2⟩
theorem RepO.fn_inv {f : Fn} {xs ys : List PV} {u : Value} (h : RepO w S G nx (.fn f xs ys) u) : ∃ us ts : Array Value, u = .func f us ts ∧ xs.length = us.size ∧ ys.length = ts.size ∧
    (∀ (j : Nat) (pv : PV) (x : Value), xs[j]? = some pv → us[j]? = some x → RepO w S G nx pv x) ∧ ∀ (j : Nat) (pv : PV) (x : Value), ys[j]? = some pv → ts[j]? = some x → RepO w S G nx pv x := by
  cases h with
  | c h => cases h with
    | fn h1 h2 h3 h4 => exact ⟨_, _, rfl, h1, h2, fun j pv x a b => .c (h3 j pv x a b), fun j pv x a b => .c (h4 j pv x a b)⟩
  | fn h1 h2 h3 h4 => exact ⟨_, _, rfl, h1, h2, h3, h4⟩

theorem repO_undef : RepO w S G nx (.tup []) undef := .c (.tup rfl (by simp))

theorem ofCell_rep {x : Value} {pv : PV} (h : ofCell x = some pv) : RepC w S pv x ∧ x.oneCell' = true ∧ pv.isCell = true := by
  unfold ofCell at h
  split at h <;> first
    | (injection h with h; subst h; exact ⟨.nil, rfl, rfl⟩)
    | (injection h with h; subst h; exact ⟨.v rfl, rfl, rfl⟩)
    | cases h

theorem ofCells_rep : ∀ {l : List Value} {r : List PV}, ofCells l = some r → r.length = l.length ∧ (∀ (j : Nat) (pv : PV) (u : Value), r[j]? = some pv → l[j]? = some u → RepC w S pv u ∧ u.oneCell' = true ∧ pv.isCell = true)
  | [], r, h => by simp [ofCells] at h; subst h; simp
  | x :: l, r, h => by
    simp only [ofCells] at h
    split at h
    · rename_i p q hp hq
      injection h with h
      subst h
      obtain ⟨h1, h2⟩ := ofCells_rep hq
      refine ⟨by simp [h1], fun j pv u hj hu => ?_⟩
      cases j with
      | zero => simp at hj hu; subst hj; subst hu; exact ofCell_rep hp
      | succ j => exact h2 j pv u (by simpa using hj) (by simpa using hu)
    · cases h

theorem ofConst_rep {x : Value} {pv : PV} (h : ofConst x = some pv) : RepC w S pv x := by
  unfold ofConst at h
  split at h
  · rename_i cs
    cases hc : ofCells cs.toList with
    | none => simp [hc] at h
    | some r =>
      simp [hc] at h
      subst h
      obtain ⟨h1, h2⟩ := ofCells_rep (w := w) (S := S) hc
      exact .agg (by simpa using h1) (fun j pv u hj hu => (h2 j pv u hj (by simpa using hu)).1)
  · exact (ofCell_rep h).1

theorem get_rep {σ : Nat → PV} {a : Act} (hs : ∀ t, RepO w S G nx (σ t) (a.tmps.getD t undef)) {y : Operand} {pv : PV} (h : get σ y = some pv) : RepO w S G nx pv (a.eval y) := by
  cases y with
  | tmp t => simp [get] at h; subst h; exact hs t
  | const x => exact .c (ofConst_rep h)
  | global g => simp [get] at h
  | func f => simp [get] at h; subst h; exact .c (.fn rfl rfl (by simp) (by simp))

theorem cells_rep {y : PV} {u : Value} (h : RepO w S G nx y u) (hc : y.cells.all PV.isCell = true) : y.cells.length = u.cells.size ∧ ∀ (j : Nat) (pv : PV) (c : Value), y.cells[j]? = some pv → u.cells[j]? = some c → RepO w S G nx pv c ∧ c.oneCell' = true := by
  by_cases hag : ∃ cs, y = .agg cs
  · obtain ⟨cs, rfl⟩ := hag
    obtain ⟨us, rfl, hl, hr⟩ := h.agg_inv
    refine ⟨hl, fun j pv c hj hu => ?_⟩
    have h1 := hr j pv c hj hu
    refine ⟨h1, h1.oneCell ?_⟩
    simp only [PV.cells] at hc hj
    exact List.all_eq_true.1 hc pv (List.mem_of_getElem? hj)
  · have hy : y.cells = [y] := by cases y <;> first | rfl | exact (hag ⟨_, rfl⟩).elim
    rw [hy] at hc ⊢
    have hi : y.isCell = true := by simpa using hc
    have ho := h.oneCell hi
    have hu : u.cells = #[u] := by cases u <;> first | rfl | simp [Value.oneCell'] at ho
    rw [hu]
    refine ⟨rfl, fun j pv c hj hc => ?_⟩
    cases j with
    | zero => simp at hj hc; subst hj; subst hc; exact ⟨h, ho⟩
    | succ j => simp at hj

/-- What a run that is no call must show. -/
def Done (P : Program) (w : World) (hp : Hp) (nx : Nat) (S : Nat → Prop) (G : Nat → GI) (x : PV) (hp' : Hp) (nx' : Nat) (r : Result Value) : Prop :=
  ∃ v w' S' G', r = .ok v w' ∧ Stp P hp nx S G w hp' nx' S' G' w' ∧ RepO w' S' G' nx' x v

theorem done_pure (hi : Inv P w S G hp nx) {x : PV} {v : Value} {r : Result Value} (hr : r = .ok v w) (hx : RepO w S G nx x v) : Done P w hp nx S G x hp nx r := ⟨v, w, S, G, hr, .refl hi, hx⟩

theorem info_of_size {t : TypeId} {n : Nat} (h : sizeA P t = some n) : ∃ i, P.info? t = some i ∧ i.size = n := by
  unfold sizeA at h
  cases hi : P.info? t with
  | none => simp [hi] at h
  | some i => exact ⟨i, rfl, by simpa [hi] using h⟩

theorem run_sizeOf {t : TypeId} {n : Nat} (h : sizeA P t = some n) (w : World) : (sizeOf t).run P w = .ok n w := by
  obtain ⟨i, hi, rfl⟩ := info_of_size h
  simp [sizeOf, typeInfo, hi]

theorem run_isAgg {t : TypeId} {b : Bool} (h : isAggA P t = some b) (w : World) : (isAgg t).run P w = .ok b w := by
  unfold isAggA at h
  cases hu : P.underlying t with
  | none => simp [hu] at h
  | some d =>
    simp [hu] at h
    subst h
    unfold isAgg
    rw [Sem.run_bind, run_underlying hu w]
    cases d <;> rfl

theorem zero_of {t : TypeId} {z : List PV} (h : zeroA P t = some z) : ∃ i v, P.info? t = some i ∧ i.zero = some v ∧ ofCells v.cells.toList = some z := by
  unfold zeroA at h
  cases hi : P.info? t with
  | none => simp [hi] at h
  | some i =>
    cases hz : i.zero with
    | none => simp [hi, hz] at h
    | some v => exact ⟨i, v, rfl, hz, by simpa [hi, hz] using h⟩

theorem run_zeroValue {t : TypeId} {i : TypeInfo} {v : Value} (hi : P.info? t = some i) (hz : i.zero = some v) (w : World) : (zeroValue t).run P w = .ok v w := by
  simp [zeroValue, typeInfo, hi, hz]

theorem alloc_done (hi : Inv P w S G hp nx) {t : TypeId} {n : Nat} {z : List PV} (hs : sizeA P t = some n) (hz : zeroA P t = some z) (h0 : 0 < n) (hl : z.length = n) :
    Done P w hp nx S G (.ref nx 0 0) (upd hp nx (some ⟨t, n, false, [z]⟩)) (nx + 1) ((Instr.alloc t true (.tuple #[])).run P w) := by
  obtain ⟨i, v, h1, h2, h3⟩ := zero_of hz
  obtain ⟨h4, h5⟩ := ofCells_rep (w := w) (S := S) h3
  have hsz : (P.info? t).map (·.size) = some n := hs
  have hcz : v.cells.size = n := by rw [← hl, h4]; simp
  have k := Stp.alloc hi v.cells t false [z] n h0 hsz (by simp [hl]) (by simp [hcz]) (fun i j c pv hi hj => by
    cases i with
    | succ i => simp at hi
    | zero =>
      simp at hi
      subst hi
      have hj' : j < v.cells.size := by rw [hcz, ← hl]; exact (List.getElem?_eq_some_iff.1 hj).1
      refine ⟨v.cells[j], by simp [hj'], ?_⟩
      have h6 := h5 j pv v.cells[j] hj (by simp [hj'])
      exact ⟨fun h => (by cases h), .c h6.1, h6.2.1⟩)
  refine ⟨.pointer (some ⟨w.heap.size, 0, none⟩), _, _, _, ?_, k, ?_⟩
  · simp [Instr.alloc, run_zeroValue h1 h2, newVar, newRow]
  · have := RepO.ref (w := w.alloc (.cells v.cells t)) (S := S) (G := upd G nx ⟨w.heap.size, v.cells.size, n⟩) (nx := nx + 1) (id := nx) (i := 0) (j := 0) (by omega) (by simpa using h0)
    simpa using this

theorem box_done (hi : Inv P w S G hp nx) {t : TypeId} {n : Nat} {y : PV} {u : Value} (hs : sizeA P t = some n) (hy : RepO w S G nx y u) (h0 : 0 < n) (hl : y.cells.length = n) (hc : y.cells.all PV.isCell = true) :
    Done P w hp nx S G (.ref nx 0 0) (upd hp nx (some ⟨t, n, false, [y.cells]⟩)) (nx + 1) ((Instr.box t u).run P w) := by
  obtain ⟨h4, h5⟩ := cells_rep hy hc
  have hcz : u.cells.size = n := by rw [← h4, hl]
  have k := Stp.alloc hi u.cells t false [y.cells] n h0 hs (by simp [hl]) (by simp [hcz]) (fun i j c pv hi hj => by
    cases i with
    | succ i => simp at hi
    | zero =>
      simp at hi
      subst hi
      have hj' : j < u.cells.size := by rw [← h4]; exact (List.getElem?_eq_some_iff.1 hj).1
      refine ⟨u.cells[j], by simp [hj'], ?_⟩
      have h6 := h5 j pv u.cells[j] hj (by simp [hj'])
      exact ⟨fun h => (by cases h), h6.1, h6.2⟩)
  refine ⟨.pointer (some ⟨w.heap.size, 0, none⟩), _, _, _, ?_, k, ?_⟩
  · simp [Instr.box, newVar, newRow]
  · have := RepO.ref (w := w.alloc (.cells u.cells t)) (S := S) (G := upd G nx ⟨w.heap.size, u.cells.size, n⟩) (nx := nx + 1) (id := nx) (i := 0) (j := 0) (by omega) (by simpa using h0)
    simpa using this

/-- Reading a variable whose cells are known. -/
theorem read_done {t : TypeId} {cs : List PV} {x : PV} (h : readCells P t cs = some x) (ad : Addr) (us : Nat → Value) (hc : ∀ (j : Nat) (pv : PV), cs[j]? = some pv → w.cell? (ad.add j) = some (us j) ∧ RepO w S G nx pv (us j)) :
    ∃ v, (loadVar t ad).run P w = .ok v w ∧ RepO w S G nx x v := by
  unfold readCells at h
  split at h
  · rename_i n ha hs
    split at h
    · rename_i hle
      injection h with h
      subst h
      have hl : (loadCells ad n).run P w = .ok ((List.range n).map us).toArray w := by
        have := run_loadCells_list (P := P) w ad ((List.range n).map us) (fun j v hj => by
          have hjn : j < n := by simpa using (List.getElem?_eq_some_iff.1 hj).1
          have hp := hc j (cs[j]'(by omega)) (List.getElem?_eq_getElem (by omega))
          rw [hp.1]
          rw [List.getElem?_map, List.getElem?_range hjn] at hj
          simpa using hj)
        simpa using this
      refine ⟨.agg ((List.range n).map us).toArray, ?_, .agg ?_ ?_⟩
      · simp [loadVar, run_isAgg ha, run_sizeOf hs, hl]
      · simp; omega
      · intro j pv u hj hu
        rw [List.getElem?_take] at hj
        split at hj
        · rename_i hjn
          have := (hc j pv hj).2
          simp [hjn] at hu
          rwa [← hu]
        · cases hj
    · cases h
  · rename_i n ha hs
    have := hc 0 x h
    refine ⟨us 0, ?_, this.2⟩
    have h0 : ad.add 0 = ad := rfl
    rw [h0] at this
    simp [loadVar, run_isAgg ha, this.1]
  · cases h

theorem load_done (hi : Inv P w S G hp nx) {t : TypeId} {p x : PV} {u : Value} (h : loadA P hp t p = some x) (hp' : RepO w S G nx p u) : Done P w hp nx S G x hp nx ((Instr.loadAt t u).run P w) := by
  unfold loadA at h
  split at h
  · rename_i cs
    cases hp'.ptr_inv with
    | ptr us h1 h2 =>
      obtain ⟨v, hv, hr⟩ := read_done (G := G) (nx := nx) (w := w) (S := S) h _ us (fun j pv hj => ⟨(h1 j pv hj).2, .c (h2 j pv hj)⟩)
      exact done_pure hi (v := v) (by simp [Instr.loadAt, Instr.sureAddr, hv]) hr
  · rename_i id i j
    have hrp := hp'.ref_pos
    obtain ⟨hid, rfl⟩ := hp'.ref_inv
    split at h
    · rename_i b hb
      split at h
      · rename_i c hc
        obtain ⟨cur, h1, h2, h3⟩ := (hi.live id b hb).row hrp
        have hcell : ∀ k : Nat, w.cell? ((⟨(G id).g, i * (G id).s + j, none⟩ : Addr).add k) = cur[i * (G id).s + j + k]? := by
          intro k
          rw [Addr.add_lit, cell_of_row w _ _ cur _ _ h1]
        obtain ⟨v, hv, hr⟩ := read_done (G := G) (nx := nx) (w := w) (S := S) h ⟨(G id).g, i * (G id).s + j, none⟩ (fun k => (cur[i * (G id).s + j + k]?).getD undef) (fun k pv hk => by
          rw [List.getElem?_drop] at hk
          obtain ⟨u, h4, h5⟩ := h3 i (j + k) c pv hc hk
          rw [hcell]
          have e : i * (G id).s + j + k = i * (G id).s + (j + k) := by omega
          rw [e, h4]
          exact ⟨rfl, h5.2.1⟩)
        exact done_pure hi (v := v) (by simp [Instr.loadAt, Instr.sureAddr, hv]) hr
      · cases h
    · cases h
  · cases h

end
end Go.AM
namespace Go.AM
open Go.RowKit

section
variable {P : Program} {w : World} {S : Nat → Prop} {G : Nat → GI} {hp : Hp} {nx : Nat}

/-- Two lists of one length, element by element. -/
def Zip {α β : Type} (R : α → β → Prop) (xs : List α) (us : List β) : Prop := xs.length = us.length ∧ ∀ (j : Nat) (x : α) (u : β), xs[j]? = some x → us[j]? = some u → R x u

theorem Zip.nil {α β : Type} {R : α → β → Prop} : Zip R [] ([] : List β) := ⟨rfl, by simp⟩
theorem Zip.cons {α β : Type} {R : α → β → Prop} {x : α} {u : β} {xs : List α} {us : List β} (h : R x u) (t : Zip R xs us) : Zip R (x :: xs) (u :: us) := by
  refine ⟨by simp [t.1], fun j y v hy hv => ?_⟩
  cases j with
  | zero => simp at hy hv; subst hy; subst hv; exact h
  | succ j => exact t.2 j y v (by simpa using hy) (by simpa using hv)
theorem Zip.uncons {α β : Type} {R : α → β → Prop} {x : α} {xs : List α} {us : List β} (h : Zip R (x :: xs) us) : ∃ u us', us = u :: us' ∧ R x u ∧ Zip R xs us' := by
  cases us with
  | nil => have := h.1; simp at this
  | cons u us' =>
    refine ⟨u, us', rfl, h.2 0 x u rfl rfl, by have := h.1; simpa using this, fun j y v hy hv => h.2 (j + 1) y v (by simpa using hy) (by simpa using hv)⟩
theorem Zip.unnil {α β : Type} {R : α → β → Prop} {us : List β} (h : Zip R ([] : List α) us) : us = [] := List.eq_nil_of_length_eq_zero h.1.symm
theorem Zip.imp {α β : Type} {R R' : α → β → Prop} {xs : List α} {us : List β} (h : Zip R xs us) (hr : ∀ x u, R x u → R' x u) : Zip R' xs us := ⟨h.1, fun j x u a b => hr x u (h.2 j x u a b)⟩

theorem upd_none {h : Hp} {i k : Nat} {b : Blk} (hb : upd h i none k = some b) : h k = some b := by
  unfold upd at hb
  split at hb
  · cases hb
  · exact hb

theorem shut1_rep {x : PV} {u : Value} (h : RepO w S G nx x u) (hs : x.shut1 = true) : RepC w S x u := by
  cases x with
  | v y => obtain ⟨rfl, hl⟩ := h.v_inv; exact .v hl
  | nil => rw [h.nil_inv]; exact .nil
  | em => obtain ⟨ad, cap, rfl, hm⟩ := h.em_inv; exact .em hm
  | sl s es => exact h.sl_inv
  | ptr cs => exact h.ptr_inv
  | _ => simp [PV.shut1] at hs
theorem shut_rep {x : PV} {u : Value} (h : RepO w S G nx x u) (hs : x.shut = true) : RepC w S x u := by
  cases x with
  | agg cs =>
    obtain ⟨us, rfl, hl, hr⟩ := h.agg_inv
    exact .agg hl fun j pv y a b => shut1_rep (hr j pv y a b) (List.all_eq_true.1 hs pv (List.mem_of_getElem? a))
  | _ => exact shut1_rep h hs
theorem freezeCell_sound (hi : Inv P w S G hp nx) {x y : PV} {hp1 : Hp} {u : Value} (h : freezeCell hp x = some (y, hp1)) (hx : RepO w S G nx x u) :
    ∃ S', Stp P hp nx S G w hp1 nx S' G w ∧ RepC w S' y u ∧ (x.cellOpen = false → S' = S) := by
  have same : ∀ {y' : PV} {hp' : Hp}, some (x, hp) = some (y', hp') → RepC w S x u → ∃ S', Stp P hp nx S G w hp' nx S' G w ∧ RepC w S' y' u ∧ (x.cellOpen = false → S' = S) := by
    intro y' hp' e hr
    injection e with e
    injection e with e1 e2
    subst e1; subst e2
    exact ⟨S, .refl hi, hr, fun _ => rfl⟩
  unfold freezeCell at h
  split at h
  · rename_i id off n
    split at h
    · rename_i b hb
      split at h
      · rename_i hc
        injection h with h
        injection h with h1 h2
        subst h1; subst h2
        obtain ⟨cap, h3, h4, h5, h6, rfl⟩ := hx.own_inv
        exact ⟨_, Stp.kill hi hb, frozen_rep hi hb hx.own_pos hc.1 hc.2 h4 h5 _ (fun k hk => .inl hk) (.inr rfl), fun h => by simp [PV.cellOpen] at h⟩
      · cases h
    · cases h
  · obtain ⟨rfl, hl⟩ := hx.v_inv
    exact same h (.v hl)
  · have := hx.nil_inv
    subst this
    exact same h .nil
  · exact same h hx.sl_inv
  · obtain ⟨ad, cap, rfl, hm⟩ := hx.em_inv
    exact same h (.em hm)
  · exact same h hx.ptr_inv
  · rename_i f xs ys
    split at h
    · rename_i hc
      obtain ⟨us, ts, rfl, h1, h2, h3, h4⟩ := hx.fn_inv
      exact same h (.fn h1 h2 (fun j pv y a b => shut_rep (h3 j pv y a b) (List.all_eq_true.1 hc.1 pv (List.mem_of_getElem? a))) (fun j pv y a b => shut_rep (h4 j pv y a b) (List.all_eq_true.1 hc.2 pv (List.mem_of_getElem? a))))
    · cases h
  · cases h

theorem freezeCell_isCell {hp hp1 : Hp} {x y : PV} (h : freezeCell hp x = some (y, hp1)) : y.isCell = true := by
  unfold freezeCell at h
  split at h <;> (try (split at h)) <;> (try (split at h)) <;> first
    | (injection h with h; injection h with h1 h2; subst h1; rfl)
    | cases h

theorem freezeCells_sound : ∀ {xs ys : List PV} {hp hp1 : Hp} {S : Nat → Prop} {us : List Value} (_ : Inv P w S G hp nx), freezeCells hp xs = some (ys, hp1) → Zip (RepO w S G nx) xs us →
    ∃ S', Stp P hp nx S G w hp1 nx S' G w ∧ Zip (RepC w S') ys us ∧ ys.all PV.isCell = true ∧ (xs.any PV.cellOpen = false → S' = S)
  | [], ys, hp, hp1, S, us, hi, h, hz => by
    simp only [freezeCells] at h
    injection h with h
    injection h with h1 h2
    subst h1; subst h2
    rw [hz.unnil]
    exact ⟨S, .refl hi, .nil, rfl, fun _ => rfl⟩
  | x :: l, ys, hp, hp1, S, us, hi, h, hz => by
    simp only [freezeCells] at h
    split at h
    · rename_i y h1 hf
      split at h
      · rename_i r h2 hr
        injection h with h
        injection h with e1 e2
        subst e1; subst e2
        obtain ⟨u, us', rfl, hu, hz'⟩ := hz.uncons
        obtain ⟨S1, k1, c1, n1⟩ := freezeCell_sound hi hf hu
        have hS := k1.same hi
        obtain ⟨S2, k2, c2, c3, n2⟩ := freezeCells_sound (S := S1) k1.inv hr (hz'.imp fun x u hx => hx.mono hS (Nat.le_refl _) (fun _ _ => rfl))
        refine ⟨S2, k1.trans k2, .cons (c1.mono (k2.same k1.inv)) c2, by simp [c3, freezeCell_isCell hf], fun hn => ?_⟩
        simp only [List.any_cons, Bool.or_eq_false_iff] at hn
        rw [n2 hn.2, n1 hn.1]
      · cases h
    · cases h

theorem freezeVal_sound (hi : Inv P w S G hp nx) {x y : PV} {hp1 : Hp} {u : Value} (h : freezeVal hp x = some (y, hp1)) (hx : RepO w S G nx x u) :
    ∃ S', Stp P hp nx S G w hp1 nx S' G w ∧ RepC w S' y u ∧ y.cells.all PV.isCell = true ∧ (x.noOwn = true → S' = S) := by
  unfold freezeVal at h
  split at h
  · rename_i cs
    split at h
    · rename_i l hp2 hf
      injection h with h
      injection h with e1 e2
      subst e1; subst e2
      obtain ⟨us, rfl, hl, hr⟩ := hx.agg_inv
      obtain ⟨S', k, z, hc, hn⟩ := freezeCells_sound (us := us.toList) hi hf ⟨by simpa using hl, fun j pv x a b => hr j pv x a (by simpa using b)⟩
      exact ⟨S', k, .agg (by have := z.1; simpa using this) (fun j pv x a b => z.2 j pv x a (by simpa using b)), hc, fun h => hn (by simpa [PV.noOwn] using h)⟩
    · cases h
  · obtain ⟨S', k, c, hn⟩ := freezeCell_sound hi h hx
    refine ⟨S', k, c, ?_, fun hh => hn ?_⟩
    · have := freezeCell_isCell h
      cases y <;> simp_all [PV.cells, PV.isCell]
    · cases x <;> simp_all [PV.noOwn, PV.cellOpen]

theorem freezeVals_sound : ∀ {xs ys : List PV} {hp hp1 : Hp} {S : Nat → Prop} {us : List Value} (_ : Inv P w S G hp nx), freezeVals hp xs = some (ys, hp1) → Zip (RepO w S G nx) xs us →
    ∃ S', Stp P hp nx S G w hp1 nx S' G w ∧ Zip (RepC w S') ys us ∧ (xs.all PV.noOwn = true → S' = S)
  | [], ys, hp, hp1, S, us, hi, h, hz => by
    simp only [freezeVals] at h
    injection h with h
    injection h with h1 h2
    subst h1; subst h2
    rw [hz.unnil]
    exact ⟨S, .refl hi, .nil, fun _ => rfl⟩
  | x :: l, ys, hp, hp1, S, us, hi, h, hz => by
    simp only [freezeVals] at h
    split at h
    · rename_i y h1 hf
      split at h
      · rename_i r h2 hr
        injection h with h
        injection h with e1 e2
        subst e1; subst e2
        obtain ⟨u, us', rfl, hu, hz'⟩ := hz.uncons
        obtain ⟨S1, k1, c1, _, n1⟩ := freezeVal_sound hi hf hu
        have hS := k1.same hi
        obtain ⟨S2, k2, c2, n2⟩ := freezeVals_sound (S := S1) k1.inv hr (hz'.imp fun x u hx => hx.mono hS (Nat.le_refl _) (fun _ _ => rfl))
        refine ⟨S2, k1.trans k2, .cons (c1.mono (k2.same k1.inv)) c2, fun hn => ?_⟩
        simp only [List.all_cons, Bool.and_eq_true] at hn
        rw [n2 hn.2, n1 hn.1]
      · cases h
    · cases h

theorem freeze_sound (hi : Inv P w S G hp nx) {x y : PV} {hp1 : Hp} {u : Value} (h : freeze hp x = some (y, hp1)) (hx : RepO w S G nx x u) :
    ∃ S', Stp P hp nx S G w hp1 nx S' G w ∧ RepC w S' y u := by
  unfold freeze at h
  split at h
  · rename_i cs
    split at h
    · rename_i l hp2 hf
      injection h with h
      injection h with e1 e2
      subst e1; subst e2
      obtain ⟨us, rfl, hl, hr⟩ := hx.tup_inv
      obtain ⟨S', k, z, _⟩ := freezeVals_sound (us := us.toList) hi hf ⟨by simpa using hl, fun j pv x a b => hr j pv x a (by simpa using b)⟩
      exact ⟨S', k, .tup (by have := z.1; simpa using this) (fun j pv x a b => z.2 j pv x a (by simpa using b))⟩
    · cases h
  · obtain ⟨S', k, c, _⟩ := freezeVal_sound hi h hx
    exact ⟨S', k, c⟩

theorem setCells_length : ∀ (l cs : List PV) (off : Nat), (setCells cs off l).length = cs.length
  | [], cs, off => rfl
  | x :: l, cs, off => by simp [setCells, setCells_length l]

theorem setCells_get : ∀ (l cs : List PV) (off k : Nat), off + l.length ≤ cs.length → (setCells cs off l)[k]? = if off ≤ k ∧ k < off + l.length then l[k - off]? else cs[k]?
  | [], cs, off, k, _ => by simp [setCells]; omega
  | x :: l, cs, off, k, h => by
    simp only [List.length_cons] at h
    have ih := setCells_get l (cs.set off x) (off + 1) k (by simp; omega)
    simp only [setCells]
    rw [ih]
    by_cases h1 : off + 1 ≤ k ∧ k < off + 1 + l.length
    · rw [if_pos h1, if_pos ⟨by omega, by simp; omega⟩]
      obtain ⟨d, rfl⟩ : ∃ d, k = off + 1 + d := ⟨k - (off + 1), by omega⟩
      rw [show off + 1 + d - (off + 1) = d from by omega, show off + 1 + d - off = d + 1 from by omega]
      simp
    · rw [if_neg h1]
      by_cases h2 : k = off
      · subst h2
        rw [if_pos ⟨by omega, by simp⟩, List.getElem?_set_self (by omega)]
        simp
      · rw [if_neg (by simp; omega), List.getElem?_set_ne (by omega)]

theorem splice_get {α : Type} (l vs : List α) (o k : Nat) (h : o + vs.length ≤ l.length) : (l.take o ++ vs ++ l.drop (o + vs.length))[k]? = if o ≤ k ∧ k < o + vs.length then vs[k - o]? else l[k]? := by
  have hlo : (l.take o).length = o := by simp; omega
  rw [List.append_assoc]
  by_cases h1 : k < o
  · rw [if_neg (by omega), List.getElem?_append_left (by omega), List.getElem?_take, if_pos h1]
  · rw [List.getElem?_append_right (by omega), hlo]
    by_cases h2 : k < o + vs.length
    · rw [if_pos ⟨by omega, h2⟩, List.getElem?_append_left (by omega)]
    · rw [if_neg (by omega), List.getElem?_append_right (by omega), List.getElem?_drop]
      congr 1
      omega

theorem splice_length {α : Type} (l vs : List α) (o : Nat) (h : o + vs.length ≤ l.length) : (l.take o ++ vs ++ l.drop (o + vs.length)).length = l.length := by
  simp; omega

theorem elem_apart {s i j i' : Nat} (hj : j < s) (hn : i' ≠ i) (a n : Nat) (ha : a + n ≤ s) : ¬ (i * s + a ≤ i' * s + j ∧ i' * s + j < i * s + a + n) := by
  rcases Nat.lt_or_gt_of_ne hn with h | h
  · have : (i' + 1) * s ≤ i * s := Nat.mul_le_mul_right s h
    rw [Nat.add_mul] at this
    omega
  · have : (i + 1) * s ≤ i' * s := Nat.mul_le_mul_right s h
    rw [Nat.add_mul] at this
    omega

theorem elem_lt {i j n s : Nat} (hi : i < n) (hj : j < s) : i * s + j < n * s := by
  have : (i + 1) * s ≤ n * s := Nat.mul_le_mul_right s hi
  rw [Nat.add_mul] at this
  omega

/-- Cells are stored into one element of a live block. -/
theorem setElem_done (hi : Inv P w S G hp nx) {id i j : Nat} {b : Blk} {c ys : List PV} {vs : List Value} (hb : hp id = some b) (hs0 : 0 < (G id).s) (hc : b.es[i]? = some c) (hl : ys.length = vs.length) (hj : j + ys.length ≤ c.length)
    (hr : ∀ (k : Nat) (pv : PV) (u : Value), ys[k]? = some pv → vs[k]? = some u → CellRep w S G nx b.arr pv u) :
    ∃ w', (storeCells ⟨(G id).g, i * (G id).s + j, none⟩ vs).run P w = .ok () w' ∧ Stp P hp nx S G w (upd hp id (some ⟨b.e, b.s, b.arr, b.es.set i (setCells c j ys)⟩)) nx S G w' := by
  have hbr := hi.live id b hb
  obtain ⟨cur, h1, h2, h3⟩ := hbr.row hs0
  have hcs : c.length = (G id).s := hbr.len hs0 c (List.mem_of_getElem? hc)
  have hil : i < b.es.length := (List.getElem?_eq_some_iff.1 hc).1
  have hfit : i * (G id).s + j + vs.length ≤ cur.size := by
    have : (i + 1) * (G id).s ≤ b.es.length * (G id).s := Nat.mul_le_mul_right _ hil
    have := hbr.fit hs0
    rw [Nat.add_mul] at *
    omega
  have h1c : ∀ v ∈ vs, v.oneCell' = true := by
    intro v hv
    obtain ⟨k, hk⟩ := List.getElem?_of_mem hv
    have hkl : k < ys.length := by rw [hl]; exact (List.getElem?_eq_some_iff.1 hk).1
    exact (hr k ys[k] v (List.getElem?_eq_getElem hkl) hk).2.2
  have hst := run_storeCells_at P (G id).g (i * (G id).s + j) b.e vs 0 cur w h1 (by simpa using hfit) h1c
  simp only [Nat.add_zero] at hst
  have hsl : i * (G id).s + j + vs.length ≤ cur.toList.length := by simpa using hfit
  refine ⟨_, hst, Stp.set hi hb hs0 _ _ ?_ ?_ ?_ ?_⟩
  · rw [List.size_toArray, splice_length _ _ _ hsl]; simpa using h2
  · intro c' hc'
    rcases List.mem_or_eq_of_mem_set hc' with h | h
    · exact hbr.len hs0 c' h
    · subst h; rw [setCells_length]; exact hcs
  · simpa using hbr.fit hs0
  · intro i' j' c' pv hi' hj'
    have hi'l : i' < b.es.length := by have := (List.getElem?_eq_some_iff.1 hi').1; simpa using this
    rw [List.getElem?_toArray, splice_get _ _ _ _ hsl]
    by_cases hii : i' = i
    · subst hii
      rw [List.getElem?_set_self hil] at hi'
      injection hi' with hi'
      subst hi'
      rw [setCells_get _ _ _ _ hj] at hj'
      by_cases hin : j ≤ j' ∧ j' < j + ys.length
      · rw [if_pos hin] at hj'
        rw [if_pos ⟨by omega, by omega⟩]
        have hk : j' - j < vs.length := by omega
        refine ⟨vs[j' - j], ?_, hr (j' - j) pv _ hj' (List.getElem?_eq_getElem hk)⟩
        rw [show i' * (G id).s + j' - (i' * (G id).s + j) = j' - j from by omega]
        exact List.getElem?_eq_getElem hk
      · rw [if_neg hin] at hj'
        rw [if_neg (by omega)]
        obtain ⟨u, h4, h5⟩ := h3 i' j' c pv hc hj'
        exact ⟨u, by simpa using h4, h5⟩
    · rw [List.getElem?_set_ne (fun e => hii e.symm)] at hi'
      have hj'l : j' < (G id).s := by
        rw [← hbr.len hs0 c' (List.mem_of_getElem? hi')]
        exact (List.getElem?_eq_some_iff.1 hj').1
      rw [if_neg (elem_apart hj'l hii j vs.length (by omega))]
      obtain ⟨u, h4, h5⟩ := h3 i' j' c' pv hi' hj'
      exact ⟨u, by simpa using h4, h5⟩

theorem store_done (hi : Inv P w S G hp nx) {t : TypeId} {a x : PV} {hp' : Hp} {u v : Value} (h : storeA P hp t a x = some hp') (ha : RepO w S G nx a u) (hx : RepO w S G nx x v) :
    ∃ w' S' G', (Instr.storeAt t u v).run P w = .ok () w' ∧ Stp P hp nx S G w hp' nx S' G' w' := by
  unfold storeA at h
  split at h
  · rename_i id i j
    have hrp := ha.ref_pos
    obtain ⟨hid, rfl⟩ := ha.ref_inv
    split at h
    · rename_i b0 hb0
      have key : ∀ (y : PV) (hp1 : Hp) (S1 : Nat → Prop), Stp P hp nx S G w hp1 nx S1 G w → RepO w S1 G nx y v → (b0.arr = true → RepC w S1 y v) → (∀ b, hp1 id = some b → b.arr = b0.arr) →
          (match hp1 id, sizeA P t with
            | some b, some n => match b.es[i]? with
              | some c => if y.cells.length = n ∧ j + n ≤ c.length ∧ y.cells.all PV.isCell = true then some (upd hp1 id (some ⟨b.e, b.s, b.arr, b.es.set i (setCells c j y.cells)⟩)) else none
              | none => none
            | _, _ => none) = some hp' → ∃ w' S' G', (Instr.storeAt t (.pointer (some ⟨(G id).g, i * (G id).s + j, none⟩)) v).run P w = .ok () w' ∧ Stp P hp nx S G w hp' nx S' G' w' := by
        intro y hp1 S1 k1 hy hyc hbb h
        split at h
        · rename_i b n hb hn
          split at h
          · rename_i c hc
            split at h
            · rename_i hcond
              obtain ⟨e1, e2, e3⟩ := hcond
              injection h with h
              subst h
              obtain ⟨hl, hr⟩ := cells_rep hy e3
              have hsz : v.cells.size = n := by rw [← hl, e1]
              obtain ⟨w', hst, k2⟩ := setElem_done (P := P) k1.inv (ys := y.cells) (vs := v.cells.toList) (j := j) hb hrp hc (by simpa using hl) (by rw [e1]; exact e2) (fun k pv u hk hu => by
                have hu' : v.cells[k]? = some u := by simpa using hu
                have h6 := hr k pv u hk hu'
                refine ⟨fun hba => ?_, h6.1, h6.2⟩
                rw [hbb b hb] at hba
                have hyr := hyc hba
                by_cases hag : ∃ cs, y = .agg cs
                · obtain ⟨cs, rfl⟩ := hag
                  cases hyr with
                  | agg g1 g2 => exact g2 k pv u hk hu'
                · have hy1 : y.cells = [y] := by cases y <;> first | rfl | exact (hag ⟨_, rfl⟩).elim
                  have ho := hyr.oneCell (by rw [hy1] at e3; simpa using e3)
                  have hv1 : v.cells = #[v] := by cases v <;> first | rfl | simp [Value.oneCell'] at ho
                  rw [hy1] at hk
                  rw [hv1] at hu'
                  cases k with
                  | zero => simp at hk hu'; subst hk; subst hu'; exact hyr
                  | succ k => simp at hk)
              refine ⟨w', S1, G, ?_, k1.trans k2⟩
              simp [Instr.storeAt, Instr.sureAddr, storeVar, run_sizeOf hn, hsz, hst]
            · cases h
          · cases h
        · cases h
      by_cases harr : b0.arr = true
      · simp only [harr, if_true] at h
        split at h
        · rename_i y hp1 hf
          obtain ⟨S1, k1, hc, _, _⟩ := freezeVal_sound hi hf hx
          refine key y hp1 S1 k1 (.c hc) (fun _ => hc) (fun b hb => ?_) h
          have : ∀ b, hp1 id = some b → hp id = some b := fun b hb => by
            have hsub : ∀ {x y : PV} {h h' : Hp} (_ : freezeCell h x = some (y, h')) (k : Nat) (b : Blk), h' k = some b → h k = some b := by
              intro x y h h' hf k b hb
              unfold freezeCell at hf
              split at hf <;> (try (split at hf)) <;> (try (split at hf)) <;> first
                | (injection hf with hf; injection hf with e1 e2; subst e2
                   first
                     | exact hb
                     | exact upd_none hb)
                | cases hf
            have hsubs : ∀ (xs ys : List PV) (h h' : Hp) (_ : freezeCells h xs = some (ys, h')) (k : Nat) (b : Blk), h' k = some b → h k = some b := by
              intro xs
              induction xs with
              | nil => intro ys h h' hf k b hb; simp only [freezeCells] at hf; injection hf with hf; injection hf with _ e; subst e; exact hb
              | cons x l ih =>
                intro ys h h' hf k b hb
                simp only [freezeCells] at hf
                split at hf
                · rename_i y h1 hc1
                  split at hf
                  · rename_i r h2 hr
                    injection hf with hf
                    injection hf with _ e
                    subst e
                    exact hsub hc1 k b (ih _ _ _ hr k b hb)
                  · cases hf
                · cases hf
            unfold freezeVal at hf
            split at hf
            · split at hf
              · rename_i l h2 hcs
                injection hf with hf
                injection hf with _ e
                subst e
                exact hsubs _ _ _ _ hcs id b hb
              · cases hf
            · exact hsub hf id b hb
          have := this b hb
          rw [hb0] at this
          injection this with this
          rw [this]
        · cases h
      · simp only [harr] at h
        exact key x hp S (.refl hi) hx (fun h => (harr h).elim) (fun b hb => by rw [hb0] at hb; injection hb with hb; rw [hb]) h
    · cases h
  · cases h

end
end Go.AM
namespace Go.AM
open Go.RowKit

section
variable {P : Program} {w : World} {S : Nat → Prop} {G : Nat → GI} {hp : Hp} {nx : Nat}

theorem fieldA_spec {t : TypeId} {f o n : Nat} {ag : Bool} (h : fieldA P t f = some (o, n, ag)) : ∃ (fs : Array Field) (x : Field), P.underlying t = some (.struct fs) ∧ fs[f]? = some x ∧ x.offset = o ∧ sizeA P x.type = some n ∧ isAggA P x.type = some ag := by
  unfold fieldA at h
  split at h
  · rename_i fs hu
    split at h
    · rename_i x hx
      split at h
      · rename_i n' a' h1 h2
        injection h with h
        injection h with e1 h
        injection h with e2 e3
        subst e1; subst e2; subst e3
        exact ⟨fs, x, hu, hx, rfl, h1, h2⟩
      · cases h
    · cases h
  · cases h

theorem fieldAddr_done (hi : Inv P w S G hp nx) {t : TypeId} {f : Nat} {p x : PV} {u : Value} (h : fieldAddrA P t f p = some x) (hp' : RepO w S G nx p u) : Done P w hp nx S G x hp nx ((Instr.fieldAt t u f).run P w) := by
  have run : ∀ {o n : Nat} {ag : Bool} {ad : Addr}, fieldA P t f = some (o, n, ag) → n ≠ 0 → (Instr.fieldAt t (.pointer (some ad)) f).run P w = .ok (.pointer (some (ad.add o))) w := by
    intro o n ag ad hf hn
    obtain ⟨fs, x, hu, hx, rfl, hs, _⟩ := fieldA_spec hf
    simp [Instr.fieldAt, run_underlying hu, hx, Instr.sureAddr, fieldPlace, run_sizeOf hs, hn]
  unfold fieldAddrA at h
  split at h
  · rename_i cs
    split at h
    · rename_i o n ag hf
      split at h
      · cases h
      · rename_i hn
        injection h with h
        subst h
        cases hp'.ptr_inv with
        | ptr us h1 h2 =>
          refine done_pure hi (run hf hn) (.c (.ptr (fun j => us (o + j)) (fun j pv hj => ?_) (fun j pv hj => ?_)))
          · rw [List.getElem?_drop] at hj
            rw [add_block, add_add]
            exact h1 _ pv hj
          · rw [List.getElem?_drop] at hj
            exact h2 _ pv hj
    · cases h
  · rename_i id i j
    have hrp := hp'.ref_pos
    obtain ⟨hid, rfl⟩ := hp'.ref_inv
    split at h
    · rename_i o n ag hf
      split at h
      · cases h
      · rename_i hn
        injection h with h
        subst h
        refine done_pure hi (run hf hn) ?_
        rw [Addr.add_lit, Nat.add_assoc]
        exact .ref hid hrp
    · cases h
  · cases h

theorem field_done (hi : Inv P w S G hp nx) {t : TypeId} {f : Nat} {p x : PV} {u : Value} (h : fieldValA P t f p = some x) (hp' : RepO w S G nx p u) : Done P w hp nx S G x hp nx ((Instr.field t u f).run P w) := by
  unfold fieldValA at h
  split at h
  · rename_i cs
    obtain ⟨us, rfl, hl, hr⟩ := hp'.agg_inv
    split at h
    · rename_i o n hf
      split at h
      · rename_i hle
        injection h with h
        subst h
        obtain ⟨fs, x, hu, hx, rfl, hs, ha⟩ := fieldA_spec hf
        refine done_pure (v := .agg (us.extract x.offset (x.offset + n))) hi ?_ (.agg ?_ ?_)
        · simp [Instr.field, run_underlying hu, hx, asAgg, part, run_isAgg ha, run_sizeOf hs]
        · simp; omega
        · intro j pv v hj hv
          rw [List.getElem?_take] at hj
          split at hj
          · rw [List.getElem?_drop] at hj
            rw [Array.getElem?_extract] at hv
            split at hv
            · exact hr _ pv v hj hv
            · cases hv
          · cases hj
      · cases h
    · rename_i o n hf
      obtain ⟨fs, y, hu, hx, rfl, hs, ha⟩ := fieldA_spec hf
      have hlt : y.offset < us.size := by rw [← hl]; exact (List.getElem?_eq_some_iff.1 h).1
      have hu' : us[y.offset]? = some us[y.offset] := by simp [hlt]
      refine done_pure (v := us[y.offset]) hi ?_ (hr _ x _ h hu')
      simp [Instr.field, run_underlying hu, hx, asAgg, part, run_isAgg ha, hu']
    · cases h
  · cases h

theorem elem_spec {t e : TypeId} (h : elemA P t = some e) : P.underlying t = some (.slice e) := by
  unfold elemA at h
  split at h
  · injection h with h; subst h; assumption
  · cases h

theorem arr_spec {t : TypeId} {m : Nat} {e : TypeId} (h : arrA P t = some (m, e)) : P.underlying t = some (.array m e) := by
  unfold arrA at h
  split at h
  · injection h with h; injection h with h1 h2; subst h1; subst h2; assumption
  · cases h
theorem indexArr_done (hi : Inv P w S G hp nx) {t : TypeId} {p x : PV} {u : Value} {k : IntKind} {i : Int} (h : indexArrA P t i p = some x) (hp' : RepO w S G nx p u) : Done P w hp nx S G x hp nx ((Instr.indexAt t u (.int k i)).run P w) := by
  unfold indexArrA at h
  split at h
  · rename_i m e ha
    have hu := arr_spec ha
    split at h
    · rename_i n hn
      split at h
      · rename_i hc
        obtain ⟨hi0, him⟩ := hc
        split at h
        · rename_i cs
          injection h with h
          subst h
          cases hp'.ptr_inv with
          | ptr us h1 h2 =>
            rename_i ad
            refine done_pure (v := .pointer (some (ad.add (i.toNat * n)))) hi ?_ (.c (.ptr (fun j => us (i.toNat * n + j)) (fun j pv hj => ?_) (fun j pv hj => ?_)))
            · simp [Instr.indexAt, run_underlying hu, asIntOf, hi0, him, Instr.sureAddr, run_sizeOf hn]
            · rw [List.getElem?_drop] at hj
              rw [add_block, add_add]
              exact h1 _ pv hj
            · rw [List.getElem?_drop] at hj
              exact h2 _ pv hj
        · rename_i id a b
          injection h with h
          subst h
          have hrp := hp'.ref_pos
          obtain ⟨hid, rfl⟩ := hp'.ref_inv
          refine done_pure (v := .pointer (some ((⟨(G id).g, a * (G id).s + b, none⟩ : Addr).add (i.toNat * n)))) hi ?_ ?_
          · simp [Instr.indexAt, run_underlying hu, asIntOf, hi0, him, Instr.sureAddr, run_sizeOf hn]
          · rw [Addr.add_lit, Nat.add_assoc]
            exact .ref hid hrp
        · cases h
      · cases h
    · cases h
  · cases h
theorem indexAddr_done (hi : Inv P w S G hp nx) {t : TypeId} {p q x : PV} {u v : Value} (h : indexAddrA P hp t p q = some x) (hp' : RepO w S G nx p u) (hq : RepO w S G nx q v) : Done P w hp nx S G x hp nx ((Instr.indexAt t u v).run P w) := by
  unfold indexAddrA at h
  split at h
  · rename_i k i
    obtain ⟨rfl, _⟩ := hq.v_inv
    split at h
    · rename_i e he
      have hu := elem_spec he
      split at h
      · rename_i n s es hs
        split at h
        · rename_i hc
          obtain ⟨rfl, hs0, hi0⟩ := hc
          cases hes : es[i.toNat]? with
          | none => simp [hes] at h
          | some c =>
            simp [hes] at h
            subst h
            cases hp'.sl_inv with
            | sl us h0 h1 h2 h3 h4 h5 =>
              rename_i A cap
              have hcl := h3 c (List.mem_of_getElem? hes)
              have hil : i.toNat < es.length := (List.getElem?_eq_some_iff.1 hes).1
              have hc0 : c[0]? = some (c[0]'(by omega)) := List.getElem?_eq_getElem (by omega)
              obtain ⟨ad, rfl, hS, _⟩ := h4 i.toNat 0 c _ hes hc0
              have hil' : i < es.length := by omega
              refine done_pure (v := .pointer (some (ad.add (i.toNat * s)))) hi ?_ (.c (.ptr (fun j => us i.toNat j) (fun j pv hj => ?_) (fun j pv hj => h5 i.toNat j c pv hes hj)))
              · simp [Instr.indexAt, run_underlying hu, asIntOf, hi0, hil', run_sizeOf hs]
              · obtain ⟨ad', e1, h6, h7, _⟩ := h4 i.toNat j c pv hes hj
                injection e1 with e1
                subst e1
                rw [add_block, add_add]
                exact ⟨h6, h7⟩
        · cases h
      · rename_i n id off m hs
        split at h
        · rename_i b hb
          split at h
          · rename_i hc
            obtain ⟨rfl, hn0, hi0, hik⟩ := hc
            injection h with h
            subst h
            have hop := hp'.own_pos
            obtain ⟨cap, h3, h4, h5, h6, rfl⟩ := hp'.own_inv
            have hsz : (G id).s = n := by
              have := (hi.live id b hb).size hop
              have h7 : (P.info? b.e).map (·.size) = some n := hs
              rw [h7] at this
              injection this with this
              exact this.symm
            have hik' : i < m := by omega
            refine done_pure (v := .pointer (some ((⟨(G id).g, off * (G id).s, none⟩ : Addr).add (i.toNat * n)))) hi ?_ ?_
            · simp [Instr.indexAt, run_underlying hu, asIntOf, hi0, hik', run_sizeOf hs]
            · rw [Addr.add_lit, ← hsz, ← Nat.add_mul]
              have := RepO.ref (w := w) (S := S) (G := G) (nx := nx) (id := id) (i := off + i.toNat) (j := 0) h3 hop
              simpa using this
          · cases h
        · cases h
      · cases h
    · exact indexArr_done hi h hp'
  · cases h

theorem index_done (hi : Inv P w S G hp nx) {t : TypeId} {p q x : PV} {u v : Value} (h : indexA P t p q = some x) (hp' : RepO w S G nx p u) (hq : RepO w S G nx q v) : Done P w hp nx S G x hp nx ((Instr.index t u v).run P w) := by
  unfold indexA at h
  split at h
  · rename_i s k i
    obtain ⟨rfl, _⟩ := hq.v_inv
    obtain ⟨rfl, _⟩ := hp'.v_inv
    split at h
    · rename_i hu
      split at h
      · rename_i h0
        split at h
        · rename_i b hb
          injection h with h
          subst h
          refine done_pure (v := .int .u8 b.toNat) hi ?_ (.c (.v rfl))
          simp [Instr.index, run_underlying hu, asIntOf, h0, hb]
        · cases h
      · cases h
    · cases h
  · cases h

theorem extract_done (hi : Inv P w S G hp nx) {vs : List PV} {x : PV} {i : Nat} {u : Value} (h : vs[i]? = some x) (hp' : RepO w S G nx (.tup vs) u) : Done P w hp nx S G x hp nx ((Instr.extract u i).run P w) := by
  obtain ⟨us, rfl, hl, hr⟩ := hp'.tup_inv
  have hlt : i < us.size := by rw [← hl]; exact (List.getElem?_eq_some_iff.1 h).1
  have hu' : us[i]? = some us[i] := by simp [hlt]
  exact done_pure (v := us[i]) hi (by simp [Instr.extract, hu']) (hr i x _ h hu')

theorem lit_v (x : Value) (h : lit x = true) : RepO w S G nx (.v x) x := .c (.v h)

theorem intA_run {op : BinOp} {k : IntKind} {a b : Int} {x : PV} (h : intA op k a b = some x) (t : TypeId) (w : World) : ∃ v, x = .v v ∧ lit v = true ∧ (binOp op t (.int k a) (.int k b)).run P w = .ok v w := by
  unfold intA at h
  split at h <;> (try (split at h)) <;> first
    | (injection h with h; subst h; exact ⟨_, rfl, rfl, by simp [binOp, Op.intArith, Op.intDiv, Op.intCmp, Op.intBits, Op.shift, *]⟩)
    | cases h

theorem strA_run {op : BinOp} {a b : ByteArray} {x : PV} (h : strA op a b = some x) (t : TypeId) (w : World) : ∃ v, x = .v v ∧ lit v = true ∧ (binOp op t (.string a) (.string b)).run P w = .ok v w := by
  have hmax : IntKind.i64.max = 9223372036854775807 := by decide
  unfold strA at h
  split at h
  · split at h
    · rename_i hle
      injection h with h
      subst h
      refine ⟨_, rfl, rfl, ?_⟩
      have h2 : (a.size : Int) + (b.size : Int) ≤ 9223372036854775807 := by simp only [maxLen] at hle; omega
      simp [binOp, Op.stringOp, h2]
    · cases h
  all_goals first
    | (injection h with h; subst h; exact ⟨_, rfl, rfl, by simp [binOp, Op.stringOp]⟩)
    | cases h

theorem eqGuard_lit {op : BinOp} {t : TypeId} {x y : Operand} {a b : Value} (h : lit a = true) (hn : a ≠ .nilIface) (w : World) : (eqGuard op t x y a b).run P w = .ok () w := by
  unfold eqGuard
  cases op <;> simp <;> (cases a <;> cases b <;> simp_all [lit])

theorem tag_agg {t : TypeId} {k : Nat} (h : tagA P t = some k) : isAggA P t = some false := by
  unfold tagA at h
  unfold isAggA
  split at h <;> first
    | (rename_i hu; rw [hu]; rfl)
    | cases h

theorem eqFields_run (w : World) (d : Nat) (ux uy : Array Value) : ∀ (fs : List Field) (k : Nat) (ks : List Nat) (px py : List PV) (r : Bool), tagsA P k fs = some ks → eqCells ks px py = some r →
    (∀ (j : Nat) (pv : PV), px[j]? = some pv → ∃ u, ux[k + j]? = some u ∧ RepO w S G nx pv u) → (∀ (j : Nat) (pv : PV), py[j]? = some pv → ∃ u, uy[k + j]? = some u ∧ RepO w S G nx pv u) →
    (Op.eqFields (d + 1) ux uy fs).run P w = .ok r w
  | [], k, ks, px, py, r, ht, he, _, _ => by
    simp only [tagsA] at ht
    injection ht with ht
    subst ht
    simp only [eqCells] at he
    injection he with he
    subst he
    simp [Op.eqFields]
  | f :: fs, k, ks, px, py, r, ht, he, hx, hy => by
    simp only [tagsA] at ht
    split at ht
    · rename_i hon
      split at ht
      · rename_i tg ks' h1 h2
        injection ht with ht
        subst ht
        have fin : ∀ (p q : PV) (px' py' : List PV) (b r' : Bool), px = p :: px' → py = q :: py' → (∀ u v, RepO w S G nx p u → RepO w S G nx q v → (Op.equalIn (d + 1) f.type u v).run P w = .ok b w) → eqCells ks' px' py' = some r' → r = (b && r') →
            (Op.eqFields (d + 1) ux uy (f :: fs)).run P w = .ok r w := by
          intro p q px' py' b r' e1 e2 h3 h4 h5
          subst e1; subst e2; subst h5
          obtain ⟨u, hu1, hu2⟩ := hx 0 p rfl
          obtain ⟨v, hv1, hv2⟩ := hy 0 q rfl
          simp only [Nat.add_zero] at hu1 hv1
          have ha := tag_agg h1
          have hp1 : (part f.type ux f.offset).run P w = .ok u w := by simp [part, run_isAgg ha, hon.1, hu1]
          have hp2 : (part f.type uy f.offset).run P w = .ok v w := by simp [part, run_isAgg ha, hon.1, hv1]
          have ih := eqFields_run w d ux uy fs (k + 1) ks' px' py' r' h2 h4 (fun j pv hj => by have := hx (j + 1) pv (by simpa using hj); rwa [show k + (j + 1) = k + 1 + j from by omega] at this) (fun j pv hj => by have := hy (j + 1) pv (by simpa using hj); rwa [show k + (j + 1) = k + 1 + j from by omega] at this)
          cases b <;> simp [Op.eqFields, hon.2, hp1, hp2, h3 u v hu2 hv2, ih]
        unfold eqCells at he
        unfold tagA at h1
        split at he
        · simp_all
        · rename_i ks1 kk a xs1 kk' b ys1 e1
          injection e1 with e1 e1'
          subst e1; subst e1'
          split at he
          · rename_i hk
            subst hk
            cases he' : eqCells ks' xs1 ys1 with
            | none => simp [he'] at he
            | some r' =>
              simp [he'] at he
              refine fin _ _ _ _ (a == b) r' rfl rfl (fun u v hu hv => ?_) he' he.symm
              obtain ⟨rfl, _⟩ := hu.v_inv
              obtain ⟨rfl, _⟩ := hv.v_inv
              split at h1 <;> first
                | (rename_i hun; simp [Op.equalIn, run_underlying hun]; done)
                | simp_all
          · cases he
        · rename_i ks1 a xs1 b ys1 e1
          injection e1 with e1 e1'
          subst e1; subst e1'
          cases he' : eqCells ks' xs1 ys1 with
          | none => simp [he'] at he
          | some r' =>
            simp [he'] at he
            refine fin _ _ _ _ (a == b) r' rfl rfl (fun u v hu hv => ?_) he' he.symm
            obtain ⟨rfl, _⟩ := hu.v_inv
            obtain ⟨rfl, _⟩ := hv.v_inv
            split at h1 <;> first
              | (rename_i hun; simp [Op.equalIn, run_underlying hun]; done)
              | simp_all
        · rename_i ks1 a xs1 b ys1 e1
          injection e1 with e1 e1'
          subst e1; subst e1'
          cases he' : eqCells ks' xs1 ys1 with
          | none => simp [he'] at he
          | some r' =>
            simp [he'] at he
            refine fin _ _ _ _ (a == b) r' rfl rfl (fun u v hu hv => ?_) he' he.symm
            obtain ⟨rfl, _⟩ := hu.v_inv
            obtain ⟨rfl, _⟩ := hv.v_inv
            split at h1 <;> first
              | (rename_i hun; simp [Op.equalIn, run_underlying hun]; done)
              | simp_all
        · cases he
      · cases ht
    · cases ht

theorem eqAgg_run {t : TypeId} {ks : List Nat} {xs ys : List PV} {r : Bool} {u v : Value} (hf : flatA P t = some ks) (he : eqCells ks xs ys = some r) (hx : RepO w S G nx (.agg xs) u) (hy : RepO w S G nx (.agg ys) v) :
    (Op.equal t u v).run P w = .ok r w ∧ ∀ (op : BinOp) (x y : Operand), (eqGuard op t x y u v).run P w = .ok () w := by
  obtain ⟨ux, rfl, hlx, hrx⟩ := hx.agg_inv
  obtain ⟨uy, rfl, hly, hry⟩ := hy.agg_inv
  unfold flatA at hf
  split at hf
  · cases hf
  · rename_i hg
    have hg1 : P.stoodInHeld t = false := by cases h : P.stoodInHeld t <;> simp_all
    have hg2 : P.eqGuardType P.depth t = false := by cases h : P.eqGuardType P.depth t <;> simp_all
    split at hf
    · rename_i fs hu
      have hfo : P.fieldsOf t = fs := by simp [Program.fieldsOf, hu]
      constructor
      · unfold Op.equal Op.maxDepth
        rw [show (10000 : Nat) = 9999 + 1 from rfl, run_equalIn_struct w 9999 t ux uy (by rw [hfo]; exact hu) hg1, hfo]
        exact eqFields_run w 9998 ux uy fs.toList 0 ks xs ys r hf he
          (fun j pv hj => by
            have hlt : j < ux.size := by rw [← hlx]; exact (List.getElem?_eq_some_iff.1 hj).1
            exact ⟨ux[j], by simp [hlt], hrx j pv _ hj (by simp [hlt])⟩)
          (fun j pv hj => by
            have hlt : j < uy.size := by rw [← hly]; exact (List.getElem?_eq_some_iff.1 hj).1
            exact ⟨uy[j], by simp [hlt], hry j pv _ hj (by simp [hlt])⟩)
      · intro op x y
        unfold eqGuard
        cases op <;> simp [hg2]
    · cases hf

theorem equal_bool {t : TypeId} (a b : Bool) (hu : P.underlying t = some .bool) (w : World) : (Op.equal t (.bool a) (.bool b)).run P w = .ok (a == b) w := by
  have h : ∀ d : Nat, (Op.equalIn (d + 1) t (.bool a) (.bool b)).run P w = .ok (a == b) w := fun d => by simp only [Op.equalIn, Sem.run_bind, run_underlying hu, Result.andThen_ok, Sem.run_pure]
  exact h 9999

theorem equal_nil {t e : TypeId} (A : Option Addr) (n c : Nat) (hu : P.underlying t = some (.slice e)) (w : World) : (Op.equal t (.slice A n c) (.slice none 0 0)).run P w = .ok A.isNone w := by
  have h : ∀ d : Nat, (Op.equalIn (d + 1) t (.slice A n c) (.slice none 0 0)).run P w = .ok A.isNone w := fun d => by
    cases A <;> simp only [Op.equalIn, Sem.run_bind, run_underlying hu, Result.andThen_ok, Sem.run_pure] <;> rfl
  exact h 9999

theorem isNil_rep {p : PV} {u : Value} {r : Bool} (h : isNilA p = some r) (hu : RepO w S G nx p u) : ∃ A n c, u = .slice A n c ∧ A.isNone = r := by
  unfold isNilA at h
  split at h
  · injection h with h; subst h; exact ⟨none, 0, 0, hu.nil_inv, rfl⟩
  · injection h with h; subst h
    obtain ⟨ad, cap, rfl, _⟩ := hu.em_inv
    exact ⟨_, _, _, rfl, rfl⟩
  · injection h with h; subst h
    obtain ⟨cap, _, _, _, _, rfl⟩ := hu.own_inv
    exact ⟨_, _, _, rfl, rfl⟩
  · rename_i s c es
    injection h with h; subst h
    cases hu.sl_inv with
    | sl us h0 h1 h2 h3 h4 h5 =>
      rename_i A cap
      cases A with
      | none => have := h0 rfl; subst this; simp at h1
      | some a => exact ⟨_, _, _, rfl, rfl⟩
  · cases h

theorem binOp_done (hi : Inv P w S G hp nx) {op : BinOp} {t : TypeId} {p q x : PV} {u v : Value} (ox oy : Operand) (h : binA P op t p q = some x) (hu : RepO w S G nx p u) (hv : RepO w S G nx q v) :
    Done P w hp nx S G x hp nx ((do eqGuard op t ox oy u v; binOp op t u v : Sem Value).run P w) := by
  unfold binA at h
  split at h
  · rename_i k a k' b
    obtain ⟨rfl, _⟩ := hu.v_inv
    obtain ⟨rfl, _⟩ := hv.v_inv
    split at h
    · rename_i hk
      subst hk
      obtain ⟨r, rfl, hl, hr⟩ := intA_run (P := P) h t w
      exact done_pure (v := r) hi (by simp [eqGuard_lit (a := .int k a) rfl (by simp) w, hr]) (lit_v r hl)
    · cases h
  · rename_i a b
    obtain ⟨rfl, _⟩ := hu.v_inv
    obtain ⟨rfl, _⟩ := hv.v_inv
    obtain ⟨r, rfl, hl, hr⟩ := strA_run (P := P) h t w
    exact done_pure (v := r) hi (by simp [eqGuard_lit (a := .string a) rfl (by simp) w, hr]) (lit_v r hl)
  · rename_i a b
    obtain ⟨rfl, _⟩ := hu.v_inv
    obtain ⟨rfl, _⟩ := hv.v_inv
    split at h
    · rename_i hun
      injection h with h
      subst h
      refine done_pure (v := .bool (a == b)) hi ?_ (lit_v _ rfl)
      simp only [Sem.run_bind, eqGuard_lit (a := .bool a) rfl (by simp) w, Result.andThen_ok, binOp, equal_bool a b hun, Sem.run_pure]
    · rename_i hun
      injection h with h
      subst h
      refine done_pure (v := .bool (!(a == b))) hi ?_ (lit_v _ rfl)
      simp only [Sem.run_bind, eqGuard_lit (a := .bool a) rfl (by simp) w, Result.andThen_ok, binOp, equal_bool a b hun, Sem.run_pure]
    · cases h
  · rename_i xs ys
    split at h
    · rename_i ks hf
      split at h
      · cases he : eqCells ks xs ys with
        | none => simp [he] at h
        | some r =>
          simp [he] at h
          subst h
          obtain ⟨h1, h2⟩ := eqAgg_run hf he hu hv
          obtain ⟨ux, rfl, _, _⟩ := hu.agg_inv
          obtain ⟨uy, rfl, _, _⟩ := hv.agg_inv
          exact done_pure (v := .bool r) hi (by simp [h2, binOp, h1]) (lit_v _ rfl)
      · cases he : eqCells ks xs ys with
        | none => simp [he] at h
        | some r =>
          simp [he] at h
          subst h
          obtain ⟨h1, h2⟩ := eqAgg_run hf he hu hv
          obtain ⟨ux, rfl, _, _⟩ := hu.agg_inv
          obtain ⟨uy, rfl, _, _⟩ := hv.agg_inv
          exact done_pure (v := .bool !r) hi (by simp [h2, binOp, h1]) (lit_v _ rfl)
      · cases h
    · cases h
  · have := hv.nil_inv
    subst this
    split at h
    · rename_i e r he hn
      injection h with h
      subst h
      obtain ⟨A, n, c, rfl, rfl⟩ := isNil_rep hn hu
      refine done_pure (v := .bool A.isNone) hi ?_ (lit_v _ rfl)
      simp only [Sem.run_bind, eqGuard, binOp, equal_nil A n c (elem_spec he), Sem.run_pure, Result.andThen_ok]
      simp
    · rename_i e r he hn
      injection h with h
      subst h
      obtain ⟨A, n, c, rfl, rfl⟩ := isNil_rep hn hu
      refine done_pure (v := .bool !A.isNone) hi ?_ (lit_v _ rfl)
      simp only [Sem.run_bind, eqGuard, binOp, equal_nil A n c (elem_spec he), Sem.run_pure, Result.andThen_ok]
      simp
    · cases h
  · cases h

theorem binC_done (hi : Inv P w S G hp nx) {op : BinOp} {t : TypeId} {p q x : PV} {u v : Value} (ox oy : Operand) (h : binC (isK oy) P op t p q = some x) (hu : RepO w S G nx p u) (hv : RepO w S G nx q v) :
    Done P w hp nx S G x hp nx ((do eqGuard op t ox oy u v; binOp op t u v : Sem Value).run P w) := by
  unfold binC at h
  split at h
  · rename_i hk
    obtain ⟨rfl, _⟩ := hu.v_inv
    obtain ⟨rfl, _⟩ := hv.v_inv
    obtain ⟨c, rfl⟩ : ∃ c, oy = .const c := by
      cases oy <;> first | exact ⟨_, rfl⟩ | (simp [isK] at hk)
    unfold nilIA at h
    split at h
    · rename_i hf
      unfold ifaceA at hf
      split at hf
      · rename_i ms hun
        have he : (Op.equal t .nilIface .nilIface).run P w = .ok true w := by
          have h : ∀ d : Nat, (Op.equalIn (d + 1) t .nilIface .nilIface).run P w = .ok true w := fun d => by simp only [Op.equalIn, Sem.run_bind, run_underlying hun, Result.andThen_ok, Sem.run_pure]
          exact h 9999
        split at h
        · injection h with h
          subst h
          refine done_pure (v := .bool true) hi ?_ (lit_v _ rfl)
          simp [eqGuard, binOp, he, Result.andThen]
        · injection h with h
          subst h
          refine done_pure (v := .bool false) hi ?_ (lit_v _ rfl)
          simp [eqGuard, binOp, he, Result.andThen]
        · cases h
      · cases hf
    · cases h
  · exact binOp_done hi ox oy h hu hv

theorem unOp_done (hi : Inv P w S G hp nx) {op : UnOp} {p x : PV} {u : Value} (h : unA op p = some x) (hu : RepO w S G nx p u) : Done P w hp nx S G x hp nx ((Op.unary op u).run P w) := by
  unfold unA at h
  split at h
  · obtain ⟨rfl, _⟩ := hu.v_inv
    split at h
    · injection h with h
      subst h
      exact done_pure (v := _) hi (by simp [Op.unary]) (lit_v _ rfl)
    · cases h
  · obtain ⟨rfl, _⟩ := hu.v_inv
    split at h
    · injection h with h
      subst h
      exact done_pure (v := _) hi (by simp [Op.unary, Op.intArith]) (lit_v _ rfl)
    · cases h
  · cases h

theorem conv_done (hi : Inv P w S G hp nx) {src dst : TypeId} {p x : PV} {u : Value} (h : convA P src dst p = some x) (hu : RepO w S G nx p u) : Done P w hp nx S G x hp nx ((convert src dst u).run P w) := by
  unfold convA at h
  split at h
  · obtain ⟨rfl, _⟩ := hu.v_inv
    split at h
    · rename_i d k h1 h2
      injection h with h
      subst h
      exact done_pure (v := _) hi (by simp [convert, run_underlying h1, run_underlying h2, Conv.intToInt]) (lit_v _ rfl)
    · cases h
  · obtain ⟨rfl, _⟩ := hu.v_inv
    split at h
    · rename_i d h1 h2
      injection h with h
      subst h
      exact done_pure (v := _) hi (by simp [convert, run_underlying h1, run_underlying h2]) (lit_v _ rfl)
    · cases h
  · cases h


end
end Go.AM
namespace Go.AM
open Go.RowKit

section
variable {P : Program} {w : World} {S : Nat → Prop} {G : Nat → GI} {hp : Hp} {nx : Nat}

/-- The bounds of a slice expression, abstract and concrete. -/
theorem bound_run {o : Option (Option PV)} {v : Option Value} {dflt n y : Nat} (code : BoundsCode) (h : boundA dflt o = some n) (hy : n ≤ y) (hd : o = none → v = none) (hs : ∀ p, o = some (some p) → ∃ u, v = some u ∧ RepO w S G nx p u) (hn : o ≠ some none) :
    (v = none ∧ n = dflt) ∨ ∃ k i, v = some (.int k i) ∧ (Instr.sliceBound (.int k i) y code).run P w = .ok n w := by
  unfold boundA at h
  split at h
  · injection h with h
    exact .inl ⟨hd rfl, h.symm⟩
  · rename_i k i
    split at h
    · rename_i h0
      injection h with h
      subst h
      obtain ⟨u, rfl, hu⟩ := hs _ rfl
      obtain ⟨rfl, _⟩ := hu.v_inv
      refine .inr ⟨k, i, rfl, ?_⟩
      have : i ≤ y := by omega
      simp [Instr.sliceBound, asIntOf, h0, this]
    · cases h
  · cases h

theorem bounds_run {isS : Bool} {len cap l h : Nat} {lo hi : Option (Option PV)} {vl vh : Option Value} (hl : boundA 0 lo = some l) (hh : boundA len hi = some h) (hlh : l ≤ h) (hhc : h ≤ cap)
    (d1 : lo = none → vl = none) (s1 : ∀ p, lo = some (some p) → ∃ u, vl = some u ∧ RepO w S G nx p u) (n1 : lo ≠ some none)
    (d2 : hi = none → vh = none) (s2 : ∀ p, hi = some (some p) → ∃ u, vh = some u ∧ RepO w S G nx p u) (n2 : hi ≠ some none) :
    (Instr.sliceBounds isS len cap vl vh none).run P w = .ok (l, h, cap) w := by
  rcases bound_run (P := P) (if isS then .sliceAcap else .sliceAlen) hh hhc d2 s2 n2 with ⟨rfl, rfl⟩ | ⟨k, i, rfl, r2⟩
  · rcases bound_run (P := P) .sliceB hl hlh d1 s1 n1 with ⟨rfl, rfl⟩ | ⟨k', i', rfl, r1⟩
    · simp [Instr.sliceBounds]
    · simp [Instr.sliceBounds, r1]
  · rcases bound_run (P := P) .sliceB hl hlh d1 s1 n1 with ⟨rfl, rfl⟩ | ⟨k', i', rfl, r1⟩
    · cases isS <;> simp_all [Instr.sliceBounds]
    · cases isS <;> simp_all [Instr.sliceBounds]

theorem slice_done (hi : Inv P w S G hp nx) {t : TypeId} {p x : PV} {lo hh : Option (Option PV)} {vl vh : Option Value} {u : Value} (h : sliceA P hp t p lo hh = some x) (hp' : RepO w S G nx p u)
    (d1 : lo = none → vl = none) (s1 : ∀ p, lo = some (some p) → ∃ u, vl = some u ∧ RepO w S G nx p u)
    (d2 : hh = none → vh = none) (s2 : ∀ p, hh = some (some p) → ∃ u, vh = some u ∧ RepO w S G nx p u) : Done P w hp nx S G x hp nx ((Instr.sliceAt t u vl vh none).run P w) := by
  have nn : ∀ {d n : Nat} {o : Option (Option PV)}, boundA d o = some n → o ≠ some none := by
    rintro d n o h rfl
    simp [boundA] at h
  unfold sliceA at h
  split at h
  · rename_i s hu
    obtain ⟨rfl, _⟩ := hp'.v_inv
    split at h
    · rename_i l h' e1 e2
      split at h
      · rename_i hc
        injection h with h
        subst h
        have hb := bounds_run (P := P) (isS := false) (cap := s.size) e1 e2 hc.1 hc.2 d1 s1 (nn e1) d2 s2 (nn e2)
        exact done_pure (v := .string (s.extract l h')) hi (by simp [Instr.sliceAt, run_underlying hu, Instr.slice, hb]) (lit_v _ rfl)
      · cases h
    · cases h
  · rename_i e s es hu
    split at h
    · rename_i n l h' es1 e1 e2
      split at h
      · rename_i hc
        obtain ⟨rfl, hc⟩ := hc
        injection h with h
        subst h
        cases hp'.sl_inv with
        | sl us h0 h1 h2 h3 h4 h5 =>
          rename_i A cap
          have hb := bounds_run (P := P) (isS := true) (cap := cap) e1 e2 hc.1 (by omega) d1 s1 (nn e1) d2 s2 (nn e2)
          have hlen : ((es.drop l).take (h' - l)).length = h' - l := by simp; omega
          have hget : ∀ (i : Nat) (c : List PV), ((es.drop l).take (h' - l))[i]? = some c → i < h' - l ∧ es[l + i]? = some c := by
            intro i c hi
            rw [List.getElem?_take] at hi
            split at hi
            · rw [List.getElem?_drop] at hi; exact ⟨by assumption, hi⟩
            · cases hi
          have key : RepC w S (.sl s ((es.drop l).take (h' - l))) (.slice (if cap = l then A else A.map (·.add (l * s))) ((es.drop l).take (h' - l)).length (cap - l)) := by
            refine .sl (fun i j => us (l + i) j) (fun ha => by have : A = none := (by split at ha <;> simp_all); have := h0 this; omega) (by omega) (by omega) (fun c hc => h3 c (List.drop_subset _ _ (List.take_subset _ _ hc))) (fun i j c pv hi hj => ?_) (fun i j c pv hi hj => h5 _ j c pv (hget i c hi).2 hj)
            obtain ⟨hil, hi'⟩ := hget i c hi
            obtain ⟨ad, rfl, g1, g2, g3⟩ := h4 (l + i) j c pv hi' hj
            rw [if_neg (by omega)]
            refine ⟨ad.add (l * s), rfl, by rw [add_block]; exact g1, ?_, g3⟩
            rw [add_add]
            have : l * s + (i * s + j) = (l + i) * s + j := by rw [Nat.add_mul]; omega
            rw [this]
            exact g2
          rw [hlen] at key
          exact done_pure (v := _) hi (by simp [Instr.sliceAt, run_underlying hu, Instr.slice, hb, run_sizeOf es1]) (.c key)
      · cases h
    · cases h
  · rename_i e hu
    have := hp'.nil_inv
    subst this
    split at h
    · rename_i n l h' es1 e1 e2
      split at h
      · rename_i hc
        obtain ⟨rfl, rfl⟩ := hc
        injection h with h
        subst h
        have hb := bounds_run (P := P) (isS := true) (len := 0) (cap := 0) e1 e2 (Nat.le_refl _) (Nat.le_refl _) d1 s1 (nn e1) d2 s2 (nn e2)
        exact done_pure (v := .slice none 0 0) hi (by simp [Instr.sliceAt, run_underlying hu, Instr.slice, hb, run_sizeOf es1]) (.c .nil)
      · cases h
    · cases h
  · rename_i e id off n hu
    have hop := hp'.own_pos
    obtain ⟨cap, g1, g2, g3, g4, rfl⟩ := hp'.own_inv
    split at h
    · rename_i m l h' es1 e1 e2
      split at h
      rename_i b hbl
      split at h
      · rename_i hc
        obtain ⟨hbm, hc⟩ := hc
        injection h with h
        have hb := bounds_run (P := P) (isS := true) (cap := cap) e1 e2 hc.1 (by omega) d1 s1 (nn e1) d2 s2 (nn e2)
        by_cases hl0 : l = 0
        · subst hl0
          simp only [if_true] at h
          subst h
          refine done_pure (v := .slice (some ⟨(G id).g, off * (G id).s, none⟩) h' cap) hi ?_ (.own g1 (by omega) g3 g4 hop)
          by_cases hc0 : cap = 0
          · subst hc0
            simp [Instr.sliceAt, run_underlying hu, Instr.slice, hb, run_sizeOf es1]
          · simp [Instr.sliceAt, run_underlying hu, Instr.slice, hb, run_sizeOf es1, hc0, Addr.add_lit]
        · rw [if_neg hl0] at h
          by_cases hhl : h' = l
          · subst hhl
            simp only [if_true] at h
            subst h
            refine done_pure (v := _) hi (by simp [Instr.sliceAt, run_underlying hu, Instr.slice, hb, run_sizeOf es1]; rfl) (.c ?_)
            exact .sl (es := []) (fun _ _ => undef) (fun ha => by split at ha <;> simp_all) (by simp) (by omega) (by simp) (by simp) (by simp)
          · rw [if_neg hhl] at h
            subst h
            have hcl : ¬ cap = l := by omega
            refine done_pure (v := .slice (some ⟨(G id).g, (off + l) * (G id).s, none⟩) (h' - l) (cap - l)) hi ?_ (.own g1 (by omega) (by omega) ?_ hop)
            · have hgs : (G id).s = m := by rw [← (hi.live id b hbl).bs, hbm]
              simp [Instr.sliceAt, run_underlying hu, Instr.slice, hb, run_sizeOf es1, hcl, Addr.add_lit, hgs, Nat.add_mul]
            · rw [show off + l + (cap - l) = off + cap from by omega]
              exact g4
      · cases h
      · cases h
    · cases h
  · cases h

theorem makeFunc_done (hi : Inv P w S G hp nx) {f : Fn} {xs ys : List PV} {us ts : Array Value} (h1 : Zip (RepO w S G nx) xs us.toList) (h2 : Zip (RepO w S G nx) ys ts.toList) :
    Done P w hp nx S G (.fn f xs ys) hp nx ((Instr.makeFunc f us ts).run P w) :=
  done_pure (v := .func f us ts) hi rfl (.fn (by simpa using h1.1) (by simpa using h2.1) (fun j pv x a b => h1.2 j pv x a (by simpa using b)) (fun j pv x a b => h2.2 j pv x a (by simpa using b)))

theorem made_get {z : Array Value} {n s i j : Nat} (hs : z.size = s) (hi : i < n) (hj : j < s) : (madeCells z (n * s))[i * s + j]? = z[j]? := by
  have hlt : i * s + j < n * s := elem_lt hi hj
  unfold madeCells
  rw [Array.getElem?_map, Array.getElem?_range, if_pos hlt]
  have hm : (i * s + j) % s = j := by rw [Nat.add_comm, Nat.add_mul_mod_self_right]; exact Nat.mod_eq_of_lt hj
  simp only [Option.map_some, hs, hm]
  rw [Array.getElem?_eq_getElem (by omega)]
  simp only [Option.some.injEq]
  exact (getElem!_pos z j (by omega))

theorem makeSlice_done (hi : Inv P w S G hp nx) {t : TypeId} {p q x : PV} {hp' : Hp} {nx' : Nat} {u v : Value} (h : makeSliceA P hp nx t p q = some (x, hp', nx')) (hu : RepO w S G nx p u) (hv : RepO w S G nx q v) :
    Done P w hp nx S G x hp' nx' ((Instr.makeSlice t u v).run P w) := by
  unfold makeSliceA at h
  split at h
  · rename_i kl l kc c
    obtain ⟨rfl, _⟩ := hu.v_inv
    obtain ⟨rfl, _⟩ := hv.v_inv
    split at h
    · rename_i e he
      split at h
      · rename_i n by_ z h1 h2 h3
        split at h
        · rename_i hc
          obtain ⟨c1, c2, c3, c4, c5, c6⟩ := hc
          injection h with h
          injection h with ex h
          injection h with eh en
          subst ex; subst eh; subst en
          obtain ⟨i, vz, i1, i2, i3⟩ := zero_of h3
          obtain ⟨z1, z2⟩ := ofCells_rep (w := w) (S := S) i3
          have hsz : i.size = n := by simpa [sizeA, i1] using h1
          have hby : i.bytes = by_ := by simpa [bytesA, i1] using h2
          have hzc : vz.cells.size = n := by rw [← c2, z1]; simp
          have hm : c.toNat ≤ 9223372036854775807 := by simpa [maxLen] using c5
          have hbytes : (i.bytes : Int) * c ≤ 281474976710656 := by
            have : ((c.toNat * by_ : Nat) : Int) ≤ 140737488355328 := by omega
            rw [Int.natCast_mul, Int.toNat_of_nonneg (by omega)] at this
            rw [hby, Int.mul_comm]
            omega
          have hr := run_make (P := P) w t e i vz (elem_spec he) i1 i2 kl kc l c c3 c4 hbytes (by omega)
          have hlc : l.toNat ≤ c.toNat := by omega
          have k := Stp.alloc hi (madeCells vz.cells (c.toNat * i.size)) e true (List.replicate l.toNat z) n c1 (by simpa [sizeA] using h1) (fun c' hc' => by rw [(List.mem_replicate.1 hc').2]; exact c2)
            (by rw [size_madeCells, hsz, List.length_replicate]; exact Nat.mul_le_mul_right _ hlc) (fun i' j c' pv hi' hj => by
              have hil : i' < l.toNat := by have := (List.getElem?_eq_some_iff.1 hi').1; simpa using this
              rw [List.getElem?_replicate, if_pos hil] at hi'
              injection hi' with hi'
              subst hi'
              have hjn : j < n := by rw [← c2]; exact (List.getElem?_eq_some_iff.1 hj).1
              have hjz : j < vz.cells.size := by omega
              rw [hsz, made_get hzc (by omega) hjn]
              have h6 := z2 j pv vz.cells[j] hj (by simp [hjz])
              exact ⟨vz.cells[j], by simp [hjz], fun _ => h6.1, .c h6.1, h6.2.1⟩)
          refine ⟨_, _, _, _, hr, k, ?_⟩
          have := RepO.own (w := w.alloc (.cells (madeCells vz.cells (c.toNat * i.size)) e)) (S := S) (G := upd G nx ⟨w.heap.size, (madeCells vz.cells (c.toNat * i.size)).size, n⟩) (nx := nx + 1) (id := nx) (off := 0) (n := l.toNat) (cap := c.toNat) (by omega) hlc c5 (by simp [size_madeCells, hsz]) (by simpa using c1)
          simpa using this
        · cases h
      · cases h
    · cases h
  · cases h

end
end Go.AM
namespace Go.AM
open Go.RowKit

section
variable {P : Program} {w : World} {S : Nat → Prop} {G : Nat → GI} {hp : Hp} {nx : Nat}

/-- A block that was live under an id that is given up, or a new one, becomes live under a new id. -/
theorem Stp.adopt {hp1 : Hp} {w' : World} (hi : Inv P w S G hp nx) (hsub : ∀ id b, hp1 id = some b → hp id = some b) (gi : GI) (e : TypeId) (arr : Bool) (es : List (List PV)) (cur : Array Value)
    (os : w'.os = w.os) (tape : w'.tape = w.tape) (output : w'.output = w.output) (size : w.heap.size ≤ w'.heap.size) (drawn : w.drawn ≤ w'.drawn)
    (D : Nat → Prop) (hD : ∀ b, D b → liveIn hp G b ∧ ¬ S b ∧ ∀ id b', hp1 id = some b' → (G id).g ≠ b)
    (hsame : ∀ b, b < w.heap.size → b ≠ gi.g → ¬ D b → w'.heap[b]? = w.heap[b]?) (hnl : ∀ id b, hp1 id = some b → (G id).g ≠ gi.g) (hnS : ¬ S gi.g) (hlv : liveIn hp G gi.g ∨ w.heap.size ≤ gi.g)
    (hs0 : 0 < gi.s) (hsz : (P.info? e).map (·.size) = some gi.s) (hlen : ∀ c ∈ es, c.length = gi.s) (hfit : es.length * gi.s ≤ gi.z) (hcur : w'.heap[gi.g]? = some (.cells cur e (0, 0))) (hcz : cur.size = gi.z)
    (hrow : ∀ (i j : Nat) (c : List PV) (pv : PV), es[i]? = some c → c[j]? = some pv → ∃ u, cur[i * gi.s + j]? = some u ∧ CellRep w S G nx arr pv u) :
    Stp P hp nx S G w (upd hp1 nx (some ⟨e, gi.s, arr, es⟩)) (nx + 1) S (upd G nx gi) w' := by
  have hS : ∀ b, S b → S b ∧ w'.heap[b]? = w.heap[b]? := fun b hb => ⟨hb, hsame b (hi.st b hb) (fun e => hnS (e ▸ hb)) fun h => (hD b h).2.1 hb⟩
  have hG : ∀ id, id < nx → upd G nx gi id = G id := fun id hid => upd_other _ _ _ _ (by omega)
  have hpo : ∀ id, id ≠ nx → upd hp1 nx (some ⟨e, gi.s, arr, es⟩) id = hp1 id := fun id hid => upd_other _ _ _ _ hid
  refine ⟨⟨fun b hb => Nat.lt_of_lt_of_le (hi.st b hb) size, fun id b hb => ?_, fun id b hb => ?_, fun id b hb => ?_, fun id id' b b' hb hb' he => ?_, hi.glo.mono hS⟩, by omega, hG, fun _ hb => hb, fun _ hb => .inl hb, fun id b hb => ?_, ⟨os, tape, output, size, drawn, fun k hk hn => hsame k hk (fun e => ?_) fun h => hn (hD k h).1⟩⟩
  · by_cases hid : id = nx
    · omega
    · rw [hpo id hid] at hb; have := hi.top id b (hsub id b hb); omega
  · by_cases hid : id = nx
    · subst hid
      simp only [upd_same] at hb ⊢
      injection hb with hb
      subst hb
      refine .ofCells hs0 rfl ⟨hsz, hlen, hfit, cur, hcur, hcz, fun i j c pv hi' hj => ?_⟩
      obtain ⟨u, h1, h2⟩ := hrow i j c pv hi' hj
      exact ⟨u, h1, h2.mono hS (by omega) hG⟩
    · rw [hpo id hid] at hb
      have ht := hi.top id b (hsub id b hb)
      rw [hG id ht]
      have hl := hi.live id b (hsub id b hb)
      exact hl.mono hS (by omega) hG (hsame _ hl.lt (hnl id b hb) fun h => (hD _ h).2.2 id b hb rfl)
  · by_cases hid : id = nx
    · subst hid; simpa using hnS
    · rw [hpo id hid] at hb
      rw [hG id (hi.top id b (hsub id b hb))]
      exact hi.apart id b (hsub id b hb)
  · by_cases hid : id = nx <;> by_cases hid' : id' = nx
    · omega
    · subst hid
      rw [hpo id' hid'] at hb'
      rw [hG id' (hi.top id' b' (hsub id' b' hb'))] at he
      simp only [upd_same] at he
      exact (hnl id' b' hb' he.symm).elim
    · subst hid'
      rw [hpo id hid] at hb
      rw [hG id (hi.top id b (hsub id b hb))] at he
      simp only [upd_same] at he
      exact (hnl id b hb he).elim
    · rw [hpo id hid] at hb
      rw [hpo id' hid'] at hb'
      rw [hG id (hi.top id b (hsub id b hb)), hG id' (hi.top id' b' (hsub id' b' hb'))] at he
      exact hi.inj id id' b b' (hsub id b hb) (hsub id' b' hb') he
  · by_cases hid : id = nx
    · subst hid; simpa using hlv
    · rw [hpo id hid] at hb
      rw [hG id (hi.top id b (hsub id b hb))]
      exact .inl ⟨id, b, hsub id b hb, rfl⟩
  · subst e
    rcases hlv with h | h
    · exact hn h
    · omega

/-- What a slice that is read shows. -/
theorem view_sound (hi : Inv P w S G hp nx) {n : Nat} {x : PV} {xs : List (List PV)} {u : Value} (h : view hp n x = some xs) (hx : RepO w S G nx x u) :
    ∃ (A : Option Addr) (c : Nat) (f : Nat → Value), u = .slice A xs.length c ∧ (∀ c' ∈ xs, c'.length = n) ∧
      ∀ (i j : Nat) (c' : List PV) (pv : PV), xs[i]? = some c' → c'[j]? = some pv → ∃ ad, A = some ad ∧ w.cell? (ad.add (i * n + j)) = some (f (i * n + j)) ∧ CellRep w S G nx true pv (f (i * n + j)) := by
  have key : ∀ (A : Option Addr) (xs : List (List PV)) (c : Nat), RepC w S (.sl n xs) (.slice A xs.length c) → (∃ us : Nat → Nat → Value, (∀ c' ∈ xs, c'.length = n) ∧
      (∀ (i j : Nat) (c : List PV) (pv : PV), xs[i]? = some c → c[j]? = some pv → ∃ ad, A = some ad ∧ w.cell? (ad.add (i * n + j)) = some (us i j) ∧ (us i j).oneCell' = true ∧ RepC w S pv (us i j))) := by
    intro A xs c h
    cases h with
    | sl us h0 h1 h2 h3 h4 h5 =>
      refine ⟨us, h3, fun i j c pv a b => ?_⟩
      obtain ⟨ad, e, _, g1, g2⟩ := h4 i j c pv a b
      exact ⟨ad, e, g1, g2, h5 i j c pv a b⟩
  have fin : ∀ (A : Option Addr) (c : Nat) (us : Nat → Nat → Value), (∀ c' ∈ xs, c'.length = n) →
      (∀ (i j : Nat) (c : List PV) (pv : PV), xs[i]? = some c → c[j]? = some pv → ∃ ad, A = some ad ∧ w.cell? (ad.add (i * n + j)) = some (us i j) ∧ CellRep w S G nx true pv (us i j)) → u = .slice A xs.length c →
      ∃ (A : Option Addr) (c : Nat) (f : Nat → Value), u = .slice A xs.length c ∧ (∀ c' ∈ xs, c'.length = n) ∧
        ∀ (i j : Nat) (c' : List PV) (pv : PV), xs[i]? = some c' → c'[j]? = some pv → ∃ ad, A = some ad ∧ w.cell? (ad.add (i * n + j)) = some (f (i * n + j)) ∧ CellRep w S G nx true pv (f (i * n + j)) := by
    intro A c us h1 h2 h3
    refine ⟨A, c, fun k => match A with | some ad => (w.cell? (ad.add k)).getD undef | none => undef, h3, h1, fun i j c' pv hi' hj => ?_⟩
    obtain ⟨ad, rfl, g1, g2⟩ := h2 i j c' pv hi' hj
    exact ⟨ad, rfl, by simp [g1], by simpa [g1] using g2⟩
  unfold view at h
  split at h
  · injection h with h
    subst h
    have := hx.nil_inv
    subst this
    exact ⟨none, 0, fun _ => undef, rfl, by simp, by simp⟩
  · injection h with h
    subst h
    obtain ⟨ad, cap, rfl, _⟩ := hx.em_inv
    exact ⟨some ad, cap, fun _ => undef, rfl, by simp, by simp⟩
  · rename_i s es
    split at h
    · rename_i hs
      subst hs
      injection h with h
      subst h
      have hc := hx.sl_inv
      cases hc with
      | sl us h0 h1 h2 h3 h4 h5 =>
        refine fin _ _ us h3 (fun i j c pv a b => ?_) rfl
        obtain ⟨ad, e, _, g1, g2⟩ := h4 i j c pv a b
        exact ⟨ad, e, g1, fun _ => h5 i j c pv a b, .c (h5 i j c pv a b), g2⟩
    · cases h
  · rename_i id off k
    split at h
    · rename_i b hb
      split at h
      · rename_i hc
        injection h with h
        obtain ⟨c1, c2, c3⟩ := hc
        have hop := hx.own_pos
        obtain ⟨cap, g1, g2, g3, g4, rfl⟩ := hx.own_inv
        have hbr := hi.live id b hb
        obtain ⟨cur, r1, r2, r3⟩ := hbr.row hop
        have hs : (G id).s = n := by rw [← hbr.bs, c2]
        have hl : xs.length = k := by rw [← h]; simp; omega
        have hget : ∀ (i : Nat) (c : List PV), xs[i]? = some c → b.es[off + i]? = some c := by
          intro i c hi'
          rw [← h, List.getElem?_take] at hi'
          split at hi'
          · rwa [List.getElem?_drop] at hi'
          · cases hi'
        refine fin (some ⟨(G id).g, off * (G id).s, none⟩) cap (fun i j => (cur[(off + i) * n + j]?).getD undef) (fun c' hc' => ?_) (fun i j c pv hi' hj => ?_) (by rw [hl])
        · rw [← h] at hc'
          rw [← hs]
          exact hbr.len hop c' (List.drop_subset _ _ (List.take_subset _ _ hc'))
        · obtain ⟨v, v1, v2⟩ := r3 (off + i) j c pv (hget i c hi') hj
          refine ⟨_, rfl, ?_, ?_⟩
          · rw [Addr.add_lit, cell_of_row w _ _ cur _ _ r1, hs]
            rw [hs] at v1
            rw [show off * n + (i * n + j) = (off + i) * n + j from by rw [Nat.add_mul]; omega, v1]
            rfl
          · rw [hs] at v1
            simp only [v1, Option.getD_some]
            rw [c1] at v2
            exact v2
      · cases h
    · cases h
  · cases h

theorem flat_get {n k m : Nat} (hn : 0 < n) (hk : k < m * n) : k / n < m ∧ k % n < n ∧ k / n * n + k % n = k := by
  refine ⟨(Nat.div_lt_iff_lt_mul hn).2 hk, Nat.mod_lt _ hn, ?_⟩
  rw [Nat.mul_comm]
  exact Nat.div_add_mod k n

/-- The cells that such a slice shows, as one list. -/
theorem view_flat {n : Nat} {xs : List (List PV)} {A : Option Addr} {f : Nat → Value} (hn : 0 < n) (hl : ∀ c' ∈ xs, c'.length = n)
    (h : ∀ (i j : Nat) (c' : List PV) (pv : PV), xs[i]? = some c' → c'[j]? = some pv → ∃ ad, A = some ad ∧ w.cell? (ad.add (i * n + j)) = some (f (i * n + j)) ∧ CellRep w S G nx true pv (f (i * n + j))) :
    ∀ k, k < xs.length * n → ∃ ad, A = some ad ∧ w.cell? (ad.add k) = some (f k) ∧ (f k).oneCell' = true := by
  intro k hk
  obtain ⟨h1, h2, h3⟩ := flat_get hn hk
  have hc : xs[k / n]? = some xs[k / n] := List.getElem?_eq_getElem h1
  have hcl : xs[k / n].length = n := hl _ (List.getElem_mem h1)
  obtain ⟨ad, e, g1, g2⟩ := h (k / n) (k % n) _ (xs[k / n][k % n]'(by omega)) hc (List.getElem?_eq_getElem (by omega))
  rw [h3] at g1 g2
  exact ⟨ad, e, g1, g2.2.2⟩

/-- append draws at most. -/
theorem append_drawn (t ty e : TypeId) (i : TypeInfo) (z : Value) (ht : P.underlying t = some (.slice e)) (hi : P.info? e = some i) (hz : i.zero = some z) (hsz : 0 < i.size)
    (v : Value) (n : Nat) (xs : List Value) (hown : w.ownsRow 0 e i.size v n xs) (a : Addr) (m c : Nat) (news : List Value) (hl : news.length = m * i.size) (hnews : ∀ j u, news[j]? = some u → w.cell? (a.add j) = some u) (h1 : ∀ u ∈ news, u.oneCell' = true)
    (h63 : n + m ≤ maxLen) (hbytes : (n + m) * i.bytes ≤ 140737488355328) {v' : Value} {w' : World} (r : (Builtin.append_ #[t, t] ty #[v, .slice (some a) m c]).run P w = .ok v' w') : w.drawn ≤ w'.drawn := by
  have hsmall : n + m ≤ 9223372036854775807 := by simp only [maxLen] at h63; omega
  rcases hown.2 with ⟨rfl, rfl⟩ | ⟨g, cap, cur, rfl, hbg, hg, hnc, hcm, hcs, htake⟩
  · by_cases hm : m = 0
    · subst hm
      have hn : news = [] := List.eq_nil_of_length_eq_zero (by simpa using hl)
      subst hn
      have hr : (Builtin.append_ #[t, t] ty #[.slice none 0 0, .slice (some a) 0 c]).run P w = .ok (.slice none 0 0) w := by
        simp [Builtin.append_, run_underlying ht, sizeOf, typeInfo, hi, Builtin.lenOf, Builtin.firstCells, loadCells, loadCellsFrom]
      rw [hr] at r
      injection r with _ r
      rw [← r]
      exact Nat.le_refl _
    · have hr := run_append_nil (P := P) w t ty e i z ht hi hz a m c news hl hnews (by omega) (by omega) (by have hb := hbytes; simp only [Nat.zero_add] at hb; omega)
      rw [hr] at r
      injection r with _ r
      rw [← r]
      exact Nat.le_succ _
  · by_cases hroom : n + m ≤ cap
    · have hfit : n * i.size + news.length ≤ cur.size := by rw [hl, hcs, ← Nat.add_mul]; exact Nat.mul_le_mul_right _ hroom
      have hr := run_append_room (P := P) w t ty e i ht hi g n cap cur hg a m c news hl hnews h1 hroom hfit
      rw [hr] at r
      injection r with _ r
      rw [← r]
      exact Nat.le_refl _
    · have holds : ∀ j u, xs[j]? = some u → w.cell? ((⟨g, 0, none⟩ : Addr).add j) = some u := hown.cells (g := g) rfl
      have hr := run_append_grow (P := P) w t ty e i z ht hi hz ⟨g, 0, none⟩ n cap xs hown.1 holds a m c news hl hnews (by omega) (by omega) (growslice_fits (by omega) hbytes)
      rw [hr] at r
      injection r with _ r
      rw [← r]
      exact Nat.le_succ _

theorem append_done (hi : Inv P w S G hp nx) {t t' ty : TypeId} {s x y : PV} {hp' : Hp} {nx' : Nat} {u v : Value} (h : appendA P hp nx t t' s x = some (y, hp', nx')) (hs : RepO w S G nx s u) (hx : RepO w S G nx x v) :
    Done P w hp nx S G y hp' nx' ((Builtin.append_ #[t, t'] ty #[u, v]).run P w) := by
  unfold appendA at h
  split at h
  · rename_i e he
    split at h
    · rename_i n by_ z h1 h2 h3
      split at h
      · rename_i xs hv
        obtain ⟨i, vz, i1, i2, i3⟩ := zero_of h3
        have hsz : i.size = n := by simpa [sizeA, i1] using h1
        have hby : i.bytes = by_ := by simpa [bytesA, i1] using h2
        have hzl := (ofCells_rep (w := w) (S := S) i3).1
        have hu := elem_spec he
        obtain ⟨A, c, f, rfl, f1, f2⟩ := view_sound hi hv hx
        split at h
        · split at h
          · rename_i hc
            obtain ⟨rfl, c1, c2, c3, c4⟩ := hc
            have := hs.nil_inv
            subst this
            have hzc : vz.cells.size = n := by rw [← c2, hzl]; simp
            split at h
            · rename_i hm
              injection h with h
              injection h with ey h
              injection h with eh en
              subst ey; subst eh; subst en
              refine done_pure (v := .slice none 0 0) hi ?_ (.c .nil)
              cases A <;> simp [Builtin.append_, run_underlying hu, sizeOf, typeInfo, i1, Builtin.lenOf, hm, Builtin.firstCells, loadCells, loadCellsFrom]
            · rename_i hm
              injection h with h
              injection h with ey h
              injection h with eh en
              subst ey; subst eh; subst en
              have hfl := view_flat c1 f1 f2
              obtain ⟨ad, rfl, _, _⟩ := hfl 0 (Nat.mul_pos (by omega) c1)
              obtain ⟨v', w', r1, r2, r3, r4, r5⟩ := run_append_own_at (P := P) w w.heap.size t' ty e i vz n by_ hu i1 i2 hsz hby hzc c1 (.slice none 0 0) 0 [] (World.ownsRow_nil w _ e n) ad xs.length c ((List.range (xs.length * n)).map f) (by simp)
                (fun j u hj => by
                  have hjl : j < xs.length * n := by have := (List.getElem?_eq_some_iff.1 hj).1; simpa using this
                  obtain ⟨ad', e1, e2, _⟩ := hfl j hjl
                  injection e1 with e1
                  subst e1
                  rw [List.getElem?_map, List.getElem?_range hjl] at hj
                  simp at hj
                  rw [e2, hj])
                (fun u hu => by
                  obtain ⟨k, hk, rfl⟩ := List.mem_map.1 hu
                  exact (hfl k (List.mem_range.1 hk)).choose_spec.2.2) (by simpa using c3) (by simpa using c4) (Nat.le_refl _)
              have rd : w.drawn ≤ w'.drawn := append_drawn t' ty e i vz hu i1 i2 (by omega) (.slice none 0 0) 0 [] (World.ownsRow_nil w _ e _) ad xs.length c ((List.range (xs.length * n)).map f) (by simp [hsz]) (fun j u hj => by
                  have hjl : j < xs.length * n := by have := (List.getElem?_eq_some_iff.1 hj).1; simpa using this
                  obtain ⟨ad', e1, e2, _⟩ := hfl j hjl
                  injection e1 with e1
                  subst e1
                  rw [List.getElem?_map, List.getElem?_range hjl] at hj
                  simp at hj
                  rw [e2, hj])
                (fun u hu => by
                  obtain ⟨k, hk, rfl⟩ := List.mem_map.1 hu
                  exact (hfl k (List.mem_range.1 hk)).choose_spec.2.2) (by simpa using c3) (by simpa [hby] using c4) r1
              simp only [Nat.zero_add, List.nil_append] at r2
              rcases r2.2 with ⟨e1, e2⟩ | ⟨g, cap, cur, rfl, e2, e3, e4, e5, e6, e7⟩
              · exact (hm e2).elim
              · have hg : g = w.heap.size := by
                  rcases r5 with h5 | h5 <;> simp [Value.ownBlock] at h5
                  exact h5
                subst hg
                have k := Stp.adopt (hp1 := hp) hi (fun _ _ h => h) ⟨w.heap.size, cur.size, n⟩ e true xs cur r3.os r3.tape r3.output r3.size rd (fun _ => False) (fun _ h => h.elim) (fun b hb hne _ => r3.block b hb (by simp [Value.ownBlock])) (fun id b hb => Nat.ne_of_lt (hi.live id b hb).lt)
                  (fun hS => by have := hi.st _ hS; simp at this) (.inr (Nat.le_refl _)) c1 (by simpa [sizeA] using h1) f1 (by rw [e6]; exact Nat.mul_le_mul_right _ e4) e3 rfl (fun i' j c' pv hi' hj => by
                    obtain ⟨ad', a1, a2, a3⟩ := f2 i' j c' pv hi' hj
                    have hjn : j < n := by rw [← f1 c' (List.mem_of_getElem? hi')]; exact (List.getElem?_eq_some_iff.1 hj).1
                    have hil : i' < xs.length := (List.getElem?_eq_some_iff.1 hi').1
                    have hlt := elem_lt (n := xs.length) hil hjn
                    refine ⟨f (i' * n + j), ?_, a3⟩
                    have h7 : (cur.toList.take (xs.length * n))[i' * n + j]? = some (f (i' * n + j)) := by rw [e7, List.getElem?_map, List.getElem?_range hlt]; rfl
                    rw [List.getElem?_take, if_pos hlt] at h7
                    simpa using h7)
                refine ⟨_, _, _, _, r1, k, ?_⟩
                have := RepO.own (w := w') (S := S) (G := upd G nx ⟨w.heap.size, cur.size, n⟩) (nx := nx + 1) (id := nx) (off := 0) (n := xs.length) (cap := cap) (by omega) e4 e5 (by simp [e6]) (by simpa using c1)
                simpa using this
          · cases h
        · rename_i id k
          split at h
          · rename_i b hb
            split at h
            · rename_i hc
              obtain ⟨rfl, c0, c1, c2, c3, c4, c5, c6⟩ := hc
              injection h with h
              injection h with ey h
              injection h with eh en
              subst ey; subst eh; subst en
              have hop := hs.own_pos
              obtain ⟨cap, g1, g2, g3, g4, rfl⟩ := hs.own_inv
              have hzc : vz.cells.size = n := by rw [← c4, hzl]; simp
              have hbr := hi.live id b hb
              obtain ⟨cur, q1, q2, q3⟩ := hbr.row hop
              have hsb : (G id).s = n := by
                have h5 := hbr.size hop
                rw [c1] at h5
                have h6 : (P.info? e).map (·.size) = some n := by simpa [sizeA] using h1
                rw [h6] at h5
                injection h5 with h5
                exact h5.symm
              have hg0 : (⟨(G id).g, 0 * (G id).s, none⟩ : Addr) = ⟨(G id).g, 0, none⟩ := by simp
              rw [hg0]
              have hcz : cur.size = cap * n := by rw [q2, ← g4, hsb]; simp
              have hown : w.ownsRow 0 e n (.slice (some ⟨(G id).g, 0, none⟩) k cap) k (cur.toList.take (k * n)) := by
                refine ⟨?_, .inr ⟨(G id).g, cap, cur, rfl, Nat.zero_le _, by rw [← c1]; exact q1, g2, g3, hcz, rfl⟩⟩
                simp only [List.length_take, Array.length_toList, hcz]
                exact Nat.min_eq_left (Nat.mul_le_mul_right _ g2)
              have hsub : ∀ id' b', upd hp id none id' = some b' → hp id' = some b' := fun id' b' h => upd_none h
              have hnl : ∀ id' b', upd hp id none id' = some b' → (G id').g ≠ (G id).g := fun id' b' h he => by
                have hne : id' ≠ id := by rintro rfl; simp at h
                exact hne (hi.inj id' id b' b (upd_none h) hb he)
              have hrun : ∃ v' w', (Builtin.append_ #[t', t'] ty #[.slice (some ⟨(G id).g, 0, none⟩) k cap, .slice A xs.length c]).run P w = .ok v' w' ∧ w'.ownsRow 0 e n v' (k + xs.length) (cur.toList.take (k * n) ++ (List.range (xs.length * n)).map f) ∧
                  w.grownBy w' (some (G id).g) ∧ (v'.ownBlock = some (G id).g ∨ v'.ownBlock = some w.heap.size) ∧ w.drawn ≤ w'.drawn := by
                by_cases hm : xs.length = 0
                · refine ⟨.slice (some ⟨(G id).g, 0, none⟩) k cap, w, ?_, ?_, World.grownBy.refl w _, .inl rfl, Nat.le_refl _⟩
                  · cases A <;> simp [Builtin.append_, run_underlying hu, sizeOf, typeInfo, i1, Builtin.lenOf, hm, Builtin.firstCells, loadCells, loadCellsFrom, g2, storeCells]
                  · simpa [hm] using hown
                · have hfl := view_flat c3 f1 f2
                  obtain ⟨ad, rfl, _, _⟩ := hfl 0 (Nat.mul_pos (by omega) c3)
                  obtain ⟨v', w', r1, r2, r3, r4, r5⟩ := run_append_own_at (P := P) w 0 t' ty e i vz n by_ hu i1 i2 hsz hby hzc c3 _ k _ hown ad xs.length c ((List.range (xs.length * n)).map f) (by simp)
                    (fun j u hj => by
                      have hjl : j < xs.length * n := by have := (List.getElem?_eq_some_iff.1 hj).1; simpa using this
                      obtain ⟨ad', e1, e2, _⟩ := hfl j hjl
                      injection e1 with e1
                      subst e1
                      rw [List.getElem?_map, List.getElem?_range hjl] at hj
                      simp at hj
                      rw [e2, hj])
                    (fun u hu => by
                      obtain ⟨k, hk, rfl⟩ := List.mem_map.1 hu
                      exact (hfl k (List.mem_range.1 hk)).choose_spec.2.2) c5 c6 (Nat.zero_le _)
                  have rd : w.drawn ≤ w'.drawn := append_drawn t' ty e i vz hu i1 i2 (by omega) _ k _ (by rw [hsz]; exact hown) ad xs.length c ((List.range (xs.length * n)).map f) (by simp [hsz]) (fun j u hj => by
                      have hjl : j < xs.length * n := by have := (List.getElem?_eq_some_iff.1 hj).1; simpa using this
                      obtain ⟨ad', e1, e2, _⟩ := hfl j hjl
                      injection e1 with e1
                      subst e1
                      rw [List.getElem?_map, List.getElem?_range hjl] at hj
                      simp at hj
                      rw [e2, hj])
                    (fun u hu => by
                      obtain ⟨k, hk, rfl⟩ := List.mem_map.1 hu
                      exact (hfl k (List.mem_range.1 hk)).choose_spec.2.2) c5 (by rw [hby]; exact c6) r1
                  exact ⟨v', w', r1, r2, by simpa [Value.ownBlock] using r3, by simpa [Value.ownBlock] using r5, rd⟩
              obtain ⟨v', w', r1, r2, r3, r5, rd⟩ := hrun
              rcases r2.2 with ⟨e1, e2⟩ | ⟨g, cap', cur', rfl, e2, e3, e4, e5, e6, e7⟩
              · subst e1; simp [Value.ownBlock] at r5
              · have hg : g = (G id).g ∨ g = w.heap.size := by simpa [Value.ownBlock] using r5
                have hgl := hbr.lt
                have hrow : ∀ (i' j : Nat) (c' : List PV) (pv : PV), (b.es ++ xs)[i']? = some c' → c'[j]? = some pv → ∃ u, cur'[i' * n + j]? = some u ∧ CellRep w S G nx true pv u := by
                  intro i' j c' pv hi' hj
                  have hcl : c'.length = n := by
                    rcases List.mem_append.1 (List.mem_of_getElem? hi') with h | h
                    · rw [← hsb]; exact hbr.len hop c' h
                    · exact f1 c' h
                  have hjn : j < n := by rw [← hcl]; exact (List.getElem?_eq_some_iff.1 hj).1
                  have hil : i' < k + xs.length := by have := (List.getElem?_eq_some_iff.1 hi').1; simp at this; omega
                  have hlt := elem_lt (n := k + xs.length) hil hjn
                  have h7 : (cur'.toList.take ((k + xs.length) * n))[i' * n + j]? = cur'[i' * n + j]? := by rw [List.getElem?_take, if_pos hlt]; simp
                  rw [← h7, e7]
                  have hkl : (cur.toList.take (k * n)).length = k * n := hown.1
                  by_cases hik : i' < k
                  · have hlt' := elem_lt (n := k) hik hjn
                    rw [List.getElem?_append_left (by rw [c2] at hik; exact hik)] at hi'
                    rw [List.getElem?_append_left (by omega), List.getElem?_take, if_pos hlt']
                    obtain ⟨u', u1, u2⟩ := q3 i' j c' pv hi' hj
                    rw [hsb] at u1
                    rw [c0] at u2
                    exact ⟨u', by simpa using u1, u2⟩
                  · rw [List.getElem?_append_right (by omega), ← c2] at hi'
                    have hge : k * n ≤ i' * n := Nat.mul_le_mul_right _ (by omega)
                    rw [List.getElem?_append_right (by omega), hkl]
                    have hkk : i' * n + j - k * n = (i' - k) * n + j := by rw [Nat.sub_mul]; omega
                    have hlt2 := elem_lt (n := xs.length) (i := i' - k) (by omega) hjn
                    rw [hkk, List.getElem?_map, List.getElem?_range hlt2]
                    obtain ⟨ad', a1, a2, a3⟩ := f2 (i' - k) j c' pv hi' hj
                    exact ⟨f ((i' - k) * n + j), rfl, a3⟩
                have k2 := Stp.adopt (hp1 := upd hp id none) hi hsub ⟨g, cur'.size, n⟩ e true (b.es ++ xs) cur' r3.os r3.tape r3.output r3.size rd
                  (fun b' => b' = (G id).g) (fun b' hb' => by subst hb'; exact ⟨⟨id, b, hb, rfl⟩, hi.apart id b hb, hnl⟩)
                  (fun b' hb' hne hbg => r3.block b' hb' (by simpa using hbg))
                  (fun id' b' h => by
                    rcases hg with h' | h'
                    · simp only [h']; exact hnl id' b' h
                    · simp only [h']; exact Nat.ne_of_lt (hi.live id' b' (upd_none h)).lt)
                  (by
                    rcases hg with h' | h'
                    · simp only [h']; exact hi.apart id b hb
                    · simp only [h']; intro hS; have := hi.st _ hS; simp at this)
                  (by
                    rcases hg with h' | h'
                    · simp only [h']; exact .inl ⟨id, b, hb, rfl⟩
                    · simp only [h']; exact .inr (Nat.le_refl _))
                  c3 (by simpa [sizeA] using h1)
                  (fun c' hc' => by
                    rcases List.mem_append.1 hc' with h | h
                    · simp only [← hsb]; exact hbr.len hop c' h
                    · exact f1 c' h)
                  (by rw [List.length_append, ← c2, e6]; exact Nat.mul_le_mul_right _ e4) e3 rfl hrow
                refine ⟨_, _, _, _, r1, k2, ?_⟩
                have := RepO.own (w := w') (S := S) (G := upd G nx ⟨g, cur'.size, n⟩) (nx := nx + 1) (id := nx) (off := 0) (n := k + xs.length) (cap := cap') (by omega) e4 e5 (by simp [e6]) (by simpa using c3)
                simpa using this
            · cases h
          · cases h
        · cases h
      · cases h
    · cases h
  · cases h

end
end Go.AM
namespace Go.AM
open Go.RowKit

section
variable {P : Program} {w : World} {S : Nat → Prop} {G : Nat → GI} {hp : Hp} {nx : Nat}

theorem Stp.allocMap (h : Inv P w S G hp nx) (t : TypeId) : Stp P hp nx S G w (upd hp nx (some ⟨t, 0, false, []⟩)) (nx + 1) S (upd G nx ⟨w.heap.size, 0, 0⟩) (w.alloc (.map #[] 0)) := by
  have hold : ∀ b, b < w.heap.size → (w.alloc (.map #[] 0)).heap[b]? = w.heap[b]? := fun b hb => Below.heap_alloc w _ b hb
  have hS : ∀ b, S b → S b ∧ (w.alloc (.map #[] 0)).heap[b]? = w.heap[b]? := fun b hb => ⟨hb, hold b (h.st b hb)⟩
  have hG : ∀ id, id < nx → upd G nx ⟨w.heap.size, 0, 0⟩ id = G id := fun id hid => upd_other _ _ _ _ (by omega)
  have hpo : ∀ id, id ≠ nx → upd hp nx (some (⟨t, 0, false, []⟩ : Blk)) id = hp id := fun id hid => upd_other _ _ _ _ hid
  have hsize : (w.alloc (.map #[] 0)).heap.size = w.heap.size + 1 := by show (w.heap.push _).size = _; simp
  have hlv : ∀ id b, hp id = some b → (G id).g < w.heap.size := fun id b hb => (h.live id b hb).lt
  refine ⟨⟨fun b hb => by rw [hsize]; have := h.st b hb; omega, fun id b hb => ?_, fun id b hb => ?_, fun id b hb => ?_, fun id id' b b' hb hb' he => ?_, h.glo.mono hS⟩, by omega, hG, fun _ hb => hb, fun _ hb => .inl hb, fun id b hb => ?_, ⟨rfl, rfl, rfl, by rw [hsize]; omega, Nat.le_refl _, fun k hk _ => hold k hk⟩⟩
  · by_cases hid : id = nx
    · omega
    · rw [hpo id hid] at hb; have := h.top id b hb; omega
  · by_cases hid : id = nx
    · subst hid
      simp only [upd_same] at hb ⊢
      injection hb with hb
      subst hb
      exact ⟨rfl, fun h0 => absurd h0 (by simp), fun _ => ⟨#[], 0, heap_alloc_new w _, rfl, fun i c e hi _ => by simp at hi⟩⟩
    · rw [hpo id hid] at hb
      have ht := h.top id b hb
      rw [hG id ht]
      exact (h.live id b hb).mono hS (by omega) hG (hold _ (hlv id b hb))
  · by_cases hid : id = nx
    · subst hid
      simp only [upd_same]
      intro hs
      have := h.st _ hs
      omega
    · rw [hpo id hid] at hb
      rw [hG id (h.top id b hb)]
      exact h.apart id b hb
  · by_cases hid : id = nx <;> by_cases hid' : id' = nx
    · omega
    · subst hid
      rw [hpo id' hid'] at hb'
      rw [hG id' (h.top id' b' hb')] at he
      have := hlv id' b' hb'
      simp at he
      omega
    · subst hid'
      rw [hpo id hid] at hb
      rw [hG id (h.top id b hb)] at he
      have := hlv id b hb
      simp at he
      omega
    · rw [hpo id hid] at hb
      rw [hpo id' hid'] at hb'
      rw [hG id (h.top id b hb), hG id' (h.top id' b' hb')] at he
      exact h.inj id id' b b' hb hb' he
  · by_cases hid : id = nx
    · subst hid
      simp
    · rw [hpo id hid] at hb
      rw [hG id (h.top id b hb)]
      exact .inl ⟨id, b, hb, rfl⟩

/-- A map's entries are replaced. -/
theorem Stp.setMap (h : Inv P w S G hp nx) {id : Nat} {b : Blk} (hid : hp id = some b) (hs0 : (G id).s = 0) (en : Array MapEntry) (clock : Nat) (es : List (List PV)) (hl : en.size = es.length)
    (hrow : ∀ (i : Nat) (c : List PV) (e : MapEntry), es[i]? = some c → en[i]? = some e → EntRep w S c e) :
    Stp P hp nx S G w (upd hp id (some ⟨b.e, b.s, b.arr, es⟩)) nx S G { w with heap := w.heap.setIfInBounds (G id).g (.map en clock) } := by
  obtain ⟨en0, clock0, hcur, _⟩ := ((h.live id b hid).ent hs0).row
  have hset := MapKept.heap_set (o' := Obj.map en clock) hcur
  have hother : ∀ k, k ≠ (G id).g → (w.heap.setIfInBounds (G id).g (.map en clock))[k]? = w.heap[k]? := hset.2
  have hS : ∀ b, S b → S b ∧ (w.heap.setIfInBounds (G id).g (.map en clock))[b]? = w.heap[b]? := fun k hk => ⟨hk, hother k fun e => h.apart id b hid (e ▸ hk)⟩
  have hpo : ∀ k, k ≠ id → upd hp id (some (⟨b.e, b.s, b.arr, es⟩ : Blk)) k = hp k := fun k hk => upd_other _ _ _ _ hk
  refine ⟨⟨fun k hk => by show k < (w.heap.setIfInBounds _ _).size; simpa using h.st k hk, fun k c hk => ?_, fun k c hk => ?_, fun k c hk => ?_, fun k k' c c' hk hk' he => ?_, h.glo.mono hS⟩, Nat.le_refl _, fun _ _ => rfl, fun _ hb => hb, fun _ hb => .inl hb, fun k c hk => ?_, ⟨rfl, rfl, rfl, by simp, Nat.le_refl _, fun k _ hn => hother k fun e => hn ⟨id, b, hid, e.symm⟩⟩⟩
  · by_cases hki : k = id
    · subst hki; exact h.top _ b hid
    · rw [hpo k hki] at hk; exact h.top k c hk
  · by_cases hki : k = id
    · subst hki
      simp only [upd_same] at hk
      injection hk with hk
      subst hk
      refine ⟨(h.live _ b hid).bs, fun h0 => by omega, fun _ => ⟨en, clock, hset.1, hl, fun i c e hi he => ?_⟩⟩
      obtain ⟨k', pv, e1, e2, e3, e4⟩ := hrow i c e hi he
      exact ⟨k', pv, e1, e2, e3, e4.mono hS⟩
    · rw [hpo k hki] at hk
      exact (h.live k c hk).mono hS (Nat.le_refl _) (fun _ _ => rfl) (hother _ fun e => hki (h.inj k id c b hk hid e))
  · by_cases hki : k = id
    · subst hki; exact h.apart _ b hid
    · rw [hpo k hki] at hk; exact h.apart k c hk
  · have hx : ∀ k c, upd hp id (some (⟨b.e, b.s, b.arr, es⟩ : Blk)) k = some c → ∃ c', hp k = some c' := by
      intro k c hk
      by_cases hki : k = id
      · subst hki; exact ⟨b, hid⟩
      · rw [hpo k hki] at hk; exact ⟨c, hk⟩
    obtain ⟨c1, h1⟩ := hx k c hk
    obtain ⟨c2, h2⟩ := hx k' c' hk'
    exact h.inj k k' c1 c2 h1 h2 he
  · by_cases hki : k = id
    · subst hki; exact .inl ⟨_, b, hid, rfl⟩
    · rw [hpo k hki] at hk; exact .inl ⟨k, c, hk, rfl⟩

theorem makeMap_done (hi : Inv P w S G hp nx) (t : TypeId) : Done P w hp nx S G (.mp nx) (upd hp nx (some ⟨t, 0, false, []⟩)) (nx + 1) ((Instr.makeMap t none).run P w) := by
  refine ⟨.map (some w.heap.size), w.alloc (.map #[] 0), S, upd G nx ⟨w.heap.size, 0, 0⟩, by simp [Instr.makeMap], Stp.allocMap hi t, ?_⟩
  have := RepO.mp (w := w.alloc (.map #[] 0)) (S := S) (G := upd G nx ⟨w.heap.size, 0, 0⟩) (nx := nx + 1) (id := nx) (by omega) (by simp)
  simpa using this

/-! ### looking up -/
theorem mapKT_spec {t : TypeId} {kk : Option IntKind} {et : TypeId} (h : mapKT P t = some (kk, et)) : ∃ kt d, P.underlying t = some (.map kt et) ∧ P.underlying kt = some d ∧ (∀ k, keyOk kk k = true → MapKept.IsKey d k) ∧ (d = .string ∨ ∃ i, d = .int i) := by
  unfold mapKT at h
  split at h
  · rename_i kt et' hu
    split at h
    · rename_i i hk
      injection h with h
      injection h with e1 e2
      subst e1; subst e2
      exact ⟨kt, .int i, hu, hk, fun k hk => by cases k <;> simp_all [keyOk, MapKept.IsKey], .inr ⟨i, rfl⟩⟩
    · rename_i hk
      injection h with h
      injection h with e1 e2
      subst e1; subst e2
      exact ⟨kt, .string, hu, hk, fun k hk => by cases k <;> simp_all [keyOk, MapKept.IsKey], .inl rfl⟩
    · cases h
  · cases h
theorem keySame_now {d : TypeDesc} {a b : Value} {r : Bool} (hd : d = .string ∨ ∃ i, d = .int i) (ha : MapKept.IsKey d a) (h : keySame a b = some r) : Instr.sameNow d a b = some r := by
  unfold keySame at h
  split at h
  · rename_i k x k' y
    rcases hd with rfl | ⟨i, rfl⟩
    · simp [MapKept.IsKey] at ha
    · split at h
      · rename_i e; simpa [Instr.sameNow, e] using h
      · cases h
  · rename_i x y
    rcases hd with rfl | ⟨i, rfl⟩
    · injection h with h
      simp only [Instr.sameNow, Option.some.injEq]
      rw [← h, Bool.eq_iff_iff, MapKept.bytes_beq, beq_iff_eq]
      exact ⟨fun e => by rw [e], fun e => by
        obtain ⟨x⟩ := x; obtain ⟨y⟩ := y
        congr 1
        exact (by rw [ByteArray.toList_eq, ByteArray.toList_eq] at e; exact Array.toList_inj.1 e)⟩
    · simp [MapKept.IsKey] at ha
  · cases h
theorem findE_now {d : TypeDesc} {k : Value} (hd : d = .string ∨ ∃ i, d = .int i) (hk : MapKept.IsKey d k) : ∀ {es : List (List PV)} {en : List MapEntry} {i : Nat} {r : Option (Nat × PV)}, es.length = en.length → (∀ (j : Nat) (c : List PV) (e : MapEntry), es[j]? = some c → en[j]? = some e → EntRep w S c e) → findE k es i = some r →
    (r = none ∧ Instr.findNow d k en i = some none) ∨ ∃ j v e, r = some (i + j, v) ∧ Instr.findNow d k en i = some (some (i + j, e.val)) ∧ en[j]? = some e ∧ RepC w S v e.val ∧ keySame k e.key = some true ∧ j < es.length
  | [], [], i, r, _, _, h => by
    simp only [findE] at h
    injection h with h
    exact .inl ⟨h.symm, rfl⟩
  | [], e :: en, _, _, hl, _, _ => by simp at hl
  | c :: es, [], _, _, hl, _, _ => by simp at hl
  | c :: es, e :: en, i, r, hl, hr, h => by
    obtain ⟨k', v, rfl, e1, _, e3⟩ := hr 0 c e rfl rfl
    simp only [findE] at h
    subst e1
    split at h
    · rename_i hs
      injection h with h
      subst h
      refine .inr ⟨0, v, e, rfl, ?_, rfl, e3, hs, by simp⟩
      simp [Instr.findNow, keySame_now hd hk hs]
    · rename_i hs
      have hn := keySame_now hd hk hs
      rcases findE_now hd hk (es := es) (en := en) (i := i + 1) (r := r) (by simpa using hl) (fun j c e hj he => hr (j + 1) c e (by simpa using hj) (by simpa using he)) h with ⟨g1, g2⟩ | ⟨j, v', e', g1, g2, g3, g4, g5, g6⟩
      · exact .inl ⟨g1, by simp [Instr.findNow, hn, g2]⟩
      · refine .inr ⟨j + 1, v', e', by rw [g1]; congr 2; omega, ?_, by simpa using g3, g4, g5, by simp; omega⟩
        simp only [Instr.findNow, hn, g2]
        congr 3
        omega
    · cases h
theorem zeroV_rep {t : TypeId} {z : PV} (h : zeroV P t = some z) : ∃ v, (zeroValue t).run P w = .ok v w ∧ RepC w S z v := by
  unfold zeroV at h
  cases hi : P.info? t with
  | none => rw [hi] at h; cases h
  | some i =>
    rw [hi] at h
    simp only [Option.bind_some] at h
    cases hz : i.zero with
    | none => rw [hz] at h; cases h
    | some v =>
      rw [hz] at h
      exact ⟨v, run_zeroValue hi hz w, ofConst_rep h⟩
theorem ents_get (hi : Inv P w S G hp nx) {x : PV} {u : Value} {es : List (List PV)} (h : entsA hp x = some es) (hx : RepO w S G nx x u) :
    (u = .map none ∧ es = []) ∨ ∃ r en clock, u = .map (some r) ∧ w.heap[r]? = some (.map en clock) ∧ en.size = es.length ∧ ∀ (i : Nat) (c : List PV) (e : MapEntry), es[i]? = some c → en[i]? = some e → EntRep w S c e := by
  unfold entsA at h
  split at h
  · rename_i id
    obtain ⟨h1, h2, rfl⟩ := hx.mp_inv
    split at h
    · rename_i b hb
      split at h
      · injection h with h
        subst h
        obtain ⟨en, clock, g1, g2, g3⟩ := ((hi.live id b hb).ent h2).row
        exact .inr ⟨_, en, clock, rfl, g1, g2, g3⟩
      · cases h
    · cases h
  · injection h with h
    obtain ⟨rfl, _⟩ := hx.v_inv
    exact .inl ⟨rfl, h.symm⟩
  · cases h
theorem lookup_done (hi : Inv P w S G hp nx) {t : TypeId} {p q x : PV} {u v : Value} {ok : Bool} (h : lookupA P hp t p q ok = some x) (hp' : RepO w S G nx p u) (hq : RepO w S G nx q v) : Done P w hp nx S G x hp nx ((Instr.lookup t u v ok).run P w) := by
  unfold lookupA at h
  split at h
  · rename_i kk et es k hkt hes
    obtain ⟨kt, d, hu, hk, hok, hd⟩ := mapKT_spec hkt
    obtain ⟨rfl, _⟩ := hq.v_inv
    split at h
    · rename_i hc
      have hkey := hok v hc
      rcases ents_get hi hes hp' with ⟨rfl, rfl⟩ | ⟨r, en, clock, rfl, g1, g2, g3⟩
      · simp only [findE] at h
        obtain ⟨z, h1, h2⟩ : ∃ z, zeroV P et = some z ∧ (if ok = true then PV.tup [z, .v (.bool false)] else z) = x := by
          cases hz : zeroV P et with
          | none => rw [hz] at h; cases h
          | some z => rw [hz] at h; injection h with h; exact ⟨z, rfl, h⟩
        obtain ⟨zv, e1, e2⟩ := zeroV_rep (w := w) (S := S) h1
        have hn : Instr.findNow d v [] 0 = some none := rfl
        cases ok with
        | true =>
          simp only [if_true] at h2
          subst h2
          refine done_pure (v := .tuple #[zv, .bool false]) hi ?_ (.c (.tup rfl fun j pv y a b => ?_))
          · simp [Instr.lookup, run_underlying hu, MapKept.run_checkKey hk hkey, MapKept.run_findKey hk hn, e1, Result.andThen]
          · match j, a, b with
            | 0, a, b => simp at a b; subst a; subst b; exact e2
            | 1, a, b => simp at a b; subst a; subst b; exact .v rfl
            | j + 2, a, b => simp at a
        | false =>
          simp only [Bool.false_eq_true, if_false] at h2
          subst h2
          refine done_pure (v := zv) hi ?_ (.c e2)
          simp [Instr.lookup, run_underlying hu, MapKept.run_checkKey hk hkey, MapKept.run_findKey hk hn, e1, Result.andThen]
      · split at h
        · rename_i i pv hf
          rcases findE_now hd hkey (en := en.toList) (by simpa using g2.symm) (fun j c e hj he => g3 j c e hj (by simpa using he)) hf with ⟨e0, _⟩ | ⟨j, y, e, e1, e2, e3, e4, e5, e6⟩
          · cases e0
          · injection e1 with e1
            injection e1 with e1 e1'
            subst e1'
            injection h with h
            cases ok with
            | true =>
              simp only [if_true] at h
              subst h
              refine done_pure (v := .tuple #[e.val, .bool true]) hi ?_ (.c (.tup rfl fun j pv y a b => ?_))
              · simp [Instr.lookup, run_underlying hu, MapKept.run_getObj_map g1, MapKept.run_checkKey hk hkey, MapKept.run_findKey hk e2, Result.andThen]
              · match j, a, b with
                | 0, a, b => simp at a b; subst a; subst b; exact e4
                | 1, a, b => simp at a b; subst a; subst b; exact .v rfl
                | j + 2, a, b => simp at a
            | false =>
              simp only [Bool.false_eq_true, if_false] at h
              subst h
              refine done_pure (v := e.val) hi ?_ (.c e4)
              simp [Instr.lookup, run_underlying hu, MapKept.run_getObj_map g1, MapKept.run_checkKey hk hkey, MapKept.run_findKey hk e2, Result.andThen]
        · rename_i hf
          obtain ⟨z, h1, h2⟩ : ∃ z, zeroV P et = some z ∧ (if ok = true then PV.tup [z, .v (.bool false)] else z) = x := by
            cases hz : zeroV P et with
            | none => rw [hz] at h; cases h
            | some z => rw [hz] at h; injection h with h; exact ⟨z, rfl, h⟩
          obtain ⟨zv, e1, e2⟩ := zeroV_rep (w := w) (S := S) h1
          rcases findE_now hd hkey (en := en.toList) (by simpa using g2.symm) (fun j c e hj he => g3 j c e hj (by simpa using he)) hf with ⟨_, hn⟩ | ⟨j, y, e, e0, _⟩
          · cases ok with
            | true =>
              simp only [if_true] at h2
              subst h2
              refine done_pure (v := .tuple #[zv, .bool false]) hi ?_ (.c (.tup rfl fun j pv y a b => ?_))
              · simp [Instr.lookup, run_underlying hu, MapKept.run_getObj_map g1, MapKept.run_checkKey hk hkey, MapKept.run_findKey hk hn, e1, Result.andThen]
              · match j, a, b with
                | 0, a, b => simp at a b; subst a; subst b; exact e2
                | 1, a, b => simp at a b; subst a; subst b; exact .v rfl
                | j + 2, a, b => simp at a
            | false =>
              simp only [Bool.false_eq_true, if_false] at h2
              subst h2
              refine done_pure (v := zv) hi ?_ (.c e2)
              simp [Instr.lookup, run_underlying hu, MapKept.run_getObj_map g1, MapKept.run_checkKey hk hkey, MapKept.run_findKey hk hn, e1, Result.andThen]
          · cases e0
        · cases h
    · cases h
  · cases h
theorem keySame_eq {a b : Value} (h : keySame a b = some true) : b = a := by
  unfold keySame at h
  split at h
  · rename_i k x k' y
    split at h
    · rename_i e
      subst e
      injection h with h
      rw [beq_iff_eq] at h
      rw [h]
    · cases h
  · rename_i x y
    injection h with h
    rw [beq_iff_eq] at h
    obtain ⟨x⟩ := x; obtain ⟨y⟩ := y
    congr 2
    (rw [ByteArray.toList_eq, ByteArray.toList_eq] at h; exact Array.toList_inj.1 h.symm)
  · cases h
theorem mapPut_done (hi : Inv P w S G hp nx) {t : TypeId} {p q y : PV} {hp' : Hp} {u v z : Value} (h : mapPutA P hp t p q y = some hp') (hu : RepO w S G nx p u) (hq : RepO w S G nx q v) (hy : RepO w S G nx y z) :
    ∃ w' S' G', (Instr.mapUpdate t u v z).run P w = .ok () w' ∧ Stp P hp nx S G w hp' nx S' G' w' := by
  unfold mapPutA at h
  split at h
  · rename_i kk et id k hkt
    obtain ⟨kt, d, hut, hk, hok, hd⟩ := mapKT_spec hkt
    obtain ⟨rfl, hlit⟩ := hq.v_inv
    obtain ⟨m1, m2, rfl⟩ := hu.mp_inv
    split at h
    · rename_i hc
      have hkey := hok v hc
      split at h
      · rename_i y1 hp1 hf
        obtain ⟨S1, k1, hr, _, _⟩ := freezeVal_sound hi hf hy
        split at h
        · rename_i b hb
          split at h
          · obtain ⟨en, clock, g1, g2, g3⟩ := ((k1.inv.live id b hb).ent m2).row
            split at h
            · rename_i i pv hfe
              injection h with h
              subst h
              rcases findE_now hd hkey (en := en.toList) (by simpa using g2.symm) (fun j c e hj he => g3 j c e hj (by simpa using he)) hfe with ⟨e0, _⟩ | ⟨j, x, e, e1, e2, e3, e4, e5, e6⟩
              · cases e0
              · injection e1 with e1
                injection e1 with e1 e1'
                have hij : i = j := by omega
                subst hij
                have hej : en[i]? = some e := by simpa using e3
                have hek : e.key = v := keySame_eq e5
                have k2 := Stp.setMap k1.inv hb m2 (en.modify i fun e => { e with key := v, val := z }) clock (b.es.set i [.v v, y1]) (by simpa using g2) (fun i' c e' hi' he' => by
                  rw [Array.getElem?_modify] at he'
                  by_cases hii : i = i'
                  · subst hii
                    rw [if_pos rfl, hej] at he'
                    rw [List.getElem?_set_self e6] at hi'
                    injection hi' with hi'
                    simp only [Option.map_some, Option.some.injEq] at he'
                    subst he'; subst hi'
                    exact ⟨v, y1, rfl, rfl, hlit, hr⟩
                  · rw [if_neg hii] at he'
                    rw [List.getElem?_set_ne hii] at hi'
                    exact g3 i' c e' hi' he')
                refine ⟨_, S1, G, ?_, k1.trans k2⟩
                simp [Instr.mapUpdate, run_underlying hut, MapKept.run_getObj_map g1, MapKept.run_checkKey hk hkey, MapKept.run_findKey hk e2, hej, hek, MapKept.run_keyThatStays hkey, MapKept.run_setObj_map _ g1, Result.andThen]
            · rename_i hfe
              injection h with h
              subst h
              rcases findE_now hd hkey (en := en.toList) (by simpa using g2.symm) (fun j c e hj he => g3 j c e hj (by simpa using he)) hfe with ⟨_, hn⟩ | ⟨j, x, e, e0, _⟩
              · have k2 := Stp.setMap k1.inv hb m2 (en.push { key := v, val := z, born := clock }) (clock + 1) (b.es ++ [[.v v, y1]]) (by simp [g2]) (fun i' c e' hi' he' => by
                  rw [Array.getElem?_push] at he'
                  split at he'
                  · rename_i hil
                    injection he' with he'
                    subst he'
                    rw [List.getElem?_append_right (by omega)] at hi'
                    have : i' - b.es.length = 0 := by omega
                    rw [this] at hi'
                    simp at hi'
                    exact ⟨v, y1, hi'.symm, rfl, hlit, hr⟩
                  · rename_i hil
                    have hlt : i' < en.size := (Array.getElem?_eq_some_iff.1 he').1
                    rw [List.getElem?_append_left (by omega)] at hi'
                    exact g3 i' c e' hi' he')
                refine ⟨_, S1, G, ?_, k1.trans k2⟩
                simp [Instr.mapUpdate, run_underlying hut, MapKept.run_getObj_map g1, MapKept.run_checkKey hk hkey, MapKept.run_findKey hk hn, MapKept.run_setObj_map _ g1, Result.andThen]
              · cases e0
            · cases h
          · cases h
        · cases h
      · cases h
    · cases h
  · cases h
end
end Go.AM
