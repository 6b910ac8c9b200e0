/-
  The abstract machine, part 1: pure values, what they mean in memory, and that this meaning is kept.
-/
import Derived.WalkKit
namespace Go.AM
open Go.RowKit

/-- A pure value: a slice carries its contents. -/
inductive PV where
  | v (x : Value)
  | nil
  | agg (cs : List PV)
  | tup (cs : List PV)
  | sl (s : Nat) (es : List (List PV))
  | em
  | ptr (cs : List PV)
  | own (id off n : Nat)
  | ref (id i j : Nat)
  | fn (f : Fn) (first captured : List PV)

def lit : Value → Bool
  | .bool _ | .int _ _ | .string _ | .nilFunc | .pointer none | .nilIface | .map none => true
  | _ => false

def PV.isCell : PV → Bool
  | .agg _ | .tup _ => false
  | _ => true

/-- A closed pure value in memory; S: the blocks that will not change. -/
inductive RepC (w : World) (S : Nat → Prop) : PV → Value → Prop
  | v {x : Value} : lit x = true → RepC w S (.v x) x
  | nil : RepC w S .nil (.slice none 0 0)
  | em {ad : Addr} {cap : Nat} : cap ≤ maxLen → RepC w S .em (.slice (some ad) 0 cap)
  | agg {cs : List PV} {us : Array Value} : cs.length = us.size → (∀ (j : Nat) (pv : PV) (u : Value), cs[j]? = some pv → us[j]? = some u → RepC w S pv u) → RepC w S (.agg cs) (.agg us)
  | tup {cs : List PV} {us : Array Value} : cs.length = us.size → (∀ (j : Nat) (pv : PV) (u : Value), cs[j]? = some pv → us[j]? = some u → RepC w S pv u) → RepC w S (.tup cs) (.tuple us)
  | sl {es : List (List PV)} {A : Option Addr} {cap s : Nat} (us : Nat → Nat → Value) : (A = none → cap = 0) → es.length ≤ cap → cap ≤ maxLen → (∀ c ∈ es, c.length = s) →
      (∀ (i j : Nat) (c : List PV) (pv : PV), es[i]? = some c → c[j]? = some pv → ∃ ad, A = some ad ∧ S ad.block ∧ w.cell? (ad.add (i * s + j)) = some (us i j) ∧ (us i j).oneCell' = true) →
      (∀ (i j : Nat) (c : List PV) (pv : PV), es[i]? = some c → c[j]? = some pv → RepC w S pv (us i j)) → RepC w S (.sl s es) (.slice A es.length cap)
  | ptr {cs : List PV} {ad : Addr} (us : Nat → Value) : (∀ (j : Nat) (pv : PV), cs[j]? = some pv → S ad.block ∧ w.cell? (ad.add j) = some (us j)) →
      (∀ (j : Nat) (pv : PV), cs[j]? = some pv → RepC w S pv (us j)) → RepC w S (.ptr cs) (.pointer (some ad))
  | fn {f : Fn} {xs ys : List PV} {us ts : Array Value} : xs.length = us.size → ys.length = ts.size → (∀ (j : Nat) (pv : PV) (u : Value), xs[j]? = some pv → us[j]? = some u → RepC w S pv u) →
      (∀ (j : Nat) (pv : PV) (u : Value), ys[j]? = some pv → ts[j]? = some u → RepC w S pv u) → RepC w S (.fn f xs ys) (.func f us ts)

/-- Where a live block lies: its number, how many cells it has, how many an element. -/
structure GI where
  g : Nat
  z : Nat
  s : Nat

/-- An open pure value: it may name live blocks (below nx). -/
inductive RepO (w : World) (S : Nat → Prop) (G : Nat → GI) (nx : Nat) : PV → Value → Prop
  | c {pv : PV} {x : Value} : RepC w S pv x → RepO w S G nx pv x
  | own {id off n cap : Nat} : id < nx → n ≤ cap → cap ≤ maxLen → (off + cap) * (G id).s = (G id).z → RepO w S G nx (.own id off n) (.slice (some ⟨(G id).g, off * (G id).s, none⟩) n cap)
  | ref {id i j : Nat} : id < nx → RepO w S G nx (.ref id i j) (.pointer (some ⟨(G id).g, i * (G id).s + j, none⟩))
  | agg {cs : List PV} {us : Array Value} : cs.length = us.size → (∀ (j : Nat) (pv : PV) (u : Value), cs[j]? = some pv → us[j]? = some u → RepO w S G nx pv u) → RepO w S G nx (.agg cs) (.agg us)
  | tup {cs : List PV} {us : Array Value} : cs.length = us.size → (∀ (j : Nat) (pv : PV) (u : Value), cs[j]? = some pv → us[j]? = some u → RepO w S G nx pv u) → RepO w S G nx (.tup cs) (.tuple us)
  | fn {f : Fn} {xs ys : List PV} {us ts : Array Value} : xs.length = us.size → ys.length = ts.size → (∀ (j : Nat) (pv : PV) (u : Value), xs[j]? = some pv → us[j]? = some u → RepO w S G nx pv u) →
      (∀ (j : Nat) (pv : PV) (u : Value), ys[j]? = some pv → ts[j]? = some u → RepO w S G nx pv u) → RepO w S G nx (.fn f xs ys) (.func f us ts)

theorem add_block (a : Addr) (n : Nat) : (a.add n).block = a.block := by unfold Addr.add; split <;> rfl
theorem add_add (a : Addr) (i j : Nat) : (a.add i).add j = a.add (i + j) := by
  unfold Addr.add
  by_cases hi : i = 0 <;> by_cases hj : j = 0 <;> simp [hi, hj, Nat.add_assoc]

theorem RepC.mono {w w' : World} {S S' : Nat → Prop} {pv : PV} {x : Value} (h : RepC w S pv x) (hS : ∀ b, S b → S' b ∧ w'.heap[b]? = w.heap[b]?) : RepC w' S' pv x := by
  induction h with
  | v h => exact .v h
  | nil => exact .nil
  | em h => exact .em h
  | agg hl _ ih => exact .agg hl ih
  | tup hl _ ih => exact .tup hl ih
  | sl us h0 h1 h2 h3 h4 _ ih =>
    refine .sl us h0 h1 h2 h3 (fun i j c pv hi hj => ?_) ih
    obtain ⟨ad, e, hs, hc, h1c⟩ := h4 i j c pv hi hj
    refine ⟨ad, e, (hS _ hs).1, ?_, h1c⟩
    rw [← hc]
    apply World.cell?_of_block
    rw [add_block]
    exact (hS _ hs).2
  | ptr us h1 _ ih =>
    refine .ptr us (fun j pv hj => ?_) ih
    obtain ⟨hs, hc⟩ := h1 j pv hj
    refine ⟨(hS _ hs).1, ?_⟩
    rw [← hc]
    apply World.cell?_of_block
    rw [add_block]
    exact (hS _ hs).2
  | fn h1 h2 _ _ i1 i2 => exact .fn h1 h2 i1 i2

theorem RepO.mono {w w' : World} {S S' : Nat → Prop} {G G' : Nat → GI} {nx nx' : Nat} {pv : PV} {x : Value} (h : RepO w S G nx pv x) (hS : ∀ b, S b → S' b ∧ w'.heap[b]? = w.heap[b]?)
    (hn : nx ≤ nx') (hG : ∀ id, id < nx → G' id = G id) : RepO w' S' G' nx' pv x := by
  induction h with
  | c h => exact .c (h.mono hS)
  | own h1 h2 h3 h4 => rw [← hG _ h1] at h4 ⊢; exact .own (by omega) h2 h3 h4
  | ref h1 => rw [← hG _ h1]; exact .ref (by omega)
  | agg hl _ ih => exact .agg hl ih
  | tup hl _ ih => exact .tup hl ih
  | fn h1 h2 _ _ i1 i2 => exact .fn h1 h2 i1 i2

theorem RepC.oneCell {w : World} {S : Nat → Prop} {pv : PV} {x : Value} (h : RepC w S pv x) (hc : pv.isCell = true) : x.oneCell' = true := by
  cases h with
  | v h => cases x <;> simp_all [lit, Value.oneCell']
  | agg => simp [PV.isCell] at hc
  | tup => simp [PV.isCell] at hc
  | _ => rfl

theorem RepO.oneCell {w : World} {S : Nat → Prop} {G : Nat → GI} {nx : Nat} {pv : PV} {x : Value} (h : RepO w S G nx pv x) (hc : pv.isCell = true) : x.oneCell' = true := by
  cases h with
  | c h => exact h.oneCell hc
  | agg => simp [PV.isCell] at hc
  | tup => simp [PV.isCell] at hc
  | _ => rfl

/-- A live block: its element type, whether its cells are closed (an array), its elements. -/
structure Blk where
  e : TypeId
  s : Nat
  arr : Bool
  es : List (List PV)

abbrev Hp := Nat → Option Blk

def upd {α : Type} (f : Nat → α) (k : Nat) (x : α) : Nat → α := fun i => if i = k then x else f i

@[simp] theorem upd_same {α : Type} (f : Nat → α) (k : Nat) (x : α) : upd f k x k = x := by simp [upd]
theorem upd_other {α : Type} (f : Nat → α) (k i : Nat) (x : α) (h : i ≠ k) : upd f k x i = f i := by simp [upd, h]

def CellRep (w : World) (S : Nat → Prop) (G : Nat → GI) (nx : Nat) (arr : Bool) (pv : PV) (u : Value) : Prop :=
  (arr = true → RepC w S pv u) ∧ RepO w S G nx pv u ∧ u.oneCell' = true

structure BlkRep (P : Program) (w : World) (S : Nat → Prop) (G : Nat → GI) (nx : Nat) (gi : GI) (b : Blk) : Prop where
  bs : b.s = gi.s
  size : (P.info? b.e).map (·.size) = some gi.s
  len : ∀ c ∈ b.es, c.length = gi.s
  fit : b.es.length * gi.s ≤ gi.z
  row : ∃ cur : Array Value, w.heap[gi.g]? = some (.cells cur b.e (0, 0)) ∧ cur.size = gi.z ∧
    ∀ (i j : Nat) (c : List PV) (pv : PV), b.es[i]? = some c → c[j]? = some pv → ∃ u, cur[i * gi.s + j]? = some u ∧ CellRep w S G nx b.arr pv u

structure Inv (P : Program) (w : World) (S : Nat → Prop) (G : Nat → GI) (hp : Hp) (nx : Nat) : Prop where
  st : ∀ b, S b → b < w.heap.size
  top : ∀ id b, hp id = some b → id < nx
  live : ∀ id b, hp id = some b → BlkRep P w S G nx (G id) b
  apart : ∀ id b, hp id = some b → ¬ S (G id).g
  inj : ∀ id id' b b', hp id = some b → hp id' = some b' → (G id).g = (G id').g → id = id'

theorem BlkRep.lt {P : Program} {w : World} {S : Nat → Prop} {G : Nat → GI} {nx : Nat} {gi : GI} {b : Blk} (h : BlkRep P w S G nx gi b) : gi.g < w.heap.size := by
  obtain ⟨cur, h1, _⟩ := h.row
  exact (Array.getElem?_eq_some_iff.1 h1).1

theorem CellRep.mono {w w' : World} {S S' : Nat → Prop} {G G' : Nat → GI} {nx nx' : Nat} {arr : Bool} {pv : PV} {u : Value} (h : CellRep w S G nx arr pv u) (hS : ∀ b, S b → S' b ∧ w'.heap[b]? = w.heap[b]?)
    (hn : nx ≤ nx') (hG : ∀ id, id < nx → G' id = G id) : CellRep w' S' G' nx' arr pv u :=
  ⟨fun ha => (h.1 ha).mono hS, h.2.1.mono hS hn hG, h.2.2⟩

theorem BlkRep.mono {P : Program} {w w' : World} {S S' : Nat → Prop} {G G' : Nat → GI} {nx nx' : Nat} {gi : GI} {b : Blk} (h : BlkRep P w S G nx gi b) (hS : ∀ b, S b → S' b ∧ w'.heap[b]? = w.heap[b]?)
    (hn : nx ≤ nx') (hG : ∀ id, id < nx → G' id = G id) (hb : w'.heap[gi.g]? = w.heap[gi.g]?) : BlkRep P w' S' G' nx' gi b := by
  refine ⟨h.bs, h.size, h.len, h.fit, ?_⟩
  obtain ⟨cur, h1, h2, h3⟩ := h.row
  refine ⟨cur, hb.trans h1, h2, fun i j c pv hi hj => ?_⟩
  obtain ⟨u, h4, h5⟩ := h3 i j c pv hi hj
  exact ⟨u, h4, h5.mono hS hn hG⟩

/-- What may have changed between two worlds: the blocks of L, and what is new. -/
structure Fr (w : World) (L : Nat → Prop) (w' : World) : Prop where
  os : w'.os = w.os
  tape : w'.tape = w.tape
  output : w'.output = w.output
  size : w.heap.size ≤ w'.heap.size
  drawn : w.drawn ≤ w'.drawn
  block : ∀ k, k < w.heap.size → ¬ L k → w'.heap[k]? = w.heap[k]?

theorem Fr.refl (w : World) (L : Nat → Prop) : Fr w L w := ⟨rfl, rfl, rfl, Nat.le_refl _, Nat.le_refl _, fun _ _ _ => rfl⟩
theorem Fr.trans {w w' w'' : World} {L : Nat → Prop} (h : Fr w L w') {L' : Nat → Prop} (h' : Fr w' L' w'') (hL : ∀ b, b < w.heap.size → L' b → L b) : Fr w L w'' :=
  ⟨h'.os.trans h.os, h'.tape.trans h.tape, h'.output.trans h.output, Nat.le_trans h.size h'.size, Nat.le_trans h.drawn h'.drawn, fun k hk hn => (h'.block k (Nat.lt_of_lt_of_le hk h.size) (fun hl => hn (hL k hk hl))).trans (h.block k hk hn)⟩
theorem Fr.drew (w : World) (L : Nat → Prop) : Fr w L w.drew := ⟨rfl, rfl, rfl, Nat.le_refl _, Nat.le_succ _, fun _ _ _ => rfl⟩

/-- The state of the abstract machine. -/
structure St where
  σ : Nat → PV
  hp : Hp
  nx : Nat

/-- The concrete state is one of those that the abstract one stands for. w0: the world at the call's start; S0: what could be read then; L: what was lent. -/
structure SimAt (P : Program) (w0 : World) (S0 L : Nat → Prop) (N nx0 : Nat) (G0 : Nat → GI) (st : St) (S : Nat → Prop) (G : Nat → GI) (a : Act) (w : World) : Prop where
  inv : Inv P w S G st.hp st.nx
  slots : ∀ t, RepO w S G st.nx (st.σ t) (a.tmps.getD t undef)
  size : a.tmps.size = N
  defers : a.defers = []
  s0 : ∀ b, S0 b → S b
  s1 : ∀ b, S b → S0 b ∨ L b ∨ w0.heap.size ≤ b
  own : ∀ id b, st.hp id = some b → L (G id).g ∨ w0.heap.size ≤ (G id).g
  fr : Fr w0 L w
  up : nx0 ≤ st.nx
  loc : ∀ id, id < nx0 → G id = G0 id

def Sim (P : Program) (w0 : World) (S0 L : Nat → Prop) (N nx0 : Nat) (G0 : Nat → GI) (st : St) (a : Act) (w : World) : Prop := ∃ S G, SimAt P w0 S0 L N nx0 G0 st S G a w

end Go.AM
