/-
  strings.SplitSeq: the function over which a loop ranges gives the parts, one a round.
  ReadRange.
  rule.CheckCond: what it computes.
-/
import Derived.Test.YtfjeckcbnhohmaaGreatDoorG7
import Derived.RangeFuncBox
import Derived.RangeFuncLeaves
import Derived.Shelf.Abstract
import Derived.WalkKit
import Derived.OwnWalkIn
import Derived.TacticsInMore
import Derived.LoopNIn
import Derived.LoopIn
import Derived.Test.YtfjeckcbnhohmaaGreatDoorG12
import Derived.Test.YtfjeckcbnhohmaaGreatDoorG5
import Derived.Test.YtfjeckcbnhohmaaGreatDoorG8
namespace Go.Proofs.YtfjeckcbnhohmaaGreatDoor
open Go.RowKit Go.AM
attribute [local go_sem] Oper.semAt_some
theorem spec_calls {P : Program} {g : FuncId} {F : List PV → Option PV} {us : List Value} {v : Value} (h : SpecSound P g (hPure false [] F)) (hF : hPure false [] F (us.map PV.v) (fun _ => none) 0 = some (.v v, fun _ => none, 0)) (hl : ∀ u ∈ us, lit u = true) {W : World} (hG : Glo P W fun b => b < W.heap.size) :
    Calls P g us.toArray W fun e w' => e = .returned v ∧ Fr W (fun _ => False) w' := by
  have hz : Zip (RepO W (fun b => b < W.heap.size) (fun _ => ⟨0, 0, 0⟩) 0) (us.map PV.v) us := by
    induction us with
    | nil => exact .nil
    | cons u us ih => exact .cons (.c (.v (hl u (by simp)))) (by
        clear hF
        have : ∀ us : List Value, (∀ u ∈ us, lit u = true) → Zip (RepO W (fun b => b < W.heap.size) (fun _ => ⟨0, 0, 0⟩) 0) (us.map PV.v) us := by
          intro us
          induction us with
          | nil => intro _; exact .nil
          | cons u us ih => intro h; exact .cons (.c (.v (h u (by simp)))) (ih fun x hx => h x (by simp [hx]))
        exact this us fun x hx => hl x (by simp [hx]))
  refine (h.2 _ _ _ _ _ _ hF W (fun b => b < W.heap.size) (fun _ => ⟨0, 0, 0⟩) us (inv_empty _ (fun b hb => hb) hG) hz).mono fun e w' hh => ?_
  obtain ⟨x, S', G', rfl, st, hx⟩ := hh
  obtain ⟨rfl, _⟩ := hx.v_inv
  exact ⟨rfl, ⟨st.fr.os, st.fr.tape, st.fr.output, st.fr.size, st.fr.drawn, fun k hk _ => st.fr.block k hk fun ⟨_, _, h, _⟩ => by cases h⟩⟩
theorem fr_cell {W W' : World} {L : Nat → Prop} (h : Fr W L W') {a : Addr} {v : Value} (hc : W.cell? a = some v) (hn : ¬ L a.block) : W'.cell? a = some v := by
  rw [← hc]
  exact World.cell?_of_block (h.block _ (cell_lt hc) hn)
def encB (l : List (List UInt8)) : List Value := l.map fun p => .string ⟨p.toArray⟩
/-- How long the string in a cell is. -/
def strAt (w : World) (b : Nat) : Nat := match w.cell? ⟨b, 0, none⟩ with
  | some (.string s) => s.size
  | _ => 0
/-- A cell that can be written. -/
def CellAt (w : World) (b : Nat) (v : Value) : Prop := ∃ cs ty, w.heap[b]? = some (.cells cs ty (0, 0)) ∧ cs[0]? = some v
theorem CellAt.cell {w : World} {b : Nat} {v : Value} (h : CellAt w b v) : w.cell? ⟨b, 0, none⟩ = some v := by
  obtain ⟨cs, ty, h1, h2⟩ := h
  simp [World.cell?, h1, h2]
theorem CellAt.free {w : World} {b : Nat} {v : Value} (h : CellAt w b v) : w.frozen? ⟨b, 0, none⟩ = false := by
  obtain ⟨cs, ty, h1, h2⟩ := h
  simp [World.frozen?, h1]
theorem CellAt.same {w w' : World} {b : Nat} {v : Value} (h : CellAt w b v) (e : w'.heap[b]? = w.heap[b]?) : CellAt w' b v := by
  obtain ⟨cs, ty, h1, h2⟩ := h
  exact ⟨cs, ty, e.trans h1, h2⟩
theorem CellAt.lt {w : World} {b : Nat} {v : Value} (h : CellAt w b v) : b < w.heap.size := by
  obtain ⟨cs, ty, h1, h2⟩ := h
  exact (Array.getElem?_eq_some_iff.1 h1).1
theorem CellAt.set {w : World} {b : Nat} {v : Value} (u : Value) (h : CellAt w b v) : CellAt (w.setCell ⟨b, 0, none⟩ u) b u := by
  obtain ⟨cs, ty, h1, h2⟩ := h
  have hl := (Array.getElem?_eq_some_iff.1 h2).1
  refine ⟨cs.setIfInBounds 0 u, ty, ?_, by simp [hl]⟩
  simp [World.setCell, Array.getElem?_modify, h1]
theorem CellAt.setFr {w : World} {b : Nat} (u : Value) (B : Nat → Prop) (hB : B b) : Fr w B (w.setCell ⟨b, 0, none⟩ u) :=
  ⟨rfl, rfl, rfl, by simp [World.setCell], Nat.le_refl _, fun k _ hn => by
    have : ¬ b = k := fun e => hn (e ▸ hB)
    simp [World.setCell, Array.getElem?_modify, this]⟩
theorem CellAt.str {w : World} {b : Nat} {s : ByteArray} (h : CellAt w b (.string s)) : strAt w b = s.size := by
  unfold strAt
  rw [h.cell]
set_option maxRecDepth 100000 in
set_option maxHeartbeats 2000000 in
theorem splitSeq1_in (n l B1 B2 B3 : Nat) (sep t : List UInt8) (hs1 : 1 ≤ sep.length) (hs2 : sep.length ≤ lim) (ht : t.length ≤ lim) (h12 : B1 ≠ B2) (h23 : B3 ≠ B2) (J Jx : List Value → World → Prop)
    (hJ : ∀ pre W W', J pre W → Fr W (fun b => b = B1 ∨ b = B2 ∨ b = B3) W' → J pre W') (hGl : ∀ pre W, J pre W → Glo Tryz.prog W fun b => b < W.heap.size)
    (hY : ∀ pre x W, J pre W → (encB (splitL t sep))[pre.length]? = some x → YieldAt Fence.wide n Tryz.prog l #[x] W fun e W' => (e = .returned (.bool true) ∧ J (pre ++ [x]) W' ∧ (∀ b, (b = B1 ∨ b = B2 ∨ b = B3) → W'.heap[b]? = W.heap[b]?) ∧ W.heap.size ≤ W'.heap.size) ∨ (e = .returned (.bool false) ∧ Jx (pre ++ [x]) W'))
    (W : World) (h0 : J [] W) (h1 : W.cell? ⟨B1, 0, none⟩ = some (.string ⟨sep.toArray⟩)) (h2 : CellAt W B2 (.string ⟨t.toArray⟩)) (h3 : W.cell? ⟨B3, 0, none⟩ = some (.int .i64 0)) :
    CallsIn Fence.wide (n + 1) Tryz.prog 265 #[.func (.yield l) #[] #[], .pointer (some ⟨B1, 0, none⟩), .pointer (some ⟨B2, 0, none⟩), .pointer (some ⟨B3, 0, none⟩)] W fun e W' => (∃ v, e = .returned v) ∧ (J (encB (splitL t sep)) W' ∨ ∃ pre, Jx pre W') := by
  refine callsIn_of_wp Tryz.func265 rfl trivial ?_ rfl
  simp only [Tryz.ntmps265, List.size_toArray, List.length_cons, List.length_nil, Nat.reduceAdd, Nat.reduceSub, Array.replicate_succ, Array.replicate_zero, List.push_toArray, List.append_toArray, List.nil_append, List.cons_append]
  have h2c := h2.cell
  have hse : ((sep.length : Int) == 0) = false := beq_eq_false_iff_ne.2 (by omega)
  gi_wp2
  try simp only [hse]
  have hx : ∀ cur : List UInt8, cur.length ≤ lim → ∀ wr : World, Glo Tryz.prog wr (fun b => b < wr.heap.size) → Calls Tryz.prog 200 #[.string ⟨cur.toArray⟩, .string ⟨sep.toArray⟩] wr fun e w' => e = .returned (.int .i64 (Lib.index cur sep)) ∧ Fr wr (fun _ => False) w' := fun cur hc wr hg => by
    exact spec_calls (us := [.string ⟨cur.toArray⟩, .string ⟨sep.toArray⟩]) sIndex_sound (idx_call cur sep _ _ hc hs2) (by simp [lit]) hg
  gi_loopw [] (fun wr => ∃ (done : List (List UInt8)) (cur : List UInt8), splitL t sep = done ++ splitL cur sep ∧ cur.length ≤ t.length ∧ J (encB done) wr ∧ wr.cell? ⟨B1, 0, none⟩ = some (.string ⟨sep.toArray⟩) ∧ CellAt wr B2 (.string ⟨cur.toArray⟩) ∧ wr.cell? ⟨B3, 0, none⟩ = some (.int .i64 0))
    (fun wr => strAt wr B2)
  case atStart => exact ⟨[], t, rfl, Nat.le_refl _, h0, h1, h2, h3⟩
  case round =>
    obtain ⟨done, cur, hsp, hcl, hJs, c1, k2, c3⟩ := hrel
    have c2 := k2.cell
    have hg := hGl _ _ hJs
    gi_wp2
    refine ⟨trivial, callsIn_wide.2 ((hx cur (Nat.le_trans hcl ht) wr hg).mono ?_)⟩
    rintro e w1 ⟨rfl, fr⟩
    dsimp only
    have d1 := fr_cell fr c1 (fun h => h)
    have m2 := k2.same (fr.block _ k2.lt fun h => h)
    have d2 := m2.cell
    have d3 := fr_cell fr c3 (fun h => h)
    have hJ1 := hJ _ _ _ hJs ⟨fr.os, fr.tape, fr.output, fr.size, fr.drawn, fun k hk _ => fr.block k hk fun h => h⟩
    have hel : (encB done).length = done.length := by simp [encB]
    by_cases hneg : Lib.index cur sep < 0
    · have hsk : splitL cur sep = [cur] := by
        have hm : Lib.index cur sep = -1 := by
          rcases Lib.index_spec cur sep with ⟨h, _⟩ | ⟨i, h, _⟩
          · exact h
          · omega
        unfold splitL Lib.split
        rw [Lib.count_miss hm]
        rfl
      have hu : (encB (splitL t sep))[(encB done).length]? = some (.string ⟨cur.toArray⟩) := by
        rw [hsp, hsk, hel]
        simp [encB]
      obtain ⟨fn, tmps, assign, body, hy, hR⟩ := hY _ _ w1 hJ1 hu
      gi_wp2
      refine hR.mono ?_
      rintro e W3 (⟨rfl, hJ3, hk3, hz3⟩ | ⟨rfl, hJx3⟩)
      · gi_wp2
        go_end0
        refine ⟨⟨_, rfl⟩, .inl ?_⟩
        rw [hsp, hsk]
        simpa [encB] using hJ3
      · gi_wp2
        go_end0
        exact ⟨⟨_, rfl⟩, .inr ⟨_, hJx3⟩⟩
    · obtain ⟨i, hi⟩ : ∃ i : Nat, Lib.index cur sep = i := ⟨(Lib.index cur sep).toNat, by omega⟩
      have hne : sep ≠ [] := by rintro rfl; simp at hs1
      have hsk : splitL cur sep = cur.take i :: splitL (cur.drop (i + sep.length)) sep := by
        unfold splitL Lib.split
        rw [Lib.count_hit hne hi, Nat.add_comm 1, splitK_hit hi]
      have htk : (cur.drop (i + sep.length)).take (cur.length - (i + sep.length)) = cur.drop (i + sep.length) := List.take_of_length_le (by simp)
      have hroom := Lib.index_room cur sep (by omega)
      rw [hi] at hroom
      unfold lim at ht hs2
      have hwi : wrap64 (i : Int) = (i : Int) := by unfold wrap64; omega
      have hu : (encB (splitL t sep))[(encB done).length]? = some (.string ⟨(cur.take i).toArray⟩) := by
        rw [hsp, hsk, hel]
        simp [encB]
      obtain ⟨fn, tmps, assign, body, hy, hR⟩ := hY _ _ w1 hJ1 hu
      rw [hi]
      gi_wp2
      refine hR.mono ?_
      rintro e W3 (⟨rfl, hJ3, hk3, hz3⟩ | ⟨rfl, hJx3⟩)
      · have e1 : W3.cell? ⟨B1, 0, none⟩ = some (.string ⟨sep.toArray⟩) := by rw [← d1]; exact World.cell?_of_block (hk3 B1 (.inl rfl))
        have o2 := m2.same (hk3 B2 (.inr (.inl rfl)))
        have e2 := o2.cell
        have e4 := o2.free
        have e3 : W3.cell? ⟨B3, 0, none⟩ = some (.int .i64 0) := by rw [← d3]; exact World.cell?_of_block (hk3 B3 (.inr (.inr rfl)))
        gi_wp2
        go_roundw
        case rel =>
          refine ⟨done ++ [cur.take i], cur.drop (i + sep.length), by rw [hsp, hsk]; simp, by simp; omega, ?_, ?_, ?_, ?_⟩
          · have := hJ _ _ _ hJ3 (CellAt.setFr (w := W3) (b := B2) (.string ⟨(cur.drop (i + sep.length)).toArray⟩) (fun b => b = B1 ∨ b = B2 ∨ b = B3) (.inr (.inl rfl)))
            simpa [encB] using this
          · exact fr_cell (CellAt.setFr (w := W3) (b := B2) _ (fun b => b = B2) rfl) e1 h12
          · exact o2.set (.string ⟨(cur.drop (i + sep.length)).toArray⟩)
          · exact fr_cell (CellAt.setFr (w := W3) (b := B2) _ (fun b => b = B2) rfl) e3 h23
        case measure =>
          have := o2.set (.string ⟨(cur.drop (i + sep.length)).toArray⟩)
          rw [this.str, k2.str]
          simp
          omega
      · gi_wp2
        refine bodyPost_ret (results_none rfl _ _ _) rfl ?_
        exact ⟨⟨_, rfl⟩, .inr ⟨_, hJx3⟩⟩
/-- What strings.SplitSeq's function gives: the parts; what it keeps: its three boxes. -/
def itSplit : IterSpec := fun cap hp => match cap with
  | [.ref i1 0 0, .ref i2 0 0, .ref i3 0 0] => match hp i1, hp i2, hp i3 with
    | some ⟨_, 1, false, [[.v (.string sep)]]⟩, some ⟨_, 1, false, [[.v (.string t)]]⟩, some ⟨_, 1, false, [[.v (.int .i64 0)]]⟩ =>
      if i1 ≠ i2 ∧ i3 ≠ i2 ∧ 1 ≤ sep.data.toList.length ∧ sep.data.toList.length ≤ lim ∧ t.data.toList.length ≤ lim then some ((splitL t.data.toList sep.data.toList).map str, upd (upd (upd hp i1 none) i2 none) i3 none) else none
    | _, _, _ => none
  | _ => none
theorem live_cell {P : Program} {w : World} {S : Nat → Prop} {G : Nat → GI} {hp : Hp} {nx id e : Nat} {u : Value} (hi : Inv P w S G hp nx) (hb : hp id = some ⟨e, 1, false, [[.v u]]⟩) : CellAt w (G id).g u := by
  have hl := hi.live id _ hb
  have hs : (G id).s = 1 := hl.bs.symm
  obtain ⟨cur, h1, h2, h3⟩ := hl.row (by omega)
  obtain ⟨x, h4, h5⟩ := h3 0 0 [.v u] (.v u) rfl rfl
  obtain ⟨rfl, _⟩ := h5.2.1.v_inv
  exact ⟨cur, e, h1, by simpa [hs] using h4⟩
set_option maxRecDepth 100000 in
theorem split_iter : IterSound Tryz.prog 265 itSplit := by
  refine ⟨⟨_, Tryz.func265, by kernel_rfl, by kernel_rfl⟩, fun cap hp nx xs hp1 h => ?_⟩
  unfold itSplit at h
  split at h
  case h_2 => cases h
  rename_i i1 i2 i3
  split at h
  case h_2 => cases h
  rename_i e1 sep e2 t e3 b1 b2 b3
  split at h
  case isFalse => cases h
  rename_i hc
  obtain ⟨n12, n32, hs1, hs2, ht⟩ := hc
  injection h with h
  injection h with ha hb
  subst ha; subst hb
  have hsub : ∀ id b, upd (upd (upd hp i1 none) i2 none) i3 none id = some b → hp id = some b ∧ id ≠ i1 ∧ id ≠ i2 ∧ id ≠ i3 := fun id b hb => by
    by_cases q3 : id = i3
    · subst q3; rw [upd_same] at hb; cases hb
    rw [upd_other _ _ _ _ q3] at hb
    by_cases q2 : id = i2
    · subst q2; rw [upd_same] at hb; cases hb
    rw [upd_other _ _ _ _ q2] at hb
    by_cases q1 : id = i1
    · subst q1; rw [upd_same] at hb; cases hb
    rw [upd_other _ _ _ _ q1] at hb
    exact ⟨hb, q1, q2, q3⟩
  refine ⟨encB (splitL t.data.toList sep.data.toList), by simp [encB], by simp [encB, lit], fun id b hb => (hsub id b hb).1, fun w S G vs hi hz => ?_⟩
  obtain ⟨v1, r1, rfl, z1, hz⟩ := hz.uncons
  obtain ⟨v2, r2, rfl, z2, hz⟩ := hz.uncons
  obtain ⟨v3, r3, rfl, z3, hz⟩ := hz.uncons
  obtain rfl := hz.unnil
  have c1 := live_cell hi b1
  have c2 := live_cell hi b2
  have c3 := live_cell hi b3
  obtain ⟨_, rfl⟩ := z1.ref_inv
  obtain ⟨_, rfl⟩ := z2.ref_inv
  obtain ⟨_, rfl⟩ := z3.ref_inv
  have g12 : (G i1).g ≠ (G i2).g := fun e => n12 (hi.inj _ _ _ _ b1 b2 e)
  have g32 : (G i3).g ≠ (G i2).g := fun e => n32 (hi.inj _ _ _ _ b3 b2 e)
  refine ⟨fun b => b = (G i1).g ∨ b = (G i2).g ∨ b = (G i3).g, ?_, ?_⟩
  · have key : ∀ i blk, hp i = some blk → (i = i1 ∨ i = i2 ∨ i = i3) → liveIn hp G (G i).g ∧ Away S G (upd (upd (upd hp i1 none) i2 none) i3 none) (G i).g := fun i blk hb hi' =>
      ⟨⟨i, blk, hb, rfl⟩, hi.apart i blk hb, fun id b' hid e => by
        obtain ⟨q0, q1, q2, q3⟩ := hsub id b' hid
        have := hi.inj _ _ _ _ q0 hb e
        subst this
        rcases hi' with h | h | h
        · exact q1 h
        · exact q2 h
        · exact q3 h⟩
    rintro b (rfl | rfl | rfl)
    · exact key i1 _ b1 (.inl rfl)
    · exact key i2 _ b2 (.inr (.inl rfl))
    · exact key i3 _ b3 (.inr (.inr rfl))
  · intro n l J Jx hJ hJx hGl hY W h0 hW _
    have := splitSeq1_in n l (G i1).g (G i2).g (G i3).g sep.data.toList t.data.toList hs1 hs2 ht g12 g32 J Jx hJ hGl hY W h0 (c1.same (hW _ (.inl rfl))).cell (c2.same (hW _ (.inr (.inl rfl)))) (c3.same (hW _ (.inr (.inr rfl)))).cell
    simpa using this
end Go.Proofs.YtfjeckcbnhohmaaGreatDoor
namespace Go.AM
open Go.RowKit
/-- l: the specs; g: a function over which a loop ranges, and what it gives. -/
def mkCtxI (P : Program) (l : Tab) (g : FuncId) (it : IterSpec) : Ctx := ⟨P, lookup l, fun _ => [], fun _ => [], fun _ => false, fun _ => [], fun k => if k = g then some it else none⟩
@[simp] theorem mkCtxI_P (P : Program) (l : Tab) (g : FuncId) (it : IterSpec) : (mkCtxI P l g it).P = P := rfl
@[simp] theorem call_mkI (P : Program) (l : Tab) (k : FuncId) (it : IterSpec) (hp : Hp) (nx g : Nat) (x y xs : List PV) : callVal (mkCtxI P l k it) hp nx (some (.fn (.func g) x y)) xs = (lookup l g).bind fun s => s (x ++ xs ++ y) hp nx := by
  unfold callVal mkCtxI
  simp only
  cases lookup l g <;> rfl
@[simp] theorem EvC_region_mkI (P : Program) (l : Tab) (k : FuncId) (it : IterSpec) (i : Nat) (ops : Array Oper) (d : Bool) (st : St) (K : Exit → St → Prop) : EvC (mkCtxI P l k it) (.region i ops d) st K = EvL (mkCtxI P l k it) ops ops.toList st (normK K) := EvC_region _ i ops d st K rfl rfl
theorem good_ofI {P : Program} {l : Tab} {q : List Nat} {k : FuncId} {it : IterSpec} (hm : P.follows .mixedOrders = true) (h : AllOk P q l) (hi : IterSound P k it) : AM.Good (mkCtxI P l k it) (fun g => q.contains g) :=
  let g := good_of hm h
  ⟨g.spec, g.quiet, g.mixed, (fun _ _ h => by cases h), (fun j it' h => by
    have : (if j = k then some it else none) = some it' := h
    split at this
    · rename_i e
      injection this with this
      subst this; subst e
      exact hi
    · cases this)⟩
@[simp] theorem asgK_n (C : Ctx) (b : Code) (K : Exit → St → Prop) (st : St) : asgK C b K .normal st = EvC C b st K := rfl
@[simp] theorem rngK_n (I : Nat → Hp → Nat → Prop) (k : Nat) (σ : Nat → PV) (K : Exit → St → Prop) (st : St) : rngK I k σ K .normal st = I (k + 1) st.hp st.nx := rfl
@[simp] theorem rngK_r (I : Nat → Hp → Nat → Prop) (k : Nat) (σ : Nat → PV) (K : Exit → St → Prop) (st : St) : rngK I k σ K .ret st = K .ret ⟨σ, st.hp, st.nx⟩ := rfl
theorem ownS_box {hp : Hp} {nx e s : Nat} {v : PV} {xs : List (List PV)} (h : OwnS hp nx e s v xs) {j : Nat} {b : Blk} (hb : hp j = some b) (ha : b.arr = false) : ∀ n, v ≠ .own j 0 n := by
  rcases h with ⟨rfl, _⟩ | ⟨id, h1, rfl, h2⟩
  · intro n e; cases e
  · intro n e
    injection e with e
    subst e
    rw [h2] at hb
    injection hb with hb
    subst hb
    cases ha
end Go.AM
namespace Go.Proofs.YtfjeckcbnhohmaaGreatDoor
open Go.RowKit Go.AM
noncomputable def rrP (t : List UInt8) : PV := .tup [.sl 11 (encR (rdRange t).1), int (rdRange t).2]
/-! ### SplitSeq -/
set_option maxRecDepth 100000 in
theorem splitSeq_sound : SpecSound Tryz.prog 210 (hRun C0 Tryz.f210) := hRun_sound (code := _) good0 ⟨Tryz.func210, by kernel_rfl, rfl, by kernel_rfl⟩
noncomputable abbrev Csq : Ctx := mkCtx Tryz.prog [(210, hRun C0 Tryz.f210)]
theorem goodsq : AM.Good Csq (fun g => ([] : List Nat).contains g) := good_of mixed ⟨splitSeq_sound, by simp, trivial⟩
set_option maxRecDepth 100000 in
theorem sseq_sound : SpecSound Tryz.prog 153 (hRun Csq Tryz.f153) := hRun_sound (code := _) goodsq ⟨Tryz.func153, by kernel_rfl, rfl, by kernel_rfl⟩
def hpSq (t sep : List UInt8) (hp : Hp) (nx : Nat) : Hp := upd (upd (upd hp nx (some ⟨9, 1, false, [[str t]]⟩)) (nx + 1) (some ⟨9, 1, false, [[str sep]]⟩)) (nx + 1 + 1) (some ⟨3, 1, false, [[int 0]]⟩)
theorem splitSeq_run (t sep : List UInt8) (hp : Hp) (nx : Nat) : hRun C0 Tryz.f210 [str t, str sep, int 0] hp nx = some (.fn (.func 265) [] [.ref (nx + 1) 0 0, .ref nx 0 0, .ref (nx + 1 + 1) 0 0], hpSq t sep hp nx, nx + 1 + 1 + 1) := by
  unfold hRun
  rw [if_pos (by simp [Tryz.f210])]
  refine evalFunc_eq rfl ?_
  simp [hpSq, Tryz.f210]
theorem sseq_run (t sep : List UInt8) (hp : Hp) (nx : Nat) : hRun Csq Tryz.f153 [str t, str sep] hp nx = some (.fn (.func 265) [] [.ref (nx + 1) 0 0, .ref nx 0 0, .ref (nx + 1 + 1) 0 0], hpSq t sep hp nx, nx + 1 + 1 + 1) := by
  have h1 := fun hp nx => splitSeq_run t sep hp nx
  unfold hRun
  rw [if_pos (by simp [Tryz.f153])]
  refine evalFunc_eq rfl ?_
  simp [h1, Tryz.f153]
/-! ### a range under way -/
/-- A range, given or the call's own. -/
def HasR (hp : Hp) (nx : Nat) (v : PV) (m : List Str) : Prop := v = .sl 11 (encR m) ∨ (v = .nil ∧ m = []) ∨ ∃ id, id < nx ∧ v = .own id 0 (encR m).length ∧ hp id = some ⟨208, 11, true, encR m⟩
theorem HasR.frz {hp : Hp} {nx : Nat} {v : PV} {m : List Str} (h : HasR hp nx v m) : ∃ y hp1, freezeVal hp v = some (y, hp1) ∧ (Sh.s 11 spat).fix y = .sl 11 (encR m) ∧ (∀ j, (∀ n, v ≠ .own j 0 n) → hp1 j = hp j) ∧ ∀ j b, hp1 j = some b → hp j = some b := by
  rcases h with rfl | ⟨rfl, rfl⟩ | ⟨id, h1, rfl, h2⟩
  · exact ⟨_, hp, rfl, spat_fix m, fun _ _ => rfl, fun _ _ h => h⟩
  · exact ⟨_, hp, rfl, rfl, fun _ _ => rfl, fun _ _ h => h⟩
  · refine ⟨.sl 11 (encR m), upd hp id none, by simp [h2], spat_fix m, fun j hj => upd_miss _ _ _ _ fun e => hj _ (by subst e; rfl), fun j b hb => ?_⟩
    by_cases e : j = id
    · subst e; rw [upd_same] at hb; cases hb
    · rwa [upd_other _ _ _ _ e] at hb
theorem HasR.keep {hp hp' : Hp} {nx nx' : Nat} {v : PV} {m : List Str} (h : HasR hp nx v m) (hn : nx ≤ nx') (hh : ∀ id, id < nx → (∀ n, v = .own id 0 n → hp' id = hp id)) : HasR hp' nx' v m := by
  rcases h with rfl | ⟨rfl, rfl⟩ | ⟨id, h1, rfl, h2⟩
  · exact .inl rfl
  · exact .inr (.inl ⟨rfl, rfl⟩)
  · exact .inr (.inr ⟨id, by omega, rfl, by rw [hh id h1 _ rfl]; exact h2⟩)
theorem HasR.len {hp : Hp} {nx : Nat} {v : PV} {m : List Str} (h : HasR hp nx v m) : lenA Tryz.prog 152 v = some (int m.length) := by
  rcases h with rfl | ⟨rfl, rfl⟩ | ⟨id, h1, rfl, h2⟩ <;> simp [encR]
theorem HasR.box {hp : Hp} {nx : Nat} {v : PV} {m : List Str} (h : HasR hp nx v m) {j : Nat} {b : Blk} (hb : hp j = some b) (he : b.e ≠ 208) : ∀ n, v ≠ .own j 0 n := by
  rcases h with rfl | ⟨rfl, rfl⟩ | ⟨id, h1, rfl, h2⟩
  · intro n e; cases e
  · intro n e; cases e
  · intro n e
    injection e with e
    subst e
    rw [h2] at hb
    injection hb with hb
    subst hb
    exact he rfl
theorem HasR.lt {hp : Hp} {nx : Nat} {v : PV} {m : List Str} (h : HasR hp nx v m) {j n : Nat} (e : v = .own j 0 n) : j < nx := by
  rcases h with rfl | ⟨rfl, rfl⟩ | ⟨id, h1, rfl, h2⟩
  · cases e
  · cases e
  · injection e with e; omega
theorem st_call (c : Cpn) (hp : Hp) (nx : Nat) (h : c.ok) : hPureN [.g mpat] (FCm strP) [.agg c.enc] hp nx = some (strP c, hp, nx) :=
  hPureN_v (show freezeVals hp [.agg c.enc] = some ([.agg c.enc], hp) by simp [Cpn.enc]) (by
    have e1 : (Sh.g mpat).fix (.agg c.enc) = .agg c.enc := by simp [Cpn.enc]
    show FCm strP [(Sh.g mpat).fix (.agg c.enc)] = _
    rw [e1]
    exact specOf_eq (enc := fun v : Cpn => [PV.agg v.enc]) (a := c) (fun a b e => by simp only [List.cons.injEq, and_true] at e; injection e with e; exact cpenc_inj e) h) (.inr (by simp [Cpn.enc]))
theorem cmb_call (f : Bool → Bool → Bool) (g : Nat) (hg : (f = and ∧ g = 158) ∨ (f = or ∧ g = 159)) {hp : Hp} {nx : Nat} {v w : PV} {a b : List Str} (ha : HasR hp nx v a) (hb : HasR hp nx w b) (hne : ∀ id n k, v = .own id 0 n → w ≠ .own id 0 k) (h1 : smallR a) (h2 : smallR b) :
    ∃ x hp' nx', hFreshN [.s 11 spat, .s 11 spat] FCmb [v, w, .fn (.func g) [] []] hp nx = some (x, hp', nx') ∧ HasR hp' nx' x (combL f a b) ∧ nx ≤ nx' ∧ (∀ j, j < nx → (∀ n, v ≠ .own j 0 n) → (∀ n, w ≠ .own j 0 n) → hp' j = hp j) ∧ (∀ n j, x = .own j 0 n → nx ≤ j) ∧ ∀ s es, x ≠ .sl s es := by
  obtain ⟨y, hp1, f1, e1, k1, _⟩ := ha.frz
  have hb' : HasR hp1 nx w b := hb.keep (Nat.le_refl _) fun id _ n e => k1 id fun n' e' => hne id n' n e' e
  obtain ⟨z, hp2, f2, e2, k2, _⟩ := hb'.frz
  have hfr : freezeVals hp [v, w, .fn (.func g) [] []] = some ([y, z, .fn (.func g) [] []], hp2) := by
    simp only [freezeVals, f1, f2]
    rfl
  have hF : FCmb (fixL [.s 11 spat, .s 11 spat] (normArgs [] [y, z, .fn (.func g) [] []])) = some (combR f a b) := by
    show FCmb [(Sh.s 11 spat).fix y, (Sh.s 11 spat).fix z, .fn (.func g) [] []] = _
    rw [e1, e2]
    rcases hg with ⟨rfl, rfl⟩ | ⟨rfl, rfl⟩
    · have := specOf_eq (enc := fun a : List Str × List Str => [PV.sl 11 (encR a.1), .sl 11 (encR a.2), .fn (.func 158) [] []]) (pre := fun a => smallR a.1 ∧ smallR a.2) (out := fun a => combR and a.1 a.2) (a := (a, b)) (cmb_inj _) ⟨h1, h2⟩
      unfold FCmb
      rw [this]
    · have := specOf_eq (enc := fun a : List Str × List Str => [PV.sl 11 (encR a.1), .sl 11 (encR a.2), .fn (.func 159) [] []]) (pre := fun a => smallR a.1 ∧ smallR a.2) (out := fun a => combR or a.1 a.2) (a := (a, b)) (cmb_inj _) ⟨h1, h2⟩
      have hno : specOf (α := List Str × List Str) (fun a => [PV.sl 11 (encR a.1), .sl 11 (encR a.2), .fn (.func 158) [] []]) (fun a => smallR a.1 ∧ smallR a.2) (fun a => combR and a.1 a.2) [PV.sl 11 (encR a), .sl 11 (encR b), .fn (.func 159) [] []] = none := by
        cases hh : specOf (α := List Str × List Str) (fun a => [PV.sl 11 (encR a.1), .sl 11 (encR a.2), .fn (.func 158) [] []]) (fun a => smallR a.1 ∧ smallR a.2) (fun a => combR and a.1 a.2) [PV.sl 11 (encR a), .sl 11 (encR b), .fn (.func 159) [] []] with
        | none => rfl
        | some r =>
          obtain ⟨_, e, _⟩ := specOf_inv hh
          simp at e
      unfold FCmb
      rw [hno]
      exact this
  unfold hFreshN hFresh
  by_cases hz : combL f a b = []
  · have hF' := hF
    unfold combR at hF'
    rw [if_pos hz] at hF'
    simp only [hfr, hF']
    exact ⟨_, _, _, rfl, .inr (.inl ⟨rfl, hz⟩), Nat.le_refl _, fun j _ q1 q2 => (k2 j q2).trans (k1 j q1), fun n j e => (by cases e), fun s es e => (by cases e)⟩
  · have hF' := hF
    unfold combR at hF'
    rw [if_neg hz] at hF'
    simp only [hfr, hF']
    exact ⟨_, _, _, rfl, .inr (.inr ⟨nx, by omega, rfl, by simp⟩), by omega, fun j hj q1 q2 => by rw [upd_miss _ _ _ _ (by omega)]; exact (k2 j q2).trans (k1 j q1), fun n j e => (by injection e with e; omega), fun s es e => (by cases e)⟩
/-! ### ReadRange -/
noncomputable abbrev Crrg : Ctx := mkCtxI Tryz.prog [(153, hRun Csq Tryz.f153), (154, hPure false [] (FSP1 altP)), (155, hPureN [] (FUnit everyP)), (156, hPureN [.g mpat] (FCm strP)), (157, hFreshN [.s 11 spat, .s 11 spat] FCmb), (160, hPureN [.g spat] (FSt idS))] 265 itSplit
theorem goodrr : AM.Good Crrg (fun g => ([] : List Nat).contains g) := good_ofI mixed ⟨sseq_sound, by simp, alternative_sound, by simp, everything_sound, by simp, stretches_sound, by simp, combine_sound, by simp, copyStretch_sound, by simp, trivial⟩ split_iter
set_option maxRecDepth 8000 in
set_option maxHeartbeats 4000000 in
theorem readRange_eval (t : List UInt8) (ht : t.length + 1 ≤ lim) : ∃ r0, evalPure Crrg Tryz.f112 [str t] = some r0 ∧ Stands r0 (rrP t) := by
  refine evalPureF2_of (sh := .s 11 spat) rfl ?_
  by_cases h400 : (400 : Int) < t.length
  · have hv : rdRange t = ([], 2) := by unfold rdRange; rw [if_pos h400]
    simp [h400, rrP, hv, encR, pureF2, Tryz.f112]
  have hsq := fun hp nx => sseq_run t [124, 124] hp nx
  obtain ⟨parts, hparts⟩ : ∃ parts, splitL t [124, 124] = parts := ⟨_, rfl⟩
  have hpl : ∀ p ∈ parts, p.length ≤ 400 := fun p hp => by have := splitL_mem (by rw [hparts]; exact hp); omega
  have hpn : parts.length ≤ 401 := by have := splitL_len (s := t) (sep := [124, 124]) (by simp); rw [hparts] at this; omega
  have hval : rdRange t = match rrA parts with
    | none => ([], 10)
    | some ls => match joinL ls [] with
      | none => ([], 1)
      | some o => if (100 : Int) < o.length then ([], 2) else (o, 0) := by unfold rdRange; rw [if_neg h400, hparts]; rfl
  simp [h400, hsq]
  refine EvC_range (p := 23) (xs := parts.map str) rfl (by simp; exact ⟨rfl, rfl⟩) (it := itSplit) rfl (by simp [itSplit, hpSq, hparts]; exact ⟨⟨by decide, by omega⟩, rfl⟩) (fun k hp nx => ∃ (v : PV) (done : List (List Cpn)), 6 ≤ nx ∧ hp 0 = some ⟨152, 1, false, [[.nil]]⟩ ∧ hp 1 = some ⟨29, 1, false, [[int 0]]⟩ ∧ hp 2 = some ⟨186, 1, false, [[v]]⟩ ∧
      OwnS hp nx 190 1 v (done.map fun l => [.sl 11 (encM l)]) ∧ done.length = k ∧ rrA parts = (rrA (parts.drop k)).map (done ++ ·)) ?_ ?_ ?_
  · exact ⟨.nil, [], by simp, by simp, by simp, by simp, .inl ⟨rfl, rfl⟩, rfl, by rw [List.drop_zero]; cases rrA parts <;> rfl⟩
  · rintro k hp nx hk ⟨v, done, hnx, b0, b1, b2, hO, hdk, he⟩
    have hk' : k < parts.length := by simpa using hk
    have hpk : (parts.map str)[k] = str parts[k] := by simp
    have hpkl := hpl parts[k] (List.getElem_mem hk')
    have halt := fun hp nx => FSP1_call altP parts[k] hp nx (by unfold lim; omega)
    simp only [altP] at halt
    rw [hpk]
    rw [List.drop_eq_getElem_cons hk'] at he
    simp only [rrA] at he
    cases hok : (altR parts[k]).2
    · rw [hok] at he
      simp only [Bool.false_eq_true, if_false, Option.map_none] at he
      rw [he] at hval
      have n0 : ¬ 0 = nx := by omega
      have n1 : ¬ 1 = nx := by omega
      simp [halt, hok, b0, b1, rrP, hval, encR, pureF2, Tryz.f112]
    · rw [hok] at he
      simp only [if_true] at he
      have hap := OwnS.append1 (P := Tryz.prog) (t := 186) (c := [.sl 11 (encM (altR parts[k]).1)]) hO el186 sz190 by190 ze190 rfl (by omega) (by simp [hdk]; unfold maxLen; omega) (by simp [hdk]; omega)
      have k0 := fun hp' => killV_other hO hp' 0 (ownS_box hO b0 rfl)
      have k1 := fun hp' => killV_other hO hp' 1 (ownS_box hO b1 rfl)
      have k2 := fun hp' => killV_other hO hp' 2 (ownS_box hO b2 rfl)
      have n0 : ¬ 0 = nx := by omega
      have n1 : ¬ 1 = nx := by omega
      have n2 : ¬ 2 = nx := by omega
      have n3 : ¬ 1 = nx + 1 := by omega
      have n4 : ¬ 2 = nx + 1 := by omega
      have n5 : ¬ nx + 1 = 2 := by omega
      simp [halt, hok, b0, b1, b2, hap, k0, k1, k2, n0, n1, n2, n3, n4, n5, buildSliceA, setElems, freezeParts]
      refine ⟨by omega, by rw [upd_miss _ _ _ _ (by omega), k1, upd_miss _ _ _ _ (by omega)]; exact b1, done ++ [(altR parts[k]).1], .inr ⟨nx + 1, by omega, by simp, by rw [upd_miss _ _ _ _ (by omega)]; simp⟩, by simp [hdk], ?_⟩
      rw [he]
      cases rrA (parts.drop (k + 1)) <;> simp
  · rintro hp nx ⟨v, done, hnx, b0, b1, b2, hO, hdk, he⟩
    rw [List.length_map] at hdk
    rw [List.length_map, List.drop_length] at he
    simp only [rrA, Option.map_some, List.append_nil] at he
    obtain ⟨hgood, hdl⟩ := rrA_good parts done 400 hpl he
    rw [he] at hval
    simp only at hval
    have hlen := hO.len el186
    rw [List.length_map] at hlen
    have hdn : done.length ≤ 401 := by omega
    obtain ⟨rows, hrows⟩ : ∃ rows, done.map (fun l => [PV.sl 11 (encM l)]) = rows := ⟨_, rfl⟩
    rw [hrows] at hO
    have hrl : rows.length = done.length := by rw [← hrows]; simp
    simp [b2, hlen]
    refine EvC_for (fun i σ hp nx => σ 2 = .ref 0 0 0 ∧ σ 3 = .ref 1 0 0 ∧ σ 35 = v ∧ σ 36 = int done.length ∧ σ 37 = int i ∧ 6 ≤ nx ∧ hp 0 = some ⟨152, 1, false, [[.nil]]⟩ ∧ hp 1 = some ⟨29, 1, false, [[int 0]]⟩ ∧
        OwnS hp nx 190 1 v rows ∧ ∃ o, HasR hp nx (σ 8) o ∧ (∀ s es, σ 8 ≠ .sl s es) ∧ goodR o ∧ o.length ≤ i * 500 ∧ joinL done [] = joinL (done.drop i) o) done.length
      ⟨by simp, by simp, by simp, by simp, by simp, hnx, b0, b1, hO, [], .inr (.inl ⟨by simp, rfl⟩), by simp, (by intro s hs; cases hs), by simp, by simp⟩ ?_
    clear hnx b0 b1 b2 hO hlen hp nx
    rintro i σ hp nx hi ⟨h2, h3, h35, h36, h37, hnx, b0, b1, hO, o, hR, hsl, hgo, hol, hj⟩
    by_cases hlt : i < done.length
    · obtain ⟨idA, hidA, rfl, hbA⟩ := hO.at_ (by omega)
      obtain ⟨l, hl⟩ : ∃ l, done[i] = l := ⟨_, rfl⟩
      have hri : ∀ h : i < rows.length, rows[i] = [PV.sl 11 (encM l)] := fun h => by
        have : rows[i]? = some [PV.sl 11 (encM l)] := by rw [← hrows, List.getElem?_map, List.getElem?_eq_getElem hlt, hl]; rfl
        rw [List.getElem?_eq_getElem h] at this
        injection this
      obtain ⟨hgl, hll⟩ := hgood l (by rw [← hl]; exact List.getElem_mem hlt)
      rw [List.drop_eq_getElem_cons hlt, hl] at hj
      simp only [joinL] at hj
      have hev : ∀ (hp : Hp) (nx : Nat), hPureN [] (FUnit everyP) [] hp nx = some (.sl 11 (encR [fromS leastC]), hp, nx) := fun hp nx => FUnit_call _ hp nx
      have hwi : IntKind.i64.wrap ((i : Int) + 1) = (i : Int) + 1 := wrap_fit (by omega) (by omega)
      have hel : (encM l).length = l.length := by simp [encM]
      simp [h2, h3, h35, h36, h37, hlt, hrl, hbA, hri, hev, hel]
      refine EvC_for (fun k σ hp nx => σ 2 = .ref 0 0 0 ∧ σ 3 = .ref 1 0 0 ∧ σ 35 = .own idA 0 rows.length ∧ σ 36 = int done.length ∧ σ 37 = int i ∧ 6 ≤ nx ∧ hp 0 = some ⟨152, 1, false, [[.nil]]⟩ ∧ hp 1 = some ⟨29, 1, false, [[int 0]]⟩ ∧
          OwnS hp nx 190 1 (.own idA 0 rows.length) rows ∧ HasR hp nx (σ 8) o ∧ (∀ s es, σ 8 ≠ .sl s es) ∧ σ 42 = .sl 11 (encM l) ∧ σ 43 = int l.length ∧ σ 44 = int k ∧ ∃ m, HasR hp nx (σ 11) m ∧ goodR m ∧ m.length ≤ k + 1 ∧ (∀ id n n', σ 8 = .own id 0 n → σ 11 ≠ .own id 0 n') ∧ meetL l [fromS leastC] = meetL (l.drop k) m) l.length
        ⟨by simp [h2], by simp [h3], by simp [h35, hrl], by simp [h36], by simp [h37], hnx, b0, b1, hO, by simpa using hR, by simpa using hsl, by simp, by simp, by simp, [fromS leastC], .inl (by simp), (from_good leastC_good).2, by simp, by simp, by simp⟩ ?_
      clear h2 h3 h35 h36 h37 hnx b0 b1 hO hR hsl hi hbA hidA σ hp nx
      rintro k σ hp nx hk ⟨h2, h3, h35, h36, h37, hnx, b0, b1, hO, hR, hsl, h42, h43, h44, m, hM, hgm, hml, hap, hme⟩
      by_cases hltk : k < l.length
      · obtain ⟨c, hc⟩ : ∃ c, l[k] = c := ⟨_, rfl⟩
        have hcg : c.good := hgl c (by rw [← hc]; exact List.getElem_mem hltk)
        obtain ⟨hs1, hs2⟩ := strS_good hcg
        have hke : ∀ h : k < (encM l).length, (encM l)[k] = c.enc := fun h => by simp [encM, hc]
        have hst := fun hp nx => st_call c hp nx hcg.ok
        have hwk : IntKind.i64.wrap ((k : Int) + 1) = (k : Int) + 1 := wrap_fit (by omega) (by omega)
        rw [List.drop_eq_getElem_cons hltk, hc] at hme
        simp only [meetL] at hme
        have n0 : ¬ 0 = nx := by omega
        have n1 : ¬ 1 = nx := by omega
        cases hok : (strS c).2
        · rw [hok] at hme
          simp only [Bool.false_eq_true, if_false] at hme
          rw [hme] at hj
          simp only at hj
          rw [hj] at hval
          simp only at hval
          simp only [strP, Cpn.enc] at hst hke
          simp [h2, h3, h35, h36, h37, h42, h43, h44, hltk, hel, hke, hst, hok, b0, b1, n0, n1, rrP, hval, encR, pureF2, Tryz.f112]
        · rw [hok] at hme
          simp only [if_true] at hme
          have hM' : HasR (upd hp nx (some ⟨198, 11, false, [c.enc]⟩)) (nx + 1) (σ 11) m := hM.keep (by omega) fun id hid n e => upd_miss _ _ _ _ (by omega)
          obtain ⟨x, hp', nx', hcomb, hX, hnx', hfr, hfresh, hxs⟩ := cmb_call and 158 (.inl ⟨rfl, rfl⟩) hM' (.inl rfl : HasR _ _ (.sl 11 (encR (strS c).1)) (strS c).1) (fun id n k e e2 => by cases e2) (hgm.small (by unfold lim; omega)) (goodR.small hs2 (by unfold lim; omega))
          have hpres : ∀ j, j < nx → (∀ n, σ 11 ≠ .own j 0 n) → hp' j = hp j := fun j hj q => by
            rw [hfr j (by omega) q (fun n e => by cases e), upd_miss _ _ _ _ (by omega)]
          have hlm := combL_len and m (strS c).1
          obtain ⟨idA2, hidA, heA, hbA⟩ := hO.at_ (by omega)
          injection heA with heA
          subst heA
          simp only [strP, Cpn.enc] at hst hke hcomb
          simp [h2, h3, h35, h36, h37, h42, h43, h44, hltk, hel, hke, hst, hok, hcomb, hwk]
          exact ⟨by omega, by omega, by rw [hpres 0 (by omega) (hM.box b0 (by decide))]; exact b0, by rw [hpres 1 (by omega) (hM.box b1 (by decide))]; exact b1, .inr ⟨idA, by omega, rfl, by rw [hpres idA hidA (hM.box hbA (by simp))]; exact hbA⟩, hR.keep (by omega) (fun id hid n e => hpres id hid fun n' => hap id n n' e), hsl, _, hX, combL_good and hgm hs2, by omega, fun id n n' e e2 => by have := hR.lt e; have := hfresh _ _ e2; omega, hme⟩
      · obtain rfl : k = l.length := by omega
        rw [List.drop_length] at hme
        simp only [meetL] at hme
        rw [hme] at hj
        simp only at hj
        obtain ⟨x, hp', nx', hcomb, hX, hnx', hfr, hfresh, hxs⟩ := cmb_call or 159 (.inr ⟨rfl, rfl⟩) hR hM hap (hgo.small (by unfold lim; omega)) (hgm.small (by unfold lim; omega))
        have hlm := combL_len or o m
        obtain ⟨idA2, hidA, heA, hbA⟩ := hO.at_ (by omega)
        injection heA with heA
        subst heA
        simp [h2, h3, h35, h36, h37, h42, h43, h44, hcomb, hwi]
        exact ⟨by omega, hrl, by omega, by rw [hfr 0 (by omega) (hR.box b0 (by decide)) (hM.box b0 (by decide))]; exact b0, by rw [hfr 1 (by omega) (hR.box b1 (by decide)) (hM.box b1 (by decide))]; exact b1, .inr ⟨idA, by omega, by rw [hrl], by rw [hfr idA hidA (hR.box hbA (by simp)) (hM.box hbA (by simp))]; exact hbA⟩, _, hX, hxs, combL_good or hgo hgm, by omega, hj⟩
    · obtain rfl : i = done.length := by omega
      rw [List.drop_length] at hj
      simp only [joinL] at hj
      rw [hj] at hval
      simp only at hval
      have hlenR := hR.len
      by_cases h100 : (100 : Int) < o.length
      · rw [if_pos h100] at hval
        simp [h2, h3, h36, h37, hlenR, h100, b0, b1, rrP, hval, encR, pureF2, Tryz.f112]
      rw [if_neg h100] at hval
      simp [h2, h3, h36, h37, hlenR, h100]
      obtain ⟨w, hw8⟩ : ∃ w, σ 8 = w := ⟨_, rfl⟩
      rw [hw8] at hR hsl
      refine EvC_for (fun j σ hp nx => σ 2 = .ref 0 0 0 ∧ σ 3 = .ref 1 0 0 ∧ σ 8 = w ∧ σ 66 = w ∧ σ 67 = int o.length ∧ σ 68 = int j ∧ 6 ≤ nx ∧ hp 0 = some ⟨152, 1, false, [[.nil]]⟩ ∧ hp 1 = some ⟨29, 1, false, [[int 0]]⟩ ∧ HasR hp nx w o) o.length
        ⟨by simp [h2], by simp [h3], by simp [hw8], by simp [hw8], by simp, by simp, hnx, b0, b1, hR⟩ ?_
      clear h2 h3 h35 h36 h37 hnx b0 b1 hO hR hi hw8 σ hp nx hlenR
      rintro j σ hp nx hjl ⟨h2, h3, h8, h66, h67, h68, hnx, b0, b1, hR⟩
      by_cases hltj : j < o.length
      · have hwj : IntKind.i64.wrap ((j : Int) + 1) = (j : Int) + 1 := wrap_fit (by omega) (by omega)
        rcases hR with rfl | ⟨rfl, rfl⟩ | ⟨id, hid, rfl, hb⟩
        · exact absurd rfl (hsl _ _)
        · simp at hltj
        · obtain ⟨s, hs⟩ : ∃ s, o[j] = s := ⟨_, rfl⟩
          have hgs := hgo s (by rw [← hs]; exact List.getElem_mem hltj)
          have hel : (encR o).length = o.length := by simp [encR]
          have hke : ∀ h : j < (encR o).length, (encR o)[j] = s.enc := fun h => by simp [encR, hs]
          have hset : (encR o).set j s.enc = encR o := by
            have h' : j < (encR o).length := by omega
            rw [← hke h']; exact List.set_getElem_self h'
          have hcp : ∀ hp nx, hPureN [.g spat] (FSt idS) [.agg s.enc] hp nx = some (.agg s.enc, hp, nx) := fun hp nx => FSt_call idS s (.agg s.enc) hp nx ⟨hgs.1.small, hgs.2.small⟩ (by simp [Str.enc, Cut.enc]) (by simp [Str.enc, Cut.enc]) (by simp [Str.enc, Cut.enc])
          have m1 : ¬ id = nx := by omega
          simp only [Str.enc, Cut.enc, List.cons_append, List.nil_append] at hke hcp hset
          have i0 : ¬ 0 = id := fun e => by rw [← e] at hb; rw [hb] at b0; simp at b0
          have i1 : ¬ 1 = id := fun e => by rw [← e] at hb; rw [hb] at b1; simp at b1
          have n0 : ¬ 0 = nx := by omega
          have n1 : ¬ 1 = nx := by omega
          simp [h2, h3, h8, h66, h67, h68, hltj, hel, hb, hke, hcp, m1, hwj, hset]
          exact ⟨by omega, by omega, by simp [i0, n0, b0], by simp [i1, n1, b1], .inr (.inr ⟨id, by omega, by rw [hel], by simp⟩)⟩
      · obtain rfl : j = o.length := by omega
        rcases hR with rfl | ⟨rfl, rfl⟩ | ⟨id, hid, rfl, hb⟩
        · exact absurd rfl (hsl _ _)
        · simp [h2, h3, h8, h66, h67, h68, b0, b1, rrP, hval, pureF2, encR, Tryz.f112]
        · have i0 : ¬ id = 0 := fun e => by rw [e] at hb; rw [hb] at b0; simp at b0
          have i1 : ¬ id = 1 := fun e => by rw [e] at hb; rw [hb] at b1; simp at b1
          have hfx := spat_fix o
          simp only [Sh.fix_s, PV.sl.injEq, true_and] at hfx
          simp [h2, h3, h8, h66, h67, h68, b0, b1, hb, i0, i1, rrP, hval, pureF2, hfx, Tryz.f112]
theorem readRange_sound : SpecSound Tryz.prog 112 (hPure false [] (FSP1 rrP)) :=
  pureG (fn := Tryz.f112) goodrr ⟨_, Tryz.func112, by kernel_rfl, rfl, by kernel_rfl⟩ false [] _ fun args r h w S vs hz => by
    obtain ⟨l, rfl, hp, rfl⟩ := specOf_inv h
    obtain ⟨r0, h1, h2⟩ := readRange_eval l hp
    exact ⟨_, r0, hz, by simp [Tryz.f112], h1, h2⟩
end Go.Proofs.YtfjeckcbnhohmaaGreatDoor
namespace Go.Proofs.YtfjeckcbnhohmaaGreatDoor
open Go.RowKit Go.AM
def usesV (op : Int) : Bool := inB op 2 6 || op == 12
def usesP (op : Int) : Bool := inB op 7 11
def isOrd (op : Int) : Bool := inB op 3 6
noncomputable abbrev Cwi : Ctx := mkCtx Tryz.prog [(65, hPure false [] (F3 inB))]
theorem goodwi : AM.Good Cwi (fun g => [65].contains g) := good_of mixed ⟨within_sound, fun _ => hPure_quiet _ _, trivial⟩
@[simp] theorem quietwi : QuietIn Cwi 65 := quietIn_of (by rfl) (hPure_quiet _ _)
def FIb (f : Int → Bool) : List PV → Option PV
  | [.v (.int .i64 a)] => some (boo (f a))
  | _ => none
theorem FIb_inv {f : Int → Bool} {args : List PV} {r : PV} (h : FIb f args = some r) : ∃ a, args = [int a] ∧ r = boo (f a) := by
  unfold FIb at h
  split at h
  · injection h with h; exact ⟨_, rfl, h.symm⟩
  · cases h
@[simp] theorem FIb_call (f : Int → Bool) (a : Int) (hp : Hp) (nx : Nat) : hPure false [] (FIb f) [.v (.int .i64 a)] hp nx = some (boo (f a), hp, nx) := hPure_v rfl rfl (.inl rfl)
theorem usesV_sound : SpecSound Tryz.prog 107 (hPure false [] (FIb usesV)) :=
  pureS (fn := Tryz.f107) goodwi ⟨_, Tryz.func107, by kernel_rfl, rfl, by kernel_rfl⟩ false [] _ fun args r h => by
    obtain ⟨a, rfl, rfl⟩ := FIb_inv h
    exact ⟨by simp [Tryz.f107], _, evalPure_of rfl (by simp [usesV, Tryz.f107]), up_of _⟩
theorem usesP_sound : SpecSound Tryz.prog 69 (hPure false [] (FIb usesP)) :=
  pureS (fn := Tryz.f69) goodwi ⟨_, Tryz.func69, by kernel_rfl, rfl, by kernel_rfl⟩ false [] _ fun args r h => by
    obtain ⟨a, rfl, rfl⟩ := FIb_inv h
    exact ⟨by simp [Tryz.f69], _, evalPure_of rfl (by simp [usesP, Tryz.f69]), up_of _⟩
theorem isOrd_sound : SpecSound Tryz.prog 108 (hPure false [] (FIb isOrd)) :=
  pureS (fn := Tryz.f108) goodwi ⟨_, Tryz.func108, by kernel_rfl, rfl, by kernel_rfl⟩ false [] _ fun args r h => by
    obtain ⟨a, rfl, rfl⟩ := FIb_inv h
    exact ⟨by simp [Tryz.f108], _, evalPure_of rfl (by simp [isOrd, Tryz.f108]), up_of _⟩
/-! ### measure -/
noncomputable abbrev Cms (n : Nat) : Ctx := mkCtx Tryz.prog [(33, hPure false [] (FC (fun c => .tup [int c.parts, int c.levels]) n))]
set_option maxRecDepth 8000 in
theorem measure_eval (n : Nat) (c : Cnd) (h : c.cb ≤ lim ∧ c.cb ≤ n + 1) : evalPure (Cms n) Tryz.f33 [.agg c.enc] = some (.tup [int c.parts, int c.levels]) := by
  have hpl := cparts_le c
  have hpe := cparts_eq c
  have hcb := cb_eq c
  have hle := clevels_eq c
  have hll := clevels_le c
  have hl1 := cbs_length c.args
  obtain ⟨ha, hb⟩ := h
  unfold lim at ha
  refine evalPure_of rfl ?_
  simp
  refine EvC_for (fun k σ hp nx => σ 9 = .sl 7 (c.args.map Cnd.enc) ∧ σ 10 = int c.args.length ∧ σ 11 = int k ∧ σ 2 = int ((1 + partsC (c.args.take k) : Nat) : Int) ∧ σ 3 = int (levelsC (c.args.take k))) c.args.length
    ⟨by simp, by simp, by simp, by simp [partsC], by simp [levelsC]⟩ ?_
  rintro k σ hp nx hk ⟨h9, h10, h11, h2, h3⟩
  by_cases hlt : k < c.args.length
  · obtain ⟨t1, t2⟩ := takeC hlt
    have hm := cbs_mem (List.getElem_mem hlt)
    have hw : IntKind.i64.wrap ((k : Int) + 1) = (k : Int) + 1 := wrap_fit (by omega) (by omega)
    have hple := partsC_le c.args k
    have hple2 := partsC_le c.args (k + 1)
    have hpp := partsC_le' c.args fun x hx => cparts_le x
    have hcall := fun hp nx => FC_call (fun c => .tup [int c.parts, int c.levels]) n c.args[k] hp nx ⟨by unfold lim; omega, by omega⟩
    have w1 : IntKind.i64.wrap (((1 + partsC (c.args.take k) : Nat) : Int) + c.args[k].parts) = ((1 + partsC (c.args.take (k + 1)) : Nat) : Int) := by rw [wrap_fit (by omega) (by omega), t1]; omega
    have w2 : (if (levelsC (c.args.take k)) < c.args[k].levels then (c.args[k].levels : Int) else levelsC (c.args.take k)) = (levelsC (c.args.take (k + 1)) : Int) := by rw [t2]; split <;> omega
    simp [h2, h3, h9, h10, h11, hlt, hcall, hw]
    exact ⟨by omega, by rw [wrap_fit (by omega) (by omega), t1]; omega, w2⟩
  · obtain rfl : k = c.args.length := by omega
    rw [List.take_length] at h2 h3
    have w1 : IntKind.i64.wrap ((levelsC c.args : Int) + 1) = (c.levels : Int) := by rw [wrap_fit (by omega) (by omega), hle]; omega
    simp [h2, h3, h9, h10, h11, w1, pureR, Tryz.f33]
    omega
set_option maxRecDepth 100000 in
theorem measure_sound : ∀ n, SpecSound Tryz.prog 33 (hPure false [] (FC (fun c => .tup [int c.parts, int c.levels]) n)) := by
  intro n
  induction n with
  | zero => exact FC_zero ⟨_, Tryz.func33, by kernel_rfl, by kernel_rfl⟩
  | succ n ih =>
    have hg : AM.Good (Cms n) (fun g => ([] : List Nat).contains g) := good_of mixed ⟨ih, by simp, trivial⟩
    exact pureS (fn := Tryz.f33) hg ⟨_, Tryz.func33, by kernel_rfl, rfl, by kernel_rfl⟩ false [] _ fun args r h => by
      obtain ⟨c, rfl, hc, rfl⟩ := FC_inv h
      exact ⟨Nat.le_trans (Nat.le_refl 1) (by decide), _, measure_eval n c hc, up_of _⟩
/-! ### checkForm -/
def w1F (c : Cnd) : Bool := !(c.kind == 4) && (!c.attr.isEmpty || c.op != 0 || decide (0 < c.vals.length) || !c.pat.isEmpty)
def w2F (c : Cnd) : Bool := c.kind != 5 && !c.name.isEmpty
def w3F (c : Cnd) : Bool := !inB c.kind 1 3 && decide (0 < c.args.length)
def w4F (c : Cnd) : Bool := c.kind == 4 && !usesV c.op && decide (0 < c.vals.length)
def w5F (c : Cnd) : Bool := c.kind == 4 && !usesP c.op && !c.pat.isEmpty
def w6F (c : Cnd) : Bool := c.kind == 3 && (c.args.length : Int) != 1
def w7F (c : Cnd) : Bool := c.kind == 4 && isOrd c.op && (c.vals.length : Int) != 1
def formF (c : Cnd) : Bool := w1F c || w2F c || w3F c || w4F c || w5F c || w6F c || w7F c
noncomputable abbrev Cfo : Ctx := mkCtx Tryz.prog [(65, hPure false [] (F3 inB)), (107, hPure false [] (FIb usesV)), (69, hPure false [] (FIb usesP)), (108, hPure false [] (FIb isOrd))]
theorem goodfo : AM.Good Cfo (fun g => [65, 107, 69, 108].contains g) := good_of mixed ⟨within_sound, fun _ => hPure_quiet _ _, usesV_sound, fun _ => hPure_quiet _ _, usesP_sound, fun _ => hPure_quiet _ _, isOrd_sound, fun _ => hPure_quiet _ _, trivial⟩
@[simp] theorem quietfo1 : QuietIn Cfo 65 := quietIn_of (by rfl) (hPure_quiet _ _)
@[simp] theorem quietfo2 : QuietIn Cfo 107 := quietIn_of (by rfl) (hPure_quiet _ _)
@[simp] theorem quietfo3 : QuietIn Cfo 69 := quietIn_of (by rfl) (hPure_quiet _ _)
@[simp] theorem quietfo4 : QuietIn Cfo 108 := quietIn_of (by rfl) (hPure_quiet _ _)
set_option maxRecDepth 8000 in
theorem checkForm_eval (c : Cnd) (h : c.cb ≤ lim) : evalPure Cfo Tryz.f66 [.agg c.enc] = some (int (if formF c = true then 3 else 0)) := by
  refine evalPure_of rfl ?_
  have e1 : (!(c.kind == 4) && (!c.attr.isEmpty || c.op != 0 || decide (0 < c.vals.length) || !c.pat.isEmpty)) = w1F c := rfl
  have e2 : (c.kind != 5 && !c.name.isEmpty) = w2F c := rfl
  have e3 : (!inB c.kind 1 3 && decide (0 < c.args.length)) = w3F c := rfl
  have e4 : (c.kind == 4 && !usesV c.op && decide (0 < c.vals.length)) = w4F c := rfl
  have e5 : (c.kind == 4 && !usesP c.op && !c.pat.isEmpty) = w5F c := rfl
  have e6 : (c.kind == 3 && (c.args.length : Int) != 1) = w6F c := rfl
  have e7 : (c.kind == 4 && isOrd c.op && (c.vals.length : Int) != 1) = w7F c := rfl
  cases h1 : w1F c
  case true => simp [e1, h1, formF, Tryz.f66]
  cases h2 : w2F c
  case true => simp [e1, h1, e2, h2, formF, Tryz.f66]
  cases h3 : w3F c
  case true => simp [e1, h1, e2, h2, e3, h3, formF, Tryz.f66]
  cases h4 : w4F c
  case true => simp [e1, h1, e2, h2, e3, h3, e4, h4, formF, Tryz.f66]
  cases h5 : w5F c
  case true => simp [e1, h1, e2, h2, e3, h3, e4, h4, e5, h5, formF, Tryz.f66]
  cases h6 : w6F c
  case true => simp [e1, h1, e2, h2, e3, h3, e4, h4, e5, h5, e6, h6, formF, Tryz.f66]
  cases h7 : w7F c
  case true => simp [e1, h1, e2, h2, e3, h3, e4, h4, e5, h5, e6, h6, e7, h7, formF, Tryz.f66]
  simp [e1, h1, e2, h2, e3, h3, e4, h4, e5, h5, e6, h6, e7, h7, formF, Tryz.f66]
theorem checkForm_sound : SpecSound Tryz.prog 66 (GC fun c => int (if formF c = true then 3 else 0)) :=
  pureS (fn := Tryz.f66) goodfo ⟨_, Tryz.func66, by kernel_rfl, rfl, by kernel_rfl⟩ false [] _ fun args r h => by
    obtain ⟨c, rfl, hc, rfl⟩ := FC_inv h
    exact ⟨by simp [Tryz.f66], _, checkForm_eval c hc.1, up_of _⟩
/-! ### checkValues -/
noncomputable def cPrevV (p : Option Val) (v : Val) : Bool := match p with
  | none => false
  | some p => decide (0 ≤ cmpVal p v)
def typeF (op : Int) (v : Val) : Bool := v.kind == 0 || isOrd op && v.kind != 2
noncomputable def valF (op : Int) : Option Val → List Val → Int
  | _, [] => 0
  | p, v :: l => if v.check = 0 then (if typeF op v = true then 6 else if cPrevV p v = true then 8 else valF op (some v) l) else v.check
noncomputable def valsF (op : Int) (l : List Val) : Int := if (100 : Int) < l.length then 2 else valF op none l
def prevV (l : List Val) (k : Nat) : Option Val := if k = 0 then none else l[k - 1]?
noncomputable def FIv (f : Int → List Val → PV) : List PV → Option PV := specOf (α := Int × List Val) (fun a => [int a.1, .sl 5 (a.2.map Val.enc)]) (fun a => vbs a.2 ≤ lim) (fun a => f a.1 a.2)
theorem FIv_call (f : Int → List Val → PV) (op : Int) (l : List Val) (hp : Hp) (nx : Nat) (h : vbs l ≤ lim) : hPure false [] (FIv f) [int op, .sl 5 (l.map Val.enc)] hp nx = some (f op l, hp, nx) :=
  hPure_v (hp1 := hp) (show freezeVals hp [int op, .sl 5 (l.map Val.enc)] = some ([int op, .sl 5 (l.map Val.enc)], hp) by simp) (specOf_eq (enc := fun a : Int × List Val => [int a.1, .sl 5 (a.2.map Val.enc)]) (a := (op, l)) (fun x y e => by
    obtain ⟨x1, x2⟩ := x; obtain ⟨y1, y2⟩ := y
    simp only [List.cons.injEq, and_true] at e
    obtain ⟨e1, e2⟩ := e
    injection e2 with _ e2
    rw [pint_inj e1, encVs_inj e2]) h) (.inr (by simp))
noncomputable abbrev Ccv2 : Ctx := mkCtx Tryz.prog [(110, GV fun v => int v.check), (108, hPure false [] (FIb isOrd)), (111, hPure false [] (FCV lim))]
theorem goodcv2 : AM.Good Ccv2 (fun g => [108, 111].contains g) := good_of mixed ⟨check_sound, by simp, isOrd_sound, fun _ => hPure_quiet _ _, vcompare_sound lim, fun _ => hPure_quiet _ _, trivial⟩
@[simp] theorem quietcv2a : QuietIn Ccv2 108 := quietIn_of (by rfl) (hPure_quiet _ _)
@[simp] theorem quietcv2b : QuietIn Ccv2 111 := quietIn_of (by rfl) (hPure_quiet _ _)
set_option maxRecDepth 8000 in
theorem checkValues_eval (op : Int) (l : List Val) (h : vbs l ≤ lim) : evalPure Ccv2 Tryz.f68 [int op, .sl 5 (l.map Val.enc)] = some (int (valsF op l)) := by
  have hlen := vbs_length l
  unfold lim at h
  refine evalPure_of rfl ?_
  by_cases h100 : (100 : Int) < l.length
  · have hv : valsF op l = 2 := by unfold valsF; rw [if_pos h100]
    simp [h100, hv, Tryz.f68]
  have hv : valsF op l = valF op none l := by unfold valsF; rw [if_neg h100]
  rw [hv]
  simp [h100]
  refine EvC_for (fun k σ hp nx => σ 0 = int op ∧ σ 1 = .sl 5 (l.map Val.enc) ∧ σ 11 = .sl 5 (l.map Val.enc) ∧ σ 12 = int l.length ∧ σ 13 = int k ∧ valF op none l = valF op (prevV l k) (l.drop k)) l.length
    ⟨by simp, by simp, by simp, by simp, by simp, by simp [prevV]⟩ ?_
  rintro k σ hp nx hk ⟨h0, h1, h11, h12, h13, he⟩
  by_cases hlt : k < l.length
  · have hm := vbs_mem (List.getElem_mem hlt)
    have hw : IntKind.i64.wrap ((k : Int) + 1) = (k : Int) + 1 := wrap_fit (by omega) (by omega)
    have hck := fun hp nx => GV_call (fun v => int v.check) l[k] hp nx (by unfold lim; omega)
    rw [List.drop_eq_getElem_cons hlt] at he
    simp only [valF] at he
    have hpn : prevV l (k + 1) = some l[k] := by simp [prevV, hlt]
    have ety : (l[k].kind == 0 || isOrd op && l[k].kind != 2) = typeF op l[k] := rfl
    by_cases hz : l[k].check = 0
    case neg =>
      rw [if_neg hz] at he
      have hz2 : (l[k].check != 0) = true := by simpa using hz
      simp [h0, h1, h11, h12, h13, hlt, hck, hz2, he, Tryz.f68]
    rw [if_pos hz] at he
    cases hty : typeF op l[k]
    case true =>
      rw [hty, if_pos rfl] at he
      simp [h0, h1, h11, h12, h13, hlt, hck, hz, ety, hty, he, Tryz.f68]
    rw [hty, if_neg (by simp)] at he
    by_cases k0 : k = 0
    · subst k0
      have hp0 : cPrevV (prevV l 0) l[0] = false := rfl
      rw [hp0, if_neg (by simp)] at he
      simp [h0, h1, h11, h12, h13, hlt, hck, hz, ety, hty, hw]
      exact ⟨by omega, by rw [he, show prevV l 1 = some l[0] from hpn]; simp⟩
    · obtain ⟨j, rfl⟩ : ∃ j, k = j + 1 := ⟨k - 1, by omega⟩
      have hj : j < l.length := by omega
      have hmj := vbs_mem (List.getElem_mem hj)
      have wj : IntKind.i64.wrap ((j : Int) + 1 - 1) = (j : Int) := by rw [wrap_fit (by omega) (by omega)]; omega
      have wj' : IntKind.i64.wrap (j : Int) = (j : Int) := wrap_fit (by omega) (by omega)
      have j1 : ((j : Int) + 1).toNat = j + 1 := by omega
      have j2 : 0 < (j : Int) + 1 := by omega
      have j3 : 0 ≤ (j : Int) + 1 := by omega
      have j4 : (j : Int) + 1 < l.length := by omega
      have hcm := fun hp nx => FCV_call lim l[j] l[j + 1] hp nx ⟨by unfold lim; omega, by unfold lim; omega, by unfold lim; omega⟩
      have hpv : cPrevV (prevV l (j + 1)) l[j + 1] = decide (0 ≤ cmpVal l[j] l[j + 1]) := by simp [prevV, hj, cPrevV]
      rw [hpv] at he
      by_cases hc : 0 ≤ cmpVal l[j] l[j + 1]
      · have hc' : decide (0 ≤ cmpVal l[j] l[j + 1]) = true := by simpa using hc
        rw [if_pos hc'] at he
        simp [h0, h1, h11, h12, h13, hlt, hj, hck, hz, ety, hty, hw, wj, wj', j1, j2, j3, j4, hcm, hc, he, Tryz.f68]
      · have hc' : ¬ decide (0 ≤ cmpVal l[j] l[j + 1]) = true := by simpa using hc
        rw [if_neg hc'] at he
        have wk : IntKind.i64.wrap ((j : Int) + 1 + 1) = (j : Int) + 1 + 1 := wrap_fit (by omega) (by omega)
        simp [h0, h1, h11, h12, h13, hlt, hj, hck, hz, ety, hty, wk, wj, wj', j1, j2, j3, j4, hcm, hc]
        exact ⟨by omega, by rw [he, hpn]⟩
  · obtain rfl : k = l.length := by omega
    rw [List.drop_length] at he
    simp only [valF] at he
    simp [h0, h1, h11, h12, h13, he, Tryz.f68]
theorem checkValues_sound : SpecSound Tryz.prog 68 (hPure false [] (FIv fun op l => int (valsF op l))) :=
  pureS (fn := Tryz.f68) goodcv2 ⟨_, Tryz.func68, by kernel_rfl, rfl, by kernel_rfl⟩ false [] _ fun args r h => by
    obtain ⟨⟨op, l⟩, rfl, hc, rfl⟩ := specOf_inv h
    exact ⟨by simp [Tryz.f68], _, checkValues_eval op l hc, up_of _⟩
/-! ### checkPattern -/
noncomputable def patF (op : Int) (s : List UInt8) : Int := if (500 : Int) < s.length then 2 else if bytesIn 32 126 s = true then (if op = 11 then (rdRange s).2 else 0) else 1
noncomputable def FIs (f : Int → List UInt8 → PV) : List PV → Option PV := specOf (α := Int × List UInt8) (fun a => [int a.1, str a.2]) (fun a => a.2.length ≤ lim) (fun a => f a.1 a.2)
theorem FIs_call (f : Int → List UInt8 → PV) (op : Int) (s : List UInt8) (hp : Hp) (nx : Nat) (h : s.length ≤ lim) : hPure false [] (FIs f) [int op, str s] hp nx = some (f op s, hp, nx) :=
  hPure_v rfl (specOf_eq (enc := fun a : Int × List UInt8 => [int a.1, str a.2]) (a := (op, s)) (fun x y e => by
    obtain ⟨x1, x2⟩ := x; obtain ⟨y1, y2⟩ := y
    simp only [List.cons.injEq, and_true] at e
    rw [pint_inj e.1, str_inj e.2]) h) (.inr (by simp))
noncomputable abbrev Cpt : Ctx := mkCtx Tryz.prog [(112, hPure false [] (FSP1 rrP))]
theorem goodpt : AM.Good Cpt (fun g => ([] : List Nat).contains g) := good_of mixed ⟨readRange_sound, by simp, trivial⟩
set_option maxRecDepth 8000 in
theorem checkPattern_eval (op : Int) (s : List UInt8) (h : s.length ≤ lim) : evalPure Cpt Tryz.f70 [int op, str s] = some (int (patF op s)) := by
  unfold lim at h
  refine evalPure_of rfl ?_
  by_cases h500 : (500 : Int) < s.length
  · have hv : patF op s = 2 := by unfold patF; rw [if_pos h500]
    simp [h500, hv, Tryz.f70]
  have hrr := fun hp nx => FSP1_call rrP s hp nx (by unfold lim; omega)
  simp only [rrP] at hrr
  have hv : patF op s = if bytesIn 32 126 s = true then (if op = 11 then (rdRange s).2 else 0) else 1 := by unfold patF; rw [if_neg h500]
  simp [h500]
  refine EvC_for (fun k σ hp nx => σ 0 = int op ∧ σ 1 = str s ∧ σ 12 = int s.length ∧ σ 13 = int k ∧ bytesIn 32 126 s = bytesIn 32 126 (s.drop k)) s.length ⟨by simp, by simp, by simp, by simp, by simp⟩ ?_
  rintro k σ hp nx hk ⟨h0, h1, h12, h13, he⟩
  by_cases hlt : k < s.length
  · have hw : IntKind.i64.wrap ((k : Int) + 1) = (k : Int) + 1 := wrap_fit (by omega) (by omega)
    rw [bytesIn_drop hlt] at he
    have ho := pr_out 32 126 s[k]
    simp only [Int.cast_ofNat_Int] at ho
    cases hc : pr 32 126 s[k]
    · have he : bytesIn 32 126 s = false := by rw [he, hc]; rfl
      rw [he, if_neg (by simp)] at hv
      simp [h0, h1, h12, h13, hlt, hv, ho, hc, Tryz.f70]
    · simp [h0, h1, h12, h13, hlt, ho, hc, hw]
      exact ⟨hlt, by rw [he, hc]; rfl⟩
  · obtain rfl : k = s.length := by omega
    have he : bytesIn 32 126 s = true := by rw [he, List.drop_length]; rfl
    rw [he, if_pos rfl] at hv
    by_cases h11 : op = 11
    · rw [if_pos h11] at hv
      subst h11
      simp [h0, h1, h12, h13, hrr, hv, Tryz.f70]
    · rw [if_neg h11] at hv
      have h11' : (op == 11) = false := by simpa using h11
      simp [h0, h1, h12, h13, h11', hv, Tryz.f70]
theorem checkPattern_sound : SpecSound Tryz.prog 70 (hPure false [] (FIs fun op s => int (patF op s))) :=
  pureS (fn := Tryz.f70) goodpt ⟨_, Tryz.func70, by kernel_rfl, rfl, by kernel_rfl⟩ false [] _ fun args r h => by
    obtain ⟨⟨op, s⟩, rfl, hc, rfl⟩ := specOf_inv h
    exact ⟨by simp [Tryz.f70], _, checkPattern_eval op s hc, up_of _⟩
/-! ### checkPart -/
def kindC (c : Cnd) : Bool := !inB c.kind 1 5
def opC (c : Cnd) : Bool := c.kind == 4 && !inB c.op 1 12
def nameC (c : Cnd) : Bool := (c.kind == 4 && !isNameB c.attr) || (c.kind == 5 && !isNameB c.name)
def patC (c : Cnd) : Bool := c.kind == 4 && usesP c.op
noncomputable def headC (c : Cnd) : Int := if (kindC c || opC c) = true then 4 else if formF c = true then 3 else if nameC c = true then 5 else if valsF c.op c.vals = 0 then (if patC c = true then patF c.op c.pat else 0) else valsF c.op c.vals
mutual
/-- What is wrong with a condition; 0: nothing. -/
noncomputable def Cnd.fault : Cnd → Int
  | .mk k a o v p n l => if headC (.mk k a o v p n l) = 0 then faultC l else headC (.mk k a o v p n l)
noncomputable def faultC : List Cnd → Int
  | [] => 0
  | c :: l => if c.fault = 0 then faultC l else c.fault
end

theorem cfault_eq (c : Cnd) : c.fault = if headC c = 0 then faultC c.args else headC c := by cases c; simp only [Cnd.fault]; rfl
theorem faultC_drop {l : List Cnd} {k : Nat} (h : k < l.length) : faultC (l.drop k) = if l[k].fault = 0 then faultC (l.drop (k + 1)) else l[k].fault := by
  rw [List.drop_eq_getElem_cons h, faultC]
noncomputable abbrev Ccp2 (n : Nat) : Ctx := mkCtx Tryz.prog [(34, hPure false [] (FC (fun c => int c.fault) n)), (65, hPure false [] (F3 inB)), (66, GC fun c => int (if formF c = true then 3 else 0)), (67, hPure false [] (FS isNameB)),
  (68, hPure false [] (FIv fun op l => int (valsF op l))), (69, hPure false [] (FIb usesP)), (70, hPure false [] (FIs fun op s => int (patF op s)))]
@[simp] theorem quietcp2a (n : Nat) : QuietIn (Ccp2 n) 65 := quietIn_of (by rfl) (hPure_quiet _ _)
@[simp] theorem quietcp2b (n : Nat) : QuietIn (Ccp2 n) 67 := quietIn_of (by rfl) (hPure_quiet _ _)
@[simp] theorem quietcp2c (n : Nat) : QuietIn (Ccp2 n) 69 := quietIn_of (by rfl) (hPure_quiet _ _)
set_option maxRecDepth 8000 in
theorem ccheckPart_eval (n : Nat) (c : Cnd) (h : c.cb ≤ lim ∧ c.cb ≤ n + 1) : evalPure (Ccp2 n) Tryz.f34 [.agg c.enc] = some (int c.fault) := by
  have hcb := cb_eq c
  have hl1 := cbs_length c.args
  obtain ⟨ha, hb⟩ := h
  have hf := cfault_eq c
  have hfo := fun hp nx => GC_call (fun c => int (if formF c = true then 3 else 0)) c hp nx ha
  have hva := fun hp nx => FIv_call (fun op l => int (valsF op l)) c.op c.vals hp nx (by omega)
  have hpa := fun hp nx => FIs_call (fun op s => int (patF op s)) c.op c.pat hp nx (by omega)
  have hna : c.attr.length ≤ lim := by omega
  have hnn : c.name.length ≤ lim := by omega
  unfold lim at ha
  refine evalPure_of rfl ?_
  have e1 : (!inB c.kind 1 5) = kindC c := rfl
  have e2 : (c.kind == 4 && !inB c.op 1 12) = opC c := rfl
  have e3 : ((c.kind == 4 && !isNameB c.attr) || (c.kind == 5 && !isNameB c.name)) = nameC c := rfl
  have e4 : (c.kind == 4 && usesP c.op) = patC c := rfl
  cases c1 : kindC c
  case true => simp [e1, c1, hf, headC, Tryz.f34]
  cases c2 : opC c
  case true => simp [e1, c1, e2, c2, hf, headC, Tryz.f34]
  cases c3 : formF c
  case true => simp [e1, c1, e2, c2, hfo, c3, hf, headC, Tryz.f34]
  cases c4 : nameC c
  case true => simp [e1, c1, e2, c2, hfo, c3, hna, hnn, e3, c4, hf, headC, Tryz.f34]
  by_cases c5 : valsF c.op c.vals = 0
  case neg =>
    have c5' : (valsF c.op c.vals != 0) = true := by simpa using c5
    simp [e1, c1, e2, c2, hfo, c3, hna, hnn, e3, c4, hva, c5, c5', hf, headC, Tryz.f34]
  have hbody : ∀ (hh : headC c = 0), c.fault = faultC c.args := fun hh => by rw [hf, if_pos hh]
  cases c6 : patC c
  case false =>
    have hh : headC c = 0 := by simp [headC, c1, c2, c3, c4, c5, c6]
    have hf' := hbody hh
    simp [e1, c1, e2, c2, hfo, c3, hna, hnn, e3, c4, hva, c5, e4, c6]
    refine EvC_for (fun k σ hp nx => σ 73 = .sl 7 (c.args.map Cnd.enc) ∧ σ 74 = int c.args.length ∧ σ 75 = int k ∧ faultC c.args = faultC (c.args.drop k)) c.args.length ⟨by simp, by simp, by simp, by simp⟩ ?_
    rintro k σ hp nx hk ⟨h73, h74, h75, he⟩
    by_cases hlt : k < c.args.length
    · have hm := cbs_mem (List.getElem_mem hlt)
      have hw : IntKind.i64.wrap ((k : Int) + 1) = (k : Int) + 1 := wrap_fit (by omega) (by omega)
      have hcall := fun hp nx => FC_call (fun c => int c.fault) n c.args[k] hp nx ⟨by unfold lim; omega, by omega⟩
      rw [faultC_drop hlt] at he
      by_cases hz : c.args[k].fault = 0
      · rw [if_pos hz] at he
        simp [h73, h74, h75, hlt, hcall, hz, hw]
        exact ⟨by omega, he⟩
      · rw [if_neg hz] at he
        have hz2 : (c.args[k].fault != 0) = true := by simpa using hz
        simp [h73, h74, h75, hlt, hcall, hz2, hf', he, Tryz.f34]
    · obtain rfl : k = c.args.length := by omega
      rw [List.drop_length] at he
      have he : faultC c.args = 0 := by rw [he]; rfl
      simp [h73, h74, h75, hf', he, Tryz.f34]
  case true =>
    by_cases c7 : patF c.op c.pat = 0
    case neg =>
      have c7' : (patF c.op c.pat != 0) = true := by simpa using c7
      simp [e1, c1, e2, c2, hfo, c3, hna, hnn, e3, c4, hva, c5, e4, c6, hpa, c7, c7', hf, headC, Tryz.f34]
    have hh : headC c = 0 := by simp [headC, c1, c2, c3, c4, c5, c6, c7]
    have hf' := hbody hh
    simp [e1, c1, e2, c2, hfo, c3, hna, hnn, e3, c4, hva, c5, e4, c6, hpa, c7]
    refine EvC_for (fun k σ hp nx => σ 73 = .sl 7 (c.args.map Cnd.enc) ∧ σ 74 = int c.args.length ∧ σ 75 = int k ∧ faultC c.args = faultC (c.args.drop k)) c.args.length ⟨by simp, by simp, by simp, by simp⟩ ?_
    rintro k σ hp nx hk ⟨h73, h74, h75, he⟩
    by_cases hlt : k < c.args.length
    · have hm := cbs_mem (List.getElem_mem hlt)
      have hw : IntKind.i64.wrap ((k : Int) + 1) = (k : Int) + 1 := wrap_fit (by omega) (by omega)
      have hcall := fun hp nx => FC_call (fun c => int c.fault) n c.args[k] hp nx ⟨by unfold lim; omega, by omega⟩
      rw [faultC_drop hlt] at he
      by_cases hz : c.args[k].fault = 0
      · rw [if_pos hz] at he
        simp [h73, h74, h75, hlt, hcall, hz, hw]
        exact ⟨by omega, he⟩
      · rw [if_neg hz] at he
        have hz2 : (c.args[k].fault != 0) = true := by simpa using hz
        simp [h73, h74, h75, hlt, hcall, hz2, hf', he, Tryz.f34]
    · obtain rfl : k = c.args.length := by omega
      rw [List.drop_length] at he
      have he : faultC c.args = 0 := by rw [he]; rfl
      simp [h73, h74, h75, hf', he, Tryz.f34]
set_option maxRecDepth 100000 in
theorem ccheckPart_sound : ∀ n, SpecSound Tryz.prog 34 (hPure false [] (FC (fun c => int c.fault) n)) := by
  intro n
  induction n with
  | zero => exact FC_zero ⟨_, Tryz.func34, by kernel_rfl, by kernel_rfl⟩
  | succ n ih =>
    have hg : AM.Good (Ccp2 n) (fun g => [65, 67, 69].contains g) := good_of mixed ⟨ih, by simp, within_sound, fun _ => hPure_quiet _ _, checkForm_sound, by simp, isName_sound, fun _ => hPure_quiet _ _, checkValues_sound, by simp, usesP_sound, fun _ => hPure_quiet _ _, checkPattern_sound, by simp, trivial⟩
    exact pureS (fn := Tryz.f34) hg ⟨_, Tryz.func34, by kernel_rfl, rfl, by kernel_rfl⟩ false [] _ fun args r h => by
      obtain ⟨c, rfl, hc, rfl⟩ := FC_inv h
      exact ⟨Nat.le_trans (Nat.le_refl 1) (by decide), _, ccheckPart_eval n c hc, up_of _⟩
noncomputable def Cnd.check (c : Cnd) : Int := if (decide ((200 : Int) < c.parts) || decide ((20 : Int) < c.levels)) = true then 2 else c.fault
noncomputable abbrev Ccch : Ctx := mkCtx Tryz.prog [(34, GC fun c => int c.fault), (33, GC fun c => .tup [int c.parts, int c.levels])]
set_option maxRecDepth 4000 in
theorem ccheck_sound : SpecSound Tryz.prog 13 (GC fun c => int c.check) :=
  pureS (fn := Tryz.f13) (good_of (q := []) mixed ⟨ccheckPart_sound lim, by simp, measure_sound lim, by simp, trivial⟩ : AM.Good Ccch _) ⟨_, Tryz.func13, by kernel_rfl, rfl, by kernel_rfl⟩ false [] _ fun args r h => by
    obtain ⟨c, rfl, hc, rfl⟩ := FC_inv h
    have h1 := fun hp nx => GC_call (fun c => int c.fault) c hp nx hc.1
    have h2 := fun hp nx => GC_call (fun c => .tup [int c.parts, int c.levels]) c hp nx hc.1
    refine ⟨by simp [Tryz.f13], _, evalPure_of rfl ?_, up_of _⟩
    cases hk : (decide ((200 : Int) < c.parts) || decide ((20 : Int) < c.levels))
    · simp [h1, h2, hk, Tryz.f13, Cnd.check]
    · simp [h1, h2, hk, Tryz.f13, Cnd.check]
end Go.Proofs.YtfjeckcbnhohmaaGreatDoor
