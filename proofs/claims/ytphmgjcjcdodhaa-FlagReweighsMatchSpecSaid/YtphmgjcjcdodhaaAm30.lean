/-
  The abstract machine, part 30: functions that turn a row of ints in place (slices.Sort, slices.Compact).
-/
import Derived.Test.YtphmgjcjcdodhaaAm20
namespace Go.AM
open Go.RowKit Go.Sort

def rowI (zs : List Int) : List (List PV) := zs.map fun n => [PV.v (.int .i64 n)]
theorem rowI_inj {a b : List Int} (h : rowI a = rowI b) : a = b :=
  map_inj (fun x y e => by simp only [List.cons.injEq, and_true, PV.v.injEq, Value.int.injEq, true_and] at e; exact e) h
@[simp] theorem rowI_length (zs : List Int) : (rowI zs).length = zs.length := by simp [rowI]
theorem rowI_get {zs : List Int} {i : Nat} {c : List PV} (h : (rowI zs)[i]? = some c) : ∃ hi : i < zs.length, c = [.v (.int .i64 zs[i])] := by
  unfold rowI at h
  rw [List.getElem?_map] at h
  cases hz : zs[i]? with
  | none => rw [hz] at h; cases h
  | some x =>
    rw [hz] at h
    obtain ⟨hi, rfl⟩ := List.getElem?_eq_some_iff.1 hz
    exact ⟨hi, by simpa using h.symm⟩
/-- What a contract says of a function that turns a row of ints in place. -/
def RowOkI (P : Program) (f : Nat) (F : List Int → List Int) (res : Bool) : Prop :=
  ∀ (blk cap : Nat) (zs : List Int) (w : World), Holds (Value.int .i64) w blk 0 zs.toArray → blk < w.heap.size → zs.length < 4611686018427387904 → zs.length ≤ cap →
    Calls P f #[.slice (some ⟨blk, 0, none⟩) zs.length cap] w fun e w' => e = .returned (if res then .slice (some ⟨blk, 0, none⟩) (F zs).length cap else .tuple #[]) ∧
      ∃ (q : Nat) (os : Array Obj) (d : List Int), d.length = zs.length ∧ (∃ r, d = F zs ++ r) ∧ w' = grow (putRow (Value.int .i64) (Sort.ahead w q) blk 0 d.toArray) os
open Classical in
/-- The numbers of a row. -/
noncomputable def unRow (es : List (List PV)) : Option (List Int) := if h : ∃ zs : List Int, es = rowI zs then some h.choose else none
theorem unRow_eq (zs : List Int) : unRow (rowI zs) = some zs := by
  have hx : ∃ ys : List Int, rowI zs = rowI ys := ⟨zs, rfl⟩
  unfold unRow
  rw [dif_pos hx]
  have e := rowI_inj hx.choose_spec
  rw [← e]
theorem unRow_inv {es : List (List PV)} {zs : List Int} (h : unRow es = some zs) : es = rowI zs := by
  unfold unRow at h
  split at h
  · rename_i hx
    injection h with h
    rw [← h]
    exact hx.choose_spec
  · cases h
noncomputable def hRowI (F : List Int → List Int) (res : Bool) : AM.Spec := fun args hp nx =>
  match args with
  | [.own id off n] => match hp id with
    | some b => match unRow b.es with
      | some zs => if off = 0 ∧ b.arr = true ∧ b.s = 1 ∧ n = zs.length ∧ zs.length < 4611686018427387904 then
          some (if res then .own id 0 (F zs).length else .tup [], upd hp id (some ⟨b.e, b.s, b.arr, rowI (F zs)⟩), nx) else none
      | none => none
    | none => none
  | _ => none
theorem hRowI_call (F : List Int → List Int) (res : Bool) {id e : Nat} {zs : List Int} {hp : Hp} {nx : Nat} (h : hp id = some ⟨e, 1, true, rowI zs⟩) (hz : zs.length < 4611686018427387904) :
    hRowI F res [.own id 0 zs.length] hp nx = some (if res then .own id 0 (F zs).length else .tup [], upd hp id (some ⟨e, 1, true, rowI (F zs)⟩), nx) := by
  unfold hRowI
  simp only [h, unRow_eq]
  simp only [hz, and_self, if_true]
theorem putRowI_setRow (w : World) (blk : Nat) (d : Array Int) {cur : Array Value} {e : TypeId} (h : w.heap[blk]? = some (.cells cur e (0, 0))) :
    putRow (Value.int .i64) w blk 0 d = w.setRow blk (putCells (Value.int .i64) 0 d cur) := by
  unfold putRow mapBlock World.setRow
  congr 1
  apply Array.ext_getElem?
  intro i
  simp only [Array.getElem?_modify]
  by_cases hi : blk = i
  · subst hi
    simp only [if_true, h, Option.map_some, onCells]
  · simp [hi]
theorem rowWorld_fr (w : World) (blk q : Nat) (d : Array Int) (os : Array Obj) : Fr (putRow (Value.int .i64) w blk 0 d) (fun _ => False) (grow (putRow (Value.int .i64) (Sort.ahead w q) blk 0 d) os) := by
  refine ⟨rfl, rfl, rfl, ?_, ?_, fun b hb _ => ?_⟩
  · show _ ≤ (_ ++ os).size
    rw [Array.size_append]
    exact Nat.le_add_right _ _
  · exact Nat.le_add_right _ _
  · exact Array.getElem?_append_left hb
theorem hRowI_sound {P : Program} {f : Nat} {F : List Int → List Int} {res : Bool} (hfn : ∃ fn, P.funcs[f]? = some fn ∧ (fn.name == "runtime.NumGoroutine") = false ∧ fn.body.isNone = false) (hok : RowOkI P f F res) : SpecSound P f (hRowI F res) := by
  refine ⟨hfn, ?_⟩
  intro args hp nx r hp' nx' h w S G vs hi hz
  unfold hRowI at h
  split at h
  case h_2 => cases h
  rename_i id off n
  obtain ⟨u, us, rfl, hu, hz'⟩ := hz.uncons
  obtain rfl := hz'.unnil
  obtain ⟨cap, g1, g2, g3, g4, rfl⟩ := hu.own_inv
  split at h
  case h_2 => cases h
  rename_i b hb
  split at h
  case h_2 => cases h
  rename_i zs hes
  have hes := unRow_inv hes
  split at h
  case isFalse => cases h
  rename_i hx
  obtain ⟨rfl, harr, hbs, hn, hlen⟩ := hx
  injection h with h
  injection h with e1 h
  injection h with e2 e3
  subst e1; subst e2; subst e3; subst hn
  have hbr := hi.live id b hb
  have hgs : (G id).s = 1 := by rw [← hbr.bs]; exact hbs
  obtain ⟨cur, c1, c2, c3⟩ := hbr.row
  rw [hgs] at c3 g4
  have hfit := hbr.fit
  rw [hes, hgs] at hfit
  simp only [rowI_length, Nat.mul_one, Nat.zero_add] at hfit g4
  have hcell : ∀ j (hj : j < zs.length), cur[j]? = some (.int .i64 zs[j]) := fun j hj => by
    obtain ⟨u, q1, q2⟩ := c3 j 0 [.v (.int .i64 zs[j])] (.v (.int .i64 zs[j])) (by rw [hes]; simp [rowI, hj]) rfl
    rw [Nat.mul_one, Nat.add_zero] at q1
    obtain ⟨rfl, _⟩ := q2.2.1.v_inv
    exact q1
  have hH : Holds (Value.int .i64) w (G id).g 0 zs.toArray := by
    intro j hj
    have hj' : j < zs.length := by simpa using hj
    constructor
    · rw [Nat.zero_add, cell_of_row w _ _ cur _ _ c1, hcell j hj']
      rw [getElem!_pos _ j hj]
      simp
    · simp [World.frozen?, c1]
  have key := hok (G id).g cap zs w hH hbr.lt hlen g2
  rw [hgs]
  simp only [Nat.zero_mul]
  refine key.mono fun e w' hh => ?_
  obtain ⟨rfl, q, os, d, hd1, ⟨rr, hd2⟩, rfl⟩ := hh
  have hFl : (F zs).length ≤ zs.length := by rw [← hd1, hd2, List.length_append]; omega
  have hst := Stp.set hi hb (putCells (Value.int .i64) 0 d.toArray cur) (rowI (F zs)) (by simp [putCells, c2])
    (fun c hc => by
      obtain ⟨x, _, rfl⟩ := List.mem_map.1 hc
      rw [hgs]; rfl)
    (by rw [hgs, rowI_length]; omega)
    (fun i j c pv hci hcj => by
      obtain ⟨hil, rfl⟩ := rowI_get hci
      have hj0 : j = 0 := by
        have := (List.getElem?_eq_some_iff.1 hcj).1
        simpa using this
      subst hj0
      obtain rfl : PV.v (.int .i64 (F zs)[i]) = pv := by simpa using hcj
      refine ⟨.int .i64 (F zs)[i], ?_, fun _ => .v rfl, .c (.v rfl), rfl⟩
      rw [hgs, Nat.mul_one, Nat.add_zero]
      have hic : i < cur.size := by rw [c2]; omega
      unfold putCells
      rw [Array.getElem?_mapIdx, Array.getElem?_eq_getElem hic]
      simp only [Option.map_some]
      have hid : i < d.length := by omega
      rw [if_pos ⟨Nat.zero_le _, by simpa using hid⟩]
      have : d.toArray[i - 0]! = (F zs)[i] := by
        rw [Nat.sub_zero, getElem!_pos _ i (by simpa using hid)]
        simp [hd2, List.getElem_append_left hil]
      rw [this])
  rw [← putRowI_setRow w _ _ c1] at hst
  refine ⟨_, S, G, rfl, hst.trans (Stp.grown hst.inv (rowWorld_fr w (G id).g q d.toArray os)), ?_⟩
  cases res with
  | false => exact repO_undef
  | true =>
    simp only [if_true]
    have := RepO.own (w := grow (putRow (Value.int .i64) (Sort.ahead w q) (G id).g 0 d.toArray) os) (S := S) (G := G) (nx := nx) (id := id) (off := 0) (n := (F zs).length) (cap := cap) g1 (by omega) g3 (by rw [hgs]; omega)
    simpa using this
end Go.AM
