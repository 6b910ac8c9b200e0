/-
  The abstract machine, part 20: slices.SortFunc.
  Cuts in order.
  Plain law: the sweep over cuts in order; a cut that comes twice changes nothing.
  Plain law: two ranges put together.
-/
import Derived.Test.YtfjeckcbnhohmaaGreatDoorG3
import Derived.Shelf.SlSortCmp.InsertionK
import Derived.Sort.AssemblyPlain
import Derived.Test.YtfjeckcbnhohmaaGreatDoorG9
import Derived.Test.YtfjeckcbnhohmaaGreatDoorG10
namespace Go.AM
open Go.RowKit Go.Sort Go.Proofs

/-- The elements by number; beyond the end the first one. -/
def elAt (xs : List (List PV)) (i : Nat) : List PV := xs.getD (if i < xs.length then i else 0) []
theorem elAt_mem {xs : List (List PV)} (h : xs ≠ []) (i : Nat) : elAt xs i ∈ xs := by
  have h0 : 0 < xs.length := List.length_pos_iff.2 h
  have hl : (if i < xs.length then i else 0) < xs.length := by split <;> assumption
  unfold elAt
  rw [List.getD_eq_getElem?_getD, List.getElem?_eq_getElem hl]
  exact List.getElem_mem _
theorem elAt_get {xs : List (List PV)} {i : Nat} (h : i < xs.length) : elAt xs i = xs[i] := by
  unfold elAt
  rw [if_pos h, List.getD_eq_getElem?_getD, List.getElem?_eq_getElem h]
  rfl

def cfAt (cf : List PV → List PV → Int) (xs : List (List PV)) (i j : Nat) : Int := cf (elAt xs i) (elAt xs j)
def sortIdx (cf : List PV → List PV → Int) (xs : List (List PV)) : Array Nat := pdq (ltOf (cfAt cf xs)) (Array.range xs.length) 0 xs.length (Lib.bitLen xs.length) true true
/-- What slices.SortFunc makes of the elements. -/
def sortL (cf : List PV → List PV → Int) (xs : List (List PV)) : List (List PV) := if xs.length = 0 then [] else (sortIdx cf xs).toList.map (elAt xs)

/-- A strict weak order on what is sorted. -/
structure WeakOn (cf : List PV → List PV → Int) (xs : List (List PV)) : Prop where
  irrefl : ∀ x ∈ xs, 0 ≤ cf x x
  trans : ∀ x ∈ xs, ∀ y ∈ xs, ∀ z ∈ xs, cf x y < 0 → cf y z < 0 → cf x z < 0
  ntrans : ∀ x ∈ xs, ∀ y ∈ xs, ∀ z ∈ xs, 0 ≤ cf x y → 0 ≤ cf y z → 0 ≤ cf x z

section
variable {cf : List PV → List PV → Int} {xs : List (List PV)}
theorem lt_true {i j : Nat} (h : ltOf (cfAt cf xs) i j = true) : cf (elAt xs i) (elAt xs j) < 0 := of_decide_eq_true h
theorem lt_false {i j : Nat} (h : ltOf (cfAt cf xs) i j = false) : 0 ≤ cf (elAt xs i) (elAt xs j) := Int.not_lt.1 (of_decide_eq_false h)
theorem lt_intro {i j : Nat} (h : cf (elAt xs i) (elAt xs j) < 0) : ltOf (cfAt cf xs) i j = true := decide_eq_true h
theorem lt_none {i j : Nat} (h : 0 ≤ cf (elAt xs i) (elAt xs j)) : ltOf (cfAt cf xs) i j = false := decide_eq_false (Int.not_lt.2 h)
theorem WeakOn.swo (h : WeakOn cf xs) (hx : xs ≠ []) : SWO (ltOf (cfAt cf xs)) where
  irrefl i := lt_none (h.irrefl _ (elAt_mem hx i))
  trans i j k h1 h2 := lt_intro (h.trans _ (elAt_mem hx i) _ (elAt_mem hx j) _ (elAt_mem hx k) (lt_true h1) (lt_true h2))
  ntrans i j k h1 h2 := lt_none (h.ntrans _ (elAt_mem hx i) _ (elAt_mem hx j) _ (elAt_mem hx k) (lt_false h1) (lt_false h2))

theorem sortIdx_spec (h : WeakOn cf xs) (hx : xs ≠ []) : PermIn 0 xs.length (Array.range xs.length) (sortIdx cf xs) ∧ SortedIn (ltOf (cfAt cf xs)) 0 xs.length (sortIdx cf xs) :=
  pdq_sorts (ltOf (cfAt cf xs)) (h.swo hx) (Array.range xs.length) 0 xs.length (Lib.bitLen xs.length) true true (Nat.zero_le _) (by simp) (Or.inl rfl)

theorem sortIdx_size (h : WeakOn cf xs) (hx : xs ≠ []) : (sortIdx cf xs).size = xs.length := by
  have := (sortIdx_spec h hx).1.1
  simpa using this

theorem sortL_perm (h : WeakOn cf xs) : (sortL cf xs).Perm xs := by
  unfold sortL
  split
  · rename_i h0
    have : xs = [] := List.length_eq_zero_iff.1 h0
    subst this
    exact .refl _
  · rename_i h0
    have hx : xs ≠ [] := by rintro rfl; simp at h0
    obtain ⟨h1, _, h3⟩ := (sortIdx_spec h hx).1
    have hs := sortIdx_size h hx
    have e1 : (sortIdx cf xs).extract 0 xs.length = sortIdx cf xs := by rw [← hs]; simp
    have e2 : (Array.range xs.length).extract 0 xs.length = Array.range xs.length := by
      conv => lhs; rw [show xs.length = (Array.range xs.length).size by simp]
      simp
    rw [e1, e2] at h3
    have h4 := h3.map (elAt xs)
    have e3 : (Array.range xs.length).toList.map (elAt xs) = xs := by
      apply List.ext_getElem
      · simp
      · intro i hi hi'
        simp [elAt_get hi']
    rw [e3] at h4
    exact h4

theorem sortL_sorted (h : WeakOn cf xs) : (sortL cf xs).Pairwise (fun x y => 0 ≤ cf y x) := by
  unfold sortL
  split
  · exact List.Pairwise.nil
  · rename_i h0
    have hx : xs ≠ [] := by rintro rfl; simp at h0
    have hs := sortIdx_size h hx
    have h2 := (sortIdx_spec h hx).2
    rw [List.pairwise_map, List.pairwise_iff_getElem]
    intro i j hi hj hij
    have h3 := h2 i j (Nat.zero_le _) hij (by simp at hj; omega)
    simp at hi hj
    rw [getElem!_pos _ i hi, getElem!_pos _ j hj] at h3
    simpa using lt_false h3
theorem sortL_length (h : WeakOn cf xs) : (sortL cf xs).length = xs.length := (sortL_perm h).length_eq
end

/-- What the kit's contract says of slices.SortFunc at elements of k cells. -/
def SortOk (P : Program) (f k : Nat) : Prop :=
  (∀ (α : Type) [Inhabited α] (enc : α → List Value) (_ : ∀ x, (enc x).length = k) (_ : ∀ x, ∀ v ∈ enc x, v.oneCell' = true) (cf : α → α → Int) (_ : SWO (ltOf cf)) (g : Nat) (blk off cap : Nat) (d : Array α) (w : World)
    (_ : ∀ args w, (callFunc g args).run P w = .ok (.enter g args) w) (_ : CmpLays P g #[] enc k cf blk off d.size w) (_ : HoldsK enc k w blk off d) (_ : blk < w.heap.size) (_ : d.size < 4611686018427387904),
    Calls P f #[.slice (some ⟨blk, off, none⟩) d.size cap, .func (.func g) #[] #[]] w fun e w' =>
      e = .returned (.tuple #[]) ∧ ∃ n os, w' = sortWorldK enc k w blk off n (pdq (ltOf cf) d 0 d.size (Lib.bitLen d.size) true true) os) ∧
  ∀ (p : Option Addr) (cap : Nat) (fv : Value) (w : World), Calls P f #[.slice p 0 cap, fv] w fun e w' => e = .returned (.tuple #[]) ∧ w' = w

/-- What is asked of the comparing function. -/
def CmpOk (P : Program) (g k : Nat) (cf : List PV → List PV → Int) (dom : List PV → Prop) : Prop :=
  (∀ args w, (callFunc g args).run P w = .ok (.enter g args) w) ∧ ∃ spec, SpecSound P g spec ∧ ∀ x y, x.length = k → y.length = k → dom x → dom y → spec [.agg x, .agg y] (fun _ => none) 0 = some (.v (.int .i64 (cf x y)), fun _ => none, 0)

open Classical in
/-- slices.SortFunc in a block of the call's own. -/
noncomputable def hSort (k : Nat) (g : Nat) (cf : List PV → List PV → Int) (dom : List PV → Prop) : AM.Spec := fun args hp nx =>
  match args with
  | [.nil, .fn _ _ _] => some (.tup [], hp, nx)
  | [.own id off n, .fn (.func g') [] []] => if n = 0 then some (.tup [], hp, nx) else match hp id with
    | some b => if g' = g ∧ b.arr = true ∧ b.s = k ∧ off + n ≤ b.es.length ∧ n < 4611686018427387904 ∧ WeakOn cf ((b.es.drop off).take n) ∧ ∀ x ∈ (b.es.drop off).take n, dom x then
        some (.tup [], upd hp id (some ⟨b.e, b.s, b.arr, b.es.take off ++ sortL cf ((b.es.drop off).take n) ++ b.es.drop (off + n)⟩), nx) else none
    | none => none
  | _ => none

theorem grow_of_fr {W w' : World} (h : Fr W (fun _ => False) w') : ∃ q os', w' = grow (W.drewN q) os' := by
  refine ⟨w'.drawn - W.drawn, w'.heap.extract W.heap.size w'.heap.size, ?_⟩
  obtain ⟨heap, tape, drawn, os, output⟩ := w'
  obtain ⟨h1, h2, h3, h4, h5, h6⟩ := h
  simp only at h1 h2 h3 h4 h5 h6
  unfold grow World.drewN
  simp only [World.mk.injEq]
  refine ⟨?_, h2, by omega, h1, h3⟩
  apply Array.ext_getElem?
  intro i
  by_cases hi : i < W.heap.size
  · rw [h6 i hi (fun h => h), Array.getElem?_append_left hi]
  · rw [Array.getElem?_append_right (by omega), Array.getElem?_extract]
    by_cases hj : i < heap.size
    · rw [if_pos (by omega)]; congr 1; omega
    · rw [if_neg (by omega), Array.getElem?_eq_none (by omega)]

theorem Stp.grown {P : Program} {hp : Hp} {nx : Nat} {S : Nat → Prop} {G : Nat → GI} {w w' : World} (h : Inv P w S G hp nx) (fr : Fr w (fun _ => False) w') : Stp P hp nx S G w hp nx S G w' := by
  have hS : ∀ b, b < w.heap.size → w'.heap[b]? = w.heap[b]? := fun b hb => fr.block b hb (fun h => h)
  refine ⟨⟨fun b hb => Nat.lt_of_lt_of_le (h.st b hb) fr.size, h.top, fun id b hb => ?_, h.apart, h.inj, h.glo.mono fun b hb => ⟨hb, hS b (h.st b hb)⟩⟩, Nat.le_refl _, fun _ _ => rfl, fun _ hb => hb, fun _ hb => .inl hb, fun id b hb => .inl ⟨id, b, hb, rfl⟩, ⟨fr.os, fr.tape, fr.output, fr.size, fr.drawn, fun k hk _ => fr.block k hk (fun h => h)⟩⟩
  have hl := h.live id b hb
  exact hl.mono (fun b hb => ⟨hb, hS b (h.st b hb)⟩) (Nat.le_refl _) (fun _ _ => rfl) (hS _ hl.lt)

theorem sortWorld_fr {α : Type} [Inhabited α] (enc : α → List Value) (k : Nat) (w : World) (blk off m : Nat) (d : Array α) (os : Array Obj) : Fr (putRowK enc k w blk off d) (fun _ => False) (sortWorldK enc k w blk off m d os) := by
  refine ⟨rfl, rfl, rfl, ?_, ?_, fun b hb _ => ?_⟩
  · show _ ≤ (_ ++ os).size
    rw [Array.size_append]
    exact Nat.le_add_right _ _
  · exact Nat.le_add_right _ _
  · exact Array.getElem?_append_left hb
theorem putRow_setRow {α : Type} [Inhabited α] (enc : α → List Value) (k : Nat) (w : World) (blk off : Nat) (d : Array α) {cur : Array Value} {e : TypeId} (h : w.heap[blk]? = some (.cells cur e (0, 0))) :
    putRowK enc k w blk off d = w.setRow blk (putCells (fun v : Value => v) off (flatK enc k d) cur) := by
  unfold putRowK putRow mapBlock World.setRow
  congr 1
  apply Array.ext_getElem?
  intro i
  simp only [Array.getElem?_modify]
  by_cases hi : blk = i
  · subst hi
    simp only [if_true, h, Option.map_some, onCells]
    rfl
  · simp [hi]

section
variable {P : Program} {f k g : Nat} {cf : List PV → List PV → Int} {dom : List PV → Prop}
theorem hSort_sound (h0 : 0 < k) (hfn : ∃ fn, P.funcs[f]? = some fn ∧ (fn.name == "runtime.NumGoroutine") = false ∧ fn.body.isNone = false) (hso : SortOk P f k) (hco : CmpOk P g k cf dom) : SpecSound P f (hSort k g cf dom) := by
  refine ⟨hfn, ?_⟩
  intro args hp nx r hp' nx' h w S G vs hi hz
  unfold hSort at h
  split at h
  · injection h with h
    injection h with e1 h
    injection h with e2 e3
    subst e1; subst e2; subst e3
    obtain ⟨u, us, rfl, hu, hz'⟩ := hz.uncons
    obtain ⟨v, us, rfl, hv, hz'⟩ := hz'.uncons
    obtain rfl := hz'.unnil
    obtain rfl := hu.nil_inv
    refine (hso.2 none 0 v w).mono fun e w' hh => ?_
    obtain ⟨rfl, rfl⟩ := hh
    exact ⟨_, _, _, rfl, .refl hi, repO_undef⟩
  · rename_i id off n g'
    obtain ⟨u, us, rfl, hu, hz'⟩ := hz.uncons
    obtain ⟨v, us, rfl, hv, hz'⟩ := hz'.uncons
    obtain rfl := hz'.unnil
    have hop := hu.own_pos
    obtain ⟨cap, g1, g2, g3, g4, rfl⟩ := hu.own_inv
    split at h
    · rename_i hn0
      subst hn0
      injection h with h
      injection h with e1 h
      injection h with e2 e3
      subst e1; subst e2; subst e3
      refine (hso.2 _ cap v w).mono fun e w' hh => ?_
      obtain ⟨rfl, rfl⟩ := hh
      exact ⟨_, _, _, rfl, .refl hi, repO_undef⟩
    rename_i hn0
    split at h
    case h_2 => cases h
    rename_i b hb
    split at h
    case isFalse => cases h
    rename_i hc
    obtain ⟨rfl, harr, hbk, hfit, hn, hW, hdom⟩ := hc
    injection h with h
    injection h with e1 h
    injection h with e2 e3
    subst e1; subst e2; subst e3
    have hbr := hi.live id b hb
    obtain ⟨us, ts, rfl, hus, hts, _, _⟩ := hv.fn_inv
    obtain rfl : us = #[] := Array.eq_empty_of_size_eq_zero (by simpa using hus.symm)
    obtain rfl : ts = #[] := Array.eq_empty_of_size_eq_zero (by simpa using hts.symm)
    have hgs : (G id).s = k := by rw [← hbr.bs]; exact hbk
    obtain ⟨cur, c1, c2, c3⟩ := hbr.row hop
    rw [hgs] at c3 g4
    obtain ⟨xs, hxs⟩ : ∃ xs, (b.es.drop off).take n = xs := ⟨_, rfl⟩
    rw [hxs] at hW hdom
    have hxl : xs.length = n := by rw [← hxs]; simp; omega
    have hx : xs ≠ [] := by rintro rfl; simp at hxl; omega
    have hxk : ∀ x ∈ xs, x.length = k := fun x hx => by
      rw [← hgs]; rw [← hxs] at hx
      exact hbr.len hop x (List.mem_of_mem_drop (List.mem_of_mem_take hx))
    have hxg : ∀ i, i < n → xs[i]? = b.es[off + i]? := fun i hi => by
      rw [← hxs, List.getElem?_take, if_pos hi, List.getElem?_drop]
    let ix : Nat → Nat := fun i => if i < n then i else 0
    have hix : ∀ i, ix i < n := fun i => by show (if i < n then i else 0) < n; split <;> omega
    have hel : ∀ i, xs[ix i]? = some (elAt xs i) := fun i => by
      unfold elAt
      rw [List.getD_eq_getElem?_getD]
      show xs[if i < n then i else 0]? = _
      have : (if i < n then i else 0) < xs.length := by rw [hxl]; exact hix i
      rw [hxl, List.getElem?_eq_getElem this]
      rfl
    let enc : Nat → List Value := fun i => (List.range k).map fun j => (cur[(off + ix i) * k + j]?).getD undef
    have hek : ∀ x, (enc x).length = k := fun x => by simp [enc]
    -- the cells of an element
    have hcell : ∀ i j pv, (elAt xs i)[j]? = some pv → ∃ u, cur[(off + ix i) * k + j]? = some u ∧ (enc i)[j]? = some u ∧ RepC w S pv u ∧ u.oneCell' = true := fun i j pv hj => by
      have hlj : j < k := by
        have := (List.getElem?_eq_some_iff.1 hj).1
        rw [hxk _ (elAt_mem hx i)] at this
        exact this
      obtain ⟨u, q1, q2⟩ := c3 (off + ix i) j (elAt xs i) pv (by rw [← hxg _ (hix i)]; exact hel i) hj
      rw [harr] at q2
      refine ⟨u, q1, ?_, q2.1 rfl, q2.2.2⟩
      simp [enc, hlj, q1]
    have hcell' : ∀ i j, j < k → ∃ pv, (elAt xs i)[j]? = some pv := fun i j hj => by
      have : j < (elAt xs i).length := by rw [hxk _ (elAt_mem hx i)]; exact hj
      exact ⟨_, List.getElem?_eq_getElem this⟩
    have h1c : ∀ x, ∀ v ∈ enc x, v.oneCell' = true := fun x v hv => by
      obtain ⟨j, hj, rfl⟩ := List.mem_map.1 hv
      obtain ⟨pv, hpv⟩ := hcell' x j (List.mem_range.1 hj)
      obtain ⟨u, q1, _, _, q4⟩ := hcell x j pv hpv
      rw [q1]
      exact q4
    have hblk : (G id).g < w.heap.size := hbr.lt
    have hother : ∀ m os (dk : Array Nat) b', S b' → (sortWorldK enc k w (G id).g (off * k) m dk os).heap[b']? = w.heap[b']? := fun m os dk b' hb' => by
      have hlt : b' < (putRowK enc k w (G id).g (off * k) dk).heap.size := by
        rw [putRow_setRow enc k w _ _ dk c1, size_setRow]
        exact hi.st b' hb'
      rw [(sortWorld_fr enc k w (G id).g (off * k) m dk os).block b' hlt (fun h => h), putRow_setRow enc k w _ _ dk c1]
      exact setRow_other _ _ _ _ fun e => hi.apart id b hb (e ▸ hb')
    have hsize : ∀ m os (dk : Array Nat), w.heap.size ≤ (sortWorldK enc k w (G id).g (off * k) m dk os).heap.size := fun m os dk => by
      have := (sortWorld_fr enc k w (G id).g (off * k) m dk os).size
      rw [putRow_setRow enc k w _ _ dk c1, size_setRow] at this
      exact this
    obtain ⟨eg, spec, hsp, hcall⟩ := hco
    have hcmp : CmpLays P g' #[] enc k (cfAt cf xs) (G id).g (off * k) n w := by
      intro m os dk hdk x y
      have hagg : ∀ x, RepC (sortWorldK enc k w (G id).g (off * k) m dk os) S (.agg (elAt xs x)) (.agg (enc x).toArray) := fun x => by
        refine .agg (by simp [hek, hxk _ (elAt_mem hx x)]) fun j pv u hj hu => ?_
        obtain ⟨u', _, q2, q3, _⟩ := hcell x j pv hj
        have : u = u' := by simpa [q2] using hu.symm
        subst this
        exact q3.mono fun b' hb' => ⟨hb', hother m os dk b' hb'⟩
      have := hsp.2 _ _ _ _ _ _ (hcall _ _ (hxk _ (elAt_mem hx x)) (hxk _ (elAt_mem hx y)) (hdom _ (elAt_mem hx x)) (hdom _ (elAt_mem hx y))) (sortWorldK enc k w (G id).g (off * k) m dk os) S G [.agg (enc x).toArray, .agg (enc y).toArray]
        ⟨fun b' hb' => Nat.lt_of_lt_of_le (hi.st b' hb') (hsize m os dk), fun _ _ h => (nomatch h), fun _ _ h => (nomatch h), fun _ _ h => (nomatch h), fun _ _ _ _ h => (nomatch h), hi.glo.mono fun b' hb' => ⟨hb', hother m os dk b' hb'⟩⟩ (.cons (.c (hagg x)) (.cons (.c (hagg y)) .nil))
      refine this.mono fun e w' hh => ?_
      obtain ⟨v, S', G', rfl, st, hv⟩ := hh
      obtain ⟨rfl, _⟩ := hv.v_inv
      refine ⟨rfl, grow_of_fr ⟨st.fr.os, st.fr.tape, st.fr.output, st.fr.size, st.fr.drawn, fun k hk _ => st.fr.block k hk ?_⟩⟩
      rintro ⟨_, _, h, _⟩
      cases h
    have hH : HoldsK enc k w (G id).g (off * k) (Array.range n) := by
      intro t ht
      have ht' : t < n * k := by simpa using ht
      have hd := Nat.div_add_mod t k
      have hm := Nat.mod_lt t h0
      have hdl : t / k < n := (Nat.div_lt_iff_lt_mul h0).2 ht'
      rw [get_flatK _ _ _ _ (by simpa using ht')]
      have hr : (Array.range n)[t / k]! = t / k := by rw [getElem!_pos _ _ (by simpa using hdl)]; simp
      obtain ⟨pv, hpv⟩ := hcell' (t / k) (t % k) hm
      obtain ⟨u, q1, q2, _, _⟩ := hcell (t / k) (t % k) pv hpv
      have hixe : ix (t / k) = t / k := if_pos hdl
      constructor
      · rw [cell_of_row w _ _ cur _ _ c1, hr, List.getElem!_eq_getElem?_getD, q2]
        rw [hixe] at q1
        have : off * k + t = (off + t / k) * k + t % k := by rw [Nat.add_mul, Nat.mul_comm (t / k) k]; omega
        rw [this, q1]
        rfl
      · simp [World.frozen?, c1]
    have hsw := hW.swo hx
    have key := hso.1 Nat enc hek h1c (cfAt cf xs) hsw g' (G id).g (off * k) cap (Array.range n) w eg (by simpa using hcmp) hH hblk (by simpa using hn)
    have es1 : (Array.range n).size = n := by simp
    rw [es1] at key
    rw [hgs]
    refine key.mono fun e w' hh => ?_
    obtain ⟨rfl, m, os, rfl⟩ := hh
    have hidx : pdq (ltOf (cfAt cf xs)) (Array.range n) 0 n (Lib.bitLen n) true true = sortIdx cf xs := by unfold sortIdx; rw [hxl]
    rw [hidx]
    have hds : (sortIdx cf xs).size = n := by rw [sortIdx_size hW hx, hxl]
    have hsl : (sortL cf xs).length = n := by rw [sortL_length hW, hxl]
    have hpl : off + (sortL cf xs).length ≤ b.es.length := by rw [hsl]; exact hfit
    have hsg : ∀ i, i < n → (sortL cf xs)[i]? = some (elAt xs (sortIdx cf xs)[i]!) := fun i hin => by
      unfold sortL
      rw [if_neg (by omega), List.getElem?_map, Array.getElem?_toList, getElem!_pos _ i (by omega), Array.getElem?_eq_getElem (by omega)]
      rfl
    refine ⟨_, S, G, rfl, ?_, repO_undef⟩
    rw [hxs]
    have hst := Stp.set hi hb hop (putCells (fun v : Value => v) (off * k) (flatK enc k (sortIdx cf xs)) cur) (b.es.take off ++ sortL cf xs ++ b.es.drop (off + n)) (by simp [putCells, c2])
      (fun c hc => by
        rw [List.append_assoc] at hc
        rcases List.mem_append.1 hc with hc | hc
        · exact hbr.len hop c (List.mem_of_mem_take hc)
        rcases List.mem_append.1 hc with hc | hc
        · rw [hgs]; exact hxk c ((sortL_perm hW).mem_iff.1 hc)
        · exact hbr.len hop c (List.mem_of_mem_drop hc))
      (by
        have := splice_length b.es (sortL cf xs) off hpl
        rw [hsl] at this
        rw [this]
        exact hbr.fit hop)
      (fun i j c pv hci hcj => by
        have hspl := splice_get b.es (sortL cf xs) off i hpl
        rw [hsl] at hspl
        rw [hspl] at hci
        rw [hgs]
        split at hci
        · rename_i hin
          rw [hsg _ (by omega)] at hci
          injection hci with hci
          subst hci
          have hlj : j < k := by
            have := (List.getElem?_eq_some_iff.1 hcj).1
            rw [hxk _ (elAt_mem hx _)] at this
            exact this
          obtain ⟨u, q1, q2, q3, q4⟩ := hcell _ j pv hcj
          refine ⟨u, ?_, fun _ => q3, .c q3, q4⟩
          obtain ⟨i', rfl⟩ : ∃ i', i = off + i' := ⟨i - off, by omega⟩
          have e1 : off + i' - off = i' := by omega
          rw [e1] at q2
          have e2 : (off + i') * k + j = off * k + (i' * k + j) := by rw [Nat.add_mul]; omega
          have hlt : i' * k + j < n * k := elem_lt (by omega) hlj
          have hcl : off * k + (i' * k + j) < cur.size := by
            rw [c2]
            have := hbr.fit hop
            rw [hgs] at this
            have h5 : (off + n) * k ≤ b.es.length * k := Nat.mul_le_mul_right k hfit
            rw [Nat.add_mul] at h5
            omega
          rw [e2]
          unfold putCells
          rw [Array.getElem?_mapIdx, Array.getElem?_eq_getElem hcl]
          simp only [Option.map_some, size_flatK, hds]
          rw [if_pos ⟨by omega, by omega⟩, show off * k + (i' * k + j) - off * k = i' * k + j by omega, get_flatK _ _ _ _ (by rw [hds]; exact hlt)]
          have e3 : (i' * k + j) / k = i' := by rw [Nat.mul_comm, Nat.mul_add_div h0, Nat.div_eq_of_lt hlj]; rfl
          have e4 : (i' * k + j) % k = j := by rw [Nat.mul_comm, Nat.mul_add_mod, Nat.mod_eq_of_lt hlj]
          rw [e3, e4, List.getElem!_eq_getElem?_getD, q2]
          rfl
        · rename_i hin
          obtain ⟨u, q1, q2⟩ := c3 i j c pv hci hcj
          refine ⟨u, ?_, q2⟩
          have hlj : j < k := by
            have := (List.getElem?_eq_some_iff.1 hcj).1
            rw [hbr.len hop c (List.mem_of_getElem? hci), hgs] at this
            exact this
          unfold putCells
          rw [Array.getElem?_mapIdx, q1]
          simp only [Option.map_some, size_flatK, hds]
          rw [if_neg]
          rintro ⟨a1, a2⟩
          apply hin
          constructor
          · apply Nat.not_lt.1
            intro hlt
            have : (i + 1) * k ≤ off * k := Nat.mul_le_mul_right k hlt
            rw [Nat.add_mul] at this
            omega
          · apply Nat.not_le.1
            intro hle
            have : (off + n) * k ≤ i * k := Nat.mul_le_mul_right k hle
            rw [Nat.add_mul] at this
            omega)
    rw [← putRow_setRow enc k w _ _ _ c1] at hst
    exact hst.trans (Stp.grown hst.inv (sortWorld_fr enc k w (G id).g (off * k) m (sortIdx cf xs) os))
  · cases h
end
end Go.AM
namespace Go.Proofs.YtfjeckcbnhohmaaGreatDoor
open Go.RowKit Go.AM
open Classical in
/-- Cuts, compared by their cells. -/
noncomputable def cfC (x y : List PV) : Int := if h : ∃ a b : Cut, x = a.enc ∧ y = b.enc then cmpC (Classical.choose h) (Classical.choose (Classical.choose_spec h)) else 0
theorem cfC_enc (a b : Cut) : cfC a.enc b.enc = cmpC a b := by
  have h : ∃ c d : Cut, a.enc = c.enc ∧ b.enc = d.enc := ⟨a, b, rfl, rfl⟩
  unfold cfC
  rw [dif_pos h]
  have h2 := Classical.choose_spec (Classical.choose_spec h)
  exact congr (congrArg cmpC (cuenc_inj h2.1).symm) (cuenc_inj h2.2).symm
def encCs (l : List Cut) : List (List PV) := l.map Cut.enc
theorem weakC (l : List Cut) : WeakOn cfC (encCs l) where
  irrefl x hx := by
    obtain ⟨a, _, rfl⟩ := List.mem_map.1 hx
    rw [cfC_enc, cmpC_to.refl]
    exact Int.le_refl _
  trans x hx y hy z hz := by
    obtain ⟨a, _, rfl⟩ := List.mem_map.1 hx
    obtain ⟨b, _, rfl⟩ := List.mem_map.1 hy
    obtain ⟨c, _, rfl⟩ := List.mem_map.1 hz
    rw [cfC_enc, cfC_enc, cfC_enc]
    exact cmpC_to.trans
  ntrans x hx y hy z hz := by
    obtain ⟨a, _, rfl⟩ := List.mem_map.1 hx
    obtain ⟨b, _, rfl⟩ := List.mem_map.1 hy
    obtain ⟨c, _, rfl⟩ := List.mem_map.1 hz
    rw [cfC_enc, cfC_enc, cfC_enc]
    exact cmpC_to.ntrans
/-- The cells of a cut that is small. -/
def domC (x : List PV) : Prop := ∃ a : Cut, x = a.enc ∧ a.v.small
theorem cmpOkC : CmpOk Tryz.prog 222 5 cfC domC := by
  refine ⟨fun args w => ?_, _, compareCuts_sound, fun x y _ _ hx hy => ?_⟩
  · have h : Tryz.prog.funcs[222]? = some Tryz.f222 := Tryz.func222
    simp [callFunc, h, Tryz.f222]
  · obtain ⟨a, rfl, ha⟩ := hx
    obtain ⟨b, rfl, hb⟩ := hy
    rw [cfC_enc]
    exact ccx_call a b _ _ ha hb
open Classical in
/-- A cut out of its cells. -/
noncomputable def decC (x : List PV) : Cut := if h : ∃ a : Cut, x = a.enc then Classical.choose h else leastC
theorem decC_enc (a : Cut) : decC a.enc = a := by
  have h : ∃ c : Cut, a.enc = c.enc := ⟨a, rfl⟩
  unfold decC
  rw [dif_pos h]
  exact (cuenc_inj (Classical.choose_spec h)).symm
theorem decC_map (l : List Cut) : (encCs l).map decC = l := by
  induction l with
  | nil => rfl
  | cons a l ih =>
    show decC a.enc :: (encCs l).map decC = _
    rw [decC_enc, ih]
/-- The cuts in order. -/
theorem sorted_cuts (l : List Cut) : ∃ s : List Cut, sortL cfC (encCs l) = encCs s ∧ s.Perm l ∧ s.Pairwise fun a b => cmpC a b ≤ 0 := by
  have hp := sortL_perm (weakC l)
  have hs := sortL_sorted (weakC l)
  have key : ∀ (r : List (List PV)), (∀ x ∈ r, ∃ a : Cut, x = a.enc) → ∃ s : List Cut, r = encCs s := by
    intro r
    induction r with
    | nil => intro _; exact ⟨[], rfl⟩
    | cons x r ih =>
      intro h
      obtain ⟨a, rfl⟩ := h x (by simp)
      obtain ⟨s, rfl⟩ := ih fun y hy => h y (by simp [hy])
      exact ⟨a :: s, rfl⟩
  obtain ⟨s, e⟩ := key (sortL cfC (encCs l)) fun x hx => by
    have := hp.mem_iff.1 hx
    obtain ⟨a, _, rfl⟩ := List.mem_map.1 this
    exact ⟨a, rfl⟩
  rw [e] at hp hs
  refine ⟨s, e, ?_, ?_⟩
  · have := hp.map decC
    rwa [decC_map, decC_map] at this
  · rw [encCs, List.pairwise_map] at hs
    refine hs.imp fun {a b} h => ?_
    rw [cfC_enc] at h
    exact (cmpC_to.le a b).2 h
end Go.Proofs.YtfjeckcbnhohmaaGreatDoor
namespace Go.Proofs.YtfjeckcbnhohmaaGreatDoor
open Go.RowKit Go.AM
def setLast (out : List Str) (c : Cut) : List Str := match out.getLast? with
  | some s => out.dropLast ++ [⟨s.lo, c, false⟩]
  | none => out
/-- One cut of the sweep. -/
def swS (is : Cut → Bool) (st : Bool × List Str) (c : Cut) : Bool × List Str := (is c, if (is c && !st.1) = true then st.2 ++ [fromS c] else if (!is c && st.1) = true then setLast st.2 c else st.2)
theorem swS_twice (is : Cut → Bool) (st : Bool × List Str) (c : Cut) : swS is (swS is st c) c = swS is st c := by
  unfold swS
  cases is c <;> simp
def swL (is : Cut → Bool) (l : List Cut) (st : Bool × List Str) : Bool × List Str := l.foldl (swS is) st
open Classical in
/-- Each once, of cuts in order. -/
noncomputable def uniqC : List Cut → List Cut
  | [] => []
  | a :: l => match uniqC l with
    | [] => [a]
    | b :: r => if a = b then b :: r else a :: b :: r
theorem uniqC_head (a : Cut) (l : List Cut) : ∃ r, uniqC (a :: l) = a :: r := by
  simp only [uniqC]
  split
  · exact ⟨[], rfl⟩
  · split
    · rename_i h; subst h; exact ⟨_, rfl⟩
    · exact ⟨_, rfl⟩
theorem swL_uniq (is : Cut → Bool) : ∀ (l : List Cut) (st : Bool × List Str), swL is l st = swL is (uniqC l) st
  | [], st => rfl
  | a :: l, st => by
    have ih := swL_uniq is l (swS is st a)
    show swL is l (swS is st a) = _
    rw [ih]
    simp only [uniqC]
    split
    · rename_i e; rw [e]; rfl
    · rename_i b r e
      rw [e]
      split
      · rename_i h
        subst h
        show swL is r (swS is (swS is st a) a) = swL is r (swS is st a)
        rw [swS_twice]
      · rfl
theorem uniqC_mem : ∀ (l : List Cut) (c : Cut), c ∈ uniqC l ↔ c ∈ l
  | [], c => by simp [uniqC]
  | a :: l, c => by
    have ih := uniqC_mem l c
    simp only [uniqC]
    split
    · rename_i e
      rw [e] at ih
      simp only [List.mem_cons, List.not_mem_nil, or_false]
      rw [← ih]
      simp
    · rename_i b r e
      rw [e] at ih
      split
      · rename_i h
        subst h
        rw [List.mem_cons (b := a) (l := l), ← ih]
        simp
      · rw [List.mem_cons, List.mem_cons (b := a) (l := l), ih]
/-- In order, each once. -/
theorem uniqC_sorted : ∀ (l : List Cut) (_ : ∀ a ∈ l, ∀ b ∈ l, cmpC a b = 0 → a = b), (l.Pairwise fun a b => cmpC a b ≤ 0) → (uniqC l).Pairwise fun a b => cmpC a b < 0
  | [], _, _ => .nil
  | a :: l, he, hs => by
    obtain ⟨h1, h2⟩ := List.pairwise_cons.1 hs
    have ih := uniqC_sorted l (fun x hx y hy => he x (by simp [hx]) y (by simp [hy])) h2
    simp only [uniqC]
    split
    · simp
    · rename_i b r e
      rw [e] at ih
      split
      · exact ih
      · rename_i hab
        refine List.pairwise_cons.2 ⟨fun c hc => ?_, ih⟩
        have hb : b ∈ l := (uniqC_mem l b).1 (by rw [e]; simp)
        have hlt : cmpC a b < 0 := by
          rcases Int.lt_or_eq_of_le (h1 b hb) with h | h
          · exact h
          · exact absurd (he a (by simp) b (by simp [hb]) h) hab
        rcases List.mem_cons.1 hc with rfl | hc
        · exact hlt
        · exact cmpC_to.trans hlt ((List.pairwise_cons.1 ih).1 c hc)
/-- Two rows in order, each cut once, of the same cuts are one row. -/
theorem sorted_eq : ∀ (x y : List Cut), (x.Pairwise fun a b => cmpC a b < 0) → (y.Pairwise fun a b => cmpC a b < 0) → (∀ c, c ∈ x ↔ c ∈ y) → x = y
  | [], [], _, _, _ => rfl
  | [], b :: y, _, _, h => absurd ((h b).2 (by simp)) (by simp)
  | a :: x, [], _, _, h => absurd ((h a).1 (by simp)) (by simp)
  | a :: x, b :: y, hx, hy, h => by
    obtain ⟨x1, x2⟩ := List.pairwise_cons.1 hx
    obtain ⟨y1, y2⟩ := List.pairwise_cons.1 hy
    have irr : ∀ c : Cut, ¬ cmpC c c < 0 := fun c => by rw [cmpC_to.refl]; omega
    have hab : a = b := by
      rcases List.mem_cons.1 ((h a).1 (by simp)) with e | ha
      · exact e
      · rcases List.mem_cons.1 ((h b).2 (by simp)) with e | hb
        · exact e.symm
        · exact absurd (cmpC_to.trans (x1 b hb) (y1 a ha)) (irr a)
    subst hab
    rw [sorted_eq x y x2 y2 fun c => ?_]
    constructor
    · intro hc
      rcases List.mem_cons.1 ((h c).1 (by simp [hc])) with e | hc'
      · subst e; exact absurd (x1 c hc) (irr c)
      · exact hc'
    · intro hc
      rcases List.mem_cons.1 ((h c).2 (by simp [hc])) with e | hc'
      · subst e; exact absurd (y1 c hc) (irr c)
      · exact hc'
end Go.Proofs.YtfjeckcbnhohmaaGreatDoor
namespace Go.Proofs.YtfjeckcbnhohmaaGreatDoor
open Go.RowKit Go.AM
/-- The cuts of a range. -/
def cutsOf : List Str → List Cut
  | [] => []
  | s :: l => (if s.endless = true then [s.lo] else [s.lo, s.hi]) ++ cutsOf l
theorem cutsOf_append (a b : List Str) : cutsOf (a ++ b) = cutsOf a ++ cutsOf b := by
  induction a with
  | nil => rfl
  | cons s a ih => simp only [List.cons_append, cutsOf, ih, List.append_assoc]
theorem cutsOf_len (a : List Str) : (cutsOf a).length ≤ 2 * a.length := by
  induction a with
  | nil => simp [cutsOf]
  | cons s a ih => simp only [cutsOf, List.length_append, List.length_cons]; split <;> simp <;> omega
theorem cutsOf_all {Q : Cut → Prop} {a : List Str} (h : ∀ s ∈ a, Q s.lo ∧ Q s.hi) : ∀ c ∈ cutsOf a, Q c := by
  induction a with
  | nil => intro c hc; cases hc
  | cons s a ih =>
    intro c hc
    obtain ⟨h1, h2⟩ := h s (by simp)
    simp only [cutsOf, List.mem_append] at hc
    rcases hc with hc | hc
    · split at hc
      · rw [List.mem_singleton] at hc; rw [hc]; exact h1
      · simp only [List.mem_cons, List.not_mem_nil, or_false] at hc
        rcases hc with rfl | rfl
        · exact h1
        · exact h2
    · exact ih (fun x hx => h x (by simp [hx])) c hc
/-- Cuts in order. -/
noncomputable def sortCu (l : List Cut) : List Cut := (sortL cfC (encCs l)).map decC
theorem sortCu_enc (l : List Cut) : sortL cfC (encCs l) = encCs (sortCu l) := by
  obtain ⟨s, h, _⟩ := sorted_cuts l
  unfold sortCu
  rw [h, decC_map]
theorem sortCu_perm (l : List Cut) : (sortCu l).Perm l := by
  obtain ⟨s, h, h1, _⟩ := sorted_cuts l
  unfold sortCu
  rw [h, decC_map]
  exact h1
theorem sortCu_sorted (l : List Cut) : (sortCu l).Pairwise fun a b => cmpC a b ≤ 0 := by
  obtain ⟨s, h, _, h1⟩ := sorted_cuts l
  unfold sortCu
  rw [h, decC_map]
  exact h1
/-- Two ranges put together. -/
noncomputable def combL (f : Bool → Bool → Bool) (a b : List Str) : List Str := (swL (fun c => f (covA a c) (covA b c)) (sortCu (cutsOf a ++ cutsOf b)) (false, [])).2
theorem setLast_len (out : List Str) (c : Cut) : (setLast out c).length = out.length := by
  unfold setLast
  split
  · rename_i s h
    have : out ≠ [] := by rintro rfl; cases h
    have := List.length_pos_iff.2 this
    simp
    omega
  · rfl
theorem swL_len (is : Cut → Bool) : ∀ (l : List Cut) (st : Bool × List Str), 2 * (swL is l st).2.length + (if st.1 = true then 1 else 0) ≤ 2 * st.2.length + l.length + (if (swL is l st).1 = true then 1 else 0)
  | [], st => by
    show 2 * st.2.length + (if st.1 = true then 1 else 0) ≤ 2 * st.2.length + 0 + (if st.1 = true then 1 else 0)
    omega
  | c :: l, st => by
    have ih := swL_len is l (swS is st c)
    have e : swL is (c :: l) st = swL is l (swS is st c) := rfl
    rw [e]
    have hs : 2 * (swS is st c).2.length + (if st.1 = true then 1 else 0) ≤ 2 * st.2.length + 1 + (if (swS is st c).1 = true then 1 else 0) := by
      obtain ⟨o, out⟩ := st
      unfold swS
      cases is c <;> cases o <;> simp [setLast_len] <;> omega
    simp only [List.length_cons]
    omega
theorem combL_len (f : Bool → Bool → Bool) (a b : List Str) : (combL f a b).length ≤ a.length + b.length := by
  have h := swL_len (fun c => f (covA a c) (covA b c)) (sortCu (cutsOf a ++ cutsOf b)) (false, [])
  have h1 := (sortCu_perm (cutsOf a ++ cutsOf b)).length_eq
  have h2 := cutsOf_len a
  have h3 := cutsOf_len b
  rw [List.length_append] at h1
  unfold combL
  simp only [Bool.false_eq_true, if_false, List.length_nil] at h
  split at h <;> omega
theorem setLast_all {Q : Cut → Prop} {out : List Str} {c : Cut} (h : ∀ s ∈ out, Q s.lo ∧ Q s.hi) (hc : Q c) : ∀ s ∈ setLast out c, Q s.lo ∧ Q s.hi := by
  unfold setLast
  split
  · rename_i s hs
    intro x hx
    rcases List.mem_append.1 hx with hx | hx
    · exact h x (List.dropLast_subset _ hx)
    · rw [List.mem_singleton] at hx
      rw [hx]
      exact ⟨(h s (List.mem_of_getLast? hs)).1, hc⟩
  · exact h
theorem swL_all {Q : Cut → Prop} (h0 : Q cut0) (is : Cut → Bool) : ∀ (l : List Cut) (st : Bool × List Str), (∀ c ∈ l, Q c) → (∀ s ∈ st.2, Q s.lo ∧ Q s.hi) → ∀ s ∈ (swL is l st).2, Q s.lo ∧ Q s.hi
  | [], st, _, h => h
  | c :: l, st, hl, h => by
    refine swL_all h0 is l (swS is st c) (fun x hx => hl x (by simp [hx])) ?_
    have hc := hl c (by simp)
    unfold swS
    dsimp only
    split
    · intro s hs
      rcases List.mem_append.1 hs with hs | hs
      · exact h s hs
      · rw [List.mem_singleton] at hs
        rw [hs]
        exact ⟨hc, h0⟩
    · split
      · exact setLast_all h hc
      · exact h
theorem combL_all {Q : Cut → Prop} (h0 : Q cut0) (f : Bool → Bool → Bool) {a b : List Str} (ha : ∀ s ∈ a, Q s.lo ∧ Q s.hi) (hb : ∀ s ∈ b, Q s.lo ∧ Q s.hi) : ∀ s ∈ combL f a b, Q s.lo ∧ Q s.hi :=
  swL_all h0 _ _ _ (fun c hc => by
    have := (sortCu_perm _).mem_iff.1 hc
    rcases List.mem_append.1 this with h | h
    · exact cutsOf_all ha c h
    · exact cutsOf_all hb c h) (fun s hs => by cases hs)
end Go.Proofs.YtfjeckcbnhohmaaGreatDoor
