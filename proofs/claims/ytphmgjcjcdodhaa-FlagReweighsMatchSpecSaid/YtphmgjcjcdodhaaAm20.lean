/-
  The abstract machine, part 20: slices.SortFunc.
-/
import Derived.Test.YtphmgjcjcdodhaaAm19
import Derived.Shelf.SlSortCmp.InsertionK
import Derived.Sort.AssemblyPlain
namespace Go.AM
open Go.RowKit Go.Sort Go.Proofs

/-- The elements by number; beyond the end the first one. -/
def elAt (xs : List (List PV)) (i : Nat) : List PV := xs.getD (if i < xs.length then i else 0) []
theorem elAt_mem {xs : List (List PV)} (h : xs ≠ []) (i : Nat) : elAt xs i ∈ xs := by
  have h0 : 0 < xs.length := List.length_pos_iff.2 h
  have hl : (if i < xs.length then i else 0) < xs.length := by split <;> assumption
  unfold elAt
  rw [List.getD_eq_getElem?_getD, List.getElem?_eq_getElem hl]
  exact List.getElem_mem _
theorem elAt_get {xs : List (List PV)} {i : Nat} (h : i < xs.length) : elAt xs i = xs[i] := by
  unfold elAt
  rw [if_pos h, List.getD_eq_getElem?_getD, List.getElem?_eq_getElem h]
  rfl

def cfAt (cf : List PV → List PV → Int) (xs : List (List PV)) (i j : Nat) : Int := cf (elAt xs i) (elAt xs j)
def sortIdx (cf : List PV → List PV → Int) (xs : List (List PV)) : Array Nat := pdq (ltOf (cfAt cf xs)) (Array.range xs.length) 0 xs.length (Lib.bitLen xs.length) true true
/-- What slices.SortFunc makes of the elements. -/
def sortL (cf : List PV → List PV → Int) (xs : List (List PV)) : List (List PV) := if xs.length = 0 then [] else (sortIdx cf xs).toList.map (elAt xs)

/-- A strict weak order on what is sorted. -/
structure WeakOn (cf : List PV → List PV → Int) (xs : List (List PV)) : Prop where
  irrefl : ∀ x ∈ xs, 0 ≤ cf x x
  trans : ∀ x ∈ xs, ∀ y ∈ xs, ∀ z ∈ xs, cf x y < 0 → cf y z < 0 → cf x z < 0
  ntrans : ∀ x ∈ xs, ∀ y ∈ xs, ∀ z ∈ xs, 0 ≤ cf x y → 0 ≤ cf y z → 0 ≤ cf x z

section
variable {cf : List PV → List PV → Int} {xs : List (List PV)}
theorem lt_true {i j : Nat} (h : ltOf (cfAt cf xs) i j = true) : cf (elAt xs i) (elAt xs j) < 0 := of_decide_eq_true h
theorem lt_false {i j : Nat} (h : ltOf (cfAt cf xs) i j = false) : 0 ≤ cf (elAt xs i) (elAt xs j) := Int.not_lt.1 (of_decide_eq_false h)
theorem lt_intro {i j : Nat} (h : cf (elAt xs i) (elAt xs j) < 0) : ltOf (cfAt cf xs) i j = true := decide_eq_true h
theorem lt_none {i j : Nat} (h : 0 ≤ cf (elAt xs i) (elAt xs j)) : ltOf (cfAt cf xs) i j = false := decide_eq_false (Int.not_lt.2 h)
theorem WeakOn.swo (h : WeakOn cf xs) (hx : xs ≠ []) : SWO (ltOf (cfAt cf xs)) where
  irrefl i := lt_none (h.irrefl _ (elAt_mem hx i))
  trans i j k h1 h2 := lt_intro (h.trans _ (elAt_mem hx i) _ (elAt_mem hx j) _ (elAt_mem hx k) (lt_true h1) (lt_true h2))
  ntrans i j k h1 h2 := lt_none (h.ntrans _ (elAt_mem hx i) _ (elAt_mem hx j) _ (elAt_mem hx k) (lt_false h1) (lt_false h2))

theorem sortIdx_spec (h : WeakOn cf xs) (hx : xs ≠ []) : PermIn 0 xs.length (Array.range xs.length) (sortIdx cf xs) ∧ SortedIn (ltOf (cfAt cf xs)) 0 xs.length (sortIdx cf xs) :=
  pdq_sorts (ltOf (cfAt cf xs)) (h.swo hx) (Array.range xs.length) 0 xs.length (Lib.bitLen xs.length) true true (Nat.zero_le _) (by simp) (Or.inl rfl)

theorem sortIdx_size (h : WeakOn cf xs) (hx : xs ≠ []) : (sortIdx cf xs).size = xs.length := by
  have := (sortIdx_spec h hx).1.1
  simpa using this

theorem sortL_perm (h : WeakOn cf xs) : (sortL cf xs).Perm xs := by
  unfold sortL
  split
  · rename_i h0
    have : xs = [] := List.length_eq_zero_iff.1 h0
    subst this
    exact .refl _
  · rename_i h0
    have hx : xs ≠ [] := by rintro rfl; simp at h0
    obtain ⟨h1, _, h3⟩ := (sortIdx_spec h hx).1
    have hs := sortIdx_size h hx
    have e1 : (sortIdx cf xs).extract 0 xs.length = sortIdx cf xs := by rw [← hs]; simp
    have e2 : (Array.range xs.length).extract 0 xs.length = Array.range xs.length := by
      conv => lhs; rw [show xs.length = (Array.range xs.length).size by simp]
      simp
    rw [e1, e2] at h3
    have h4 := h3.map (elAt xs)
    have e3 : (Array.range xs.length).toList.map (elAt xs) = xs := by
      apply List.ext_getElem
      · simp
      · intro i hi hi'
        simp [elAt_get hi']
    rw [e3] at h4
    exact h4

theorem sortL_sorted (h : WeakOn cf xs) : (sortL cf xs).Pairwise (fun x y => 0 ≤ cf y x) := by
  unfold sortL
  split
  · exact List.Pairwise.nil
  · rename_i h0
    have hx : xs ≠ [] := by rintro rfl; simp at h0
    have hs := sortIdx_size h hx
    have h2 := (sortIdx_spec h hx).2
    rw [List.pairwise_map, List.pairwise_iff_getElem]
    intro i j hi hj hij
    have h3 := h2 i j (Nat.zero_le _) hij (by simp at hj; omega)
    simp at hi hj
    rw [getElem!_pos _ i hi, getElem!_pos _ j hj] at h3
    simpa using lt_false h3
theorem sortL_length (h : WeakOn cf xs) : (sortL cf xs).length = xs.length := (sortL_perm h).length_eq
end

/-- What the kit's contract says of slices.SortFunc at elements of k cells. -/
def SortOk (P : Program) (f k : Nat) : Prop :=
  (∀ (α : Type) [Inhabited α] (enc : α → List Value) (_ : ∀ x, (enc x).length = k) (_ : ∀ x, ∀ v ∈ enc x, v.oneCell' = true) (cf : α → α → Int) (_ : SWO (ltOf cf)) (g : Nat) (blk off cap : Nat) (d : Array α) (w : World)
    (_ : ∀ args w, (callFunc g args).run P w = .ok (.enter g args) w) (_ : CmpLays P g #[] enc k cf blk off d.size w) (_ : HoldsK enc k w blk off d) (_ : blk < w.heap.size) (_ : d.size < 4611686018427387904),
    Calls P f #[.slice (some ⟨blk, off, none⟩) d.size cap, .func (.func g) #[] #[]] w fun e w' =>
      e = .returned (.tuple #[]) ∧ ∃ n os, w' = sortWorldK enc k w blk off n (pdq (ltOf cf) d 0 d.size (Lib.bitLen d.size) true true) os) ∧
  ∀ (p : Option Addr) (cap : Nat) (fv : Value) (w : World), Calls P f #[.slice p 0 cap, fv] w fun e w' => e = .returned (.tuple #[]) ∧ w' = w

/-- What is asked of the comparing function. -/
def CmpOk (P : Program) (g k : Nat) (cf : List PV → List PV → Int) (dom : List PV → Prop) : Prop :=
  (∀ args w, (callFunc g args).run P w = .ok (.enter g args) w) ∧ ∃ spec, SpecSound P g spec ∧ ∀ x y, x.length = k → y.length = k → dom x → dom y → spec [.agg x, .agg y] (fun _ => none) 0 = some (.v (.int .i64 (cf x y)), fun _ => none, 0)

open Classical in
/-- slices.SortFunc in a block of the call's own. -/
noncomputable def hSort (k : Nat) (g : Nat) (cf : List PV → List PV → Int) (dom : List PV → Prop) : AM.Spec := fun args hp nx =>
  match args with
  | [.nil, .fn _ _ _] => some (.tup [], hp, nx)
  | [.own id off n, .fn (.func g') [] []] => if n = 0 then some (.tup [], hp, nx) else match hp id with
    | some b => if g' = g ∧ b.arr = true ∧ b.s = k ∧ off + n ≤ b.es.length ∧ n < 4611686018427387904 ∧ WeakOn cf ((b.es.drop off).take n) ∧ ∀ x ∈ (b.es.drop off).take n, dom x then
        some (.tup [], upd hp id (some ⟨b.e, b.s, b.arr, b.es.take off ++ sortL cf ((b.es.drop off).take n) ++ b.es.drop (off + n)⟩), nx) else none
    | none => none
  | _ => none

theorem grow_of_fr {W w' : World} (h : Fr W (fun _ => False) w') : ∃ q os', w' = grow (W.drewN q) os' := by
  refine ⟨w'.drawn - W.drawn, w'.heap.extract W.heap.size w'.heap.size, ?_⟩
  obtain ⟨heap, tape, drawn, os, output⟩ := w'
  obtain ⟨h1, h2, h3, h4, h5, h6⟩ := h
  simp only at h1 h2 h3 h4 h5 h6
  unfold grow World.drewN
  simp only [World.mk.injEq]
  refine ⟨?_, h2, by omega, h1, h3⟩
  apply Array.ext_getElem?
  intro i
  by_cases hi : i < W.heap.size
  · rw [h6 i hi (fun h => h), Array.getElem?_append_left hi]
  · rw [Array.getElem?_append_right (by omega), Array.getElem?_extract]
    by_cases hj : i < heap.size
    · rw [if_pos (by omega)]; congr 1; omega
    · rw [if_neg (by omega), Array.getElem?_eq_none (by omega)]

theorem Stp.grown {P : Program} {hp : Hp} {nx : Nat} {S : Nat → Prop} {G : Nat → GI} {w w' : World} (h : Inv P w S G hp nx) (fr : Fr w (fun _ => False) w') : Stp P hp nx S G w hp nx S G w' := by
  have hS : ∀ b, b < w.heap.size → w'.heap[b]? = w.heap[b]? := fun b hb => fr.block b hb (fun h => h)
  refine ⟨⟨fun b hb => Nat.lt_of_lt_of_le (h.st b hb) fr.size, h.top, fun id b hb => ?_, h.apart, h.inj⟩, Nat.le_refl _, fun _ _ => rfl, fun _ hb => hb, fun _ hb => .inl hb, fun id b hb => .inl ⟨id, b, hb, rfl⟩, ⟨fr.os, fr.tape, fr.output, fr.size, fr.drawn, fun k hk _ => fr.block k hk (fun h => h)⟩⟩
  have hl := h.live id b hb
  exact hl.mono (fun b hb => ⟨hb, hS b (h.st b hb)⟩) (Nat.le_refl _) (fun _ _ => rfl) (hS _ hl.lt)

theorem sortWorld_fr {α : Type} [Inhabited α] (enc : α → List Value) (k : Nat) (w : World) (blk off m : Nat) (d : Array α) (os : Array Obj) : Fr (putRowK enc k w blk off d) (fun _ => False) (sortWorldK enc k w blk off m d os) := by
  refine ⟨rfl, rfl, rfl, ?_, ?_, fun b hb _ => ?_⟩
  · show _ ≤ (_ ++ os).size
    rw [Array.size_append]
    exact Nat.le_add_right _ _
  · exact Nat.le_add_right _ _
  · exact Array.getElem?_append_left hb
theorem putRow_setRow {α : Type} [Inhabited α] (enc : α → List Value) (k : Nat) (w : World) (blk off : Nat) (d : Array α) {cur : Array Value} {e : TypeId} (h : w.heap[blk]? = some (.cells cur e (0, 0))) :
    putRowK enc k w blk off d = w.setRow blk (putCells (fun v : Value => v) off (flatK enc k d) cur) := by
  unfold putRowK putRow mapBlock World.setRow
  congr 1
  apply Array.ext_getElem?
  intro i
  simp only [Array.getElem?_modify]
  by_cases hi : blk = i
  · subst hi
    simp only [if_true, h, Option.map_some, onCells]
    rfl
  · simp [hi]

section
variable {P : Program} {f k g : Nat} {cf : List PV → List PV → Int} {dom : List PV → Prop}
theorem hSort_sound (h0 : 0 < k) (hfn : ∃ fn, P.funcs[f]? = some fn ∧ (fn.name == "runtime.NumGoroutine") = false ∧ fn.body.isNone = false) (hso : SortOk P f k) (hco : CmpOk P g k cf dom) : SpecSound P f (hSort k g cf dom) := by
  refine ⟨hfn, ?_⟩
  intro args hp nx r hp' nx' h w S G vs hi hz
  unfold hSort at h
  split at h
  · injection h with h
    injection h with e1 h
    injection h with e2 e3
    subst e1; subst e2; subst e3
    obtain ⟨u, us, rfl, hu, hz'⟩ := hz.uncons
    obtain ⟨v, us, rfl, hv, hz'⟩ := hz'.uncons
    obtain rfl := hz'.unnil
    obtain rfl := hu.nil_inv
    refine (hso.2 none 0 v w).mono fun e w' hh => ?_
    obtain ⟨rfl, rfl⟩ := hh
    exact ⟨_, _, _, rfl, .refl hi, repO_undef⟩
  · rename_i id off n g'
    obtain ⟨u, us, rfl, hu, hz'⟩ := hz.uncons
    obtain ⟨v, us, rfl, hv, hz'⟩ := hz'.uncons
    obtain rfl := hz'.unnil
    obtain ⟨cap, g1, g2, g3, g4, rfl⟩ := hu.own_inv
    split at h
    · rename_i hn0
      subst hn0
      injection h with h
      injection h with e1 h
      injection h with e2 e3
      subst e1; subst e2; subst e3
      refine (hso.2 _ cap v w).mono fun e w' hh => ?_
      obtain ⟨rfl, rfl⟩ := hh
      exact ⟨_, _, _, rfl, .refl hi, repO_undef⟩
    rename_i hn0
    split at h
    case h_2 => cases h
    rename_i b hb
    split at h
    case isFalse => cases h
    rename_i hc
    obtain ⟨rfl, harr, hbk, hfit, hn, hW, hdom⟩ := hc
    injection h with h
    injection h with e1 h
    injection h with e2 e3
    subst e1; subst e2; subst e3
    have hbr := hi.live id b hb
    obtain ⟨us, ts, rfl, hus, hts, _, _⟩ := hv.fn_inv
    obtain rfl : us = #[] := Array.eq_empty_of_size_eq_zero (by simpa using hus.symm)
    obtain rfl : ts = #[] := Array.eq_empty_of_size_eq_zero (by simpa using hts.symm)
    have hgs : (G id).s = k := by rw [← hbr.bs]; exact hbk
    obtain ⟨cur, c1, c2, c3⟩ := hbr.row
    rw [hgs] at c3 g4
    obtain ⟨xs, hxs⟩ : ∃ xs, (b.es.drop off).take n = xs := ⟨_, rfl⟩
    rw [hxs] at hW hdom
    have hxl : xs.length = n := by rw [← hxs]; simp; omega
    have hx : xs ≠ [] := by rintro rfl; simp at hxl; omega
    have hxk : ∀ x ∈ xs, x.length = k := fun x hx => by
      rw [← hgs]; rw [← hxs] at hx
      exact hbr.len x (List.mem_of_mem_drop (List.mem_of_mem_take hx))
    have hxg : ∀ i, i < n → xs[i]? = b.es[off + i]? := fun i hi => by
      rw [← hxs, List.getElem?_take, if_pos hi, List.getElem?_drop]
    let ix : Nat → Nat := fun i => if i < n then i else 0
    have hix : ∀ i, ix i < n := fun i => by show (if i < n then i else 0) < n; split <;> omega
    have hel : ∀ i, xs[ix i]? = some (elAt xs i) := fun i => by
      unfold elAt
      rw [List.getD_eq_getElem?_getD]
      show xs[if i < n then i else 0]? = _
      have : (if i < n then i else 0) < xs.length := by rw [hxl]; exact hix i
      rw [hxl, List.getElem?_eq_getElem this]
      rfl
    let enc : Nat → List Value := fun i => (List.range k).map fun j => (cur[(off + ix i) * k + j]?).getD undef
    have hek : ∀ x, (enc x).length = k := fun x => by simp [enc]
    -- the cells of an element
    have hcell : ∀ i j pv, (elAt xs i)[j]? = some pv → ∃ u, cur[(off + ix i) * k + j]? = some u ∧ (enc i)[j]? = some u ∧ RepC w S pv u ∧ u.oneCell' = true := fun i j pv hj => by
      have hlj : j < k := by
        have := (List.getElem?_eq_some_iff.1 hj).1
        rw [hxk _ (elAt_mem hx i)] at this
        exact this
      obtain ⟨u, q1, q2⟩ := c3 (off + ix i) j (elAt xs i) pv (by rw [← hxg _ (hix i)]; exact hel i) hj
      rw [harr] at q2
      refine ⟨u, q1, ?_, q2.1 rfl, q2.2.2⟩
      simp [enc, hlj, q1]
    have hcell' : ∀ i j, j < k → ∃ pv, (elAt xs i)[j]? = some pv := fun i j hj => by
      have : j < (elAt xs i).length := by rw [hxk _ (elAt_mem hx i)]; exact hj
      exact ⟨_, List.getElem?_eq_getElem this⟩
    have h1c : ∀ x, ∀ v ∈ enc x, v.oneCell' = true := fun x v hv => by
      obtain ⟨j, hj, rfl⟩ := List.mem_map.1 hv
      obtain ⟨pv, hpv⟩ := hcell' x j (List.mem_range.1 hj)
      obtain ⟨u, q1, _, _, q4⟩ := hcell x j pv hpv
      rw [q1]
      exact q4
    have hblk : (G id).g < w.heap.size := hbr.lt
    have hother : ∀ m os (dk : Array Nat) b', S b' → (sortWorldK enc k w (G id).g (off * k) m dk os).heap[b']? = w.heap[b']? := fun m os dk b' hb' => by
      have hlt : b' < (putRowK enc k w (G id).g (off * k) dk).heap.size := by
        rw [putRow_setRow enc k w _ _ dk c1, size_setRow]
        exact hi.st b' hb'
      rw [(sortWorld_fr enc k w (G id).g (off * k) m dk os).block b' hlt (fun h => h), putRow_setRow enc k w _ _ dk c1]
      exact setRow_other _ _ _ _ fun e => hi.apart id b hb (e ▸ hb')
    have hsize : ∀ m os (dk : Array Nat), w.heap.size ≤ (sortWorldK enc k w (G id).g (off * k) m dk os).heap.size := fun m os dk => by
      have := (sortWorld_fr enc k w (G id).g (off * k) m dk os).size
      rw [putRow_setRow enc k w _ _ dk c1, size_setRow] at this
      exact this
    obtain ⟨eg, spec, hsp, hcall⟩ := hco
    have hcmp : CmpLays P g' #[] enc k (cfAt cf xs) (G id).g (off * k) n w := by
      intro m os dk hdk x y
      have hagg : ∀ x, RepC (sortWorldK enc k w (G id).g (off * k) m dk os) S (.agg (elAt xs x)) (.agg (enc x).toArray) := fun x => by
        refine .agg (by simp [hek, hxk _ (elAt_mem hx x)]) fun j pv u hj hu => ?_
        obtain ⟨u', _, q2, q3, _⟩ := hcell x j pv hj
        have : u = u' := by simpa [q2] using hu.symm
        subst this
        exact q3.mono fun b' hb' => ⟨hb', hother m os dk b' hb'⟩
      have := hsp.2 _ _ _ _ _ _ (hcall _ _ (hxk _ (elAt_mem hx x)) (hxk _ (elAt_mem hx y)) (hdom _ (elAt_mem hx x)) (hdom _ (elAt_mem hx y))) (sortWorldK enc k w (G id).g (off * k) m dk os) S G [.agg (enc x).toArray, .agg (enc y).toArray]
        ⟨fun b' hb' => Nat.lt_of_lt_of_le (hi.st b' hb') (hsize m os dk), fun _ _ h => (nomatch h), fun _ _ h => (nomatch h), fun _ _ h => (nomatch h), fun _ _ _ _ h => (nomatch h)⟩ (.cons (.c (hagg x)) (.cons (.c (hagg y)) .nil))
      refine this.mono fun e w' hh => ?_
      obtain ⟨v, S', G', rfl, st, hv⟩ := hh
      obtain ⟨rfl, _⟩ := hv.v_inv
      refine ⟨rfl, grow_of_fr ⟨st.fr.os, st.fr.tape, st.fr.output, st.fr.size, st.fr.drawn, fun k hk _ => st.fr.block k hk ?_⟩⟩
      rintro ⟨_, _, h, _⟩
      cases h
    have hH : HoldsK enc k w (G id).g (off * k) (Array.range n) := by
      intro t ht
      have ht' : t < n * k := by simpa using ht
      have hd := Nat.div_add_mod t k
      have hm := Nat.mod_lt t h0
      have hdl : t / k < n := (Nat.div_lt_iff_lt_mul h0).2 ht'
      rw [get_flatK _ _ _ _ (by simpa using ht')]
      have hr : (Array.range n)[t / k]! = t / k := by rw [getElem!_pos _ _ (by simpa using hdl)]; simp
      obtain ⟨pv, hpv⟩ := hcell' (t / k) (t % k) hm
      obtain ⟨u, q1, q2, _, _⟩ := hcell (t / k) (t % k) pv hpv
      have hixe : ix (t / k) = t / k := if_pos hdl
      constructor
      · rw [cell_of_row w _ _ cur _ _ c1, hr, List.getElem!_eq_getElem?_getD, q2]
        rw [hixe] at q1
        have : off * k + t = (off + t / k) * k + t % k := by rw [Nat.add_mul, Nat.mul_comm (t / k) k]; omega
        rw [this, q1]
        rfl
      · simp [World.frozen?, c1]
    have hsw := hW.swo hx
    have key := hso.1 Nat enc hek h1c (cfAt cf xs) hsw g' (G id).g (off * k) cap (Array.range n) w eg (by simpa using hcmp) hH hblk (by simpa using hn)
    have es1 : (Array.range n).size = n := by simp
    rw [es1] at key
    rw [hgs]
    refine key.mono fun e w' hh => ?_
    obtain ⟨rfl, m, os, rfl⟩ := hh
    have hidx : pdq (ltOf (cfAt cf xs)) (Array.range n) 0 n (Lib.bitLen n) true true = sortIdx cf xs := by unfold sortIdx; rw [hxl]
    rw [hidx]
    have hds : (sortIdx cf xs).size = n := by rw [sortIdx_size hW hx, hxl]
    have hsl : (sortL cf xs).length = n := by rw [sortL_length hW, hxl]
    have hpl : off + (sortL cf xs).length ≤ b.es.length := by rw [hsl]; exact hfit
    have hsg : ∀ i, i < n → (sortL cf xs)[i]? = some (elAt xs (sortIdx cf xs)[i]!) := fun i hin => by
      unfold sortL
      rw [if_neg (by omega), List.getElem?_map, Array.getElem?_toList, getElem!_pos _ i (by omega), Array.getElem?_eq_getElem (by omega)]
      rfl
    refine ⟨_, S, G, rfl, ?_, repO_undef⟩
    rw [hxs]
    have hst := Stp.set hi hb (putCells (fun v : Value => v) (off * k) (flatK enc k (sortIdx cf xs)) cur) (b.es.take off ++ sortL cf xs ++ b.es.drop (off + n)) (by simp [putCells, c2])
      (fun c hc => by
        rw [List.append_assoc] at hc
        rcases List.mem_append.1 hc with hc | hc
        · exact hbr.len c (List.mem_of_mem_take hc)
        rcases List.mem_append.1 hc with hc | hc
        · rw [hgs]; exact hxk c ((sortL_perm hW).mem_iff.1 hc)
        · exact hbr.len c (List.mem_of_mem_drop hc))
      (by
        have := splice_length b.es (sortL cf xs) off hpl
        rw [hsl] at this
        rw [this]
        exact hbr.fit)
      (fun i j c pv hci hcj => by
        have hspl := splice_get b.es (sortL cf xs) off i hpl
        rw [hsl] at hspl
        rw [hspl] at hci
        rw [hgs]
        split at hci
        · rename_i hin
          rw [hsg _ (by omega)] at hci
          injection hci with hci
          subst hci
          have hlj : j < k := by
            have := (List.getElem?_eq_some_iff.1 hcj).1
            rw [hxk _ (elAt_mem hx _)] at this
            exact this
          obtain ⟨u, q1, q2, q3, q4⟩ := hcell _ j pv hcj
          refine ⟨u, ?_, fun _ => q3, .c q3, q4⟩
          obtain ⟨i', rfl⟩ : ∃ i', i = off + i' := ⟨i - off, by omega⟩
          have e1 : off + i' - off = i' := by omega
          rw [e1] at q2
          have e2 : (off + i') * k + j = off * k + (i' * k + j) := by rw [Nat.add_mul]; omega
          have hlt : i' * k + j < n * k := elem_lt (by omega) hlj
          have hcl : off * k + (i' * k + j) < cur.size := by
            rw [c2]
            have := hbr.fit
            rw [hgs] at this
            have h5 : (off + n) * k ≤ b.es.length * k := Nat.mul_le_mul_right k hfit
            rw [Nat.add_mul] at h5
            omega
          rw [e2]
          unfold putCells
          rw [Array.getElem?_mapIdx, Array.getElem?_eq_getElem hcl]
          simp only [Option.map_some, size_flatK, hds]
          rw [if_pos ⟨by omega, by omega⟩, show off * k + (i' * k + j) - off * k = i' * k + j by omega, get_flatK _ _ _ _ (by rw [hds]; exact hlt)]
          have e3 : (i' * k + j) / k = i' := by rw [Nat.mul_comm, Nat.mul_add_div h0, Nat.div_eq_of_lt hlj]; rfl
          have e4 : (i' * k + j) % k = j := by rw [Nat.mul_comm, Nat.mul_add_mod, Nat.mod_eq_of_lt hlj]
          rw [e3, e4, List.getElem!_eq_getElem?_getD, q2]
          rfl
        · rename_i hin
          obtain ⟨u, q1, q2⟩ := c3 i j c pv hci hcj
          refine ⟨u, ?_, q2⟩
          have hlj : j < k := by
            have := (List.getElem?_eq_some_iff.1 hcj).1
            rw [hbr.len c (List.mem_of_getElem? hci), hgs] at this
            exact this
          unfold putCells
          rw [Array.getElem?_mapIdx, q1]
          simp only [Option.map_some, size_flatK, hds]
          rw [if_neg]
          rintro ⟨a1, a2⟩
          apply hin
          constructor
          · apply Nat.not_lt.1
            intro hlt
            have : (i + 1) * k ≤ off * k := Nat.mul_le_mul_right k hlt
            rw [Nat.add_mul] at this
            omega
          · apply Nat.not_le.1
            intro hle
            have : (off + n) * k ≤ i * k := Nat.mul_le_mul_right k hle
            rw [Nat.add_mul] at this
            omega)
    rw [← putRow_setRow enc k w _ _ _ c1] at hst
    exact hst.trans (Stp.grown hst.inv (sortWorld_fr enc k w (G id).g (off * k) m (sortIdx cf xs) os))
  · cases h
end
end Go.AM
