/-
  The abstract machine, part 29: slices.Grow of nil; append of a whole slice.
-/
import Derived.Test.YtfjeckcbnhohmaaGreatDoorG11
import Derived.Shelf.Spec.SlicesGrow
namespace Go.AM
open Go.RowKit Go.Proofs

/-- What the kit's contract says of slices.Grow at nil. -/
def GrowOk (P : Program) (f e s by_ : Nat) : Prop :=
  (∀ w, Calls P f #[.slice none 0 0, .int .i64 0] w fun r w' => r = .returned (.slice none 0 0) ∧ w' = w) ∧
  ∀ (n : Nat) (w : World), 0 < n → n * by_ ≤ 140737488355328 → n ≤ 4611686018427387904 → Calls P f #[.slice none 0 0, .int .i64 n] w fun r w' =>
    ∃ cap cur, cap ≤ maxLen ∧ cur.size = cap * s ∧ r = .returned (.slice (some ⟨w.heap.size, 0, none⟩) 0 cap) ∧ w' = w.drew.alloc (.cells cur e)
theorem GrowOk.of {P : Program} {ρ : Go.Shelf.Ren} (L : Lays8.n4 P ρ) {s by_ : Nat} {z : List PV} (hs : sizeA P (ρ.t 25) = some s) (hb : bytesA P (ρ.t 25) = some by_) (hz : zeroA P (ρ.t 25) = some z) (hl : z.length = s) (h0 : 0 < s) : GrowOk P (ρ.f 4) (ρ.t 25) s by_ := by
  obtain ⟨i, v, hi, hv, hc⟩ := zero_of hz
  obtain ⟨i', hi', his⟩ := info_of_size hs
  rw [hi] at hi'
  injection hi' with hi'
  subst hi'
  have hib : i.bytes = by_ := by
    unfold bytesA at hb
    rw [hi] at hb
    simpa using hb
  have hzc : v.cells.size = s := by
    have := (ofCells_rep (w := default) (S := fun _ => False) hc).1
    rw [hl] at this
    simpa using this.symm
  refine ⟨fun w => Any8.slices_Grow_room L none 0 0 0 w (by omega) (by omega) (by omega) (by omega), fun n w hn hb hm => ?_⟩
  refine (Any8.slices_Grow_grow L i v hi hv (by omega) none 0 0 n [] w (by omega) (by omega) (by rw [hib]; simpa using hb) (by omega) (by simp) (fun _ => rfl) (fun a h => (nomatch h))).mono fun r w' hh => ?_
  obtain ⟨rfl, rfl⟩ := hh
  rw [Nat.zero_add] at *
  have hge : n ≤ grownCap w n 0 (ρ.t 25) := grownCap_ge _ _ _ _
  refine ⟨_, _, grownCap_le_maxLen w n 0 (ρ.t 25) (by unfold maxLen; omega), ?_, rfl, rfl⟩
  rw [Array.size_append, Array.size_append, size_zeroCells, size_zeroCells, hzc]
  simp only [List.size_toArray, List.length_nil, Nat.zero_add, Nat.sub_zero]
  rw [← Nat.add_mul]
  congr 1
  omega
/-- slices.Grow of nil. -/
def hGrow (e s by_ : Nat) : AM.Spec := fun args hp nx => match args with
  | [.nil, .v (.int .i64 n)] => if n = 0 then some (.nil, hp, nx) else if 0 < n ∧ n * by_ ≤ 140737488355328 ∧ n ≤ 4611686018427387904 then some (.own nx 0 0, upd hp nx (some ⟨e, s, true, []⟩), nx + 1) else none
  | _ => none
theorem hGrow_sound {P : Program} {f e s by_ : Nat} (hfn : ∃ fn, P.funcs[f]? = some fn ∧ (fn.name == "runtime.NumGoroutine") = false ∧ fn.body.isNone = false) (hsz : sizeA P e = some s) (hs0 : 0 < s) (h : GrowOk P f e s by_) : SpecSound P f (hGrow e s by_) := by
  refine ⟨hfn, ?_⟩
  intro args hp nx r hp' nx' hh w S G vs hi hz
  unfold hGrow at hh
  split at hh
  · rename_i n
    obtain ⟨u, us, rfl, hu, hz'⟩ := hz.uncons
    obtain ⟨v, us, rfl, hv, hz'⟩ := hz'.uncons
    obtain rfl := hz'.unnil
    obtain rfl := hu.nil_inv
    obtain ⟨rfl, _⟩ := hv.v_inv
    split at hh
    · rename_i hn
      subst hn
      injection hh with hh
      injection hh with e1 hh
      injection hh with e2 e3
      subst e1; subst e2; subst e3
      refine (h.1 w).mono fun r w' hr => ?_
      obtain ⟨rfl, rfl⟩ := hr
      exact ⟨_, _, _, rfl, .refl hi, .c .nil⟩
    · split at hh
      · rename_i hn0 hc
        injection hh with hh
        injection hh with e1 hh
        injection hh with e2 e3
        subst e1; subst e2; subst e3
        obtain ⟨m, rfl⟩ : ∃ m : Nat, n = m := ⟨n.toNat, by omega⟩
        refine (h.2 m w (by omega) (Int.ofNat_le.1 (by rw [Int.natCast_mul]; exact hc.2.1)) (by have := hc.2.2; omega)).mono fun r w' hr => ?_
        obtain ⟨cap, cur, h1, h2, rfl, rfl⟩ := hr
        have k1 := Stp.drew hi
        obtain ⟨i, hii, hisz⟩ := info_of_size hsz
        have k2 := Stp.alloc k1.inv cur e true [] s hs0 (by rw [hii]; simp [hisz]) (by simp) (by simp) (by simp)
        refine ⟨_, _, _, rfl, k1.trans k2, ?_⟩
        have := RepO.own (w := w.drew.alloc (.cells cur e)) (S := S) (G := upd G nx ⟨w.drew.heap.size, cur.size, s⟩) (nx := nx + 1) (id := nx) (off := 0) (n := 0) (cap := cap) (by omega) (by omega) h1 (by rw [upd_same]; show (0 + cap) * s = cur.size; rw [h2, Nat.zero_add]) (by rw [upd_same]; exact hs0)
        rw [upd_same] at this
        have e0 : 0 * s = 0 := Nat.zero_mul s
        simp only [e0] at this
        exact this
      · cases hh
  · cases hh

/-- append of a whole slice to one of one's own. -/
theorem OwnS.appendL {P : Program} {hp : Hp} {nx e s by_ : Nat} {v : PV} {xs : List (List PV)} {ys : List (List PV)} {z : List PV} {t : TypeId} (h : OwnS hp nx e s v xs) (ht : elemA P t = some e) (hs : sizeA P e = some s) (hb : bytesA P e = some by_) (hz : zeroA P e = some z)
    (hzl : z.length = s) (h0 : 0 < s) (h1 : xs.length + ys.length ≤ maxLen) (h2 : (xs.length + ys.length) * by_ ≤ 140737488355328) :
    ∃ v' hp' nx', appendA P hp nx t t v (.sl s ys) = some (v', hp', nx') ∧ OwnS hp' nx' e s v' (xs ++ ys) ∧ nx ≤ nx' := by
  rcases h with ⟨rfl, rfl⟩ | ⟨id, hid, rfl, hh⟩
  · simp at h1 h2
    by_cases hy : ys = []
    · subst hy
      exact ⟨.nil, hp, nx, by simp [appendA, ht, hs, hb, hz, hzl, h0, AM.view, maxLen], .inl ⟨rfl, rfl⟩, Nat.le_refl _⟩
    · exact ⟨.own nx 0 ys.length, _, nx + 1, by simp [appendA, ht, hs, hb, hz, hzl, h0, h1, h2, AM.view, hy]; rfl, .inr ⟨nx, by omega, by simp, by simp⟩, by omega⟩
  · exact ⟨.own nx 0 (xs.length + ys.length), _, nx + 1, by simp [appendA, ht, hs, hb, hz, hzl, h0, h1, h2, AM.view, hh]; rfl, .inr ⟨nx, by omega, by simp, by simp⟩, by omega⟩
end Go.AM
