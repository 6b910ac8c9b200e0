/-
  The abstract machine, part 24: contracts of the library on numbers and texts as specs; slices that may be nil; recursion.
-/
import Derived.Test.YtphmgjcjcdodhaaAm23
namespace Go.AM
open Go.RowKit

/-- One region that asks for something. -/
def dynAt (k : Nat) (D : List (Tmp × Tmp)) (i : Nat) : List (Tmp × Tmp) := if i = k then D else []
@[simp] theorem mkCtxD_dyn (P : Program) (l : Tab) (k : Nat) (D : List (Tmp × Tmp)) (i : Nat) : (mkCtxD P l (dynAt k D)).dyn i = if i = k then D else [] := rfl
@[simp] theorem EvC_region_mkD (P : Program) (l : Tab) (k : Nat) (D : List (Tmp × Tmp)) (i : Nat) (ops : Array Oper) (d : Bool) (st : St) (K : Exit → St → Prop) (h : ¬ i = k) : EvC (mkCtxD P l (dynAt k D)) (.region i ops d) st K = EvL (mkCtxD P l (dynAt k D)) ops ops.toList st (normK K) := EvC_region _ i ops d st K (by simp [h]) rfl
theorem apartA_one {a b : Tmp} {st : St} {id i j id' i' j' : Nat} {blk : Blk} (h1 : st.σ a = .ref id i j) (h2 : st.σ b = .ref id' i' j') (h3 : id ≠ id') (h4 : st.hp id' = some blk) (h5 : blk.arr = false) : ApartA [(a, b)] st := by
  intro p hp
  obtain rfl := List.mem_singleton.1 hp
  exact ⟨id, i, j, id', i', j', blk, h1, h2, h3, h4, h5⟩

theorem zip_lits {w : World} {S : Nat → Prop} {G : Nat → GI} {nx : Nat} : ∀ {us vs : List Value}, (∀ u ∈ us, lit u = true) → Zip (RepO w S G nx) (us.map PV.v) vs → vs = us
  | [], vs, _, h => by
    have := h.1
    simp at this
    exact List.length_eq_zero_iff.1 this.symm
  | u :: us, vs, hl, h => by
    obtain ⟨v, vs', rfl, hv, hz⟩ := h.uncons
    rw [zip_lits (fun x hx => hl x (by simp [hx])) hz]
    congr 1
    cases hv with
    | c hc => exact hc.v_inv.1

theorem freezeVals_lits (hp : Hp) : ∀ us : List Value, freezeVals hp (us.map PV.v) = some (us.map PV.v, hp)
  | [] => rfl
  | u :: us => by
    simp only [List.map_cons, freezeVals, freezeVal, freezeCell, freezeVals_lits hp us]

/-- A contract on numbers and texts. -/
theorem sound_scalar {P : Program} {g : FuncId} {F : List PV → Option PV} (hfn : ∃ fn, P.funcs[g]? = some fn ∧ (fn.name == "runtime.NumGoroutine") = false ∧ fn.body.isNone = false)
    (h : ∀ args r, F args = some r → ∃ us : List Value, args = us.map PV.v ∧ (∀ u ∈ us, lit u = true) ∧ ∃ v, r = .v v ∧ lit v = true ∧ ∀ w, Calls P g us.toArray w fun e w' => e = .returned v ∧ w' = w) : SpecSound P g (hPure false [] F) := by
  refine ⟨hfn, ?_⟩
  intro args hp nx r hp' nx' hs w S G vs hi hz
  unfold hPure at hs
  split at hs
  · rename_i as hp1 hfr
    split at hs
    · rename_i r0 hF
      obtain ⟨us, e, hl, v, rfl, hv, hc⟩ := h _ _ hF
      have e' : normArgs [] as = as := by cases as <;> rfl
      rw [e'] at e
      subst e
      have hargs : args = us.map PV.v := by
        have key : ∀ (args : List PV) (us : List Value) (hp1 : Hp), freezeVals hp args = some (us.map PV.v, hp1) → args = us.map PV.v := by
          intro args
          induction args with
          | nil => intro us hp1 hh; simp only [freezeVals] at hh; injection hh with hh; injection hh with hh _
          | cons x l ih =>
            intro us hp1 hh
            simp only [freezeVals] at hh
            split at hh
            · rename_i y hp2 hy
              split at hh
              · rename_i r2 hp3 hr2
                injection hh with hh
                injection hh with hh _
                cases us with
                | nil => simp at hh
                | cons u us =>
                  simp only [List.map_cons, List.cons.injEq] at hh
                  obtain ⟨rfl, rfl⟩ := hh
                  have hx : x = .v u ∧ hp2 = hp := by
                    unfold freezeVal at hy
                    split at hy
                    · split at hy
                      · injection hy with hy; injection hy with hy _; cases hy
                      · cases hy
                    · unfold freezeCell at hy
                      split at hy <;> first
                        | (split at hy <;> first | (split at hy <;> first | (injection hy with hy; injection hy with hy _; cases hy; done) | cases hy) | cases hy)
                        | (injection hy with hy; injection hy with h1 h2; first | (exact ⟨by rw [← h1], h2.symm⟩) | cases h1)
                        | cases hy
                  obtain ⟨rfl, rfl⟩ := hx
                  rw [ih us hp3 hr2]
                  rfl
              · cases hh
            · cases hh
        exact key args us hp1 hfr
      subst hargs
      simp only [PV.flat, true_or, if_true] at hs
      injection hs with hs
      injection hs with h1 h2
      injection h2 with h2 h3
      subst h1; subst h2; subst h3
      rw [zip_lits hl hz]
      refine (hc w).mono fun e w' hh => ?_
      obtain ⟨rfl, rfl⟩ := hh
      exact ⟨v, S, G, rfl, Stp.refl hi, .c (.v hv)⟩
    · cases hs
  · cases hs
theorem setCells_at : ∀ (l cs : List PV) (off : Nat), off + l.length ≤ cs.length → setCells cs off l = cs.take off ++ l ++ cs.drop (off + l.length)
  | [], cs, off, _ => by simp
  | x :: l, cs, off, h => by
    simp only [List.length_cons] at h
    rw [setCells, setCells_at l (cs.set off x) (off + 1) (by simp; omega)]
    have e1 : (cs.set off x).take (off + 1) = cs.take off ++ [x] := by
      rw [List.take_succ_eq_append_getElem (by simp; omega)]
      have e0 : (cs.set off x).take off = cs.take off := by
        apply List.ext_getElem?
        intro j
        simp only [List.getElem?_take, List.getElem?_set]
        by_cases hj : j < off
        · simp [hj, show ¬ off = j by omega]
        · simp [hj]
      rw [e0]
      simp
    have e2 : (cs.set off x).drop (off + 1 + l.length) = cs.drop (off + (x :: l).length) := by
      rw [List.drop_set_of_lt (by omega)]
      simp only [List.length_cons]
      congr 1
      omega
    rw [e1, e2]
    simp
@[simp] theorem setCells_whole (z cs : List PV) (h : cs.length = z.length) : setCells z 0 cs = cs := by
  rw [setCells_at cs z 0 (by omega)]
  simp [h]
@[simp] theorem setCells_tail (x : PV) (z cs : List PV) (h : cs.length = z.length) : setCells (x :: z) 1 cs = x :: cs := by
  rw [setCells_at cs (x :: z) 1 (by simp; omega)]
  simp [show 1 + cs.length = z.length + 1 by omega]
end Go.AM
