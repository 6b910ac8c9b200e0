/-
  The abstract machine, part 8: slices, literals, make, append, copy.
-/
import Derived.Test.YtphmgjcjcdodhaaAm7
namespace Go.AM
open Go.RowKit

section
variable {P : Program} {w : World} {S : Nat → Prop} {G : Nat → GI} {hp : Hp} {nx : Nat}

/-- The bounds of a slice expression, abstract and concrete. -/
theorem bound_run {o : Option (Option PV)} {v : Option Value} {dflt n y : Nat} (code : BoundsCode) (h : boundA dflt o = some n) (hy : n ≤ y) (hd : o = none → v = none) (hs : ∀ p, o = some (some p) → ∃ u, v = some u ∧ RepO w S G nx p u) (hn : o ≠ some none) :
    (v = none ∧ n = dflt) ∨ ∃ k i, v = some (.int k i) ∧ (Instr.sliceBound (.int k i) y code).run P w = .ok n w := by
  unfold boundA at h
  split at h
  · injection h with h
    exact .inl ⟨hd rfl, h.symm⟩
  · rename_i k i
    split at h
    · rename_i h0
      injection h with h
      subst h
      obtain ⟨u, rfl, hu⟩ := hs _ rfl
      obtain ⟨rfl, _⟩ := hu.v_inv
      refine .inr ⟨k, i, rfl, ?_⟩
      have : i ≤ y := by omega
      simp [Instr.sliceBound, asIntOf, h0, this]
    · cases h
  · cases h

theorem bounds_run {isS : Bool} {len cap l h : Nat} {lo hi : Option (Option PV)} {vl vh : Option Value} (hl : boundA 0 lo = some l) (hh : boundA len hi = some h) (hlh : l ≤ h) (hhc : h ≤ cap)
    (d1 : lo = none → vl = none) (s1 : ∀ p, lo = some (some p) → ∃ u, vl = some u ∧ RepO w S G nx p u) (n1 : lo ≠ some none)
    (d2 : hi = none → vh = none) (s2 : ∀ p, hi = some (some p) → ∃ u, vh = some u ∧ RepO w S G nx p u) (n2 : hi ≠ some none) :
    (Instr.sliceBounds isS len cap vl vh none).run P w = .ok (l, h, cap) w := by
  rcases bound_run (P := P) (if isS then .sliceAcap else .sliceAlen) hh hhc d2 s2 n2 with ⟨rfl, rfl⟩ | ⟨k, i, rfl, r2⟩
  · rcases bound_run (P := P) .sliceB hl hlh d1 s1 n1 with ⟨rfl, rfl⟩ | ⟨k', i', rfl, r1⟩
    · simp [Instr.sliceBounds]
    · simp [Instr.sliceBounds, r1]
  · rcases bound_run (P := P) .sliceB hl hlh d1 s1 n1 with ⟨rfl, rfl⟩ | ⟨k', i', rfl, r1⟩
    · cases isS <;> simp_all [Instr.sliceBounds]
    · cases isS <;> simp_all [Instr.sliceBounds]

theorem slice_done (hi : Inv P w S G hp nx) {t : TypeId} {p x : PV} {lo hh : Option (Option PV)} {vl vh : Option Value} {u : Value} (h : sliceA P hp t p lo hh = some x) (hp' : RepO w S G nx p u)
    (d1 : lo = none → vl = none) (s1 : ∀ p, lo = some (some p) → ∃ u, vl = some u ∧ RepO w S G nx p u)
    (d2 : hh = none → vh = none) (s2 : ∀ p, hh = some (some p) → ∃ u, vh = some u ∧ RepO w S G nx p u) : Done P w hp nx S G x hp nx ((Instr.sliceAt t u vl vh none).run P w) := by
  have nn : ∀ {d n : Nat} {o : Option (Option PV)}, boundA d o = some n → o ≠ some none := by
    rintro d n o h rfl
    simp [boundA] at h
  unfold sliceA at h
  split at h
  · rename_i s hu
    obtain ⟨rfl, _⟩ := hp'.v_inv
    split at h
    · rename_i l h' e1 e2
      split at h
      · rename_i hc
        injection h with h
        subst h
        have hb := bounds_run (P := P) (isS := false) (cap := s.size) e1 e2 hc.1 hc.2 d1 s1 (nn e1) d2 s2 (nn e2)
        exact done_pure (v := .string (s.extract l h')) hi (by simp [Instr.sliceAt, run_underlying hu, Instr.slice, hb]) (lit_v _ rfl)
      · cases h
    · cases h
  · rename_i e s es hu
    split at h
    · rename_i n l h' es1 e1 e2
      split at h
      · rename_i hc
        obtain ⟨rfl, hc⟩ := hc
        injection h with h
        subst h
        cases hp'.sl_inv with
        | sl us h0 h1 h2 h3 h4 h5 =>
          rename_i A cap
          have hb := bounds_run (P := P) (isS := true) (cap := cap) e1 e2 hc.1 (by omega) d1 s1 (nn e1) d2 s2 (nn e2)
          have hlen : ((es.drop l).take (h' - l)).length = h' - l := by simp; omega
          have hget : ∀ (i : Nat) (c : List PV), ((es.drop l).take (h' - l))[i]? = some c → i < h' - l ∧ es[l + i]? = some c := by
            intro i c hi
            rw [List.getElem?_take] at hi
            split at hi
            · rw [List.getElem?_drop] at hi; exact ⟨by assumption, hi⟩
            · cases hi
          have key : RepC w S (.sl s ((es.drop l).take (h' - l))) (.slice (if cap = l then A else A.map (·.add (l * s))) ((es.drop l).take (h' - l)).length (cap - l)) := by
            refine .sl (fun i j => us (l + i) j) (fun ha => by have : A = none := (by split at ha <;> simp_all); have := h0 this; omega) (by omega) (by omega) (fun c hc => h3 c (List.drop_subset _ _ (List.take_subset _ _ hc))) (fun i j c pv hi hj => ?_) (fun i j c pv hi hj => h5 _ j c pv (hget i c hi).2 hj)
            obtain ⟨hil, hi'⟩ := hget i c hi
            obtain ⟨ad, rfl, g1, g2, g3⟩ := h4 (l + i) j c pv hi' hj
            rw [if_neg (by omega)]
            refine ⟨ad.add (l * s), rfl, by rw [add_block]; exact g1, ?_, g3⟩
            rw [add_add]
            have : l * s + (i * s + j) = (l + i) * s + j := by rw [Nat.add_mul]; omega
            rw [this]
            exact g2
          rw [hlen] at key
          exact done_pure (v := _) hi (by simp [Instr.sliceAt, run_underlying hu, Instr.slice, hb, run_sizeOf es1]) (.c key)
      · cases h
    · cases h
  · rename_i e hu
    have := hp'.nil_inv
    subst this
    split at h
    · rename_i n l h' es1 e1 e2
      split at h
      · rename_i hc
        obtain ⟨rfl, rfl⟩ := hc
        injection h with h
        subst h
        have hb := bounds_run (P := P) (isS := true) (len := 0) (cap := 0) e1 e2 (Nat.le_refl _) (Nat.le_refl _) d1 s1 (nn e1) d2 s2 (nn e2)
        exact done_pure (v := .slice none 0 0) hi (by simp [Instr.sliceAt, run_underlying hu, Instr.slice, hb, run_sizeOf es1]) (.c .nil)
      · cases h
    · cases h
  · rename_i e id off n hu
    obtain ⟨cap, g1, g2, g3, g4, rfl⟩ := hp'.own_inv
    split at h
    · rename_i m l h' es1 e1 e2
      split at h
      rename_i b hbl
      split at h
      · rename_i hc
        obtain ⟨hbm, hc⟩ := hc
        injection h with h
        have hb := bounds_run (P := P) (isS := true) (cap := cap) e1 e2 hc.1 (by omega) d1 s1 (nn e1) d2 s2 (nn e2)
        by_cases hl0 : l = 0
        · subst hl0
          simp only [if_true] at h
          subst h
          refine done_pure (v := .slice (some ⟨(G id).g, off * (G id).s, none⟩) h' cap) hi ?_ (.own g1 (by omega) g3 g4)
          by_cases hc0 : cap = 0
          · subst hc0
            simp [Instr.sliceAt, run_underlying hu, Instr.slice, hb, run_sizeOf es1]
          · simp [Instr.sliceAt, run_underlying hu, Instr.slice, hb, run_sizeOf es1, hc0, Addr.add_lit]
        · rw [if_neg hl0] at h
          by_cases hhl : h' = l
          · subst hhl
            simp only [if_true] at h
            subst h
            refine done_pure (v := _) hi (by simp [Instr.sliceAt, run_underlying hu, Instr.slice, hb, run_sizeOf es1]; rfl) (.c ?_)
            exact .sl (es := []) (fun _ _ => undef) (fun ha => by split at ha <;> simp_all) (by simp) (by omega) (by simp) (by simp) (by simp)
          · rw [if_neg hhl] at h
            subst h
            have hcl : ¬ cap = l := by omega
            refine done_pure (v := .slice (some ⟨(G id).g, (off + l) * (G id).s, none⟩) (h' - l) (cap - l)) hi ?_ (.own g1 (by omega) (by omega) ?_)
            · have hgs : (G id).s = m := by rw [← (hi.live id b hbl).bs, hbm]
              simp [Instr.sliceAt, run_underlying hu, Instr.slice, hb, run_sizeOf es1, hcl, Addr.add_lit, hgs, Nat.add_mul]
            · rw [show off + l + (cap - l) = off + cap from by omega]
              exact g4
      · cases h
      · cases h
    · cases h
  · cases h

theorem makeFunc_done (hi : Inv P w S G hp nx) {f : Fn} {xs ys : List PV} {us ts : Array Value} (h1 : Zip (RepO w S G nx) xs us.toList) (h2 : Zip (RepO w S G nx) ys ts.toList) :
    Done P w hp nx S G (.fn f xs ys) hp nx ((Instr.makeFunc f us ts).run P w) :=
  done_pure (v := .func f us ts) hi rfl (.fn (by simpa using h1.1) (by simpa using h2.1) (fun j pv x a b => h1.2 j pv x a (by simpa using b)) (fun j pv x a b => h2.2 j pv x a (by simpa using b)))

theorem made_get {z : Array Value} {n s i j : Nat} (hs : z.size = s) (hi : i < n) (hj : j < s) : (madeCells z (n * s))[i * s + j]? = z[j]? := by
  have hlt : i * s + j < n * s := elem_lt hi hj
  unfold madeCells
  rw [Array.getElem?_map, Array.getElem?_range, if_pos hlt]
  have hm : (i * s + j) % s = j := by rw [Nat.add_comm, Nat.add_mul_mod_self_right]; exact Nat.mod_eq_of_lt hj
  simp only [Option.map_some, hs, hm]
  rw [Array.getElem?_eq_getElem (by omega)]
  simp only [Option.some.injEq]
  exact (getElem!_pos z j (by omega))

theorem makeSlice_done (hi : Inv P w S G hp nx) {t : TypeId} {p q x : PV} {hp' : Hp} {nx' : Nat} {u v : Value} (h : makeSliceA P hp nx t p q = some (x, hp', nx')) (hu : RepO w S G nx p u) (hv : RepO w S G nx q v) :
    Done P w hp nx S G x hp' nx' ((Instr.makeSlice t u v).run P w) := by
  unfold makeSliceA at h
  split at h
  · rename_i kl l kc c
    obtain ⟨rfl, _⟩ := hu.v_inv
    obtain ⟨rfl, _⟩ := hv.v_inv
    split at h
    · rename_i e he
      split at h
      · rename_i n by_ z h1 h2 h3
        split at h
        · rename_i hc
          obtain ⟨c1, c2, c3, c4, c5, c6⟩ := hc
          injection h with h
          injection h with ex h
          injection h with eh en
          subst ex; subst eh; subst en
          obtain ⟨i, vz, i1, i2, i3⟩ := zero_of h3
          obtain ⟨z1, z2⟩ := ofCells_rep (w := w) (S := S) i3
          have hsz : i.size = n := by simpa [sizeA, i1] using h1
          have hby : i.bytes = by_ := by simpa [bytesA, i1] using h2
          have hzc : vz.cells.size = n := by rw [← c2, z1]; simp
          have hm : c.toNat ≤ 9223372036854775807 := by simpa [maxLen] using c5
          have hbytes : (i.bytes : Int) * c ≤ 281474976710656 := by
            have : ((c.toNat * by_ : Nat) : Int) ≤ 140737488355328 := by omega
            rw [Int.natCast_mul, Int.toNat_of_nonneg (by omega)] at this
            rw [hby, Int.mul_comm]
            omega
          have hr := run_make (P := P) w t e i vz (elem_spec he) i1 i2 kl kc l c c3 c4 hbytes (by omega)
          have hlc : l.toNat ≤ c.toNat := by omega
          have k := Stp.alloc hi (madeCells vz.cells (c.toNat * i.size)) e true (List.replicate l.toNat z) n (by simpa [sizeA] using h1) (fun c' hc' => by rw [(List.mem_replicate.1 hc').2]; exact c2)
            (by rw [size_madeCells, hsz, List.length_replicate]; exact Nat.mul_le_mul_right _ hlc) (fun i' j c' pv hi' hj => by
              have hil : i' < l.toNat := by have := (List.getElem?_eq_some_iff.1 hi').1; simpa using this
              rw [List.getElem?_replicate, if_pos hil] at hi'
              injection hi' with hi'
              subst hi'
              have hjn : j < n := by rw [← c2]; exact (List.getElem?_eq_some_iff.1 hj).1
              have hjz : j < vz.cells.size := by omega
              rw [hsz, made_get hzc (by omega) hjn]
              have h6 := z2 j pv vz.cells[j] hj (by simp [hjz])
              exact ⟨vz.cells[j], by simp [hjz], fun _ => h6.1, .c h6.1, h6.2.1⟩)
          refine ⟨_, _, _, _, hr, k, ?_⟩
          have := RepO.own (w := w.alloc (.cells (madeCells vz.cells (c.toNat * i.size)) e)) (S := S) (G := upd G nx ⟨w.heap.size, (madeCells vz.cells (c.toNat * i.size)).size, n⟩) (nx := nx + 1) (id := nx) (off := 0) (n := l.toNat) (cap := c.toNat) (by omega) hlc c5 (by simp [size_madeCells, hsz])
          simpa using this
        · cases h
      · cases h
    · cases h
  · cases h

end
end Go.AM
