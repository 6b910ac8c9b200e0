/-
  The abstract machine, part 11: copy; and every operation that is no call of a Go function, in one statement.
-/
import Derived.Test.YtphmgjcjcdodhaaAm10
namespace Go.AM
open Go.RowKit

section
variable {P : Program} {w : World} {S : Nat → Prop} {G : Nat → GI} {hp : Hp} {nx : Nat}

theorem copy_done (hi : Inv P w S G hp nx) {t t' ty : TypeId} {d x y : PV} {hp' : Hp} {nx' : Nat} {u v : Value} (h : copyA P hp nx t d x = some (y, hp', nx')) (hd : RepO w S G nx d u) (hx : RepO w S G nx x v) :
    Done P w hp nx S G y hp' nx' ((Builtin.copy_ #[t, t'] ty #[u, v]).run P w) := by
  unfold copyA at h
  split at h
  · rename_i e id off k he
    split at h
    · rename_i b n hb hn
      split at h
      · rename_i xs hv
        split at h
        · rename_i hc
          obtain ⟨c1, c2, c3, c4⟩ := hc
          injection h with h
          injection h with ey h
          injection h with eh en
          subst ey; subst eh; subst en
          obtain ⟨cap, g1, g2, g3, g4, rfl⟩ := hd.own_inv
          obtain ⟨A, c, f, rfl, f1, f2⟩ := view_sound hi hv hx
          have hbr := hi.live id b hb
          obtain ⟨cur, q1, q2, q3⟩ := hbr.row
          have hu := elem_spec he
          have hsb : (G id).s = n := by
            have h5 := hbr.size
            rw [c2] at h5
            have h6 : (P.info? e).map (·.size) = some n := by simpa [sizeA] using hn
            rw [h6] at h5
            injection h5 with h5
            exact h5.symm
          have hmin : Nat.min xs.length k = min xs.length k := rfl
          have hmx : min xs.length k ≤ xs.length := Nat.min_le_left _ _
          have hmk : min xs.length k ≤ k := Nat.min_le_right _ _
          generalize hm : min xs.length k = m at *
          have hfl := view_flat c4 f1 f2
          have hmn : m * n ≤ xs.length * n := Nat.mul_le_mul_right _ hmx
          have hcells : (Builtin.firstCells n m (.slice A xs.length c)).run P w = .ok ((List.range (m * n)).map f).toArray w := by
            by_cases h0 : m = 0
            · subst h0
              cases A <;> simp [Builtin.firstCells, loadCells, loadCellsFrom]
            · obtain ⟨ad, rfl, _, _⟩ := hfl 0 (Nat.mul_pos (by omega) c4)
              have := run_loadCells_list (P := P) w ad ((List.range (m * n)).map f) (fun j u hj => by
                have hjl : j < m * n := by have := (List.getElem?_eq_some_iff.1 hj).1; simpa using this
                obtain ⟨ad', e1, e2, _⟩ := hfl j (by omega)
                injection e1 with e1
                subst e1
                rw [List.getElem?_map, List.getElem?_range hjl] at hj
                simp at hj
                rw [e2, hj])
              simpa [Builtin.firstCells] using this
          have hfit : off * n + m * n ≤ cur.size := by
            rw [q2]
            have h5 : (off + m) * n ≤ b.es.length * n := Nat.mul_le_mul_right _ (by omega)
            have h6 := hbr.fit
            rw [hsb] at h6
            rw [Nat.add_mul] at h5
            omega
          have hst := run_storeCells_at P (G id).g (off * n) b.e ((List.range (m * n)).map f) 0 cur w q1 (by simpa using hfit) (fun u hu => by
            obtain ⟨k, hk, rfl⟩ := List.mem_map.1 hu
            exact (hfl k (by have := List.mem_range.1 hk; omega)).choose_spec.2.2)
          simp only [Nat.add_zero] at hst
          have hlen : ((List.range (m * n)).map f).length = m * n := by simp
          have hsl : off * n + ((List.range (m * n)).map f).length ≤ cur.toList.length := by simpa using hfit
          have k2 := Stp.set hi hb (cur.toList.take (off * n) ++ (List.range (m * n)).map f ++ cur.toList.drop (off * n + ((List.range (m * n)).map f).length)).toArray (b.es.take off ++ xs.take m ++ b.es.drop (off + m))
            (by rw [List.size_toArray, splice_length _ _ _ hsl]; simpa using q2)
            (fun c' hc' => by
              rw [List.append_assoc] at hc'
              rcases List.mem_append.1 hc' with h | h
              · exact hbr.len c' (List.take_subset _ _ h)
              · rcases List.mem_append.1 h with h | h
                · rw [hsb]; exact f1 c' (List.take_subset _ _ h)
                · exact hbr.len c' (List.drop_subset _ _ h))
            (by
              have h5 := hbr.fit
              have : (b.es.take off ++ xs.take m ++ b.es.drop (off + m)).length = b.es.length := by simp; omega
              rw [this]; exact h5)
            (fun i' j c' pv hi' hj => by
              have hxm : (xs.take m).length = m := by simp; omega
              rw [show off + m = off + (xs.take m).length from by rw [hxm], splice_get _ _ _ _ (by rw [hxm]; omega), hxm] at hi'
              rw [List.getElem?_toArray, splice_get _ _ _ _ hsl, hlen, hsb]
              by_cases hin : off ≤ i' ∧ i' < off + m
              · rw [if_pos hin, List.getElem?_take, if_pos (by omega)] at hi'
                have hjn : j < n := by rw [← f1 c' (List.mem_of_getElem? hi')]; exact (List.getElem?_eq_some_iff.1 hj).1
                have h5 : off * n ≤ i' * n := Nat.mul_le_mul_right _ hin.1
                have h6 := elem_lt (i := i' - off) (n := m) (by omega) hjn
                have h7 : i' * n + j - off * n = (i' - off) * n + j := by rw [Nat.sub_mul]; omega
                rw [if_pos ⟨by omega, by rw [Nat.sub_mul] at h6; omega⟩, h7, List.getElem?_map, List.getElem?_range h6]
                obtain ⟨ad', a1, a2, a3⟩ := f2 (i' - off) j c' pv hi' hj
                refine ⟨f ((i' - off) * n + j), rfl, ?_⟩
                rw [c1]; exact a3
              · rw [if_neg hin] at hi'
                have hjn : j < n := by rw [← hsb, ← hbr.len c' (List.mem_of_getElem? hi')]; exact (List.getElem?_eq_some_iff.1 hj).1
                have : ¬ (off * n ≤ i' * n + j ∧ i' * n + j < off * n + m * n) := by
                  by_cases h5 : i' < off
                  · have h6 := elem_lt (n := off) h5 hjn; omega
                  · have h6 : off + m ≤ i' := by omega
                    have h7 : (off + m) * n ≤ i' * n := Nat.mul_le_mul_right _ h6
                    rw [Nat.add_mul] at h7
                    omega
                rw [if_neg this]
                obtain ⟨u', u1, u2⟩ := q3 i' j c' pv hi' hj
                rw [hsb] at u1
                exact ⟨u', by simpa using u1, u2⟩)
          rw [c1] at k2
          refine ⟨.int .i64 m, _, _, _, ?_, k2, lit_v _ rfl⟩
          simp [Builtin.copy_, run_underlying hu, Builtin.lenOf, run_sizeOf hn, hmin, hcells, hsb, hst, goInt]
        · cases h
      · cases h
    · cases h
  · cases h

theorem allSome_zip {ρ : Operand → Option PV} {a : Operand → Value} (hρ : ∀ y pv, ρ y = some pv → RepO w S G nx pv (a y)) : ∀ {l : List Operand} {xs : List PV}, allSome (l.map ρ) = some xs → Zip (RepO w S G nx) xs (l.map a)
  | [], xs, h => by
    simp only [List.map_nil, allSome] at h
    injection h with h
    subst h
    exact .nil
  | x :: l, xs, h => by
    simp only [List.map_cons] at h
    cases hx : ρ x with
    | none => rw [hx] at h; simp [allSome] at h
    | some p =>
      rw [hx] at h
      simp only [allSome] at h
      cases hl : allSome (l.map ρ) with
      | none => rw [hl] at h; simp at h
      | some r =>
        rw [hl] at h
        simp at h
        subst h
        exact .cons (hρ _ _ hx) (allSome_zip hρ hl)

/-- What is known of a called function. -/
def SpecSound (P : Program) (g : FuncId) (spec : AM.Spec) : Prop :=
  (∃ fn, P.funcs[g]? = some fn ∧ (fn.name == "runtime.NumGoroutine") = false ∧ fn.body.isNone = false) ∧
  ∀ (args : List PV) (hp : Hp) (nx : Nat) (r : PV) (hp' : Hp) (nx' : Nat), spec args hp nx = some (r, hp', nx') → ∀ (w : World) (S : Nat → Prop) (G : Nat → GI) (vs : List Value), Inv P w S G hp nx → Zip (RepO w S G nx) args vs →
    Calls P g vs.toArray w fun e w' => ∃ v S' G', e = .returned v ∧ Stp P hp nx S G w hp' nx' S' G' w' ∧ RepO w' S' G' nx' r v

/-- What an operation comes to. -/
def OpRes (P : Program) (w : World) (hp : Hp) (nx : Nat) (S : Nat → Prop) (G : Nat → GI) (x : PV) (hp' : Hp) (nx' : Nat) (r : Result Next) : Prop :=
  (∃ v w' S' G', (r = .ok (.value v) w' ∨ (r = .ok .skip w' ∧ v = undef)) ∧ Stp P hp nx S G w hp' nx' S' G' w' ∧ RepO w' S' G' nx' x v) ∨
  ∃ g vs, r = .ok (.enter g vs) w ∧ Calls P g vs w fun e w' => ∃ v S' G', e = .returned v ∧ Stp P hp nx S G w hp' nx' S' G' w' ∧ RepO w' S' G' nx' x v

theorem Done.op {x : PV} {hp' : Hp} {nx' : Nat} {s : Sem Value} (h : Done P w hp nx S G x hp' nx' (s.run P w)) : OpRes P w hp nx S G x hp' nx' ((do pure (.value (← s)) : Sem Next).run P w) := by
  obtain ⟨v, w', S', G', h1, h2, h3⟩ := h
  exact .inl ⟨v, w', S', G', .inl (by simp [h1]), h2, h3⟩

theorem len_eq {ts : Array TypeId} {us : Array Value} {t : TypeId} {u : Value} (ty : TypeId) (h1 : ts[0]? = some t) (h2 : us[0]? = some u) : Builtin.len_ ts ty us = Builtin.len_ #[t] ty #[u] := by
  simp [Builtin.len_, h1, h2]
theorem append_eq {ts : Array TypeId} {us : Array Value} {t t' : TypeId} {u v : Value} (ty : TypeId) (h1 : ts[0]? = some t) (h2 : ts[1]? = some t') (h3 : us[0]? = some u) (h4 : us[1]? = some v) : Builtin.append_ ts ty us = Builtin.append_ #[t, t'] ty #[u, v] := by
  simp [Builtin.append_, h1, h2, h3, h4]
theorem copy_eq {ts : Array TypeId} {us : Array Value} {t : TypeId} {u v : Value} (ty : TypeId) (h1 : ts[0]? = some t) (h3 : us[0]? = some u) (h4 : us[1]? = some v) : Builtin.copy_ ts ty us = Builtin.copy_ #[t, t] ty #[u, v] := by
  simp [Builtin.copy_, h1, h3, h4]

theorem zip_one {α β : Type} {R : α → β → Prop} {x : α} {us : List β} (h : Zip R [x] us) : ∃ u, us = [u] ∧ R x u := by
  obtain ⟨u, us', rfl, hu, hz⟩ := h.uncons
  rw [hz.unnil]
  exact ⟨u, rfl, hu⟩
theorem zip_two {α β : Type} {R : α → β → Prop} {x y : α} {us : List β} (h : Zip R [x, y] us) : ∃ u v, us = [u, v] ∧ R x u ∧ R y v := by
  obtain ⟨u, us', rfl, hu, hz⟩ := h.uncons
  obtain ⟨v, rfl, hv⟩ := zip_one hz
  exact ⟨u, v, rfl, hu, hv⟩
theorem Zip.append {α β : Type} {R : α → β → Prop} {xs ys : List α} {us vs : List β} (h : Zip R xs us) (k : Zip R ys vs) : Zip R (xs ++ ys) (us ++ vs) := by
  refine ⟨by simp [h.1, k.1], fun j x u hx hu => ?_⟩
  by_cases hj : j < xs.length
  · rw [List.getElem?_append_left hj] at hx
    rw [List.getElem?_append_left (by rw [← h.1]; exact hj)] at hu
    exact h.2 j x u hx hu
  · rw [List.getElem?_append_right (by omega)] at hx
    rw [List.getElem?_append_right (by rw [← h.1]; omega), ← h.1] at hu
    exact k.2 _ x u hx hu

theorem map_some_inv {α β : Type} {o : Option α} {f : α → β} {y : β} (h : o.map f = some y) : ∃ x, o = some x ∧ f x = y := by
  cases o with
  | none => simp at h
  | some x => exact ⟨x, rfl, by simpa using h⟩

end

theorem evalOp_sound {C : Ctx} {w : World} {S : Nat → Prop} {G : Nat → GI} {hp : Hp} {nx : Nat} (hΓ : ∀ g spec, C.Γ g = some spec → SpecSound C.P g spec) (hi : Inv C.P w S G hp nx)
    {ρ : Operand → Option PV} {a : Operand → Value} (hρ : ∀ y pv, ρ y = some pv → RepO w S G nx pv (a y)) {o : Oper} {x : PV} {hp' : Hp} {nx' : Nat} (h : evalOp C ρ hp nx o.op = some (x, hp', nx')) :
    OpRes C.P w hp nx S G x hp' nx' ((execOp a o).run C.P w) := by
  have same : ∀ {f : PV} {y : PV}, (f, hp, nx) = (y, hp', nx') → f = y ∧ hp = hp' ∧ nx = nx' := by
    intro f y h
    injection h with e1 h
    injection h with e2 e3
    exact ⟨e1, e2, e3⟩
  unfold evalOp at h
  unfold execOp
  split at h
  · rename_i y ho
    obtain ⟨p, h1, h2⟩ := map_some_inv h
    obtain ⟨rfl, rfl, rfl⟩ := same h2
    simp only [ho]
    exact .inl ⟨a y, w, S, G, .inl rfl, .refl hi, hρ _ _ h1⟩
  · rename_i y ho
    obtain ⟨p, h1, h2⟩ := map_some_inv h
    obtain ⟨rfl, rfl, rfl⟩ := same h2
    simp only [ho]
    exact .inl ⟨a y, w, S, G, .inl rfl, .refl hi, hρ _ _ h1⟩
  · rename_i c y z ho
    simp only [ho]
    split at h
    · rename_i hc
      obtain ⟨p, h1, h2⟩ := map_some_inv h
      obtain ⟨rfl, rfl, rfl⟩ := same h2
      obtain ⟨e, _⟩ := (hρ _ _ hc).v_inv
      exact .inl ⟨a y, w, S, G, .inl (by simp [e, asBool]), .refl hi, hρ _ _ h1⟩
    · rename_i hc
      obtain ⟨p, h1, h2⟩ := map_some_inv h
      obtain ⟨rfl, rfl, rfl⟩ := same h2
      obtain ⟨e, _⟩ := (hρ _ _ hc).v_inv
      exact .inl ⟨a z, w, S, G, .inl (by simp [e, asBool]), .refl hi, hρ _ _ h1⟩
    · cases h
  · rename_i t ho
    simp only [ho]
    split at h
    · rename_i n z h1 h2
      split at h
      · rename_i hl
        injection h with h
        injection h with e1 h
        injection h with e2 e3
        subst e1; subst e2; subst e3
        exact (alloc_done hi h1 h2 hl).op
      · cases h
    · cases h
  · rename_i t y ho
    simp only [ho]
    split at h
    · rename_i n p h1 h2
      split at h
      · rename_i hc
        injection h with h
        injection h with e1 h
        injection h with e2 e3
        subst e1; subst e2; subst e3
        exact (box_done hi h1 (hρ _ _ h2) hc.1 hc.2).op
      · cases h
    · cases h
  · rename_i t parts ho
    simp only [ho]
    split at h
    · rename_i ps hps
      obtain ⟨p, h1, h2⟩ := map_some_inv h
      obtain ⟨rfl, rfl, rfl⟩ := same h2
      exact (build_done hi h1 (by simpa using parts_zip hρ hps)).op
    · cases h
  · rename_i t len parts ho
    simp only [ho]
    split at h
    · rename_i ps hps
      exact (buildSlice_done hi h (by simpa using parts_zip hρ hps)).op
    · cases h
  · rename_i t y ho
    simp only [ho]
    split at h
    · rename_i p hp1
      obtain ⟨q, h1, h2⟩ := map_some_inv h
      obtain ⟨rfl, rfl, rfl⟩ := same h2
      exact (load_done hi h1 (hρ _ _ hp1)).op
    · cases h
  · rename_i t y z ho
    simp only [ho]
    split at h
    · rename_i p q h1 h2
      obtain ⟨hp1, h3, h4⟩ := map_some_inv h
      injection h4 with e1 h4
      injection h4 with e2 e3
      subst e1; subst e2; subst e3
      obtain ⟨w', S', G', r1, r2⟩ := store_done hi h3 (hρ _ _ h1) (hρ _ _ h2)
      exact .inl ⟨undef, w', S', G', .inr ⟨by simp [r1], rfl⟩, r2, repO_undef⟩
    · cases h
  · rename_i y ho
    simp only [ho]
    split at h
    · rename_i id i j hy
      injection h with h
      obtain ⟨rfl, rfl, rfl⟩ := same h
      have hr := hρ _ _ hy
      obtain ⟨h1, h2⟩ := hr.ref_inv
      exact .inl ⟨a y, w, S, G, .inl (by rw [h2]; rfl), .refl hi, hr⟩
    · rename_i cs hy
      injection h with h
      obtain ⟨rfl, rfl, rfl⟩ := same h
      have hr := hρ _ _ hy
      have hr2 := hr
      have hc := hr.ptr_inv
      generalize hay : a y = u at *
      cases hc with
      | ptr us h1 h2 => exact .inl ⟨_, w, S, G, .inl rfl, .refl hi, hr2⟩
    · cases h
  · rename_i op t y z t2 ho
    simp only [ho]
    split at h
    · rename_i p q h1 h2
      obtain ⟨r, h3, h4⟩ := map_some_inv h
      obtain ⟨rfl, rfl, rfl⟩ := same h4
      exact (binOp_done hi y z h3 (hρ _ _ h1) (hρ _ _ h2)).op
    · cases h
  · rename_i op t y ho
    simp only [ho]
    split at h
    · rename_i p h1
      obtain ⟨r, h3, h4⟩ := map_some_inv h
      obtain ⟨rfl, rfl, rfl⟩ := same h4
      exact (unOp_done hi h3 (hρ _ _ h1)).op
    · cases h
  · rename_i src dst y ho
    simp only [ho]
    split at h
    · rename_i p h1
      obtain ⟨r, h3, h4⟩ := map_some_inv h
      obtain ⟨rfl, rfl, rfl⟩ := same h4
      exact (conv_done hi h3 (hρ _ _ h1)).op
    · cases h
  · rename_i f first captured ho
    simp only [ho]
    split at h
    · rename_i xs ys h1 h2
      injection h with h
      obtain ⟨rfl, rfl, rfl⟩ := same h
      exact (makeFunc_done hi (by simpa using allSome_zip hρ h1) (by simpa using allSome_zip hρ h2)).op
    · cases h
  · rename_i t l c ho
    simp only [ho]
    split at h
    · rename_i p q h1 h2
      exact (makeSlice_done hi h (hρ _ _ h1) (hρ _ _ h2)).op
    · cases h
  · rename_i t y lo hh ho
    simp only [ho]
    split at h
    · rename_i p h1
      obtain ⟨r, h3, h4⟩ := map_some_inv h
      obtain ⟨rfl, rfl, rfl⟩ := same h4
      have hd : ∀ o : Option Operand, o.map ρ = none → o.map a = none := fun o h => by cases o <;> simp_all
      have hs : ∀ (o : Option Operand) (p : PV), o.map ρ = some (some p) → ∃ u, o.map a = some u ∧ RepO w S G nx p u := fun o p h => by
        cases o with
        | none => simp at h
        | some y => exact ⟨a y, rfl, hρ _ _ (by simpa using h)⟩
      exact (slice_done hi h3 (hρ _ _ h1) (hd lo) (hs lo) (hd hh) (hs hh)).op
    · cases h
  · rename_i t y f ho
    simp only [ho]
    split at h
    · rename_i p h1
      obtain ⟨r, h3, h4⟩ := map_some_inv h
      obtain ⟨rfl, rfl, rfl⟩ := same h4
      exact (fieldAddr_done hi h3 (hρ _ _ h1)).op
    · cases h
  · rename_i t y f ho
    simp only [ho]
    split at h
    · rename_i p h1
      obtain ⟨r, h3, h4⟩ := map_some_inv h
      obtain ⟨rfl, rfl, rfl⟩ := same h4
      exact (field_done hi h3 (hρ _ _ h1)).op
    · cases h
  · rename_i t y z ho
    simp only [ho]
    split at h
    · rename_i p q h1 h2
      obtain ⟨r, h3, h4⟩ := map_some_inv h
      obtain ⟨rfl, rfl, rfl⟩ := same h4
      exact (indexAddr_done hi h3 (hρ _ _ h1) (hρ _ _ h2)).op
    · cases h
  · rename_i t y z ho
    simp only [ho]
    split at h
    · rename_i p q h1 h2
      obtain ⟨r, h3, h4⟩ := map_some_inv h
      obtain ⟨rfl, rfl, rfl⟩ := same h4
      exact (index_done hi h3 (hρ _ _ h1) (hρ _ _ h2)).op
    · cases h
  · rename_i y i ho
    simp only [ho]
    split at h
    · rename_i vs h1
      obtain ⟨r, h3, h4⟩ := map_some_inv h
      obtain ⟨rfl, rfl, rfl⟩ := same h4
      exact (extract_done hi h3 (hρ _ _ h1)).op
    · cases h
  · rename_i c ho
    simp only [ho]
    obtain ⟨callee, ⟨cargs⟩, ctypes⟩ := c
    unfold evalCall at h
    simp only at h
    split at h
    · rename_i xs hargs
      have hz := allSome_zip hρ hargs
      split at h
      · rename_i b
        unfold evalBuiltin at h
        split at h
        · split at h
          · rename_i y t ht
            obtain ⟨u, hu1, hu2⟩ := zip_one hz
            obtain ⟨r, h3, h4⟩ := map_some_inv h
            obtain ⟨rfl, rfl, rfl⟩ := same h4
            have hd := (len_done (ty := o.type) hi h3 hu2).op
            rw [← len_eq (us := (cargs.map a).toArray) o.type ht (by simp [hu1])] at hd
            simpa [resolve, invoke, builtin, -bind_pure_comp] using hd
          · cases h
        · obtain ⟨r, h3, h4⟩ := map_some_inv h
          obtain ⟨rfl, rfl, rfl⟩ := same h4
          have hd := (min_done (us := (cargs.map a).toArray) (ts := ctypes) (ty := o.type) hi h3 (by simpa using hz)).op
          simpa [resolve, invoke, builtin, -bind_pure_comp] using hd
        · obtain ⟨r, h3, h4⟩ := map_some_inv h
          obtain ⟨rfl, rfl, rfl⟩ := same h4
          have hd := (max_done (us := (cargs.map a).toArray) (ts := ctypes) (ty := o.type) hi h3 (by simpa using hz)).op
          simpa [resolve, invoke, builtin, -bind_pure_comp] using hd
        · split at h
          · rename_i s y t t' ht ht'
            obtain ⟨u, v, huv, hu, hv⟩ := zip_two hz
            have hd := (append_done (ty := o.type) hi h hu hv).op
            rw [← append_eq (us := (cargs.map a).toArray) o.type ht ht' (by simp [huv]) (by simp [huv])] at hd
            simpa [resolve, invoke, builtin, -bind_pure_comp] using hd
          · cases h
        · split at h
          · rename_i s y t ht
            obtain ⟨u, v, huv, hu, hv⟩ := zip_two hz
            have hd := (copy_done (t' := t) (ty := o.type) hi h hu hv).op
            rw [← copy_eq (us := (cargs.map a).toArray) o.type ht (by simp [huv]) (by simp [huv])] at hd
            simpa [resolve, invoke, builtin, -bind_pure_comp] using hd
          · cases h
        · cases h
      · rename_i f
        unfold callVal at h
        split at h
        · rename_i g first captured hf
          split at h
          · rename_i spec hg
            obtain ⟨⟨fn, f1, f2, f3⟩, hsound⟩ := hΓ g spec hg
            obtain ⟨us, ts, e1, l1, l2, r1, r2⟩ := (hρ _ _ hf).fn_inv
            have hz : Zip (RepO w S G nx) (first ++ xs ++ captured) (us.toList ++ cargs.map a ++ ts.toList) :=
              (Zip.append ⟨by simpa using l1, fun j pv x p q => r1 j pv x p (by simpa using q)⟩ (allSome_zip hρ hargs)).append ⟨by simpa using l2, fun j pv x p q => r2 j pv x p (by simpa using q)⟩
            refine .inr ⟨g, (us.toList ++ cargs.map a ++ ts.toList).toArray, ?_, hsound _ _ _ _ _ _ h w S G _ hi hz⟩
            have f2' : ¬ fn.name = "runtime.NumGoroutine" := by simpa using f2
            have f3' : ¬ fn.body = none := by intro h; simp [h] at f3
            have e5 : (us.toList ++ cargs.map a ++ ts.toList).toArray = us ++ (cargs.map a).toArray ++ ts := by apply Array.ext'; simp
            rw [e5]
            simp [resolve, e1, Deferred.ofValue, invoke, callFunc, f1, f2', f3']
          · cases h
        · cases h
      · cases h
    · cases h
  · cases h

end Go.AM
