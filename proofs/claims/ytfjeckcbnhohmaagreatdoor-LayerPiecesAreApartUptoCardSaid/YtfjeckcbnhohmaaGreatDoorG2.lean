/-
  The abstract machine, part 10: copy, the literals, len, min, max.
  The abstract machine, part 11: copy; and every operation that is no call of a Go function, in one statement.
  The abstract machine, part 12: a region that draws its order: the evaluator comes to one state in every order that is allowed.
  The abstract machine, part 12b: a load and a store that touch different blocks can change places.
-/
import Derived.Test.YtfjeckcbnhohmaaGreatDoorG1
import Derived.Orders
namespace Go.AM
open Go.RowKit

section
variable {P : Program} {w : World} {S : Nat → Prop} {G : Nat → GI} {hp : Hp} {nx : Nat}

theorem len_done (hi : Inv P w S G hp nx) {t ty : TypeId} {p x : PV} {u : Value} (h : lenA P t p = some x) (hu : RepO w S G nx p u) : Done P w hp nx S G x hp nx ((Builtin.len_ #[t] ty #[u]).run P w) := by
  have sl : ∀ {A : Option Addr} {n c : Nat} {e : TypeId}, elemA P t = some e → (Builtin.len_ #[t] ty #[.slice A n c]).run P w = .ok (.int .i64 n) w := fun he => by
    simp [Builtin.len_, run_underlying (elem_spec he), goInt]
  unfold lenA at h
  split at h
  · obtain ⟨rfl, _⟩ := hu.v_inv
    split at h
    · rename_i hun
      injection h with h
      subst h
      exact done_pure (v := _) hi (by simp [Builtin.len_, run_underlying hun, goInt]) (lit_v _ rfl)
    · cases h
  · cases he : elemA P t with
    | none => simp [he] at h
    | some e =>
      simp [he] at h
      subst h
      cases hu.sl_inv with
      | sl us h0 h1 h2 h3 h4 h5 => exact done_pure (v := _) hi (sl he) (lit_v _ rfl)
  · cases he : elemA P t with
    | none => simp [he] at h
    | some e =>
      simp [he] at h
      subst h
      have := hu.nil_inv
      subst this
      exact done_pure (v := _) hi (sl he) (lit_v _ rfl)
  · cases he : elemA P t with
    | none => simp [he] at h
    | some e =>
      simp [he] at h
      subst h
      obtain ⟨ad, cap, rfl, _⟩ := hu.em_inv
      exact done_pure (v := _) hi (sl he) (lit_v _ rfl)
  · cases he : elemA P t with
    | none => simp [he] at h
    | some e =>
      simp [he] at h
      subst h
      obtain ⟨cap, _, _, _, _, rfl⟩ := hu.own_inv
      exact done_pure (v := _) hi (sl he) (lit_v _ rfl)
  · cases h

theorem minFrom_run {k : IntKind} : ∀ {l : List PV} {x : Int} {r : PV} {us : List Value}, minFrom k x l = some r → Zip (RepO w S G nx) l us → ∃ n, r = .v (.int k n) ∧ (us.foldlM Builtin.min2 (.int k x)).run P w = .ok (.int k n) w
  | [], x, r, us, h, hz => by
    simp only [minFrom] at h
    injection h with h
    subst h
    rw [hz.unnil]
    exact ⟨x, rfl, by simp⟩
  | p :: l, x, r, us, h, hz => by
    obtain ⟨u, us', rfl, hu, hz'⟩ := hz.uncons
    unfold minFrom at h
    split at h
    · cases ‹p :: l = []›
    · rename_i k' y l' e
      injection e with e1 e2
      subst e1; subst e2
      split at h
      · rename_i hk
        subst hk
        obtain ⟨rfl, _⟩ := hu.v_inv
        obtain ⟨n, rfl, hr⟩ := minFrom_run h hz'
        exact ⟨n, rfl, by simp only [List.foldlM_cons, Sem.run_bind, Builtin.min2, Sem.run_pure, Result.andThen_ok]; exact hr⟩
      · cases h
    · cases h

theorem maxFrom_run {k : IntKind} : ∀ {l : List PV} {x : Int} {r : PV} {us : List Value}, maxFrom k x l = some r → Zip (RepO w S G nx) l us → ∃ n, r = .v (.int k n) ∧ (us.foldlM Builtin.max2 (.int k x)).run P w = .ok (.int k n) w
  | [], x, r, us, h, hz => by
    simp only [maxFrom] at h
    injection h with h
    subst h
    rw [hz.unnil]
    exact ⟨x, rfl, by simp⟩
  | p :: l, x, r, us, h, hz => by
    obtain ⟨u, us', rfl, hu, hz'⟩ := hz.uncons
    unfold maxFrom at h
    split at h
    · cases ‹p :: l = []›
    · rename_i k' y l' e
      injection e with e1 e2
      subst e1; subst e2
      split at h
      · rename_i hk
        subst hk
        obtain ⟨rfl, _⟩ := hu.v_inv
        obtain ⟨n, rfl, hr⟩ := maxFrom_run h hz'
        exact ⟨n, rfl, by simp only [List.foldlM_cons, Sem.run_bind, Builtin.max2, Sem.run_pure, Result.andThen_ok]; exact hr⟩
      · cases h
    · cases h

theorem min_done (hi : Inv P w S G hp nx) {ts : Array TypeId} {ty : TypeId} {xs : List PV} {x : PV} {us : Array Value} (h : minA xs = some x) (hz : Zip (RepO w S G nx) xs us.toList) : Done P w hp nx S G x hp nx ((Builtin.min_ ts ty us).run P w) := by
  unfold minA at h
  split at h
  · rename_i k y l
    obtain ⟨u, us', hus, hu, hz'⟩ := hz.uncons
    obtain ⟨rfl, _⟩ := hu.v_inv
    obtain ⟨n, rfl, hr⟩ := minFrom_run (P := P) h hz'
    exact done_pure (v := _) hi (by simp only [Builtin.min_, hus]; exact hr) (lit_v _ rfl)
  · cases h

theorem max_done (hi : Inv P w S G hp nx) {ts : Array TypeId} {ty : TypeId} {xs : List PV} {x : PV} {us : Array Value} (h : maxA xs = some x) (hz : Zip (RepO w S G nx) xs us.toList) : Done P w hp nx S G x hp nx ((Builtin.max_ ts ty us).run P w) := by
  unfold maxA at h
  split at h
  · rename_i k y l
    obtain ⟨u, us', hus, hu, hz'⟩ := hz.uncons
    obtain ⟨rfl, _⟩ := hu.v_inv
    obtain ⟨n, rfl, hr⟩ := maxFrom_run (P := P) h hz'
    exact done_pure (v := _) hi (by simp only [Builtin.max_, hus]; exact hr) (lit_v _ rfl)
  · cases h

/-- Cells of a list of values and of a list of pure values, one by one. -/
theorem foldl_set : ∀ (l : List Value) (k off : Nat) (arr : Array Value), off + k + l.length ≤ arr.size →
    ((l.zipIdx k).foldl (fun (cs : Array Value) (p : Value × Nat) => cs.setIfInBounds (off + p.2) p.1) arr).size = arr.size ∧
    ∀ i : Nat, ((l.zipIdx k).foldl (fun (cs : Array Value) (p : Value × Nat) => cs.setIfInBounds (off + p.2) p.1) arr)[i]? = if off + k ≤ i ∧ i < off + k + l.length then l[i - (off + k)]? else arr[i]?
  | [], k, off, arr, h => by simp; omega
  | x :: l, k, off, arr, h => by
    simp only [List.length_cons] at h
    obtain ⟨h1, h2⟩ := foldl_set l (k + 1) off (arr.setIfInBounds (off + k) x) (by simp; omega)
    simp only [List.zipIdx_cons, List.foldl_cons]
    refine ⟨by rw [h1]; simp, fun i => ?_⟩
    rw [h2]
    by_cases c1 : off + (k + 1) ≤ i ∧ i < off + (k + 1) + l.length
    · rw [if_pos c1, if_pos ⟨by omega, by simp; omega⟩]
      obtain ⟨d, rfl⟩ : ∃ d, i = off + (k + 1) + d := ⟨i - (off + (k + 1)), by omega⟩
      rw [show off + (k + 1) + d - (off + (k + 1)) = d from by omega, show off + (k + 1) + d - (off + k) = d + 1 from by omega]
      simp
    · rw [if_neg c1]
      by_cases c2 : i = off + k
      · subst c2
        have hs : (arr.setIfInBounds (off + k) x)[off + k]? = some x := by
          rw [Array.getElem?_setIfInBounds_self_of_lt (by omega)]
        rw [if_pos ⟨by omega, by simp⟩, hs]
        simp
      · rw [if_neg (by simp; omega), Array.getElem?_setIfInBounds_ne (by omega)]

theorem fillOne {u : Value} {off : Nat} {cells : Array Value} (h : off + u.cells.size ≤ cells.size) :
    (u.cells.zipIdx.foldl (fun cs (c, j) => cs.setIfInBounds (off + j) c) cells).size = cells.size ∧
    ∀ i : Nat, (u.cells.zipIdx.foldl (fun cs (c, j) => cs.setIfInBounds (off + j) c) cells)[i]? = if off ≤ i ∧ i < off + u.cells.size then u.cells[i - off]? else cells[i]? := by
  have := foldl_set u.cells.toList 0 off cells (by simpa using h)
  simp only [Nat.add_zero, Array.length_toList, Array.getElem?_toList] at this
  rw [← Array.foldl_toList, Array.toList_zipIdx]
  exact this

theorem fill_sim {place : Nat → Option (Nat × Nat)} : ∀ {ps : List (Nat × PV)} {vs : List (Nat × Value)} {cs cs' : List PV} {cells : Array Value}, fillA place cs ps = some cs' →
    Zip (fun p v => p.1 = v.1 ∧ RepO w S G nx p.2 v.2) ps vs → cs.length = cells.size → (∀ (j : Nat) (pv : PV) (u : Value), cs[j]? = some pv → cells[j]? = some u → RepO w S G nx pv u) →
    ∃ cells', Instr.fill place cells vs = some cells' ∧ cs'.length = cells'.size ∧ ∀ (j : Nat) (pv : PV) (u : Value), cs'[j]? = some pv → cells'[j]? = some u → RepO w S G nx pv u
  | [], vs, cs, cs', cells, h, hz, hl, hr => by
    simp only [fillA] at h
    injection h with h
    subst h
    rw [hz.unnil]
    exact ⟨cells, rfl, hl, hr⟩
  | (i, x) :: ps, vs, cs, cs', cells, h, hz, hl, hr => by
    obtain ⟨⟨i', u⟩, vs', rfl, ⟨e, hu⟩, hz'⟩ := hz.uncons
    simp only at e hu
    subst e
    simp only [fillA] at h
    split at h
    · rename_i off n hp
      split at h
      · rename_i hc
        obtain ⟨c1, c2, c3⟩ := hc
        obtain ⟨d1, d2⟩ := cells_rep hu c3
        have hsz : u.cells.size = n := by rw [← d1, c1]
        obtain ⟨f1, f2⟩ := fillOne (u := u) (off := off) (cells := cells) (by omega)
        have hstep : Instr.fill place cells ((i, u) :: vs') = Instr.fill place (u.cells.zipIdx.foldl (fun cs (c, j) => cs.setIfInBounds (off + j) c) cells) vs' := by
          have g2 : ¬ (off + n > cells.size) := by omega
          simp [Instr.fill, hp, hsz]
          omega
        rw [hstep]
        refine fill_sim h hz' (by rw [setCells_length, f1, hl]) (fun j pv v hj hv => ?_)
        rw [setCells_get _ _ _ _ (by rw [c1]; exact c2)] at hj
        rw [f2] at hv
        by_cases hin : off ≤ j ∧ j < off + u.cells.size
        · rw [if_pos hin] at hv
          rw [if_pos (by omega)] at hj
          exact (d2 (j - off) pv v hj hv).1
        · rw [if_neg hin] at hv
          rw [if_neg (by omega)] at hj
          exact hr j pv v hj hv
      · cases h
    · cases h

theorem parts_zip {ρ : Operand → Option PV} {a : Operand → Value} (hρ : ∀ y pv, ρ y = some pv → RepO w S G nx pv (a y)) : ∀ {l : List (Nat × Operand)} {ps : List (Nat × PV)}, partsA ρ l = some ps →
    Zip (fun (p : Nat × PV) (v : Nat × Value) => p.1 = v.1 ∧ RepO w S G nx p.2 v.2) ps (l.map fun (i, x) => (i, a x))
  | [], ps, h => by
    simp only [partsA] at h
    injection h with h
    subst h
    exact .nil
  | (i, x) :: l, ps, h => by
    simp only [partsA] at h
    split at h
    · rename_i p r hp hr
      injection h with h
      subst h
      exact .cons ⟨rfl, hρ _ _ hp⟩ (parts_zip hρ hr)
    · cases h

theorem build_done (hi : Inv P w S G hp nx) {t : TypeId} {ps : List (Nat × PV)} {vs : Array (Nat × Value)} {x : PV} (h : buildA P t ps = some x) (hz : Zip (fun p v => p.1 = v.1 ∧ RepO w S G nx p.2 v.2) ps vs.toList) :
    Done P w hp nx S G x hp nx ((Instr.build t vs).run P w) := by
  unfold buildA at h
  split at h
  · rename_i pl z h1 h2
    obtain ⟨i, vz, i1, i2, i3⟩ := zero_of h2
    obtain ⟨z1, z2⟩ := ofCells_rep (w := w) (S := S) i3
    cases hf : fillA (fun i => pl[i]?) z ps with
    | none => simp [hf] at h
    | some cs' =>
      simp [hf] at h
      subst h
      obtain ⟨cells', f1, f2, f3⟩ := fill_sim hf hz (cells := vz.cells) (by rw [z1]; simp) (fun j pv u hj hu => .c (z2 j pv u hj (by simpa using hu)).1)
      have hb : P.built t vs.toList = some cells' := by
        unfold placesA at h1
        split at h1
        · rename_i fs hu
          unfold Program.built
          simp only [i1, hu, i2, h1]
          simpa using f1
        · cases h1
      exact done_pure (v := _) hi (run_build w t vs cells' hb) (.agg f2 f3)
  · rename_i z h1 h2
    split at h
    · rename_i m e hu
      split at h
      · rename_i n hn
        obtain ⟨i, vz, i1, i2, i3⟩ := zero_of h2
        obtain ⟨z1, z2⟩ := ofCells_rep (w := w) (S := S) i3
        cases hf : fillA (fun i => some (i * n, n)) z ps with
        | none => simp [hf] at h
        | some cs' =>
          simp [hf] at h
          subst h
          obtain ⟨cells', f1, f2, f3⟩ := fill_sim hf hz (cells := vz.cells) (by rw [z1]; simp) (fun j pv u hj hu => .c (z2 j pv u hj (by simpa using hu)).1)
          have hb : P.built t vs.toList = some cells' := by
            unfold Program.built
            unfold sizeA at hn
            cases hie : P.info? e with
            | none => simp [hie] at hn
            | some ie =>
              simp only [hie, Option.map_some, Option.some.injEq] at hn
              simp only [i1, hu, i2, hie, hn]
              exact f1
          exact done_pure (v := _) hi (run_build w t vs cells' hb) (.agg f2 f3)
      · cases h
    · cases h
  · cases h

theorem freezeParts_sound : ∀ {ps qs : List (Nat × PV)} {hp hp1 : Hp} {S : Nat → Prop} {vs : List (Nat × Value)} (_ : Inv P w S G hp nx), freezeParts hp ps = some (qs, hp1) →
    Zip (fun p v => p.1 = v.1 ∧ RepO w S G nx p.2 v.2) ps vs → ∃ S', Stp P hp nx S G w hp1 nx S' G w ∧ Zip (fun p v => p.1 = v.1 ∧ RepC w S' p.2 v.2) qs vs
  | [], qs, hp, hp1, S, vs, hi, h, hz => by
    simp only [freezeParts] at h
    injection h with h
    injection h with h1 h2
    subst h1; subst h2
    rw [hz.unnil]
    exact ⟨S, .refl hi, .nil⟩
  | (i, x) :: ps, qs, hp, hp1, S, vs, hi, h, hz => by
    obtain ⟨⟨i', u⟩, vs', rfl, ⟨e, hu⟩, hz'⟩ := hz.uncons
    simp only at e hu
    simp only [freezeParts] at h
    split at h
    · rename_i y h1 hf
      split at h
      · rename_i r h2 hr
        injection h with h
        injection h with e1 e2
        subst e1; subst e2
        obtain ⟨S1, k1, c1, _⟩ := freezeVal_sound hi hf hu
        have hS := k1.same hi
        obtain ⟨S2, k2, c2⟩ := freezeParts_sound (S := S1) k1.inv hr (hz'.imp fun x u hx => ⟨hx.1, hx.2.mono hS (Nat.le_refl _) (fun _ _ => rfl)⟩)
        exact ⟨S2, k1.trans k2, .cons ⟨e, c1.mono (k2.same k1.inv)⟩ c2⟩
      · cases h
    · cases h

theorem cellsC_rep {y : PV} {u : Value} (h : RepC w S y u) (hc : y.cells.all PV.isCell = true) : y.cells.length = u.cells.size ∧ ∀ (j : Nat) (pv : PV) (c : Value), y.cells[j]? = some pv → u.cells[j]? = some c → RepC w S pv c ∧ c.oneCell' = true := by
  by_cases hag : ∃ cs, y = .agg cs
  · obtain ⟨cs, rfl⟩ := hag
    cases h with
    | agg hl hr =>
      refine ⟨hl, fun j pv c hj hu => ?_⟩
      have h1 := hr j pv c hj hu
      refine ⟨h1, h1.oneCell ?_⟩
      simp only [PV.cells] at hc hj
      exact List.all_eq_true.1 hc pv (List.mem_of_getElem? hj)
  · have hy : y.cells = [y] := by cases y <;> first | rfl | exact (hag ⟨_, rfl⟩).elim
    rw [hy] at hc ⊢
    have hi : y.isCell = true := by simpa using hc
    have ho := h.oneCell hi
    have hu : u.cells = #[u] := by cases u <;> first | rfl | simp [Value.oneCell'] at ho
    rw [hu]
    refine ⟨rfl, fun j pv c hj hc => ?_⟩
    cases j with
    | zero => simp at hj hc; subst hj; subst hc; exact ⟨h, ho⟩
    | succ j => simp at hj

theorem setElems_sim {n : Nat} : ∀ {qs : List (Nat × PV)} {vs : List (Nat × Value)} {es es' : List (List PV)} {cells : Array Value}, setElems n es qs = some es' → Zip (fun p v => p.1 = v.1 ∧ RepC w S p.2 v.2) qs vs →
    es.length * n = cells.size → (∀ c ∈ es, c.length = n) → (∀ (i j : Nat) (c : List PV) (pv : PV), es[i]? = some c → c[j]? = some pv → ∃ u, cells[i * n + j]? = some u ∧ RepC w S pv u ∧ u.oneCell' = true) →
    ∃ cells', Instr.fill (fun i => some (i * n, n)) cells vs = some cells' ∧ es'.length = es.length ∧ cells'.size = cells.size ∧ (∀ c ∈ es', c.length = n) ∧
      ∀ (i j : Nat) (c : List PV) (pv : PV), es'[i]? = some c → c[j]? = some pv → ∃ u, cells'[i * n + j]? = some u ∧ RepC w S pv u ∧ u.oneCell' = true
  | [], vs, es, es', cells, h, hz, hl, hn, hr => by
    simp only [setElems] at h
    injection h with h
    subst h
    rw [hz.unnil]
    exact ⟨cells, rfl, rfl, rfl, hn, hr⟩
  | (i, x) :: qs, vs, es, es', cells, h, hz, hl, hn, hr => by
    obtain ⟨⟨i', u⟩, vs', rfl, ⟨e, hu⟩, hz'⟩ := hz.uncons
    simp only at e hu
    subst e
    simp only [setElems] at h
    split at h
    · rename_i hc
      obtain ⟨c1, c2, c3⟩ := hc
      obtain ⟨d1, d2⟩ := cellsC_rep hu c3
      have hsz : u.cells.size = n := by rw [← d1, c1]
      have hfit : i * n + n ≤ cells.size := by
        have : (i + 1) * n ≤ es.length * n := Nat.mul_le_mul_right _ c2
        rw [Nat.add_mul] at this
        omega
      obtain ⟨f1, f2⟩ := fillOne (u := u) (off := i * n) (cells := cells) (by omega)
      have hstep : Instr.fill (fun i => some (i * n, n)) cells ((i, u) :: vs') = Instr.fill (fun i => some (i * n, n)) (u.cells.zipIdx.foldl (fun cs (c, j) => cs.setIfInBounds (i * n + j) c) cells) vs' := by
        simp [Instr.fill, hsz]
        omega
      rw [hstep]
      obtain ⟨cells', g1, g2, g3, g4, g5⟩ := setElems_sim h hz' (cells := u.cells.zipIdx.foldl (fun cs (c, j) => cs.setIfInBounds (i * n + j) c) cells) (by rw [f1]; simpa using hl) (fun c hc => by
          rcases List.mem_or_eq_of_mem_set hc with h | h
          · exact hn c h
          · subst h; exact c1) (fun i' j c pv hi' hj => by
          rw [f2]
          by_cases hii : i' = i
          · subst hii
            rw [List.getElem?_set_self c2] at hi'
            injection hi' with hi'
            subst hi'
            have hjn : j < n := by rw [← c1]; exact (List.getElem?_eq_some_iff.1 hj).1
            rw [if_pos ⟨by omega, by omega⟩, show i' * n + j - i' * n = j from by omega]
            have hju : j < u.cells.size := by omega
            have h6 := d2 j pv u.cells[j] hj (by simp [hju])
            exact ⟨u.cells[j], by simp [hju], h6⟩
          · rw [List.getElem?_set_ne (fun e => hii e.symm)] at hi'
            have hjn : j < n := by rw [← hn c (List.mem_of_getElem? hi')]; exact (List.getElem?_eq_some_iff.1 hj).1
            have := elem_apart hjn hii 0 n (by omega)
            rw [if_neg (by rw [hsz]; simpa using this)]
            exact hr i' j c pv hi' hj)
      exact ⟨cells', g1, by rw [g2]; simp, by rw [g3, f1], g4, g5⟩
    · cases h

theorem buildSlice_done (hi : Inv P w S G hp nx) {t : TypeId} {len : Nat} {ps : List (Nat × PV)} {vs : Array (Nat × Value)} {x : PV} {hp' : Hp} {nx' : Nat} (h : buildSliceA P hp nx t len ps = some (x, hp', nx')) (hz : Zip (fun p v => p.1 = v.1 ∧ RepO w S G nx p.2 v.2) ps vs.toList) :
    Done P w hp nx S G x hp' nx' ((Instr.buildSlice t len vs).run P w) := by
  unfold buildSliceA at h
  split at h
  · rename_i e he
    split at h
    · rename_i n z qs hp1 h1 h2 h3
      split at h
      · rename_i hc
        obtain ⟨c1, c2, c3⟩ := hc
        split at h
        · rename_i es hes
          injection h with h
          injection h with ex h
          injection h with eh en
          subst ex; subst eh; subst en
          obtain ⟨i, vz, i1, i2, i3⟩ := zero_of h2
          obtain ⟨z1, z2⟩ := ofCells_rep (w := w) (S := S) i3
          have hzc : vz.cells.size = n := by rw [← c2, z1]; simp
          obtain ⟨S1, k1, q1⟩ := freezeParts_sound hi h3 hz
          obtain ⟨cells', g1, g2, g3, g4, g5⟩ := setElems_sim (w := w) hes q1 (cells := madeCells vz.cells (len * n)) (by simp [size_madeCells]) (fun c hc => by rw [(List.mem_replicate.1 hc).2]; exact c2) (fun i' j c pv hi' hj => by
            have hil : i' < len := by have := (List.getElem?_eq_some_iff.1 hi').1; simpa using this
            rw [List.getElem?_replicate, if_pos hil] at hi'
            injection hi' with hi'
            subst hi'
            have hjn : j < n := by rw [← c2]; exact (List.getElem?_eq_some_iff.1 hj).1
            have hjz : j < vz.cells.size := by omega
            rw [made_get hzc hil hjn]
            have h6 := z2 j pv vz.cells[j] hj (by simp [hjz])
            exact ⟨vz.cells[j], by simp [hjz], h6.1.mono (k1.same hi), h6.2.1⟩)
          have hel : es.length = len := by rw [g2]; simp
          have k2 := Stp.alloc k1.inv cells' e true es n c1 (by simpa [sizeA] using h1) g4 (by rw [g3, size_madeCells, hel]; exact Nat.le_refl _) (fun i' j c pv hi' hj => by
            obtain ⟨u, u1, u2, u3⟩ := g5 i' j c pv hi' hj
            exact ⟨u, u1, fun _ => u2, .c u2, u3⟩)
          have hlim : ¬ (len * n > 2 ^ 24) := by simp; omega
          refine ⟨.slice (some ⟨w.heap.size, 0, none⟩) len len, _, _, _, ?_, k1.trans k2, ?_⟩
          · by_cases h0 : len * n = 0
            · have hl0 : len = 0 := by
                rcases Nat.mul_eq_zero.1 h0 with h | h
                · exact h
                · omega
              have hfill : Instr.fill (fun i => some (i * n, n)) ((Array.range (len * n)).map ((#[] : Array Value)[· % (#[] : Array Value).size]!)) vs.toList = some cells' := by
                rw [← g1]
                congr 1
                rw [h0]
                simp [madeCells]
              simp [Instr.buildSlice, run_underlying (elem_spec he), run_sizeOf h1, h0, newRow]
              simp [h0] at hfill
              simp [hfill]
            · have hfill : Instr.fill (fun i => some (i * n, n)) ((Array.range (len * n)).map (vz.cells[· % vz.cells.size]!)) vs.toList = some cells' := g1
              simp [Instr.buildSlice, run_underlying (elem_spec he), run_sizeOf h1, h0, newRow, run_zeroValue i1 i2, hfill]
              omega
          · have hmax : len ≤ maxLen := by
              have : len * 1 ≤ len * n := Nat.mul_le_mul_left _ c1
              simp only [maxLen]
              omega
            have := RepO.own (w := w.alloc (.cells cells' e)) (S := S1) (G := upd G nx ⟨w.heap.size, cells'.size, n⟩) (nx := nx + 1) (id := nx) (off := 0) (n := len) (cap := len) (by omega) (Nat.le_refl _) hmax (by simp [g3, size_madeCells]) (by simpa using c1)
            simpa using this
        · cases h
      · cases h
    · cases h
  · cases h

end
end Go.AM
namespace Go.AM
open Go.RowKit

section
variable {P : Program} {w : World} {S : Nat → Prop} {G : Nat → GI} {hp : Hp} {nx : Nat}

theorem copy_done (hi : Inv P w S G hp nx) {t t' ty : TypeId} {d x y : PV} {hp' : Hp} {nx' : Nat} {u v : Value} (h : copyA P hp nx t d x = some (y, hp', nx')) (hd : RepO w S G nx d u) (hx : RepO w S G nx x v) :
    Done P w hp nx S G y hp' nx' ((Builtin.copy_ #[t, t'] ty #[u, v]).run P w) := by
  unfold copyA at h
  split at h
  · rename_i e id off k he
    split at h
    · rename_i b n hb hn
      split at h
      · rename_i xs hv
        split at h
        · rename_i hc
          obtain ⟨c1, c2, c3, c4⟩ := hc
          injection h with h
          injection h with ey h
          injection h with eh en
          subst ey; subst eh; subst en
          have hop := hd.own_pos
          obtain ⟨cap, g1, g2, g3, g4, rfl⟩ := hd.own_inv
          obtain ⟨A, c, f, rfl, f1, f2⟩ := view_sound hi hv hx
          have hbr := hi.live id b hb
          obtain ⟨cur, q1, q2, q3⟩ := hbr.row hop
          have hu := elem_spec he
          have hsb : (G id).s = n := by
            have h5 := hbr.size hop
            rw [c2] at h5
            have h6 : (P.info? e).map (·.size) = some n := by simpa [sizeA] using hn
            rw [h6] at h5
            injection h5 with h5
            exact h5.symm
          have hmin : Nat.min xs.length k = min xs.length k := rfl
          have hmx : min xs.length k ≤ xs.length := Nat.min_le_left _ _
          have hmk : min xs.length k ≤ k := Nat.min_le_right _ _
          generalize hm : min xs.length k = m at *
          have hfl := view_flat c4 f1 f2
          have hmn : m * n ≤ xs.length * n := Nat.mul_le_mul_right _ hmx
          have hcells : (Builtin.firstCells n m (.slice A xs.length c)).run P w = .ok ((List.range (m * n)).map f).toArray w := by
            by_cases h0 : m = 0
            · subst h0
              cases A <;> simp [Builtin.firstCells, loadCells, loadCellsFrom]
            · obtain ⟨ad, rfl, _, _⟩ := hfl 0 (Nat.mul_pos (by omega) c4)
              have := run_loadCells_list (P := P) w ad ((List.range (m * n)).map f) (fun j u hj => by
                have hjl : j < m * n := by have := (List.getElem?_eq_some_iff.1 hj).1; simpa using this
                obtain ⟨ad', e1, e2, _⟩ := hfl j (by omega)
                injection e1 with e1
                subst e1
                rw [List.getElem?_map, List.getElem?_range hjl] at hj
                simp at hj
                rw [e2, hj])
              simpa [Builtin.firstCells] using this
          have hfit : off * n + m * n ≤ cur.size := by
            rw [q2]
            have h5 : (off + m) * n ≤ b.es.length * n := Nat.mul_le_mul_right _ (by omega)
            have h6 := hbr.fit hop
            rw [hsb] at h6
            rw [Nat.add_mul] at h5
            omega
          have hst := run_storeCells_at P (G id).g (off * n) b.e ((List.range (m * n)).map f) 0 cur w q1 (by simpa using hfit) (fun u hu => by
            obtain ⟨k, hk, rfl⟩ := List.mem_map.1 hu
            exact (hfl k (by have := List.mem_range.1 hk; omega)).choose_spec.2.2)
          simp only [Nat.add_zero] at hst
          have hlen : ((List.range (m * n)).map f).length = m * n := by simp
          have hsl : off * n + ((List.range (m * n)).map f).length ≤ cur.toList.length := by simpa using hfit
          have k2 := Stp.set hi hb hop (cur.toList.take (off * n) ++ (List.range (m * n)).map f ++ cur.toList.drop (off * n + ((List.range (m * n)).map f).length)).toArray (b.es.take off ++ xs.take m ++ b.es.drop (off + m))
            (by rw [List.size_toArray, splice_length _ _ _ hsl]; simpa using q2)
            (fun c' hc' => by
              rw [List.append_assoc] at hc'
              rcases List.mem_append.1 hc' with h | h
              · exact hbr.len hop c' (List.take_subset _ _ h)
              · rcases List.mem_append.1 h with h | h
                · rw [hsb]; exact f1 c' (List.take_subset _ _ h)
                · exact hbr.len hop c' (List.drop_subset _ _ h))
            (by
              have h5 := hbr.fit hop
              have : (b.es.take off ++ xs.take m ++ b.es.drop (off + m)).length = b.es.length := by simp; omega
              rw [this]; exact h5)
            (fun i' j c' pv hi' hj => by
              have hxm : (xs.take m).length = m := by simp; omega
              rw [show off + m = off + (xs.take m).length from by rw [hxm], splice_get _ _ _ _ (by rw [hxm]; omega), hxm] at hi'
              rw [List.getElem?_toArray, splice_get _ _ _ _ hsl, hlen, hsb]
              by_cases hin : off ≤ i' ∧ i' < off + m
              · rw [if_pos hin, List.getElem?_take, if_pos (by omega)] at hi'
                have hjn : j < n := by rw [← f1 c' (List.mem_of_getElem? hi')]; exact (List.getElem?_eq_some_iff.1 hj).1
                have h5 : off * n ≤ i' * n := Nat.mul_le_mul_right _ hin.1
                have h6 := elem_lt (i := i' - off) (n := m) (by omega) hjn
                have h7 : i' * n + j - off * n = (i' - off) * n + j := by rw [Nat.sub_mul]; omega
                rw [if_pos ⟨by omega, by rw [Nat.sub_mul] at h6; omega⟩, h7, List.getElem?_map, List.getElem?_range h6]
                obtain ⟨ad', a1, a2, a3⟩ := f2 (i' - off) j c' pv hi' hj
                refine ⟨f ((i' - off) * n + j), rfl, ?_⟩
                rw [c1]; exact a3
              · rw [if_neg hin] at hi'
                have hjn : j < n := by rw [← hsb, ← hbr.len hop c' (List.mem_of_getElem? hi')]; exact (List.getElem?_eq_some_iff.1 hj).1
                have : ¬ (off * n ≤ i' * n + j ∧ i' * n + j < off * n + m * n) := by
                  by_cases h5 : i' < off
                  · have h6 := elem_lt (n := off) h5 hjn; omega
                  · have h6 : off + m ≤ i' := by omega
                    have h7 : (off + m) * n ≤ i' * n := Nat.mul_le_mul_right _ h6
                    rw [Nat.add_mul] at h7
                    omega
                rw [if_neg this]
                obtain ⟨u', u1, u2⟩ := q3 i' j c' pv hi' hj
                rw [hsb] at u1
                exact ⟨u', by simpa using u1, u2⟩)
          rw [c1] at k2
          refine ⟨.int .i64 m, _, _, _, ?_, k2, lit_v _ rfl⟩
          simp [Builtin.copy_, run_underlying hu, Builtin.lenOf, run_sizeOf hn, hmin, hcells, hsb, hst, goInt]
        · cases h
      · cases h
    · cases h
  · cases h

theorem clear_eq {ts : Array TypeId} {us : Array Value} {t : TypeId} {u : Value} (ty : TypeId) (h1 : ts[0]? = some t) (h3 : us[0]? = some u) : Builtin.clear_ ts ty us = Builtin.clear_ #[t] ty #[u] := by
  simp [Builtin.clear_, h1, h3]
theorem clear_done (hi : Inv P w S G hp nx) {t ty : TypeId} {x y : PV} {hp' : Hp} {nx' : Nat} {v : Value} (h : clearA P hp nx t x = some (y, hp', nx')) (hd : RepO w S G nx x v) :
    Done P w hp nx S G y hp' nx' ((Builtin.clear_ #[t] ty #[v]).run P w) := by
  unfold clearA at h
  split at h
  · rename_i e id off k he
    split at h
    · rename_i b n z hb hn hz
      split at h
      · rename_i hc
        obtain ⟨c0, c1, c2, c3, c4⟩ := hc
        subst c0
        injection h with h
        injection h with ey h
        injection h with eh en
        subst ey; subst eh; subst en
        have hop := hd.own_pos
        obtain ⟨cap, g1, g2, g3, g4, rfl⟩ := hd.own_inv
        have hbr := hi.live id b hb
        obtain ⟨cur, q1, q2, q3⟩ := hbr.row hop
        have hu := elem_spec he
        have hsb : (G id).s = 1 := by
          have h5 := hbr.size hop
          rw [c2] at h5
          have h6 : (P.info? e).map (·.size) = some 1 := by simpa [sizeA] using hn
          rw [h6] at h5
          injection h5 with h5
          exact h5.symm
        obtain ⟨i, vz, i1, i2, i3⟩ := zero_of hz
        obtain ⟨z1, z2⟩ := ofCells_rep (w := w) (S := S) i3
        have hzc : vz.cells.size = 1 := by have := z1; simp at this; omega
        obtain ⟨cz, hcz⟩ : ∃ cz, vz.cells = #[cz] := ⟨vz.cells[0], by
          apply Array.ext'
          apply List.ext_getElem
          · simp [hzc]
          · intro j h1 h2
            have : j = 0 := by simp at h2; exact h2
            subst this
            simp⟩
        obtain ⟨r1, r2, _⟩ := z2 0 z cz rfl (by simp [hcz])
        have hcells : (Builtin.zeroCells vz.cells k).toList = List.replicate k cz := by
          rw [hcz]
          apply List.ext_getElem
          · simp [Builtin.zeroCells]
          · intro j h1 h2
            simp [Builtin.zeroCells, Nat.mod_one]
        have hfit : off + k ≤ cur.size := by
          rw [q2]
          have h6 := hbr.fit hop
          rw [hsb] at h6
          omega
        have hst := run_storeCells_at P (G id).g off b.e (List.replicate k cz) 0 cur w q1 (by simpa using hfit) (fun u hu => by rw [List.eq_of_mem_replicate hu]; exact r2)
        simp only [Nat.add_zero] at hst
        have hsl : off + (List.replicate k cz).length ≤ cur.toList.length := by simpa using hfit
        have k2 := Stp.set hi hb hop (cur.toList.take off ++ List.replicate k cz ++ cur.toList.drop (off + (List.replicate k cz).length)).toArray (b.es.take off ++ List.replicate k [z] ++ b.es.drop (off + k))
          (by rw [List.size_toArray, splice_length _ _ _ hsl]; simpa using q2)
          (fun c' hc' => by
            rw [List.append_assoc] at hc'
            rcases List.mem_append.1 hc' with h | h
            · exact hbr.len hop c' (List.take_subset _ _ h)
            · rcases List.mem_append.1 h with h | h
              · rw [hsb, List.eq_of_mem_replicate h]; rfl
              · exact hbr.len hop c' (List.drop_subset _ _ h))
          (by
            have h5 := hbr.fit hop
            have : (b.es.take off ++ List.replicate k [z] ++ b.es.drop (off + k)).length = b.es.length := by simp; omega
            rw [this]; exact h5)
          (fun i' j c' pv hi' hj => by
            have hxm : (List.replicate k [z]).length = k := by simp
            rw [show off + k = off + (List.replicate k [z]).length from by rw [hxm], splice_get _ _ _ _ (by rw [hxm]; omega), hxm] at hi'
            rw [List.getElem?_toArray, splice_get _ _ _ _ hsl, hsb, List.length_replicate]
            by_cases hin : off ≤ i' ∧ i' < off + k
            · rw [if_pos hin, List.getElem?_replicate, if_pos (by omega)] at hi'
              injection hi' with hi'
              subst hi'
              have hj0 : j = 0 := by have := (List.getElem?_eq_some_iff.1 hj).1; simp at this; omega
              subst hj0
              simp at hj
              subst hj
              rw [if_pos (by omega), List.getElem?_replicate, if_pos (by omega)]
              exact ⟨cz, rfl, fun _ => r1, .c r1, r2⟩
            · rw [if_neg hin] at hi'
              have hjn : j < 1 := by rw [← hsb, ← hbr.len hop c' (List.mem_of_getElem? hi')]; exact (List.getElem?_eq_some_iff.1 hj).1
              rw [if_neg (by omega)]
              obtain ⟨u', u1, u2⟩ := q3 i' j c' pv hi' hj
              rw [hsb] at u1
              exact ⟨u', by simpa using u1, u2⟩)
        rw [c1] at k2
        refine ⟨.tuple #[], _, _, _, ?_, k2, .c (.tup rfl (by simp))⟩
        obtain ⟨k', rfl⟩ : ∃ k', k = k' + 1 := ⟨k - 1, by omega⟩
        simp [Builtin.clear_, run_underlying hu, run_zeroValue i1 i2, hcells, hsb, hst]
      · cases h
    · cases h
  · cases h

theorem allSome_zip {ρ : Operand → Option PV} {a : Operand → Value} (hρ : ∀ y pv, ρ y = some pv → RepO w S G nx pv (a y)) : ∀ {l : List Operand} {xs : List PV}, allSome (l.map ρ) = some xs → Zip (RepO w S G nx) xs (l.map a)
  | [], xs, h => by
    simp only [List.map_nil, allSome] at h
    injection h with h
    subst h
    exact .nil
  | x :: l, xs, h => by
    simp only [List.map_cons] at h
    cases hx : ρ x with
    | none => rw [hx] at h; simp [allSome] at h
    | some p =>
      rw [hx] at h
      simp only [allSome] at h
      cases hl : allSome (l.map ρ) with
      | none => rw [hl] at h; simp at h
      | some r =>
        rw [hl] at h
        simp at h
        subst h
        exact .cons (hρ _ _ hx) (allSome_zip hρ hl)

/-- What is known of a called function. -/
def SpecSound (P : Program) (g : FuncId) (spec : AM.Spec) : Prop :=
  (∃ fn, P.funcs[g]? = some fn ∧ (fn.name == "runtime.NumGoroutine") = false ∧ fn.body.isNone = false) ∧
  ∀ (args : List PV) (hp : Hp) (nx : Nat) (r : PV) (hp' : Hp) (nx' : Nat), spec args hp nx = some (r, hp', nx') → ∀ (w : World) (S : Nat → Prop) (G : Nat → GI) (vs : List Value), Inv P w S G hp nx → Zip (RepO w S G nx) args vs →
    Calls P g vs.toArray w fun e w' => ∃ v S' G', e = .returned v ∧ Stp P hp nx S G w hp' nx' S' G' w' ∧ RepO w' S' G' nx' r v

/-- What an operation comes to. -/
def OpRes (P : Program) (w : World) (hp : Hp) (nx : Nat) (S : Nat → Prop) (G : Nat → GI) (x : PV) (hp' : Hp) (nx' : Nat) (r : Result Next) : Prop :=
  (∃ v w' S' G', (r = .ok (.value v) w' ∨ (r = .ok .skip w' ∧ v = undef)) ∧ Stp P hp nx S G w hp' nx' S' G' w' ∧ RepO w' S' G' nx' x v) ∨
  ∃ g vs, r = .ok (.enter g vs) w ∧ Calls P g vs w fun e w' => ∃ v S' G', e = .returned v ∧ Stp P hp nx S G w hp' nx' S' G' w' ∧ RepO w' S' G' nx' x v

theorem Done.op {x : PV} {hp' : Hp} {nx' : Nat} {s : Sem Value} (h : Done P w hp nx S G x hp' nx' (s.run P w)) : OpRes P w hp nx S G x hp' nx' ((do pure (.value (← s)) : Sem Next).run P w) := by
  obtain ⟨v, w', S', G', h1, h2, h3⟩ := h
  exact .inl ⟨v, w', S', G', .inl (by simp [h1]), h2, h3⟩

theorem len_eq {ts : Array TypeId} {us : Array Value} {t : TypeId} {u : Value} (ty : TypeId) (h1 : ts[0]? = some t) (h2 : us[0]? = some u) : Builtin.len_ ts ty us = Builtin.len_ #[t] ty #[u] := by
  simp [Builtin.len_, h1, h2]
theorem append_eq {ts : Array TypeId} {us : Array Value} {t t' : TypeId} {u v : Value} (ty : TypeId) (h1 : ts[0]? = some t) (h2 : ts[1]? = some t') (h3 : us[0]? = some u) (h4 : us[1]? = some v) : Builtin.append_ ts ty us = Builtin.append_ #[t, t'] ty #[u, v] := by
  simp [Builtin.append_, h1, h2, h3, h4]
theorem copy_eq {ts : Array TypeId} {us : Array Value} {t : TypeId} {u v : Value} (ty : TypeId) (h1 : ts[0]? = some t) (h3 : us[0]? = some u) (h4 : us[1]? = some v) : Builtin.copy_ ts ty us = Builtin.copy_ #[t, t] ty #[u, v] := by
  simp [Builtin.copy_, h1, h3, h4]

theorem zip_one {α β : Type} {R : α → β → Prop} {x : α} {us : List β} (h : Zip R [x] us) : ∃ u, us = [u] ∧ R x u := by
  obtain ⟨u, us', rfl, hu, hz⟩ := h.uncons
  rw [hz.unnil]
  exact ⟨u, rfl, hu⟩
theorem zip_two {α β : Type} {R : α → β → Prop} {x y : α} {us : List β} (h : Zip R [x, y] us) : ∃ u v, us = [u, v] ∧ R x u ∧ R y v := by
  obtain ⟨u, us', rfl, hu, hz⟩ := h.uncons
  obtain ⟨v, rfl, hv⟩ := zip_one hz
  exact ⟨u, v, rfl, hu, hv⟩
theorem Zip.append {α β : Type} {R : α → β → Prop} {xs ys : List α} {us vs : List β} (h : Zip R xs us) (k : Zip R ys vs) : Zip R (xs ++ ys) (us ++ vs) := by
  refine ⟨by simp [h.1, k.1], fun j x u hx hu => ?_⟩
  by_cases hj : j < xs.length
  · rw [List.getElem?_append_left hj] at hx
    rw [List.getElem?_append_left (by rw [← h.1]; exact hj)] at hu
    exact h.2 j x u hx hu
  · rw [List.getElem?_append_right (by omega)] at hx
    rw [List.getElem?_append_right (by rw [← h.1]; omega), ← h.1] at hu
    exact k.2 _ x u hx hu

theorem map_some_inv {α β : Type} {o : Option α} {f : α → β} {y : β} (h : o.map f = some y) : ∃ x, o = some x ∧ f x = y := by
  cases o with
  | none => simp at h
  | some x => exact ⟨x, rfl, by simpa using h⟩

end

theorem evalOp_sound {C : Ctx} {w : World} {S : Nat → Prop} {G : Nat → GI} {hp : Hp} {nx : Nat} (hΓ : ∀ g spec, C.Γ g = some spec → SpecSound C.P g spec) (hi : Inv C.P w S G hp nx)
    {ρ : Operand → Option PV} {a : Operand → Value} (hρ : ∀ y pv, ρ y = some pv → RepO w S G nx pv (a y)) {o : Oper} {x : PV} {hp' : Hp} {nx' : Nat} (h : evalOp C ρ hp nx o.op = some (x, hp', nx')) :
    OpRes C.P w hp nx S G x hp' nx' ((execOp a o).run C.P w) := by
  have same : ∀ {f : PV} {y : PV}, (f, hp, nx) = (y, hp', nx') → f = y ∧ hp = hp' ∧ nx = nx' := by
    intro f y h
    injection h with e1 h
    injection h with e2 e3
    exact ⟨e1, e2, e3⟩
  unfold evalOp at h
  unfold execOp
  split at h
  · rename_i y ho
    obtain ⟨p, h1, h2⟩ := map_some_inv h
    obtain ⟨rfl, rfl, rfl⟩ := same h2
    simp only [ho]
    exact .inl ⟨a y, w, S, G, .inl rfl, .refl hi, hρ _ _ h1⟩
  · rename_i y ho
    obtain ⟨p, h1, h2⟩ := map_some_inv h
    obtain ⟨rfl, rfl, rfl⟩ := same h2
    simp only [ho]
    exact .inl ⟨a y, w, S, G, .inl rfl, .refl hi, hρ _ _ h1⟩
  · rename_i c y z ho
    simp only [ho]
    split at h
    · rename_i hc
      obtain ⟨p, h1, h2⟩ := map_some_inv h
      obtain ⟨rfl, rfl, rfl⟩ := same h2
      obtain ⟨e, _⟩ := (hρ _ _ hc).v_inv
      exact .inl ⟨a y, w, S, G, .inl (by simp [e, asBool]), .refl hi, hρ _ _ h1⟩
    · rename_i hc
      obtain ⟨p, h1, h2⟩ := map_some_inv h
      obtain ⟨rfl, rfl, rfl⟩ := same h2
      obtain ⟨e, _⟩ := (hρ _ _ hc).v_inv
      exact .inl ⟨a z, w, S, G, .inl (by simp [e, asBool]), .refl hi, hρ _ _ h1⟩
    · cases h
  · rename_i t ho
    simp only [ho]
    split at h
    · rename_i n z h1 h2
      split at h
      · rename_i hl
        injection h with h
        injection h with e1 h
        injection h with e2 e3
        subst e1; subst e2; subst e3
        exact (alloc_done hi h1 h2 hl.1 hl.2).op
      · cases h
    · cases h
  · rename_i t y ho
    simp only [ho]
    split at h
    · rename_i n p h1 h2
      split at h
      · rename_i hc
        injection h with h
        injection h with e1 h
        injection h with e2 e3
        subst e1; subst e2; subst e3
        exact (box_done hi h1 (hρ _ _ h2) hc.1 hc.2.1 hc.2.2).op
      · cases h
    · cases h
  · rename_i t parts ho
    simp only [ho]
    split at h
    · rename_i ps hps
      obtain ⟨p, h1, h2⟩ := map_some_inv h
      obtain ⟨rfl, rfl, rfl⟩ := same h2
      exact (build_done hi h1 (by simpa using parts_zip hρ hps)).op
    · cases h
  · rename_i t len parts ho
    simp only [ho]
    split at h
    · rename_i ps hps
      exact (buildSlice_done hi h (by simpa using parts_zip hρ hps)).op
    · cases h
  · rename_i t y ho
    simp only [ho]
    split at h
    · rename_i p hp1
      obtain ⟨q, h1, h2⟩ := map_some_inv h
      obtain ⟨rfl, rfl, rfl⟩ := same h2
      exact (load_done hi h1 (hρ _ _ hp1)).op
    · cases h
  · rename_i t y z ho
    simp only [ho]
    split at h
    · rename_i p q h1 h2
      obtain ⟨hp1, h3, h4⟩ := map_some_inv h
      injection h4 with e1 h4
      injection h4 with e2 e3
      subst e1; subst e2; subst e3
      obtain ⟨w', S', G', r1, r2⟩ := store_done hi h3 (hρ _ _ h1) (hρ _ _ h2)
      exact .inl ⟨undef, w', S', G', .inr ⟨by simp [r1], rfl⟩, r2, repO_undef⟩
    · cases h
  · rename_i y ho
    simp only [ho]
    split at h
    · rename_i id i j hy
      injection h with h
      obtain ⟨rfl, rfl, rfl⟩ := same h
      have hr := hρ _ _ hy
      obtain ⟨h1, h2⟩ := hr.ref_inv
      exact .inl ⟨a y, w, S, G, .inl (by rw [h2]; rfl), .refl hi, hr⟩
    · rename_i cs hy
      injection h with h
      obtain ⟨rfl, rfl, rfl⟩ := same h
      have hr := hρ _ _ hy
      have hr2 := hr
      have hc := hr.ptr_inv
      generalize hay : a y = u at *
      cases hc with
      | ptr us h1 h2 => exact .inl ⟨_, w, S, G, .inl rfl, .refl hi, hr2⟩
    · cases h
  · rename_i op t y z t2 ho
    simp only [ho]
    split at h
    · rename_i p q h1 h2
      obtain ⟨r, h3, h4⟩ := map_some_inv h
      obtain ⟨rfl, rfl, rfl⟩ := same h4
      exact (binC_done hi y z h3 (hρ _ _ h1) (hρ _ _ h2)).op
    · cases h
  · rename_i op t y ho
    simp only [ho]
    split at h
    · rename_i p h1
      obtain ⟨r, h3, h4⟩ := map_some_inv h
      obtain ⟨rfl, rfl, rfl⟩ := same h4
      exact (unOp_done hi h3 (hρ _ _ h1)).op
    · cases h
  · rename_i src dst y ho
    simp only [ho]
    split at h
    · rename_i p h1
      obtain ⟨r, h3, h4⟩ := map_some_inv h
      obtain ⟨rfl, rfl, rfl⟩ := same h4
      exact (conv_done hi h3 (hρ _ _ h1)).op
    · cases h
  · rename_i f first captured ho
    simp only [ho]
    split at h
    · rename_i xs ys h1 h2
      injection h with h
      obtain ⟨rfl, rfl, rfl⟩ := same h
      exact (makeFunc_done hi (by simpa using allSome_zip hρ h1) (by simpa using allSome_zip hρ h2)).op
    · cases h
  · rename_i t l c ho
    simp only [ho]
    split at h
    · rename_i p q h1 h2
      exact (makeSlice_done hi h (hρ _ _ h1) (hρ _ _ h2)).op
    · cases h
  · rename_i t y lo hh ho
    simp only [ho]
    split at h
    · rename_i p h1
      obtain ⟨r, h3, h4⟩ := map_some_inv h
      obtain ⟨rfl, rfl, rfl⟩ := same h4
      have hd : ∀ o : Option Operand, o.map ρ = none → o.map a = none := fun o h => by cases o <;> simp_all
      have hs : ∀ (o : Option Operand) (p : PV), o.map ρ = some (some p) → ∃ u, o.map a = some u ∧ RepO w S G nx p u := fun o p h => by
        cases o with
        | none => simp at h
        | some y => exact ⟨a y, rfl, hρ _ _ (by simpa using h)⟩
      exact (slice_done hi h3 (hρ _ _ h1) (hd lo) (hs lo) (hd hh) (hs hh)).op
    · cases h
  · rename_i t y f ho
    simp only [ho]
    split at h
    · rename_i p h1
      obtain ⟨r, h3, h4⟩ := map_some_inv h
      obtain ⟨rfl, rfl, rfl⟩ := same h4
      exact (fieldAddr_done hi h3 (hρ _ _ h1)).op
    · cases h
  · rename_i t y f ho
    simp only [ho]
    split at h
    · rename_i p h1
      obtain ⟨r, h3, h4⟩ := map_some_inv h
      obtain ⟨rfl, rfl, rfl⟩ := same h4
      exact (field_done hi h3 (hρ _ _ h1)).op
    · cases h
  · rename_i t y z ho
    simp only [ho]
    split at h
    · rename_i p q h1 h2
      obtain ⟨r, h3, h4⟩ := map_some_inv h
      obtain ⟨rfl, rfl, rfl⟩ := same h4
      exact (indexAddr_done hi h3 (hρ _ _ h1) (hρ _ _ h2)).op
    · cases h
  · rename_i t y z ho
    simp only [ho]
    split at h
    · rename_i p q h1 h2
      obtain ⟨r, h3, h4⟩ := map_some_inv h
      obtain ⟨rfl, rfl, rfl⟩ := same h4
      exact (index_done hi h3 (hρ _ _ h1) (hρ _ _ h2)).op
    · cases h
  · rename_i y i ho
    simp only [ho]
    split at h
    · rename_i vs h1
      obtain ⟨r, h3, h4⟩ := map_some_inv h
      obtain ⟨rfl, rfl, rfl⟩ := same h4
      exact (extract_done hi h3 (hρ _ _ h1)).op
    · cases h
  · rename_i c ho
    simp only [ho]
    obtain ⟨callee, ⟨cargs⟩, ctypes⟩ := c
    unfold evalCall at h
    simp only at h
    split at h
    · rename_i xs hargs
      have hz := allSome_zip hρ hargs
      split at h
      · rename_i b
        unfold evalBuiltin at h
        split at h
        · split at h
          · rename_i y t ht
            obtain ⟨u, hu1, hu2⟩ := zip_one hz
            obtain ⟨r, h3, h4⟩ := map_some_inv h
            obtain ⟨rfl, rfl, rfl⟩ := same h4
            have hd := (len_done (ty := o.type) hi h3 hu2).op
            rw [← len_eq (us := (cargs.map a).toArray) o.type ht (by simp [hu1])] at hd
            simpa [resolve, invoke, builtin, -bind_pure_comp] using hd
          · cases h
        · obtain ⟨r, h3, h4⟩ := map_some_inv h
          obtain ⟨rfl, rfl, rfl⟩ := same h4
          have hd := (min_done (us := (cargs.map a).toArray) (ts := ctypes) (ty := o.type) hi h3 (by simpa using hz)).op
          simpa [resolve, invoke, builtin, -bind_pure_comp] using hd
        · obtain ⟨r, h3, h4⟩ := map_some_inv h
          obtain ⟨rfl, rfl, rfl⟩ := same h4
          have hd := (max_done (us := (cargs.map a).toArray) (ts := ctypes) (ty := o.type) hi h3 (by simpa using hz)).op
          simpa [resolve, invoke, builtin, -bind_pure_comp] using hd
        · split at h
          · rename_i s y t t' ht ht'
            obtain ⟨u, v, huv, hu, hv⟩ := zip_two hz
            have hd := (append_done (ty := o.type) hi h hu hv).op
            rw [← append_eq (us := (cargs.map a).toArray) o.type ht ht' (by simp [huv]) (by simp [huv])] at hd
            simpa [resolve, invoke, builtin, -bind_pure_comp] using hd
          · cases h
        · split at h
          · rename_i s y t ht
            obtain ⟨u, v, huv, hu, hv⟩ := zip_two hz
            have hd := (copy_done (t' := t) (ty := o.type) hi h hu hv).op
            rw [← copy_eq (us := (cargs.map a).toArray) o.type ht (by simp [huv]) (by simp [huv])] at hd
            simpa [resolve, invoke, builtin, -bind_pure_comp] using hd
          · cases h
        · split at h
          · rename_i y t ht
            obtain ⟨u, hu1, hu2⟩ := zip_one hz
            have hd := (clear_done (ty := o.type) hi h hu2).op
            rw [← clear_eq (us := (cargs.map a).toArray) o.type ht (by simp [hu1])] at hd
            simpa [resolve, invoke, builtin, -bind_pure_comp] using hd
          · cases h
        · cases h
      · rename_i f
        unfold callVal at h
        split at h
        · rename_i g first captured hf
          split at h
          · rename_i spec hg
            obtain ⟨⟨fn, f1, f2, f3⟩, hsound⟩ := hΓ g spec hg
            obtain ⟨us, ts, e1, l1, l2, r1, r2⟩ := (hρ _ _ hf).fn_inv
            have hz : Zip (RepO w S G nx) (first ++ xs ++ captured) (us.toList ++ cargs.map a ++ ts.toList) :=
              (Zip.append ⟨by simpa using l1, fun j pv x p q => r1 j pv x p (by simpa using q)⟩ (allSome_zip hρ hargs)).append ⟨by simpa using l2, fun j pv x p q => r2 j pv x p (by simpa using q)⟩
            refine .inr ⟨g, (us.toList ++ cargs.map a ++ ts.toList).toArray, ?_, hsound _ _ _ _ _ _ h w S G _ hi hz⟩
            have f2' : ¬ fn.name = "runtime.NumGoroutine" := by simpa using f2
            have f3' : ¬ fn.body = none := by intro h; simp [h] at f3
            have e5 : (us.toList ++ cargs.map a ++ ts.toList).toArray = us ++ (cargs.map a).toArray ++ ts := by apply Array.ext'; simp
            rw [e5]
            simp [resolve, e1, Deferred.ofValue, invoke, callFunc, f1, f2', f3']
          · cases h
        · cases h
      · cases h
    · cases h
  · rename_i t ho
    simp only [ho]
    split at h
    · rename_i kt hk
      injection h with h
      injection h with e1 h
      injection h with e2 e3
      subst e1; subst e2; subst e3
      exact (makeMap_done hi t).op
    · cases h
  · rename_i t y z ok ho
    simp only [ho]
    split at h
    · rename_i p q h1 h2
      obtain ⟨r, h3, h4⟩ := map_some_inv h
      obtain ⟨rfl, rfl, rfl⟩ := same h4
      exact (lookup_done hi h3 (hρ _ _ h1) (hρ _ _ h2)).op
    · cases h
  · rename_i t m k y ho
    simp only [ho]
    split at h
    · rename_i p q r h1 h2 h3
      obtain ⟨hp1, h4, h5⟩ := map_some_inv h
      injection h5 with e1 h5
      injection h5 with e2 e3
      subst e1; subst e2; subst e3
      obtain ⟨w', S', G', r1, r2⟩ := mapPut_done hi h4 (hρ _ _ h1) (hρ _ _ h2) (hρ _ _ h3)
      exact .inl ⟨undef, w', S', G', .inr ⟨by simp [r1], rfl⟩, r2, repO_undef⟩
    · cases h
  · rename_i t m k y ho
    simp only [ho]
    split at h
    · rename_i p q r h1 h2 h3
      obtain ⟨hp1, h4, h5⟩ := map_some_inv h
      injection h5 with e1 h5
      injection h5 with e2 e3
      subst e1; subst e2; subst e3
      obtain ⟨w', S', G', r1, r2⟩ := mapPut_done hi h4 (hρ _ _ h1) (hρ _ _ h2) (hρ _ _ h3)
      exact .inl ⟨undef, w', S', G', .inr ⟨by simp [r1], rfl⟩, r2, repO_undef⟩
    · cases h
  · cases h

end Go.AM
namespace Go.AM
open Go.RowKit

/-- How an operation touches the heap: 0 not at all; 1 it may read it; 2 it may change it. pf: the functions that change nothing. -/
def kindOf (pf : FuncId → Bool) : Op → Nat
  | .move _ | .assign _ | .pick .. | .build .. | .binOp .. | .unOp .. | .convert .. | .makeFunc .. | .fieldAddr .. | .field .. | .index .. | .extract .. | .nilCheck _ => 0
  | .load .. | .indexAddr .. | .slice .. => 1
  | .call c => match c.callee with
    | .builtin .len | .builtin .min | .builtin .max => 0
    | .value (.func g) => if pf g then 1 else 2
    | _ => 2
  | _ => 2

def Quiet (spec : AM.Spec) : Prop := ∀ args hp nx r hp' nx', spec args hp nx = some (r, hp', nx') → hp' = hp ∧ nx' = nx

section
variable {C : Ctx} {pf : FuncId → Bool}

theorem mapQ {α : Type} {o : Option PV} {hp hp' : α} {nx nx' : Nat} {x : PV} (h : (o.map fun y => (y, hp, nx)) = some (x, hp', nx')) : o = some x ∧ hp' = hp ∧ nx' = nx := by
  obtain ⟨y, h1, h2⟩ := map_some_inv h
  injection h2 with e1 h2
  injection h2 with e2 e3
  subst e1; subst e2; subst e3
  exact ⟨h1, rfl, rfl⟩

theorem quiet1 (hpf : ∀ g spec, pf g = true → C.Γ g = some spec → Quiet spec) {op : Op} (hk : kindOf pf op ≤ 1) {σ : Nat → PV} {hp hp' : Hp} {nx nx' : Nat} {x : PV} (h : evalOp C (get σ) hp nx op = some (x, hp', nx')) : hp' = hp ∧ nx' = nx := by
  have triv : ∀ {y : PV}, some (y, hp, nx) = some (x, hp', nx') → hp' = hp ∧ nx' = nx := by
    intro y h
    injection h with h
    injection h with _ h
    injection h with h1 h2
    exact ⟨h1.symm, h2.symm⟩
  cases op <;> simp only [kindOf] at hk <;> (try omega) <;> simp only [evalOp] at h
  case move => exact (mapQ h).2
  case assign => exact (mapQ h).2
  case pick => split at h <;> first | exact (mapQ h).2 | cases h
  case build => split at h <;> first | exact (mapQ h).2 | cases h
  case load => split at h <;> first | exact (mapQ h).2 | cases h
  case nilCheck => split at h <;> first | exact triv h | cases h
  case binOp => split at h <;> first | exact (mapQ h).2 | cases h
  case unOp => split at h <;> first | exact (mapQ h).2 | cases h
  case convert => split at h <;> first | exact (mapQ h).2 | cases h
  case makeFunc => split at h <;> first | exact triv h | cases h
  case slice t x lo hi mx => cases mx <;> simp only at h <;> first | (split at h <;> first | exact (mapQ h).2 | cases h) | cases h
  case fieldAddr => split at h <;> first | exact (mapQ h).2 | cases h
  case field => split at h <;> first | exact (mapQ h).2 | cases h
  case indexAddr => split at h <;> first | exact (mapQ h).2 | cases h
  case index => split at h <;> first | exact (mapQ h).2 | cases h
  case extract => split at h <;> first | exact (mapQ h).2 | cases h
  case call c =>
    unfold evalCall at h
    split at h
    · rename_i xs _
      cases hc : c.callee with
      | invoke r m => rw [hc] at h; cases h
      | builtin b =>
        rw [hc] at hk h
        cases b <;> simp at hk <;> simp only [evalBuiltin] at h
        · split at h <;> first | exact (mapQ h).2 | cases h
        · exact (mapQ h).2
        · exact (mapQ h).2
      | value f =>
        rw [hc] at hk h
        cases f <;> simp at hk
        rename_i g'
        simp only [callVal, get] at h
        split at h
        · rename_i spec hg
          exact hpf g' spec (by by_cases hx : pf g' = true; exact hx; simp [hx] at hk) hg _ _ _ _ _ _ h
        · cases h
    · cases h

theorem quiet0_eq {op : Op} (hk : kindOf pf op = 0) {ρ : Operand → Option PV} (hp hp2 : Hp) (nx nx2 : Nat) : evalOp C ρ hp2 nx2 op = (evalOp C ρ hp nx op).map fun r => (r.1, hp2, nx2) := by
  cases op <;> simp only [kindOf] at hk <;> (try (exact absurd hk (by omega))) <;> simp only [evalOp]
  case move x => cases ρ x <;> rfl
  case assign x => cases ρ x <;> rfl
  case pick c a b => split <;> simp [Option.map_map, Function.comp_def]
  case build t ps => split <;> simp [Option.map_map, Function.comp_def]
  case nilCheck x => split <;> rfl
  case binOp => split <;> simp [Option.map_map, Function.comp_def]
  case unOp => split <;> simp [Option.map_map, Function.comp_def]
  case convert => split <;> simp [Option.map_map, Function.comp_def]
  case makeFunc => split <;> rfl
  case fieldAddr => split <;> simp [Option.map_map, Function.comp_def]
  case field => split <;> simp [Option.map_map, Function.comp_def]
  case index => split <;> simp [Option.map_map, Function.comp_def]
  case extract => split <;> simp [Option.map_map, Function.comp_def]
  case call c =>
    unfold evalCall
    cases allSome (c.args.toList.map ρ) with
    | none => rfl
    | some xs =>
      simp only
      cases hc : c.callee with
      | value f =>
        rw [hc] at hk
        cases f <;> simp at hk
        split at hk <;> omega
      | invoke r m => rfl
      | builtin b =>
        rw [hc] at hk
        cases b <;> simp at hk <;> simp only [evalBuiltin]
        · split <;> simp [Option.map_map, Function.comp_def]
        · simp [Option.map_map, Function.comp_def]
        · simp [Option.map_map, Function.comp_def]

theorem quiet0 {op : Op} (hk : kindOf pf op = 0) {ρ : Operand → Option PV} {hp hp' : Hp} {nx nx' : Nat} {x : PV} (h : evalOp C ρ hp nx op = some (x, hp', nx')) (hp2 : Hp) (nx2 : Nat) : evalOp C ρ hp2 nx2 op = some (x, hp2, nx2) := by
  rw [quiet0_eq hk hp hp2 nx nx2, h]
  rfl

theorem partsA_congr {ρ ρ' : Operand → Option PV} : ∀ {l : List (Nat × Operand)}, (∀ p ∈ l, ρ p.2 = ρ' p.2) → partsA ρ l = partsA ρ' l
  | [], _ => rfl
  | (i, x) :: l, h => by
    simp only [partsA]
    rw [h (i, x) (by simp), partsA_congr (l := l) fun p hp => h p (by simp [hp])]

theorem evalOp_congr {ρ ρ' : Operand → Option PV} {op : Op} {hp : Hp} {nx : Nat} (h : ∀ x ∈ op.operands.toList, ρ x = ρ' x) : evalOp C ρ hp nx op = evalOp C ρ' hp nx op := by
  cases op <;> simp only [Op.operands] at h <;> simp only [evalOp]
  case move x => rw [h x (by simp)]
  case assign x => rw [h x (by simp)]
  case pick c a b => rw [h c (by simp), h a (by simp), h b (by simp)]
  case box t x => rw [h x (by simp)]
  case build t ps => rw [partsA_congr (l := ps.toList) fun p hp => h p.2 (by simp only [List.mem_map]; exact ⟨p, hp, rfl⟩)]
  case buildSlice t n ps => rw [partsA_congr (l := ps.toList) fun p hp => h p.2 (by simp only [List.mem_map]; exact ⟨p, hp, rfl⟩)]
  case load t x => rw [h x (by simp)]
  case store t a x => rw [h a (by simp), h x (by simp)]
  case nilCheck x => rw [h x (by simp)]
  case binOp op t x y t2 => rw [h x (by simp), h y (by simp)]
  case unOp op t x => rw [h x (by simp)]
  case convert s d x => rw [h x (by simp)]
  case makeFunc f a b =>
    rw [List.map_congr_left (g := ρ') fun x hx => h x (by simp at hx ⊢; exact .inl hx), List.map_congr_left (l := b.toList) (g := ρ') fun x hx => h x (by simp at hx ⊢; exact .inr hx)]
  case makeSlice t l c => rw [h l (by simp), h c (by simp)]
  case slice t x lo hi mx =>
    cases mx with
    | some m => rfl
    | none =>
      simp only
      rw [h x (by simp)]
      have hlo : lo.map ρ = lo.map ρ' := by cases lo with
        | none => rfl
        | some y => simp only [Option.map_some]; rw [h y (by simp)]
      have hhi : hi.map ρ = hi.map ρ' := by cases hi with
        | none => rfl
        | some y => simp only [Option.map_some]; rw [h y (by simp)]
      rw [hlo, hhi]
  case fieldAddr t x f => rw [h x (by simp)]
  case field t x f => rw [h x (by simp)]
  case indexAddr t x i => rw [h x (by simp), h i (by simp)]
  case index t x i => rw [h x (by simp), h i (by simp)]
  case extract x i => rw [h x (by simp)]
  case makeMap t r => cases r <;> rfl
  case lookup t x i ok => rw [h x (by simp), h i (by simp)]
  case mapUpdate t m k x => rw [h m (by simp), h k (by simp), h x (by simp)]
  case insert t m k x => rw [h m (by simp), h k (by simp), h x (by simp)]
  case call c =>
    unfold evalCall
    have ha : c.args.toList.map ρ = c.args.toList.map ρ' := List.map_congr_left fun x hx => h x (by simp only [Call.operands, Array.toList_append, List.mem_append]; exact .inr hx)
    rw [ha]
    cases allSome (c.args.toList.map ρ') with
    | none => rfl
    | some xs =>
      simp only
      cases hc : c.callee with
      | value f =>
        simp only
        rw [h f (by simp [Call.operands, hc])]
      | invoke r m => rfl
      | builtin b => rfl

/-- What an operation comes to, its guard with it. -/
def rawA (C : Ctx) (ops : Array Oper) (o : Oper) (σ : Nat → PV) (hp : Hp) (nx : Nat) : Option (PV × Hp × Nat) :=
  if Region.wanted o (yieldA ops σ) = true then evalOp C (get σ) hp nx o.op else some (.tup [], hp, nx)

theorem stepA_raw (ops : Array Oper) (o : Oper) (st : St) : stepA C ops o st = (rawA C ops o st.σ st.hp st.nx).map fun r => ⟨put st.σ o.dst r.1, r.2.1, r.2.2⟩ := by
  unfold stepA rawA
  split
  · cases evalOp C (get st.σ) st.hp st.nx o.op <;> rfl
  · rfl

theorem rawA_congr {ops : Array Oper} {o : Oper} {σ σ' : Nat → PV} {hp : Hp} {nx : Nat} (h : ∀ t, t ∈ o.looksAt ops → σ t = σ' t) : rawA C ops o σ hp nx = rawA C ops o σ' hp nx := by
  have hw : Region.wanted o (yieldA ops σ) = Region.wanted o (yieldA ops σ') := by
    unfold Region.wanted
    split
    · rfl
    · rename_i j b hg
      have : yieldA ops σ j = yieldA ops σ' j := by
        unfold yieldA
        split
        · rename_i d hd
          rw [h d (by simp [Oper.looksAt, hg, hd])]
        · rfl
      rw [this]
  unfold rawA
  rw [hw]
  split
  · refine evalOp_congr fun x hx => ?_
    cases x with
    | tmp t =>
      simp only [get]
      rw [h t]
      simp only [Oper.looksAt, List.mem_append, List.mem_filterMap]
      exact .inl ⟨.tmp t, hx, rfl⟩
    | const x => rfl
    | global g => rfl
    | func f => rfl
  · rfl

theorem put_other {σ : Nat → PV} {d : Option Tmp} {x : PV} {t : Nat} (h : ∀ e, d = some e → e ≠ t) : put σ d x t = σ t := by
  cases d with
  | none => rfl
  | some e => exact upd_other _ _ _ _ fun he => h e rfl he.symm

theorem put_comm {σ : Nat → PV} {d e : Option Tmp} {x y : PV} (h : ∀ k, d = some k → e ≠ some k) : put (put σ d x) e y = put (put σ e y) d x := by
  cases d with
  | none => rfl
  | some k =>
    cases e with
    | none => rfl
    | some m =>
      have hne : m ≠ k := fun he => h k rfl (by rw [he])
      funext i
      simp only [put, upd]
      by_cases h1 : i = m <;> by_cases h2 : i = k <;> simp_all

def commB (pf : FuncId → Bool) (ops : Array Oper) (a b : Oper) : Bool :=
  a.apart ops b && (kindOf pf a.op == 0 || kindOf pf b.op == 0 || (decide (kindOf pf a.op ≤ 1) && decide (kindOf pf b.op ≤ 1)))

theorem raw_quiet0 {ops : Array Oper} {o : Oper} {σ : Nat → PV} {hp hp' : Hp} {nx nx' : Nat} {x : PV} (hk : kindOf pf o.op = 0) (h : rawA C ops o σ hp nx = some (x, hp', nx')) (hp2 : Hp) (nx2 : Nat) : rawA C ops o σ hp2 nx2 = some (x, hp2, nx2) := by
  unfold rawA at h ⊢
  split at h
  · rename_i hw
    rw [if_pos hw]
    exact quiet0 hk h hp2 nx2
  · rename_i hw
    rw [if_neg hw]
    injection h with h
    injection h with e _
    subst e
    rfl

theorem raw_quiet1 (hpf : ∀ g spec, pf g = true → C.Γ g = some spec → Quiet spec) {ops : Array Oper} {o : Oper} {σ : Nat → PV} {hp hp' : Hp} {nx nx' : Nat} {x : PV} (hk : kindOf pf o.op ≤ 1) (h : rawA C ops o σ hp nx = some (x, hp', nx')) : hp' = hp ∧ nx' = nx := by
  unfold rawA at h
  split at h
  · exact quiet1 hpf hk h
  · injection h with h
    injection h with _ h
    injection h with h1 h2
    exact ⟨h1.symm, h2.symm⟩

theorem comm_of0 {ops : Array Oper} {a b : Oper} (hk : kindOf pf a.op = 0) (h1 : ∀ d, a.dst = some d → d ∉ b.looksAt ops) (h2 : ∀ d, a.dst = some d → b.dst ≠ some d) (h3 : ∀ d, b.dst = some d → d ∉ a.looksAt ops) (st : St) :
    (stepA C ops a st).bind (stepA C ops b) = (stepA C ops b st).bind (stepA C ops a) := by
  have cb : ∀ x hp nx, rawA C ops b (put st.σ a.dst x) hp nx = rawA C ops b st.σ hp nx := fun x hp nx => rawA_congr fun t ht => put_other fun e he hte => h1 e he (hte ▸ ht)
  have ca : ∀ x hp nx, rawA C ops a (put st.σ b.dst x) hp nx = rawA C ops a st.σ hp nx := fun x hp nx => rawA_congr fun t ht => put_other fun e he hte => h3 e he (hte ▸ ht)
  have comm : ∀ x y, put (put st.σ a.dst x) b.dst y = put (put st.σ b.dst y) a.dst x := fun x y => put_comm h2
  rw [stepA_raw ops a st, stepA_raw ops b st]
  cases hra : rawA C ops a st.σ st.hp st.nx with
  | none =>
    cases hrb : rawA C ops b st.σ st.hp st.nx with
    | none => rfl
    | some r =>
      obtain ⟨y, hp2, n2⟩ := r
      simp only [Option.map_none, Option.bind_none, Option.map_some, Option.bind_some]
      rw [stepA_raw]
      simp only [ca]
      cases hx : rawA C ops a st.σ hp2 n2 with
      | none => rfl
      | some r' =>
        obtain ⟨x, hp3, n3⟩ := r'
        rw [raw_quiet0 hk hx st.hp st.nx] at hra
        cases hra
  | some r =>
    obtain ⟨x, hp1, n1⟩ := r
    have h0 := raw_quiet0 hk hra st.hp st.nx
    rw [hra] at h0
    injection h0 with h0
    injection h0 with _ h0
    injection h0 with e1 e2
    subst e1; subst e2
    simp only [Option.map_some, Option.bind_some]
    rw [stepA_raw]
    simp only [cb]
    cases hrb : rawA C ops b st.σ st.hp st.nx with
    | none => rfl
    | some r =>
      obtain ⟨y, hp2, n2⟩ := r
      simp only [Option.map_some, Option.bind_some]
      rw [stepA_raw]
      simp only [ca, raw_quiet0 hk hra hp2 n2, Option.map_some, comm]

theorem step_comm (hpf : ∀ g spec, pf g = true → C.Γ g = some spec → Quiet spec) {ops : Array Oper} {a b : Oper} (h : commB pf ops a b = true) (st : St) :
    (stepA C ops a st).bind (stepA C ops b) = (stepA C ops b st).bind (stepA C ops a) := by
  simp only [commB, Bool.and_eq_true] at h
  obtain ⟨hap, hkk⟩ := h
  obtain ⟨h1, h2, h3⟩ := Oper.apart_spec hap
  simp only [Bool.or_eq_true, beq_iff_eq, Bool.and_eq_true, decide_eq_true_eq] at hkk
  rcases hkk with (h | h) | ⟨ka, kb⟩
  · exact comm_of0 h h1 h2 h3 st
  · exact (comm_of0 h h3 (fun d hd hb => h2 d hb hd) h1 st).symm
  · have cb : ∀ x hp nx, rawA C ops b (put st.σ a.dst x) hp nx = rawA C ops b st.σ hp nx := fun x hp nx => rawA_congr fun t ht => put_other fun e he hte => h1 e he (hte ▸ ht)
    have ca : ∀ x hp nx, rawA C ops a (put st.σ b.dst x) hp nx = rawA C ops a st.σ hp nx := fun x hp nx => rawA_congr fun t ht => put_other fun e he hte => h3 e he (hte ▸ ht)
    have comm : ∀ x y, put (put st.σ a.dst x) b.dst y = put (put st.σ b.dst y) a.dst x := fun x y => put_comm h2
    rw [stepA_raw ops a st, stepA_raw ops b st]
    cases hra : rawA C ops a st.σ st.hp st.nx with
    | none =>
      cases hrb : rawA C ops b st.σ st.hp st.nx with
      | none => rfl
      | some r =>
        obtain ⟨y, hp2, n2⟩ := r
        obtain ⟨rfl, rfl⟩ := raw_quiet1 hpf kb hrb
        simp only [Option.map_none, Option.bind_none, Option.map_some, Option.bind_some]
        rw [stepA_raw]
        simp only [ca, hra, Option.map_none]
    | some r =>
      obtain ⟨x, hp1, n1⟩ := r
      obtain ⟨rfl, rfl⟩ := raw_quiet1 hpf ka hra
      simp only [Option.map_some, Option.bind_some]
      rw [stepA_raw]
      simp only [cb]
      cases hrb : rawA C ops b st.σ st.hp st.nx with
      | none => rfl
      | some r =>
        obtain ⟨y, hp2, n2⟩ := r
        obtain ⟨rfl, rfl⟩ := raw_quiet1 hpf kb hrb
        simp only [Option.map_some, Option.bind_some]
        rw [stepA_raw]
        simp only [ca, hra, Option.map_some, comm]

/-- The operations with these numbers, one after the other. -/
def evalIdx (C : Ctx) (ops : Array Oper) : List Nat → St → Option St
  | [], st => some st
  | i :: l, st => match ops[i]? with
    | none => evalIdx C ops l st
    | some o => (stepA C ops o st).bind (evalIdx C ops l)

def maskOf (acc : List Nat) (o : Oper) : Nat := o.after.toList.foldl (fun s e => if Region.binds .any e then s ||| 2 ^ e.on ||| acc.getD e.on 0 else s) 0

/-- Whether every two operations that no chain of edges puts in order can be exchanged. -/
def okFrom (cm : Oper → Oper → Bool) (ops : Array Oper) : List Oper → Nat → List Nat → Bool
  | [], _, _ => true
  | o :: l, i, acc =>
    o.after.toList.all (fun e => !Region.binds .any e || decide (e.on < i)) &&
    (List.range i).all (fun j => (maskOf acc o).testBit j || (match ops[j]? with | some p => cm p o | none => false)) &&
    okFrom cm ops l (i + 1) (acc ++ [maskOf acc o])

def Closed (ops : Array Oper) (L : Nat → Prop) : Prop := ∀ k o, L k → ops[k]? = some o → ∀ e ∈ o.after.toList, Region.binds .any e = true → L e.on
def Preds (L : Nat → Prop) (o : Oper) : Prop := ∀ e ∈ o.after.toList, Region.binds .any e = true → L e.on

theorem mask_bits (acc : List Nat) (j : Nat) : ∀ (l : List Edge) (s : Nat), (l.foldl (fun s e => if Region.binds .any e then s ||| 2 ^ e.on ||| acc.getD e.on 0 else s) s).testBit j = true →
    s.testBit j = true ∨ ∃ e ∈ l, Region.binds .any e = true ∧ (j = e.on ∨ (acc.getD e.on 0).testBit j = true)
  | [], s, h => .inl h
  | e :: l, s, h => by
    simp only [List.foldl_cons] at h
    rcases mask_bits acc j l _ h with h1 | ⟨e', h1, h2, h3⟩
    · split at h1
      · rename_i hb
        simp only [Nat.testBit_or, Bool.or_eq_true] at h1
        rcases h1 with (h1 | h1) | h1
        · exact .inl h1
        · refine .inr ⟨e, by simp, hb, .inl ?_⟩
          by_cases hj : j = e.on
          · exact hj
          · rw [Nat.testBit_two_pow_of_ne (fun h => hj h.symm)] at h1; cases h1
        · exact .inr ⟨e, by simp, hb, .inr h1⟩
      · exact .inl h1
    · exact .inr ⟨e', by simp [h1], h2, h3⟩

def GoodMasks (ops : Array Oper) (acc : List Nat) : Prop := ∀ (k m : Nat), acc[k]? = some m → ∀ o, ops[k]? = some o → ∀ L, Closed ops L → Preds L o → ∀ j, m.testBit j = true → L j

theorem good_step {ops : Array Oper} {acc : List Nat} (hg : GoodMasks ops acc) {o : Oper} (L : Nat → Prop) (hL : Closed ops L) (hp : Preds L o) (hb : ∀ e ∈ o.after.toList, Region.binds .any e = true → e.on < ops.size) (j : Nat) (h : (maskOf acc o).testBit j = true) : L j := by
  rcases mask_bits acc j _ 0 h with h1 | ⟨e, h1, h2, h3⟩
  · simp at h1
  · have hle := hp e h1 h2
    rcases h3 with rfl | h3
    · exact hle
    · cases hk : acc[e.on]? with
      | none => rw [List.getD_eq_getElem?_getD, hk] at h3; simp at h3
      | some m =>
        rw [List.getD_eq_getElem?_getD, hk] at h3
        have hlt := hb e h1 h2
        exact hg e.on m hk ops[e.on] (by simp [hlt]) L hL (hL e.on _ hle (by simp [hlt])) j h3

theorem okFrom_spec {cm : Oper → Oper → Bool} {ops : Array Oper} : ∀ {l : List Oper} {i : Nat} {acc : List Nat}, okFrom cm ops l i acc = true → acc.length = i → (∀ k, l[k]? = ops[i + k]?) → GoodMasks ops acc →
    ∀ k o, l[k]? = some o → (∀ e ∈ o.after.toList, Region.binds .any e = true → e.on < i + k) ∧ ∀ j, j < i + k → (∀ L, Closed ops L → Preds L o → L j) ∨ ∃ p, ops[j]? = some p ∧ cm p o = true
  | [], i, acc, _, _, _, _, k, o, hk => by simp at hk
  | o' :: l, i, acc, h, hl, hlk, hg, k, o, hk => by
    simp only [okFrom, Bool.and_eq_true, List.all_eq_true, Bool.or_eq_true, Bool.not_eq_true', decide_eq_true_eq, List.mem_range] at h
    obtain ⟨⟨h1, h2⟩, h3⟩ := h
    have hoi : ops[i]? = some o' := by have := hlk 0; simpa using this.symm
    have hi : i < ops.size := (Array.getElem?_eq_some_iff.1 hoi).1
    have hb : ∀ e ∈ o'.after.toList, Region.binds .any e = true → e.on < i := fun e he hbe => by
      rcases h1 e he with h | h
      · rw [hbe] at h; cases h
      · exact h
    have hgo : ∀ L, Closed ops L → Preds L o' → ∀ j, (maskOf acc o').testBit j = true → L j := fun L hL hp j hj => good_step hg L hL hp (fun e he hbe => by have := hb e he hbe; omega) j hj
    cases k with
    | zero =>
      simp at hk
      subst hk
      refine ⟨by simpa using hb, fun j hj => ?_⟩
      rcases h2 j (by simpa using hj) with h | h
      · exact .inl fun L hL hp => hgo L hL hp j h
      · split at h
        · rename_i p hp; exact .inr ⟨p, hp, h⟩
        · cases h
    | succ k =>
      have hg' : GoodMasks ops (acc ++ [maskOf acc o']) := by
        intro k' m hm ok hok L hL hp j hj
        by_cases hkl : k' < acc.length
        · rw [List.getElem?_append_left hkl] at hm
          exact hg k' m hm ok hok L hL hp j hj
        · rw [List.getElem?_append_right (by omega)] at hm
          have : k' = i := by
            have := (List.getElem?_eq_some_iff.1 hm).1
            simp at this
            omega
          subst this
          rw [hl] at hm
          simp at hm
          subst hm
          rw [hoi] at hok
          injection hok with hok
          subst hok
          exact hgo L hL hp j hj
      have := okFrom_spec h3 (by simp [hl]) (fun k' => by have := hlk (k' + 1); simpa [Nat.add_assoc, Nat.add_comm 1 k'] using this) hg' k o (by simpa using hk)
      rwa [show i + 1 + k = i + (k + 1) from by omega] at this

def okDraw (cm : Oper → Oper → Bool) (ops : Array Oper) : Bool := okFrom cm ops ops.toList 0 []

theorem okDraw_spec {cm : Oper → Oper → Bool} {ops : Array Oper} (h : okDraw cm ops = true) : ∀ i o, ops[i]? = some o → (∀ e ∈ o.after.toList, Region.binds .any e = true → e.on < i) ∧ ∀ j, j < i → (∀ L, Closed ops L → Preds L o → L j) ∨ ∃ p, ops[j]? = some p ∧ cm p o = true := by
  intro i o ho
  have := okFrom_spec h rfl (by simp) (fun k m hm => by simp at hm) i o (by simpa using ho)
  simpa using this

/-- Operations that can be exchanged in states of a kind that every operation keeps. -/
structure CommOk (C : Ctx) (ops : Array Oper) (cm : Oper → Oper → Bool) (A : St → Prop) : Prop where
  keep : ∀ (i : Nat) (o : Oper) (st st' : St), ops[i]? = some o → A st → stepA C ops o st = some st' → A st'
  comm : ∀ (i j : Nat) (a b : Oper) (st : St), ops[i]? = some a → ops[j]? = some b → cm a b = true → A st → (stepA C ops a st).bind (stepA C ops b) = (stepA C ops b st).bind (stepA C ops a)

theorem evalIdx_front {ops : Array Oper} {cm : Oper → Oper → Bool} {A : St → Prop} (hc : CommOk C ops cm A) {i : Nat} {o : Oper} (ho : ops[i]? = some o) (post : List Nat) : ∀ (pre : List Nat) (st : St), A st → (∀ j ∈ pre, ∃ p, ops[j]? = some p ∧ cm p o = true) →
    evalIdx C ops (pre ++ i :: post) st = evalIdx C ops (i :: (pre ++ post)) st
  | [], st, _, _ => rfl
  | j :: pre, st, hA, h => by
    obtain ⟨p, hp, hcp⟩ := h j (by simp)
    have e1 : evalIdx C ops (j :: pre ++ i :: post) st = (stepA C ops p st).bind fun st' => evalIdx C ops (i :: (pre ++ post)) st' := by
      simp only [List.cons_append, evalIdx, hp]
      cases hs : stepA C ops p st with
      | none => rfl
      | some st' =>
        simp only [Option.bind_some]
        have := evalIdx_front hc ho post pre st' (hc.keep j p st st' hp hA hs) fun k hk => h k (by simp [hk])
        simpa only [evalIdx, ho] using this
    rw [e1]
    simp only [evalIdx, ho, List.cons_append, hp]
    have hcm := hc.comm j i p o st hp ho hcp hA
    rw [← Option.bind_assoc, hcm, Option.bind_assoc]

/-- What a function does to variables: nothing. -/
def BoxKeep (spec : AM.Spec) : Prop := ∀ args hp nx r hp' nx', spec args hp nx = some (r, hp', nx') → nx ≤ nx' ∧ ∀ id blk, id < nx → hp id = some blk → blk.arr = false → hp' id = some blk
/-- Operations that look at the heap through a slot of L. -/
def lookB (L : List Tmp) : Op → Bool
  | .load _ (.tmp a) => L.contains a
  | .indexAddr _ (.tmp a) _ => L.contains a
  | _ => false
def ixB (L : List Tmp) : Op → Bool
  | .indexAddr _ (.tmp a) _ => L.contains a
  | _ => false
/-- Operations that leave variables as they are. -/
def freshB (bk : FuncId → Bool) : Op → Bool
  | .call ⟨.value (.func g), _, _⟩ => bk g
  | .buildSlice _ _ _ => true
  | _ => false
def storeB : Op → Bool
  | .store _ _ _ => true
  | _ => false
def loadStoreB (D : List (Tmp × Tmp)) : Op → Op → Bool
  | .load _ (.tmp a), .store _ (.tmp b) _ => D.contains (a, b)
  | _, _ => false
def half (D : List (Tmp × Tmp)) (L : List Tmp) (bk : FuncId → Bool) (p o : Op) : Bool := loadStoreB D p o || (lookB L p && freshB bk o) || (ixB L p && storeB o)
def pairB (D : List (Tmp × Tmp)) (L : List Tmp) (bk : FuncId → Bool) (ops : Array Oper) (p o : Oper) : Bool :=
  p.apart ops o && o.apart ops p && p.guard.isNone && o.guard.isNone && (half D L bk p.op o.op || half D L bk o.op p.op)
def commD (pf : FuncId → Bool) (D : List (Tmp × Tmp)) (L : List Tmp) (bk : FuncId → Bool) (ops : Array Oper) (p o : Oper) : Bool := commB pf ops p o || pairB D L bk ops p o
/-- Regions in which this stays so. -/
def plainB (pf : FuncId → Bool) (D : List (Tmp × Tmp)) (L : List Tmp) (bk : FuncId → Bool) (ops : Array Oper) : Bool := (D.isEmpty && L.isEmpty) || ops.all fun o => D.all (fun p => o.dst != some p.2 && (o.dst != some p.1 || match o.op with
    | .fieldAddr _ (.tmp s) _ => D.contains (s, p.2)
    | .indexAddr _ (.tmp s) _ => D.contains (s, p.2) && L.contains s
    | _ => false)) &&
  L.all (fun s => o.dst != some s || match o.op with
    | .fieldAddr _ (.tmp b) _ => L.contains b
    | .indexAddr _ (.tmp b) _ => L.contains b
    | _ => false) &&
  (decide (kindOf pf o.op ≤ 1) || match o.op with
    | .store _ _ _ => true
    | .call ⟨.value (.func g), _, _⟩ => D.all (fun p => L.contains p.2) && bk g
    | .buildSlice _ _ _ => D.all (fun p => L.contains p.2)
    | _ => false)

end
end Go.AM
namespace Go.AM
open Go.RowKit
section
variable {C : Ctx} {pf : FuncId → Bool}

theorem freezeCell_box {hp hp1 : Hp} {x y : PV} (h : freezeCell hp x = some (y, hp1)) {id : Nat} {b : Blk} (hb : hp id = some b) (ha : b.arr = false) : hp1 id = some b := by
  unfold freezeCell at h
  split at h
  · split at h
    · rename_i b' hb'
      split at h
      · rename_i hc
        injection h with h
        injection h with _ h
        subst h
        rw [upd_other]
        · exact hb
        · rintro rfl
          rw [hb] at hb'
          injection hb' with hb'
          subst hb'
          rw [ha] at hc
          cases hc.1
      · cases h
    · cases h
  all_goals first
    | (injection h with h; injection h with _ h; subst h; exact hb)
    | (split at h <;> first | (injection h with h; injection h with _ h; subst h; exact hb) | cases h)
    | cases h
theorem freezeCells_box : ∀ {xs ys : List PV} {hp hp1 : Hp}, freezeCells hp xs = some (ys, hp1) → ∀ {id : Nat} {b : Blk}, hp id = some b → b.arr = false → hp1 id = some b
  | [], ys, hp, hp1, h, id, b, hb, ha => by
    simp only [freezeCells] at h
    injection h with h; injection h with _ h; subst h; exact hb
  | x :: l, ys, hp, hp1, h, id, b, hb, ha => by
    simp only [freezeCells] at h
    split at h
    · rename_i y hp2 h1
      split at h
      · rename_i r hp3 h2
        injection h with h; injection h with _ h; subst h
        exact freezeCells_box h2 (freezeCell_box h1 hb ha) ha
      · cases h
    · cases h
theorem freezeVal_box {hp hp1 : Hp} {x y : PV} (h : freezeVal hp x = some (y, hp1)) {id : Nat} {b : Blk} (hb : hp id = some b) (ha : b.arr = false) : hp1 id = some b := by
  unfold freezeVal at h
  split at h
  · split at h
    · rename_i l h2 hf
      injection h with h; injection h with _ h; subst h
      exact freezeCells_box hf hb ha
    · cases h
  · exact freezeCell_box h hb ha

/-- A store keeps variables variables. -/
theorem store_box {P : Program} {hp hp' : Hp} {t : TypeId} {p x : PV} (h : storeA P hp t p x = some hp') {id : Nat} {b : Blk} (hb : hp id = some b) (ha : b.arr = false) : ∃ b', hp' id = some b' ∧ b'.arr = false := by
  unfold storeA at h
  split at h
  · rename_i id' i j
    split at h
    · rename_i b0 hb0
      split at h
      · rename_i y hp1 hf
        have h1 : hp1 id = some b := by
          split at hf
          · exact freezeVal_box hf hb ha
          · injection hf with hf; injection hf with _ hf; subst hf; exact hb
        split at h
        · rename_i b1 n hb1 _
          split at h
          · split at h
            · injection h with h
              subst h
              by_cases he : id = id'
              · subst he
                rw [h1] at hb1
                injection hb1 with hb1
                subst hb1
                exact ⟨_, upd_same _ _ _, ha⟩
              · exact ⟨b, by rw [upd_other _ _ _ _ he]; exact h1, ha⟩
            · cases h
          · cases h
        · cases h
      · cases h
    · cases h
  · cases h
/-- A store into a variable touches its block alone. -/
theorem store_only {P : Program} {hp hp' : Hp} {t : TypeId} {id i j : Nat} {x : PV} {b : Blk} (h : storeA P hp t (.ref id i j) x = some hp') (hb : hp id = some b) (ha : b.arr = false) {k : Nat} (hk : k ≠ id) : hp' k = hp k := by
  simp only [storeA, hb, ha] at h
  simp only [Bool.false_eq_true, if_false] at h
  split at h
  · split at h
    · split at h
      · injection h with h
        subst h
        exact upd_other _ _ _ _ hk
      · cases h
    · cases h
  · cases h
theorem store_upd {P : Program} {hp : Hp} {t : TypeId} {id i j : Nat} {x : PV} {b : Blk} (hb : hp id = some b) (ha : b.arr = false) : ∃ o : Option Blk, storeA P hp t (.ref id i j) x = o.map fun b' => upd hp id (some b') := by
  simp only [storeA, hb, ha]
  simp only [Bool.false_eq_true, if_false]
  split
  · split
    · split
      · exact ⟨some _, rfl⟩
      · exact ⟨none, rfl⟩
    · exact ⟨none, rfl⟩
  · exact ⟨none, rfl⟩

/-- An operation that changes nothing and one that does not touch what it looks at may change places. -/
theorem gen_comm {ops : Array Oper} {l c : Oper} (hap : l.apart ops c = true) {st : St} (hq : ∀ hp nx y hp' nx', rawA C ops l st.σ hp nx = some (y, hp', nx') → hp' = hp ∧ nx' = nx)
    (hsame : ∀ z hp' nx', rawA C ops c st.σ st.hp st.nx = some (z, hp', nx') → (rawA C ops l st.σ hp' nx').map (·.1) = (rawA C ops l st.σ st.hp st.nx).map (·.1)) :
    (stepA C ops l st).bind (stepA C ops c) = (stepA C ops c st).bind (stepA C ops l) := by
  obtain ⟨h1, h2, h3⟩ := Oper.apart_spec hap
  have cs : ∀ y hp nx, rawA C ops c (put st.σ l.dst y) hp nx = rawA C ops c st.σ hp nx := fun y hp nx => rawA_congr fun u hu => put_other fun e he hte => h1 e he (hte ▸ hu)
  have cl : ∀ y hp nx, rawA C ops l (put st.σ c.dst y) hp nx = rawA C ops l st.σ hp nx := fun y hp nx => rawA_congr fun u hu => put_other fun e he hte => h3 e he (hte ▸ hu)
  have comm : ∀ y z, put (put st.σ l.dst y) c.dst z = put (put st.σ c.dst z) l.dst y := fun y z => put_comm h2
  rw [stepA_raw ops l st, stepA_raw ops c st]
  cases hr : rawA C ops c st.σ st.hp st.nx with
  | none =>
    cases hv : rawA C ops l st.σ st.hp st.nx with
    | none => rfl
    | some q =>
      obtain ⟨y, hp1, nx1⟩ := q
      obtain ⟨rfl, rfl⟩ := hq _ _ _ _ _ hv
      simp only [Option.map_some, Option.map_none, Option.bind_some, Option.bind_none]
      rw [stepA_raw]
      simp only [cs, hr, Option.map_none]
  | some q =>
    obtain ⟨z, hp', nx'⟩ := q
    have hlo := hsame z hp' nx' hr
    cases hv : rawA C ops l st.σ st.hp st.nx with
    | none =>
      rw [hv] at hlo
      have hn : rawA C ops l st.σ hp' nx' = none := by
        cases hh : rawA C ops l st.σ hp' nx' with
        | none => rfl
        | some r => rw [hh] at hlo; cases hlo
      simp only [Option.map_some, Option.map_none, Option.bind_some, Option.bind_none]
      rw [stepA_raw]
      simp only [cl, hn, Option.map_none]
    | some q =>
      obtain ⟨y, hp1, nx1⟩ := q
      obtain ⟨rfl, rfl⟩ := hq _ _ _ _ _ hv
      rw [hv] at hlo
      obtain ⟨q2, hq2, hy⟩ : ∃ q2, rawA C ops l st.σ hp' nx' = some q2 ∧ q2.1 = y := by
        cases hh : rawA C ops l st.σ hp' nx' with
        | none => rw [hh] at hlo; cases hlo
        | some r => rw [hh] at hlo; injection hlo with hlo; exact ⟨r, rfl, hlo⟩
      obtain ⟨y2, hp2, nx2⟩ := q2
      simp only at hy
      subst hy
      obtain ⟨rfl, rfl⟩ := hq _ _ _ _ _ hq2
      simp only [Option.map_some, Option.bind_some]
      rw [stepA_raw, stepA_raw]
      simp only [cs, hr, cl, hq2, Option.map_some, comm]

theorem raw_none {ops : Array Oper} {o : Oper} (g : o.guard = none) (σ : Nat → PV) (hp : Hp) (nx : Nat) : rawA C ops o σ hp nx = evalOp C (get σ) hp nx o.op := by
  have w : Region.wanted o (yieldA ops σ) = true := by unfold Region.wanted; rw [g]
  simp only [rawA, w, if_true]
theorem indexAddr_hpD {P : Program} {hp hp' : Hp} {t : TypeId} {p : PV} (hno : ∀ id o n, p ≠ .own id o n) (q : PV) : indexAddrA P hp' t p q = indexAddrA P hp t p q := by
  cases q with
  | v y =>
    cases y with
    | int w i =>
      cases p with
      | own id o n => exact absurd rfl (hno id o n)
      | _ =>
        simp only [indexAddrA]
        cases elemA P t with
        | none => rfl
        | some e =>
          simp only
          cases sizeA P e <;> rfl
    | _ => simp only [indexAddrA]
  | _ => simp only [indexAddrA]
/-- What is looked at through L: a change that leaves variables alone. -/
theorem look_same {L : List Tmp} {op : Op} (hl : lookB L op = true) {st : St} (hA : RefsA L st) {hp' : Hp} {nx nx' : Nat} (hk : ∀ id blk, id < st.nx → st.hp id = some blk → blk.arr = false → hp' id = some blk) :
    (evalOp C (get st.σ) hp' nx' op).map (·.1) = (evalOp C (get st.σ) st.hp nx op).map (·.1) := by
  unfold lookB at hl
  split at hl
  · rename_i t a
    obtain ⟨hno, hrf⟩ := hA a (by simpa using hl)
    have : loadA C.P hp' t (st.σ a) = loadA C.P st.hp t (st.σ a) := by
      cases hσ : st.σ a with
      | ref id i j =>
        obtain ⟨e1, blk, e2, e3⟩ := hrf id i j hσ
        simp only [loadA, hk id blk e1 e2 e3, e2]
      | _ => rfl
    simp only [evalOp, get, this]
    cases loadA C.P st.hp t (st.σ a) <;> rfl
  · rename_i t a i
    obtain ⟨hno, hrf⟩ := hA a (by simpa using hl)
    have : ∀ q, indexAddrA C.P hp' t (st.σ a) q = indexAddrA C.P st.hp t (st.σ a) q := by
      exact fun q => indexAddr_hpD hno q
    simp only [evalOp, show get st.σ (.tmp a) = some (st.σ a) from rfl]
    cases get st.σ i with
    | none => rfl
    | some q =>
      simp only [this]
      cases indexAddrA C.P st.hp t (st.σ a) q <;> rfl
  · cases hl
theorem look_quiet {op : Op} {σ : Nat → PV} {hp hp' : Hp} {nx nx' : Nat} {y : PV} (hl : (∃ t a, op = .load t (.tmp a)) ∨ ∃ t a i, op = .indexAddr t (.tmp a) i) (h : evalOp C (get σ) hp nx op = some (y, hp', nx')) : hp' = hp ∧ nx' = nx := by
  rcases hl with ⟨t, a, rfl⟩ | ⟨t, a, i, rfl⟩
  · simp only [evalOp, get] at h
    exact (mapQ h).2
  · simp only [evalOp, get] at h
    split at h
    · exact (mapQ h).2
    · cases h
theorem lookB_op {L : List Tmp} {op : Op} (h : lookB L op = true) : (∃ t a, op = .load t (.tmp a)) ∨ ∃ t a i, op = .indexAddr t (.tmp a) i := by
  unfold lookB at h
  split at h
  · exact .inl ⟨_, _, rfl⟩
  · exact .inr ⟨_, _, _, rfl⟩
  · cases h
theorem freezeParts_box : ∀ {ps qs : List (Nat × PV)} {hp hp1 : Hp}, freezeParts hp ps = some (qs, hp1) → ∀ {id : Nat} {b : Blk}, hp id = some b → b.arr = false → hp1 id = some b
  | [], qs, hp, hp1, h, id, b, hb, ha => by
    simp only [freezeParts] at h
    injection h with h; injection h with _ h; subst h; exact hb
  | (i, x) :: l, qs, hp, hp1, h, id, b, hb, ha => by
    simp only [freezeParts] at h
    split at h
    · rename_i y hp2 h1
      split at h
      · rename_i r hp3 h2
        injection h with h; injection h with _ h; subst h
        exact freezeParts_box h2 (freezeVal_box h1 hb ha) ha
      · cases h
    · cases h
/-- New memory alone. -/
theorem fresh_keep {bk : FuncId → Bool} (hbk : ∀ g spec, bk g = true → C.Γ g = some spec → BoxKeep spec) {op : Op} (hf : freshB bk op = true) {σ : Nat → PV} {hp hp' : Hp} {nx nx' : Nat} {z : PV} (h : evalOp C (get σ) hp nx op = some (z, hp', nx')) :
    nx ≤ nx' ∧ ∀ id blk, id < nx → hp id = some blk → blk.arr = false → hp' id = some blk := by
  unfold freshB at hf
  split at hf
  · rename_i g as ts
    simp only [evalOp, evalCall] at h
    split at h
    · simp only [get, callVal] at h
      split at h
      · rename_i spec hs
        exact hbk g spec hf hs _ _ _ _ _ _ h
      · cases h
    · cases h
  · rename_i t len parts
    simp only [evalOp] at h
    split at h
    · rename_i ps hps
      unfold buildSliceA at h
      split at h
      · split at h
        · rename_i n zz qs hp1 _ _ hfp
          split at h
          · split at h
            · injection h with h
              injection h with _ h
              injection h with e1 e2
              subst e1; subst e2
              refine ⟨by omega, fun id blk hid hb ha => ?_⟩
              rw [upd_other _ _ _ _ (by omega)]
              exact freezeParts_box hfp hb ha
            · cases h
          · cases h
        · cases h
      · cases h
    · cases h
  · cases hf
theorem half_comm {bk : FuncId → Bool} (hbk : ∀ g spec, bk g = true → C.Γ g = some spec → BoxKeep spec) {D : List (Tmp × Tmp)} {L : List Tmp} {ops : Array Oper} {l c : Oper} (hh : half D L bk l.op c.op = true) (gl : l.guard = none) (gc : c.guard = none) (hap : l.apart ops c = true) {st : St} (hD : ApartA D st) (hL : RefsA L st) :
    (stepA C ops l st).bind (stepA C ops c) = (stepA C ops c st).bind (stepA C ops l) := by
  simp only [half, Bool.or_eq_true, Bool.and_eq_true] at hh
  rcases hh with (hls | ⟨hlk, hfr⟩) | ⟨hix, hst⟩
  · unfold loadStoreB at hls
    split at hls
    · rename_i t a t' b x hl hc
      refine gen_comm hap (fun hp nx y hp' nx' h => ?_) (fun z hp' nx' h => ?_)
      · rw [raw_none gl, hl] at h
        exact look_quiet (.inl ⟨_, _, rfl⟩) h
      · rw [raw_none gc, hc] at h
        rw [raw_none gl, raw_none gl, hl]
        simp only [evalOp, get] at h
        have hload : loadA C.P hp' t (st.σ a) = loadA C.P st.hp t (st.σ a) := by
          cases hσ : st.σ a with
          | ref id i j =>
            obtain ⟨id', i', j', blk, eb, hne, hb, harr⟩ := hD (a, b) (by simpa using hls) id i j hσ
            rw [eb] at h
            split at h
            · rename_i p q hp0 hq0
              simp only [Option.some.injEq] at hp0
              subst hp0
              obtain ⟨h2, e1, e2⟩ := map_some_inv h
              injection e2 with _ e2
              injection e2 with e2 _
              subst e2
              simp only [loadA, store_only e1 hb harr hne]
            · cases h
          | _ => rfl
        simp only [evalOp, get, hload]
        cases loadA C.P st.hp t (st.σ a) <;> rfl
    · cases hls
  · refine gen_comm hap (fun hp nx y hp' nx' h => ?_) (fun z hp' nx' h => ?_)
    · rw [raw_none gl] at h
      exact look_quiet (lookB_op hlk) h
    · rw [raw_none gc] at h
      rw [raw_none gl, raw_none gl]
      exact look_same hlk hL (fresh_keep hbk hfr h).2
  · unfold ixB at hix
    split at hix
    · rename_i t a i hl
      refine gen_comm hap (fun hp nx y hp' nx' h => ?_) (fun z hp' nx' h => ?_)
      · rw [raw_none gl, hl] at h
        exact look_quiet (.inr ⟨_, _, _, rfl⟩) h
      · rw [raw_none gl, raw_none gl, hl]
        obtain ⟨hno, _⟩ := hL a (by simpa using hix)
        have : ∀ q, indexAddrA C.P hp' t (st.σ a) q = indexAddrA C.P st.hp t (st.σ a) q := by
          exact fun q => indexAddr_hpD hno q
        simp only [evalOp, show get st.σ (.tmp a) = some (st.σ a) from rfl]
        cases get st.σ i with
        | none => rfl
        | some q =>
          simp only [this]
          cases indexAddrA C.P st.hp t (st.σ a) q <;> rfl
    · cases hix
/-- A derived address lies in the block of the one that it was derived from. -/
theorem fieldAddr_refD {P : Program} {t : TypeId} {f : Nat} {p : PV} {id i j : Nat} (h : fieldAddrA P t f p = some (.ref id i j)) : ∃ i0 j0, p = .ref id i0 j0 := by
  unfold fieldAddrA at h
  split at h
  · split at h
    · split at h
      · cases h
      · injection h with h; cases h
    · cases h
  · split at h
    · split at h
      · cases h
      · injection h with h
        injection h with h1 _ _
        subst h1
        exact ⟨_, _, rfl⟩
    · cases h
  · cases h
theorem fieldAddr_ownD {P : Program} {t : TypeId} {f : Nat} {p : PV} {id o n : Nat} (h : fieldAddrA P t f p = some (.own id o n)) : False := by
  unfold fieldAddrA at h
  split at h
  · split at h
    · split at h
      · cases h
      · injection h with h; cases h
    · cases h
  · split at h
    · split at h
      · cases h
      · injection h with h; cases h
    · cases h
  · cases h
theorem indexAddr_refD {P : Program} {hp : Hp} {t : TypeId} {p q : PV} {id i j : Nat} (h : indexAddrA P hp t p q = some (.ref id i j)) (hno : ∀ id o n, p ≠ .own id o n) : ∃ i0 j0, p = .ref id i0 j0 := by
  unfold indexAddrA at h
  split at h
  · split at h
    · split at h
      · split at h
        · obtain ⟨z, _, e⟩ := map_some_inv h
          cases e
        · cases h
      · exact absurd rfl (hno _ _ _)
      · cases h
    · unfold indexArrA at h
      split at h
      · split at h
        · split at h
          · split at h
            · injection h with h; cases h
            · injection h with h
              injection h with h1 _ _
              subst h1
              exact ⟨_, _, rfl⟩
            · cases h
          · cases h
        · cases h
      · cases h
  · cases h
theorem indexAddr_ownD {P : Program} {hp : Hp} {t : TypeId} {p q : PV} {id o n : Nat} (h : indexAddrA P hp t p q = some (.own id o n)) : False := by
  unfold indexAddrA at h
  split at h
  · split at h
    · split at h
      · split at h
        · obtain ⟨z, _, e⟩ := map_some_inv h
          cases e
        · cases h
      · split at h
        · split at h
          · injection h with h; cases h
          · cases h
        · cases h
      · cases h
    · unfold indexArrA at h
      split at h
      · split at h
        · split at h
          · split at h
            · injection h with h; cases h
            · injection h with h; cases h
            · cases h
          · cases h
        · cases h
      · cases h
  · cases h

theorem commD_ok (hpf : ∀ g spec, pf g = true → C.Γ g = some spec → Quiet spec) {bk : FuncId → Bool} (hbk : ∀ g spec, bk g = true → C.Γ g = some spec → BoxKeep spec) {D : List (Tmp × Tmp)} {L : List Tmp} {ops : Array Oper} (hpl : plainB pf D L bk ops = true) : CommOk C ops (commD pf D L bk ops) (fun st => ApartA D st ∧ RefsA L st) := by
  refine ⟨fun i o st st' ho hA hs => ?_, fun i j a b st ha hb hcm hA => ?_⟩
  · simp only [plainB, Bool.or_eq_true, Bool.and_eq_true] at hpl
    rcases hpl with ⟨hD, hL⟩ | hpl
    · have hD : D = [] := by simpa using hD
      have hL : L = [] := by simpa using hL
      subst hD; subst hL
      exact ⟨(fun p hp => (by cases hp)), (fun s hs => (by cases hs))⟩
    have h0 := Array.all_eq_true'.1 hpl o (Array.mem_of_getElem? ho)
    simp only [Bool.and_eq_true, Bool.or_eq_true, decide_eq_true_eq] at h0
    obtain ⟨⟨hd, hld⟩, hk⟩ := h0
    rw [stepA_raw] at hs
    obtain ⟨r, hr, hst⟩ := map_some_inv hs
    obtain ⟨y, hp1, nx1⟩ := r
    subst hst
    -- what becomes of variables
    have hbox : (∀ id blk, st.hp id = some blk → blk.arr = false → D.all (fun p => L.contains p.2) = false ∨ id < st.nx → ∃ b', hp1 id = some b' ∧ b'.arr = false) ∧ st.nx ≤ nx1 := by
      have hfresh : ∀ {op : Op}, o.op = op → freshB bk op = true → D.all (fun p => L.contains p.2) = true → (∀ id blk, st.hp id = some blk → blk.arr = false → D.all (fun p => L.contains p.2) = false ∨ id < st.nx → ∃ b', hp1 id = some b' ∧ b'.arr = false) ∧ st.nx ≤ nx1 := by
        intro op hop hf hDL
        unfold rawA at hr
        split at hr
        · rw [hop] at hr
          obtain ⟨e1, e2⟩ := fresh_keep hbk hf hr
          refine ⟨fun id blk h1 h2 h3 => ?_, e1⟩
          rcases h3 with h3 | h3
          · rw [hDL] at h3; cases h3
          · exact ⟨blk, e2 id blk h3 h1 h2, h2⟩
        · injection hr with hr
          injection hr with _ hr
          injection hr with e1 e2
          subst e1; subst e2
          exact ⟨fun id blk h1 h2 _ => ⟨blk, h1, h2⟩, Nat.le_refl _⟩
      rcases hk with hk | hk
      · obtain ⟨rfl, rfl⟩ := raw_quiet1 hpf hk hr
        exact ⟨fun id blk h1 h2 _ => ⟨blk, h1, h2⟩, Nat.le_refl _⟩
      · split at hk
        · rename_i t q x hop
          unfold rawA at hr
          split at hr
          · rw [hop] at hr
            simp only [evalOp] at hr
            split at hr
            · obtain ⟨h2, e1, e2⟩ := map_some_inv hr
              injection e2 with _ e2
              injection e2 with e2 e3
              subst e2; subst e3
              exact ⟨fun id blk h1 h2 _ => store_box e1 h1 h2, Nat.le_refl _⟩
            · cases hr
          · injection hr with hr
            injection hr with _ hr
            injection hr with e1 e2
            subst e1; subst e2
            exact ⟨fun id blk h1 h2 _ => ⟨blk, h1, h2⟩, Nat.le_refl _⟩
        · rename_i g as ts hop
          simp only [Bool.and_eq_true] at hk
          exact hfresh hop (by simpa [freshB] using hk.2) hk.1
        · rename_i t n ps hop
          exact hfresh hop rfl hk
        · cases hk
    refine ⟨fun p hp => ?_, fun s hsL => ?_⟩
    rotate_left
    · have hl := List.all_eq_true.1 hld s hsL
      simp only [Bool.or_eq_true, bne_iff_ne] at hl
      have hlow : (∀ id o' n, put st.σ o.dst y s ≠ .own id o' n) ∧ ∀ id i' j', put st.σ o.dst y s = .ref id i' j' → id < st.nx ∧ ∃ blk, st.hp id = some blk ∧ blk.arr = false := by
        by_cases hds : o.dst = some s
        · have hps : put st.σ o.dst y s = y := by rw [hds]; exact upd_same _ _ _
          rw [hps]
          rcases hl with hl | hl
          · exact absurd hds hl
          · split at hl
            · rename_i t b f hop
              obtain ⟨hbo, hbr⟩ := hA.2 b (by simpa using hl)
              unfold rawA at hr
              split at hr
              · rw [hop] at hr
                simp only [evalOp, get] at hr
                obtain ⟨z, e1, e2⟩ := map_some_inv hr
                injection e2 with e2 _
                subst e2
                refine ⟨fun id o' n e => ?_, fun id i' j' e => ?_⟩
                · subst e; exact fieldAddr_ownD e1
                · subst e
                  obtain ⟨i0, j0, e3⟩ := fieldAddr_refD e1
                  exact hbr _ _ _ e3
              · injection hr with hr
                injection hr with hr _
                subst hr
                exact ⟨(fun _ _ _ e => by cases e), (fun _ _ _ e => by cases e)⟩
            · rename_i t b ix hop
              obtain ⟨hbo, hbr⟩ := hA.2 b (by simpa using hl)
              unfold rawA at hr
              split at hr
              · rw [hop] at hr
                simp only [evalOp, get] at hr
                split at hr
                · rename_i p0 q0 hp0 hq0
                  simp only [Option.some.injEq] at hp0
                  subst hp0
                  obtain ⟨z, e1, e2⟩ := map_some_inv hr
                  injection e2 with e2 _
                  subst e2
                  refine ⟨fun id o' n e => ?_, fun id i' j' e => ?_⟩
                  · subst e; exact indexAddr_ownD e1
                  · subst e
                    obtain ⟨i0, j0, e3⟩ := indexAddr_refD e1 hbo
                    exact hbr _ _ _ e3
                · cases hr
              · injection hr with hr
                injection hr with hr _
                subst hr
                exact ⟨(fun _ _ _ e => by cases e), (fun _ _ _ e => by cases e)⟩
            · cases hl
        · have hps : put st.σ o.dst y s = st.σ s := put_other (fun e he => by rintro rfl; exact hds he)
          rw [hps]
          exact hA.2 s hsL
      refine ⟨hlow.1, fun id i' j' e => ?_⟩
      obtain ⟨h1, blk, h2, h3⟩ := hlow.2 id i' j' e
      exact ⟨Nat.lt_of_lt_of_le h1 hbox.2, hbox.1 id blk h2 h3 (.inr h1)⟩
    · have hd := List.all_eq_true.1 hd p hp
      simp only [Bool.and_eq_true, Bool.or_eq_true, bne_iff_ne] at hd
      obtain ⟨hd2, hd1⟩ := hd
      have hpb : put st.σ o.dst y p.2 = st.σ p.2 := put_other (fun e he => by rintro rfl; exact hd2 he)
      have hbase : ∀ id i j, put st.σ o.dst y p.1 = .ref id i j → ∃ id' i' j' blk, st.σ p.2 = .ref id' i' j' ∧ id ≠ id' ∧ st.hp id' = some blk ∧ blk.arr = false := by
        intro id i j e
        by_cases hds : o.dst = some p.1
        · have hps : put st.σ o.dst y p.1 = y := by rw [hds]; exact upd_same _ _ _
          rw [hps] at e
          subst e
          rcases hd1 with hd1 | hd1
          · exact absurd hds hd1
          · split at hd1
            · rename_i t b f hop
              unfold rawA at hr
              split at hr
              · rw [hop] at hr
                simp only [evalOp, get] at hr
                obtain ⟨z, e1, e2⟩ := map_some_inv hr
                injection e2 with e2 _
                subst e2
                obtain ⟨i0, j0, e3⟩ := fieldAddr_refD e1
                exact hA.1 (b, p.2) (by simpa using hd1) _ _ _ e3
              · injection hr with hr
                injection hr with hr _
                cases hr
            · rename_i t b ix hop
              simp only [Bool.and_eq_true] at hd1
              obtain ⟨hbo, hbr⟩ := hA.2 b (by simpa using hd1.2)
              unfold rawA at hr
              split at hr
              · rw [hop] at hr
                simp only [evalOp, get] at hr
                split at hr
                · rename_i p0 q0 hp0 hq0
                  simp only [Option.some.injEq] at hp0
                  subst hp0
                  obtain ⟨z, e1, e2⟩ := map_some_inv hr
                  injection e2 with e2 _
                  subst e2
                  obtain ⟨i0, j0, e3⟩ := indexAddr_refD e1 hbo
                  exact hA.1 (b, p.2) (by simpa using hd1.1) _ _ _ e3
                · cases hr
              · injection hr with hr
                injection hr with hr _
                cases hr
            · cases hd1
        · have hps : put st.σ o.dst y p.1 = st.σ p.1 := put_other (fun e he => by rintro rfl; exact hds he)
          rw [hps] at e
          exact hA.1 p hp id i j e
      intro id i j e
      obtain ⟨id', i', j', blk, eb, hne, hbl, harr⟩ := hbase id i j e
      have hcase : D.all (fun p => L.contains p.2) = false ∨ id' < st.nx := by
        cases hDL : D.all (fun p => L.contains p.2)
        · exact .inl rfl
        · refine .inr ?_
          have := List.all_eq_true.1 hDL p hp
          exact ((hA.2 p.2 (by simpa using this)).2 id' i' j' eb).1
      obtain ⟨b', hb1, hb2⟩ := hbox.1 id' blk hbl harr hcase
      exact ⟨id', i', j', b', by show put st.σ o.dst y p.2 = _; rw [hpb]; exact eb, hne, hb1, hb2⟩
  · simp only [commD, Bool.or_eq_true] at hcm
    rcases hcm with hcm | hcm
    · exact step_comm hpf hcm st
    · simp only [pairB, Bool.and_eq_true, Bool.or_eq_true, Option.isNone_iff_eq_none] at hcm
      obtain ⟨⟨⟨⟨hap, hap2⟩, ga⟩, gb⟩, hm⟩ := hcm
      rcases hm with hm | hm
      · exact half_comm hbk hm ga gb hap hA.1 hA.2
      · exact (half_comm hbk hm gb ga hap2 hA.1 hA.2).symm
end
end Go.AM
