/-
  The abstract machine, part 10: copy, the literals, len, min, max.
-/
import Derived.Test.YtphmgjcjcdodhaaAm9
namespace Go.AM
open Go.RowKit

section
variable {P : Program} {w : World} {S : Nat → Prop} {G : Nat → GI} {hp : Hp} {nx : Nat}

theorem len_done (hi : Inv P w S G hp nx) {t ty : TypeId} {p x : PV} {u : Value} (h : lenA P t p = some x) (hu : RepO w S G nx p u) : Done P w hp nx S G x hp nx ((Builtin.len_ #[t] ty #[u]).run P w) := by
  have sl : ∀ {A : Option Addr} {n c : Nat} {e : TypeId}, elemA P t = some e → (Builtin.len_ #[t] ty #[.slice A n c]).run P w = .ok (.int .i64 n) w := fun he => by
    simp [Builtin.len_, run_underlying (elem_spec he), goInt]
  unfold lenA at h
  split at h
  · obtain ⟨rfl, _⟩ := hu.v_inv
    split at h
    · rename_i hun
      injection h with h
      subst h
      exact done_pure (v := _) hi (by simp [Builtin.len_, run_underlying hun, goInt]) (lit_v _ rfl)
    · cases h
  · cases he : elemA P t with
    | none => simp [he] at h
    | some e =>
      simp [he] at h
      subst h
      cases hu.sl_inv with
      | sl us h0 h1 h2 h3 h4 h5 => exact done_pure (v := _) hi (sl he) (lit_v _ rfl)
  · cases he : elemA P t with
    | none => simp [he] at h
    | some e =>
      simp [he] at h
      subst h
      have := hu.nil_inv
      subst this
      exact done_pure (v := _) hi (sl he) (lit_v _ rfl)
  · cases he : elemA P t with
    | none => simp [he] at h
    | some e =>
      simp [he] at h
      subst h
      obtain ⟨ad, cap, rfl, _⟩ := hu.em_inv
      exact done_pure (v := _) hi (sl he) (lit_v _ rfl)
  · cases he : elemA P t with
    | none => simp [he] at h
    | some e =>
      simp [he] at h
      subst h
      obtain ⟨cap, _, _, _, _, rfl⟩ := hu.own_inv
      exact done_pure (v := _) hi (sl he) (lit_v _ rfl)
  · cases h

theorem minFrom_run {k : IntKind} : ∀ {l : List PV} {x : Int} {r : PV} {us : List Value}, minFrom k x l = some r → Zip (RepO w S G nx) l us → ∃ n, r = .v (.int k n) ∧ (us.foldlM Builtin.min2 (.int k x)).run P w = .ok (.int k n) w
  | [], x, r, us, h, hz => by
    simp only [minFrom] at h
    injection h with h
    subst h
    rw [hz.unnil]
    exact ⟨x, rfl, by simp⟩
  | p :: l, x, r, us, h, hz => by
    obtain ⟨u, us', rfl, hu, hz'⟩ := hz.uncons
    unfold minFrom at h
    split at h
    · cases ‹p :: l = []›
    · rename_i k' y l' e
      injection e with e1 e2
      subst e1; subst e2
      split at h
      · rename_i hk
        subst hk
        obtain ⟨rfl, _⟩ := hu.v_inv
        obtain ⟨n, rfl, hr⟩ := minFrom_run h hz'
        exact ⟨n, rfl, by simp only [List.foldlM_cons, Sem.run_bind, Builtin.min2, Sem.run_pure, Result.andThen_ok]; exact hr⟩
      · cases h
    · cases h

theorem maxFrom_run {k : IntKind} : ∀ {l : List PV} {x : Int} {r : PV} {us : List Value}, maxFrom k x l = some r → Zip (RepO w S G nx) l us → ∃ n, r = .v (.int k n) ∧ (us.foldlM Builtin.max2 (.int k x)).run P w = .ok (.int k n) w
  | [], x, r, us, h, hz => by
    simp only [maxFrom] at h
    injection h with h
    subst h
    rw [hz.unnil]
    exact ⟨x, rfl, by simp⟩
  | p :: l, x, r, us, h, hz => by
    obtain ⟨u, us', rfl, hu, hz'⟩ := hz.uncons
    unfold maxFrom at h
    split at h
    · cases ‹p :: l = []›
    · rename_i k' y l' e
      injection e with e1 e2
      subst e1; subst e2
      split at h
      · rename_i hk
        subst hk
        obtain ⟨rfl, _⟩ := hu.v_inv
        obtain ⟨n, rfl, hr⟩ := maxFrom_run h hz'
        exact ⟨n, rfl, by simp only [List.foldlM_cons, Sem.run_bind, Builtin.max2, Sem.run_pure, Result.andThen_ok]; exact hr⟩
      · cases h
    · cases h

theorem min_done (hi : Inv P w S G hp nx) {ts : Array TypeId} {ty : TypeId} {xs : List PV} {x : PV} {us : Array Value} (h : minA xs = some x) (hz : Zip (RepO w S G nx) xs us.toList) : Done P w hp nx S G x hp nx ((Builtin.min_ ts ty us).run P w) := by
  unfold minA at h
  split at h
  · rename_i k y l
    obtain ⟨u, us', hus, hu, hz'⟩ := hz.uncons
    obtain ⟨rfl, _⟩ := hu.v_inv
    obtain ⟨n, rfl, hr⟩ := minFrom_run (P := P) h hz'
    exact done_pure (v := _) hi (by simp only [Builtin.min_, hus]; exact hr) (lit_v _ rfl)
  · cases h

theorem max_done (hi : Inv P w S G hp nx) {ts : Array TypeId} {ty : TypeId} {xs : List PV} {x : PV} {us : Array Value} (h : maxA xs = some x) (hz : Zip (RepO w S G nx) xs us.toList) : Done P w hp nx S G x hp nx ((Builtin.max_ ts ty us).run P w) := by
  unfold maxA at h
  split at h
  · rename_i k y l
    obtain ⟨u, us', hus, hu, hz'⟩ := hz.uncons
    obtain ⟨rfl, _⟩ := hu.v_inv
    obtain ⟨n, rfl, hr⟩ := maxFrom_run (P := P) h hz'
    exact done_pure (v := _) hi (by simp only [Builtin.max_, hus]; exact hr) (lit_v _ rfl)
  · cases h

/-- Cells of a list of values and of a list of pure values, one by one. -/
theorem foldl_set : ∀ (l : List Value) (k off : Nat) (arr : Array Value), off + k + l.length ≤ arr.size →
    ((l.zipIdx k).foldl (fun (cs : Array Value) (p : Value × Nat) => cs.setIfInBounds (off + p.2) p.1) arr).size = arr.size ∧
    ∀ i : Nat, ((l.zipIdx k).foldl (fun (cs : Array Value) (p : Value × Nat) => cs.setIfInBounds (off + p.2) p.1) arr)[i]? = if off + k ≤ i ∧ i < off + k + l.length then l[i - (off + k)]? else arr[i]?
  | [], k, off, arr, h => by simp; omega
  | x :: l, k, off, arr, h => by
    simp only [List.length_cons] at h
    obtain ⟨h1, h2⟩ := foldl_set l (k + 1) off (arr.setIfInBounds (off + k) x) (by simp; omega)
    simp only [List.zipIdx_cons, List.foldl_cons]
    refine ⟨by rw [h1]; simp, fun i => ?_⟩
    rw [h2]
    by_cases c1 : off + (k + 1) ≤ i ∧ i < off + (k + 1) + l.length
    · rw [if_pos c1, if_pos ⟨by omega, by simp; omega⟩]
      obtain ⟨d, rfl⟩ : ∃ d, i = off + (k + 1) + d := ⟨i - (off + (k + 1)), by omega⟩
      rw [show off + (k + 1) + d - (off + (k + 1)) = d from by omega, show off + (k + 1) + d - (off + k) = d + 1 from by omega]
      simp
    · rw [if_neg c1]
      by_cases c2 : i = off + k
      · subst c2
        have hs : (arr.setIfInBounds (off + k) x)[off + k]? = some x := by
          rw [Array.getElem?_setIfInBounds_self_of_lt (by omega)]
        rw [if_pos ⟨by omega, by simp⟩, hs]
        simp
      · rw [if_neg (by simp; omega), Array.getElem?_setIfInBounds_ne (by omega)]

theorem fillOne {u : Value} {off : Nat} {cells : Array Value} (h : off + u.cells.size ≤ cells.size) :
    (u.cells.zipIdx.foldl (fun cs (c, j) => cs.setIfInBounds (off + j) c) cells).size = cells.size ∧
    ∀ i : Nat, (u.cells.zipIdx.foldl (fun cs (c, j) => cs.setIfInBounds (off + j) c) cells)[i]? = if off ≤ i ∧ i < off + u.cells.size then u.cells[i - off]? else cells[i]? := by
  have := foldl_set u.cells.toList 0 off cells (by simpa using h)
  simp only [Nat.add_zero, Array.length_toList, Array.getElem?_toList] at this
  rw [← Array.foldl_toList, Array.toList_zipIdx]
  exact this

theorem fill_sim {place : Nat → Option (Nat × Nat)} : ∀ {ps : List (Nat × PV)} {vs : List (Nat × Value)} {cs cs' : List PV} {cells : Array Value}, fillA place cs ps = some cs' →
    Zip (fun p v => p.1 = v.1 ∧ RepO w S G nx p.2 v.2) ps vs → cs.length = cells.size → (∀ (j : Nat) (pv : PV) (u : Value), cs[j]? = some pv → cells[j]? = some u → RepO w S G nx pv u) →
    ∃ cells', Instr.fill place cells vs = some cells' ∧ cs'.length = cells'.size ∧ ∀ (j : Nat) (pv : PV) (u : Value), cs'[j]? = some pv → cells'[j]? = some u → RepO w S G nx pv u
  | [], vs, cs, cs', cells, h, hz, hl, hr => by
    simp only [fillA] at h
    injection h with h
    subst h
    rw [hz.unnil]
    exact ⟨cells, rfl, hl, hr⟩
  | (i, x) :: ps, vs, cs, cs', cells, h, hz, hl, hr => by
    obtain ⟨⟨i', u⟩, vs', rfl, ⟨e, hu⟩, hz'⟩ := hz.uncons
    simp only at e hu
    subst e
    simp only [fillA] at h
    split at h
    · rename_i off n hp
      split at h
      · rename_i hc
        obtain ⟨c1, c2, c3⟩ := hc
        obtain ⟨d1, d2⟩ := cells_rep hu c3
        have hsz : u.cells.size = n := by rw [← d1, c1]
        obtain ⟨f1, f2⟩ := fillOne (u := u) (off := off) (cells := cells) (by omega)
        have hstep : Instr.fill place cells ((i, u) :: vs') = Instr.fill place (u.cells.zipIdx.foldl (fun cs (c, j) => cs.setIfInBounds (off + j) c) cells) vs' := by
          have g2 : ¬ (off + n > cells.size) := by omega
          simp [Instr.fill, hp, hsz]
          omega
        rw [hstep]
        refine fill_sim h hz' (by rw [setCells_length, f1, hl]) (fun j pv v hj hv => ?_)
        rw [setCells_get _ _ _ _ (by rw [c1]; exact c2)] at hj
        rw [f2] at hv
        by_cases hin : off ≤ j ∧ j < off + u.cells.size
        · rw [if_pos hin] at hv
          rw [if_pos (by omega)] at hj
          exact (d2 (j - off) pv v hj hv).1
        · rw [if_neg hin] at hv
          rw [if_neg (by omega)] at hj
          exact hr j pv v hj hv
      · cases h
    · cases h

theorem parts_zip {ρ : Operand → Option PV} {a : Operand → Value} (hρ : ∀ y pv, ρ y = some pv → RepO w S G nx pv (a y)) : ∀ {l : List (Nat × Operand)} {ps : List (Nat × PV)}, partsA ρ l = some ps →
    Zip (fun (p : Nat × PV) (v : Nat × Value) => p.1 = v.1 ∧ RepO w S G nx p.2 v.2) ps (l.map fun (i, x) => (i, a x))
  | [], ps, h => by
    simp only [partsA] at h
    injection h with h
    subst h
    exact .nil
  | (i, x) :: l, ps, h => by
    simp only [partsA] at h
    split at h
    · rename_i p r hp hr
      injection h with h
      subst h
      exact .cons ⟨rfl, hρ _ _ hp⟩ (parts_zip hρ hr)
    · cases h

theorem build_done (hi : Inv P w S G hp nx) {t : TypeId} {ps : List (Nat × PV)} {vs : Array (Nat × Value)} {x : PV} (h : buildA P t ps = some x) (hz : Zip (fun p v => p.1 = v.1 ∧ RepO w S G nx p.2 v.2) ps vs.toList) :
    Done P w hp nx S G x hp nx ((Instr.build t vs).run P w) := by
  unfold buildA at h
  split at h
  · rename_i pl z h1 h2
    obtain ⟨i, vz, i1, i2, i3⟩ := zero_of h2
    obtain ⟨z1, z2⟩ := ofCells_rep (w := w) (S := S) i3
    cases hf : fillA (fun i => pl[i]?) z ps with
    | none => simp [hf] at h
    | some cs' =>
      simp [hf] at h
      subst h
      obtain ⟨cells', f1, f2, f3⟩ := fill_sim hf hz (cells := vz.cells) (by rw [z1]; simp) (fun j pv u hj hu => .c (z2 j pv u hj (by simpa using hu)).1)
      have hb : P.built t vs.toList = some cells' := by
        unfold placesA at h1
        split at h1
        · rename_i fs hu
          unfold Program.built
          simp only [i1, hu, i2, h1]
          simpa using f1
        · cases h1
      exact done_pure (v := _) hi (run_build w t vs cells' hb) (.agg f2 f3)
  · cases h

theorem freezeParts_sound : ∀ {ps qs : List (Nat × PV)} {hp hp1 : Hp} {S : Nat → Prop} {vs : List (Nat × Value)} (_ : Inv P w S G hp nx), freezeParts hp ps = some (qs, hp1) →
    Zip (fun p v => p.1 = v.1 ∧ RepO w S G nx p.2 v.2) ps vs → ∃ S', Stp P hp nx S G w hp1 nx S' G w ∧ Zip (fun p v => p.1 = v.1 ∧ RepC w S' p.2 v.2) qs vs
  | [], qs, hp, hp1, S, vs, hi, h, hz => by
    simp only [freezeParts] at h
    injection h with h
    injection h with h1 h2
    subst h1; subst h2
    rw [hz.unnil]
    exact ⟨S, .refl hi, .nil⟩
  | (i, x) :: ps, qs, hp, hp1, S, vs, hi, h, hz => by
    obtain ⟨⟨i', u⟩, vs', rfl, ⟨e, hu⟩, hz'⟩ := hz.uncons
    simp only at e hu
    simp only [freezeParts] at h
    split at h
    · rename_i y h1 hf
      split at h
      · rename_i r h2 hr
        injection h with h
        injection h with e1 e2
        subst e1; subst e2
        obtain ⟨S1, k1, c1, _⟩ := freezeVal_sound hi hf hu
        have hS := k1.same hi
        obtain ⟨S2, k2, c2⟩ := freezeParts_sound (S := S1) k1.inv hr (hz'.imp fun x u hx => ⟨hx.1, hx.2.mono hS (Nat.le_refl _) (fun _ _ => rfl)⟩)
        exact ⟨S2, k1.trans k2, .cons ⟨e, c1.mono (k2.same k1.inv)⟩ c2⟩
      · cases h
    · cases h

theorem cellsC_rep {y : PV} {u : Value} (h : RepC w S y u) (hc : y.cells.all PV.isCell = true) : y.cells.length = u.cells.size ∧ ∀ (j : Nat) (pv : PV) (c : Value), y.cells[j]? = some pv → u.cells[j]? = some c → RepC w S pv c ∧ c.oneCell' = true := by
  by_cases hag : ∃ cs, y = .agg cs
  · obtain ⟨cs, rfl⟩ := hag
    cases h with
    | agg hl hr =>
      refine ⟨hl, fun j pv c hj hu => ?_⟩
      have h1 := hr j pv c hj hu
      refine ⟨h1, h1.oneCell ?_⟩
      simp only [PV.cells] at hc hj
      exact List.all_eq_true.1 hc pv (List.mem_of_getElem? hj)
  · have hy : y.cells = [y] := by cases y <;> first | rfl | exact (hag ⟨_, rfl⟩).elim
    rw [hy] at hc ⊢
    have hi : y.isCell = true := by simpa using hc
    have ho := h.oneCell hi
    have hu : u.cells = #[u] := by cases u <;> first | rfl | simp [Value.oneCell'] at ho
    rw [hu]
    refine ⟨rfl, fun j pv c hj hc => ?_⟩
    cases j with
    | zero => simp at hj hc; subst hj; subst hc; exact ⟨h, ho⟩
    | succ j => simp at hj

theorem setElems_sim {n : Nat} : ∀ {qs : List (Nat × PV)} {vs : List (Nat × Value)} {es es' : List (List PV)} {cells : Array Value}, setElems n es qs = some es' → Zip (fun p v => p.1 = v.1 ∧ RepC w S p.2 v.2) qs vs →
    es.length * n = cells.size → (∀ c ∈ es, c.length = n) → (∀ (i j : Nat) (c : List PV) (pv : PV), es[i]? = some c → c[j]? = some pv → ∃ u, cells[i * n + j]? = some u ∧ RepC w S pv u ∧ u.oneCell' = true) →
    ∃ cells', Instr.fill (fun i => some (i * n, n)) cells vs = some cells' ∧ es'.length = es.length ∧ cells'.size = cells.size ∧ (∀ c ∈ es', c.length = n) ∧
      ∀ (i j : Nat) (c : List PV) (pv : PV), es'[i]? = some c → c[j]? = some pv → ∃ u, cells'[i * n + j]? = some u ∧ RepC w S pv u ∧ u.oneCell' = true
  | [], vs, es, es', cells, h, hz, hl, hn, hr => by
    simp only [setElems] at h
    injection h with h
    subst h
    rw [hz.unnil]
    exact ⟨cells, rfl, rfl, rfl, hn, hr⟩
  | (i, x) :: qs, vs, es, es', cells, h, hz, hl, hn, hr => by
    obtain ⟨⟨i', u⟩, vs', rfl, ⟨e, hu⟩, hz'⟩ := hz.uncons
    simp only at e hu
    subst e
    simp only [setElems] at h
    split at h
    · rename_i hc
      obtain ⟨c1, c2, c3⟩ := hc
      obtain ⟨d1, d2⟩ := cellsC_rep hu c3
      have hsz : u.cells.size = n := by rw [← d1, c1]
      have hfit : i * n + n ≤ cells.size := by
        have : (i + 1) * n ≤ es.length * n := Nat.mul_le_mul_right _ c2
        rw [Nat.add_mul] at this
        omega
      obtain ⟨f1, f2⟩ := fillOne (u := u) (off := i * n) (cells := cells) (by omega)
      have hstep : Instr.fill (fun i => some (i * n, n)) cells ((i, u) :: vs') = Instr.fill (fun i => some (i * n, n)) (u.cells.zipIdx.foldl (fun cs (c, j) => cs.setIfInBounds (i * n + j) c) cells) vs' := by
        simp [Instr.fill, hsz]
        omega
      rw [hstep]
      obtain ⟨cells', g1, g2, g3, g4, g5⟩ := setElems_sim h hz' (cells := u.cells.zipIdx.foldl (fun cs (c, j) => cs.setIfInBounds (i * n + j) c) cells) (by rw [f1]; simpa using hl) (fun c hc => by
          rcases List.mem_or_eq_of_mem_set hc with h | h
          · exact hn c h
          · subst h; exact c1) (fun i' j c pv hi' hj => by
          rw [f2]
          by_cases hii : i' = i
          · subst hii
            rw [List.getElem?_set_self c2] at hi'
            injection hi' with hi'
            subst hi'
            have hjn : j < n := by rw [← c1]; exact (List.getElem?_eq_some_iff.1 hj).1
            rw [if_pos ⟨by omega, by omega⟩, show i' * n + j - i' * n = j from by omega]
            have hju : j < u.cells.size := by omega
            have h6 := d2 j pv u.cells[j] hj (by simp [hju])
            exact ⟨u.cells[j], by simp [hju], h6⟩
          · rw [List.getElem?_set_ne (fun e => hii e.symm)] at hi'
            have hjn : j < n := by rw [← hn c (List.mem_of_getElem? hi')]; exact (List.getElem?_eq_some_iff.1 hj).1
            have := elem_apart hjn hii 0 n (by omega)
            rw [if_neg (by rw [hsz]; simpa using this)]
            exact hr i' j c pv hi' hj)
      exact ⟨cells', g1, by rw [g2]; simp, by rw [g3, f1], g4, g5⟩
    · cases h

theorem buildSlice_done (hi : Inv P w S G hp nx) {t : TypeId} {len : Nat} {ps : List (Nat × PV)} {vs : Array (Nat × Value)} {x : PV} {hp' : Hp} {nx' : Nat} (h : buildSliceA P hp nx t len ps = some (x, hp', nx')) (hz : Zip (fun p v => p.1 = v.1 ∧ RepO w S G nx p.2 v.2) ps vs.toList) :
    Done P w hp nx S G x hp' nx' ((Instr.buildSlice t len vs).run P w) := by
  unfold buildSliceA at h
  split at h
  · rename_i e he
    split at h
    · rename_i n z qs hp1 h1 h2 h3
      split at h
      · rename_i hc
        obtain ⟨c1, c2, c3⟩ := hc
        split at h
        · rename_i es hes
          injection h with h
          injection h with ex h
          injection h with eh en
          subst ex; subst eh; subst en
          obtain ⟨i, vz, i1, i2, i3⟩ := zero_of h2
          obtain ⟨z1, z2⟩ := ofCells_rep (w := w) (S := S) i3
          have hzc : vz.cells.size = n := by rw [← c2, z1]; simp
          obtain ⟨S1, k1, q1⟩ := freezeParts_sound hi h3 hz
          obtain ⟨cells', g1, g2, g3, g4, g5⟩ := setElems_sim (w := w) hes q1 (cells := madeCells vz.cells (len * n)) (by simp [size_madeCells]) (fun c hc => by rw [(List.mem_replicate.1 hc).2]; exact c2) (fun i' j c pv hi' hj => by
            have hil : i' < len := by have := (List.getElem?_eq_some_iff.1 hi').1; simpa using this
            rw [List.getElem?_replicate, if_pos hil] at hi'
            injection hi' with hi'
            subst hi'
            have hjn : j < n := by rw [← c2]; exact (List.getElem?_eq_some_iff.1 hj).1
            have hjz : j < vz.cells.size := by omega
            rw [made_get hzc hil hjn]
            have h6 := z2 j pv vz.cells[j] hj (by simp [hjz])
            exact ⟨vz.cells[j], by simp [hjz], h6.1.mono (k1.same hi), h6.2.1⟩)
          have hel : es.length = len := by rw [g2]; simp
          have k2 := Stp.alloc k1.inv cells' e true es n (by simpa [sizeA] using h1) g4 (by rw [g3, size_madeCells, hel]; exact Nat.le_refl _) (fun i' j c pv hi' hj => by
            obtain ⟨u, u1, u2, u3⟩ := g5 i' j c pv hi' hj
            exact ⟨u, u1, fun _ => u2, .c u2, u3⟩)
          have hlim : ¬ (len * n > 2 ^ 24) := by simp; omega
          refine ⟨.slice (some ⟨w.heap.size, 0, none⟩) len len, _, _, _, ?_, k1.trans k2, ?_⟩
          · by_cases h0 : len * n = 0
            · have hl0 : len = 0 := by
                rcases Nat.mul_eq_zero.1 h0 with h | h
                · exact h
                · omega
              have hfill : Instr.fill (fun i => some (i * n, n)) ((Array.range (len * n)).map ((#[] : Array Value)[· % (#[] : Array Value).size]!)) vs.toList = some cells' := by
                rw [← g1]
                congr 1
                rw [h0]
                simp [madeCells]
              simp [Instr.buildSlice, run_underlying (elem_spec he), run_sizeOf h1, h0, newRow]
              simp [h0] at hfill
              simp [hfill]
            · have hfill : Instr.fill (fun i => some (i * n, n)) ((Array.range (len * n)).map (vz.cells[· % vz.cells.size]!)) vs.toList = some cells' := g1
              simp [Instr.buildSlice, run_underlying (elem_spec he), run_sizeOf h1, h0, newRow, run_zeroValue i1 i2, hfill]
              omega
          · have hmax : len ≤ maxLen := by
              have : len * 1 ≤ len * n := Nat.mul_le_mul_left _ c1
              simp only [maxLen]
              omega
            have := RepO.own (w := w.alloc (.cells cells' e)) (S := S1) (G := upd G nx ⟨w.heap.size, cells'.size, n⟩) (nx := nx + 1) (id := nx) (off := 0) (n := len) (cap := len) (by omega) (Nat.le_refl _) hmax (by simp [g3, size_madeCells])
            simpa using this
        · cases h
      · cases h
    · cases h
  · cases h

end
end Go.AM
