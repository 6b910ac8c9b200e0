/-
  The abstract machine, part 5: each operation that is no call of a Go function does what the evaluator says.
-/
import Derived.Test.YtphmgjcjcdodhaaAm4
namespace Go.AM
open Go.RowKit

section
variable {P : Program} {w : World} {S : Nat → Prop} {G : Nat → GI} {hp : Hp} {nx : Nat}

theorem RepC.v_inv {x u : Value} (h : RepC w S (.v x) u) : u = x ∧ lit x = true := by cases h; exact ⟨rfl, ‹_›⟩
theorem RepO.v_inv {x u : Value} (h : RepO w S G nx (.v x) u) : u = x ∧ lit x = true := by
  cases h with
  | c h => exact h.v_inv
theorem RepO.nil_inv {u : Value} (h : RepO w S G nx .nil u) : u = .slice none 0 0 := by
  cases h with
  | c h => cases h; rfl
theorem RepO.em_inv {u : Value} (h : RepO w S G nx .em u) : ∃ ad cap, u = .slice (some ad) 0 cap ∧ cap ≤ maxLen := by
  cases h with
  | c h => cases h; exact ⟨_, _, rfl, ‹_›⟩
theorem RepO.sl_inv {s : Nat} {es : List (List PV)} {u : Value} (h : RepO w S G nx (.sl s es) u) : RepC w S (.sl s es) u := by
  cases h with
  | c h => exact h
theorem RepO.ptr_inv {cs : List PV} {u : Value} (h : RepO w S G nx (.ptr cs) u) : RepC w S (.ptr cs) u := by
  cases h with
  | c h => exact h
theorem RepO.own_inv {id off n : Nat} {u : Value} (h : RepO w S G nx (.own id off n) u) : ∃ cap, id < nx ∧ n ≤ cap ∧ cap ≤ maxLen ∧ (off + cap) * (G id).s = (G id).z ∧ u = .slice (some ⟨(G id).g, off * (G id).s, none⟩) n cap := by
  cases h with
  | c h => cases h
  | own h1 h2 h3 h4 => exact ⟨_, h1, h2, h3, h4, rfl⟩
theorem RepO.ref_inv {id i j : Nat} {u : Value} (h : RepO w S G nx (.ref id i j) u) : id < nx ∧ u = .pointer (some ⟨(G id).g, i * (G id).s + j, none⟩) := by
  cases h with
  | c h => cases h
  | ref h1 => exact ⟨h1, rfl⟩
theorem RepO.agg_inv {cs : List PV} {u : Value} (h : RepO w S G nx (.agg cs) u) : ∃ us : Array Value, u = .agg us ∧ cs.length = us.size ∧ ∀ (j : Nat) (pv : PV) (x : Value), cs[j]? = some pv → us[j]? = some x → RepO w S G nx pv x := by
  cases h with
  | c h => cases h with
    | agg h1 h2 => exact ⟨_, rfl, h1, fun j pv x a b => .c (h2 j pv x a b)⟩
  | agg h1 h2 => exact ⟨_, rfl, h1, h2⟩
theorem RepO.tup_inv {cs : List PV} {u : Value} (h : RepO w S G nx (.tup cs) u) : ∃ us : Array Value, u = .tuple us ∧ cs.length = us.size ∧ ∀ (j : Nat) (pv : PV) (x : Value), cs[j]? = some pv → us[j]? = some x → RepO w S G nx pv x := by
  cases h with
  | c h => cases h with
    | tup h1 h2 => exact ⟨_, rfl, h1, fun j pv x a b => .c (h2 j pv x a b)⟩
  | tup h1 h2 => exact ⟨_, rfl, h1, h2⟩
theorem RepO.fn_inv {f : Fn} {xs ys : List PV} {u : Value} (h : RepO w S G nx (.fn f xs ys) u) : ∃ us ts : Array Value, u = .func f us ts ∧ xs.length = us.size ∧ ys.length = ts.size ∧
    (∀ (j : Nat) (pv : PV) (x : Value), xs[j]? = some pv → us[j]? = some x → RepO w S G nx pv x) ∧ ∀ (j : Nat) (pv : PV) (x : Value), ys[j]? = some pv → ts[j]? = some x → RepO w S G nx pv x := by
  cases h with
  | c h => cases h with
    | fn h1 h2 h3 h4 => exact ⟨_, _, rfl, h1, h2, fun j pv x a b => .c (h3 j pv x a b), fun j pv x a b => .c (h4 j pv x a b)⟩
  | fn h1 h2 h3 h4 => exact ⟨_, _, rfl, h1, h2, h3, h4⟩

theorem repO_undef : RepO w S G nx (.tup []) undef := .c (.tup rfl (by simp))

theorem ofCell_rep {x : Value} {pv : PV} (h : ofCell x = some pv) : RepC w S pv x ∧ x.oneCell' = true ∧ pv.isCell = true := by
  unfold ofCell at h
  split at h <;> first
    | (injection h with h; subst h; exact ⟨.nil, rfl, rfl⟩)
    | (injection h with h; subst h; exact ⟨.v rfl, rfl, rfl⟩)
    | cases h

theorem ofCells_rep : ∀ {l : List Value} {r : List PV}, ofCells l = some r → r.length = l.length ∧ (∀ (j : Nat) (pv : PV) (u : Value), r[j]? = some pv → l[j]? = some u → RepC w S pv u ∧ u.oneCell' = true ∧ pv.isCell = true)
  | [], r, h => by simp [ofCells] at h; subst h; simp
  | x :: l, r, h => by
    simp only [ofCells] at h
    split at h
    · rename_i p q hp hq
      injection h with h
      subst h
      obtain ⟨h1, h2⟩ := ofCells_rep hq
      refine ⟨by simp [h1], fun j pv u hj hu => ?_⟩
      cases j with
      | zero => simp at hj hu; subst hj; subst hu; exact ofCell_rep hp
      | succ j => exact h2 j pv u (by simpa using hj) (by simpa using hu)
    · cases h

theorem ofConst_rep {x : Value} {pv : PV} (h : ofConst x = some pv) : RepC w S pv x := by
  unfold ofConst at h
  split at h
  · rename_i cs
    cases hc : ofCells cs.toList with
    | none => simp [hc] at h
    | some r =>
      simp [hc] at h
      subst h
      obtain ⟨h1, h2⟩ := ofCells_rep (w := w) (S := S) hc
      exact .agg (by simpa using h1) (fun j pv u hj hu => (h2 j pv u hj (by simpa using hu)).1)
  · exact (ofCell_rep h).1

theorem get_rep {σ : Nat → PV} {a : Act} (hs : ∀ t, RepO w S G nx (σ t) (a.tmps.getD t undef)) {y : Operand} {pv : PV} (h : get σ y = some pv) : RepO w S G nx pv (a.eval y) := by
  cases y with
  | tmp t => simp [get] at h; subst h; exact hs t
  | const x => exact .c (ofConst_rep h)
  | global g => simp [get] at h
  | func f => simp [get] at h; subst h; exact .c (.fn rfl rfl (by simp) (by simp))

theorem cells_rep {y : PV} {u : Value} (h : RepO w S G nx y u) (hc : y.cells.all PV.isCell = true) : y.cells.length = u.cells.size ∧ ∀ (j : Nat) (pv : PV) (c : Value), y.cells[j]? = some pv → u.cells[j]? = some c → RepO w S G nx pv c ∧ c.oneCell' = true := by
  by_cases hag : ∃ cs, y = .agg cs
  · obtain ⟨cs, rfl⟩ := hag
    obtain ⟨us, rfl, hl, hr⟩ := h.agg_inv
    refine ⟨hl, fun j pv c hj hu => ?_⟩
    have h1 := hr j pv c hj hu
    refine ⟨h1, h1.oneCell ?_⟩
    simp only [PV.cells] at hc hj
    exact List.all_eq_true.1 hc pv (List.mem_of_getElem? hj)
  · have hy : y.cells = [y] := by cases y <;> first | rfl | exact (hag ⟨_, rfl⟩).elim
    rw [hy] at hc ⊢
    have hi : y.isCell = true := by simpa using hc
    have ho := h.oneCell hi
    have hu : u.cells = #[u] := by cases u <;> first | rfl | simp [Value.oneCell'] at ho
    rw [hu]
    refine ⟨rfl, fun j pv c hj hc => ?_⟩
    cases j with
    | zero => simp at hj hc; subst hj; subst hc; exact ⟨h, ho⟩
    | succ j => simp at hj

/-- What a run that is no call must show. -/
def Done (P : Program) (w : World) (hp : Hp) (nx : Nat) (S : Nat → Prop) (G : Nat → GI) (x : PV) (hp' : Hp) (nx' : Nat) (r : Result Value) : Prop :=
  ∃ v w' S' G', r = .ok v w' ∧ Stp P hp nx S G w hp' nx' S' G' w' ∧ RepO w' S' G' nx' x v

theorem done_pure (hi : Inv P w S G hp nx) {x : PV} {v : Value} {r : Result Value} (hr : r = .ok v w) (hx : RepO w S G nx x v) : Done P w hp nx S G x hp nx r := ⟨v, w, S, G, hr, .refl hi, hx⟩

theorem info_of_size {t : TypeId} {n : Nat} (h : sizeA P t = some n) : ∃ i, P.info? t = some i ∧ i.size = n := by
  unfold sizeA at h
  cases hi : P.info? t with
  | none => simp [hi] at h
  | some i => exact ⟨i, rfl, by simpa [hi] using h⟩

theorem run_sizeOf {t : TypeId} {n : Nat} (h : sizeA P t = some n) (w : World) : (sizeOf t).run P w = .ok n w := by
  obtain ⟨i, hi, rfl⟩ := info_of_size h
  simp [sizeOf, typeInfo, hi]

theorem run_isAgg {t : TypeId} {b : Bool} (h : isAggA P t = some b) (w : World) : (isAgg t).run P w = .ok b w := by
  unfold isAggA at h
  cases hu : P.underlying t with
  | none => simp [hu] at h
  | some d =>
    simp [hu] at h
    subst h
    unfold isAgg
    rw [Sem.run_bind, run_underlying hu w]
    cases d <;> rfl

theorem zero_of {t : TypeId} {z : List PV} (h : zeroA P t = some z) : ∃ i v, P.info? t = some i ∧ i.zero = some v ∧ ofCells v.cells.toList = some z := by
  unfold zeroA at h
  cases hi : P.info? t with
  | none => simp [hi] at h
  | some i =>
    cases hz : i.zero with
    | none => simp [hi, hz] at h
    | some v => exact ⟨i, v, rfl, hz, by simpa [hi, hz] using h⟩

theorem run_zeroValue {t : TypeId} {i : TypeInfo} {v : Value} (hi : P.info? t = some i) (hz : i.zero = some v) (w : World) : (zeroValue t).run P w = .ok v w := by
  simp [zeroValue, typeInfo, hi, hz]

theorem alloc_done (hi : Inv P w S G hp nx) {t : TypeId} {n : Nat} {z : List PV} (hs : sizeA P t = some n) (hz : zeroA P t = some z) (hl : z.length = n) :
    Done P w hp nx S G (.ref nx 0 0) (upd hp nx (some ⟨t, n, false, [z]⟩)) (nx + 1) ((Instr.alloc t true (.tuple #[])).run P w) := by
  obtain ⟨i, v, h1, h2, h3⟩ := zero_of hz
  obtain ⟨h4, h5⟩ := ofCells_rep (w := w) (S := S) h3
  have hsz : (P.info? t).map (·.size) = some n := hs
  have hcz : v.cells.size = n := by rw [← hl, h4]; simp
  have k := Stp.alloc hi v.cells t false [z] n hsz (by simp [hl]) (by simp [hcz]) (fun i j c pv hi hj => by
    cases i with
    | succ i => simp at hi
    | zero =>
      simp at hi
      subst hi
      have hj' : j < v.cells.size := by rw [hcz, ← hl]; exact (List.getElem?_eq_some_iff.1 hj).1
      refine ⟨v.cells[j], by simp [hj'], ?_⟩
      have h6 := h5 j pv v.cells[j] hj (by simp [hj'])
      exact ⟨fun h => (by cases h), .c h6.1, h6.2.1⟩)
  refine ⟨.pointer (some ⟨w.heap.size, 0, none⟩), _, _, _, ?_, k, ?_⟩
  · simp [Instr.alloc, run_zeroValue h1 h2, newVar, newRow]
  · have := RepO.ref (w := w.alloc (.cells v.cells t)) (S := S) (G := upd G nx ⟨w.heap.size, v.cells.size, n⟩) (nx := nx + 1) (id := nx) (i := 0) (j := 0) (by omega)
    simpa using this

theorem box_done (hi : Inv P w S G hp nx) {t : TypeId} {n : Nat} {y : PV} {u : Value} (hs : sizeA P t = some n) (hy : RepO w S G nx y u) (hl : y.cells.length = n) (hc : y.cells.all PV.isCell = true) :
    Done P w hp nx S G (.ref nx 0 0) (upd hp nx (some ⟨t, n, false, [y.cells]⟩)) (nx + 1) ((Instr.box t u).run P w) := by
  obtain ⟨h4, h5⟩ := cells_rep hy hc
  have hcz : u.cells.size = n := by rw [← h4, hl]
  have k := Stp.alloc hi u.cells t false [y.cells] n hs (by simp [hl]) (by simp [hcz]) (fun i j c pv hi hj => by
    cases i with
    | succ i => simp at hi
    | zero =>
      simp at hi
      subst hi
      have hj' : j < u.cells.size := by rw [← h4]; exact (List.getElem?_eq_some_iff.1 hj).1
      refine ⟨u.cells[j], by simp [hj'], ?_⟩
      have h6 := h5 j pv u.cells[j] hj (by simp [hj'])
      exact ⟨fun h => (by cases h), h6.1, h6.2⟩)
  refine ⟨.pointer (some ⟨w.heap.size, 0, none⟩), _, _, _, ?_, k, ?_⟩
  · simp [Instr.box, newVar, newRow]
  · have := RepO.ref (w := w.alloc (.cells u.cells t)) (S := S) (G := upd G nx ⟨w.heap.size, u.cells.size, n⟩) (nx := nx + 1) (id := nx) (i := 0) (j := 0) (by omega)
    simpa using this

/-- Reading a variable whose cells are known. -/
theorem read_done {t : TypeId} {cs : List PV} {x : PV} (h : readCells P t cs = some x) (ad : Addr) (us : Nat → Value) (hc : ∀ (j : Nat) (pv : PV), cs[j]? = some pv → w.cell? (ad.add j) = some (us j) ∧ RepO w S G nx pv (us j)) :
    ∃ v, (loadVar t ad).run P w = .ok v w ∧ RepO w S G nx x v := by
  unfold readCells at h
  split at h
  · rename_i n ha hs
    split at h
    · rename_i hle
      injection h with h
      subst h
      have hl : (loadCells ad n).run P w = .ok ((List.range n).map us).toArray w := by
        have := run_loadCells_list (P := P) w ad ((List.range n).map us) (fun j v hj => by
          have hjn : j < n := by simpa using (List.getElem?_eq_some_iff.1 hj).1
          have hp := hc j (cs[j]'(by omega)) (List.getElem?_eq_getElem (by omega))
          rw [hp.1]
          rw [List.getElem?_map, List.getElem?_range hjn] at hj
          simpa using hj)
        simpa using this
      refine ⟨.agg ((List.range n).map us).toArray, ?_, .agg ?_ ?_⟩
      · simp [loadVar, run_isAgg ha, run_sizeOf hs, hl]
      · simp; omega
      · intro j pv u hj hu
        rw [List.getElem?_take] at hj
        split at hj
        · rename_i hjn
          have := (hc j pv hj).2
          simp [hjn] at hu
          rwa [← hu]
        · cases hj
    · cases h
  · rename_i n ha hs
    have := hc 0 x h
    refine ⟨us 0, ?_, this.2⟩
    have h0 : ad.add 0 = ad := rfl
    rw [h0] at this
    simp [loadVar, run_isAgg ha, this.1]
  · cases h

theorem load_done (hi : Inv P w S G hp nx) {t : TypeId} {p x : PV} {u : Value} (h : loadA P hp t p = some x) (hp' : RepO w S G nx p u) : Done P w hp nx S G x hp nx ((Instr.loadAt t u).run P w) := by
  unfold loadA at h
  split at h
  · rename_i cs
    cases hp'.ptr_inv with
    | ptr us h1 h2 =>
      obtain ⟨v, hv, hr⟩ := read_done (G := G) (nx := nx) (w := w) (S := S) h _ us (fun j pv hj => ⟨(h1 j pv hj).2, .c (h2 j pv hj)⟩)
      exact done_pure hi (v := v) (by simp [Instr.loadAt, Instr.sureAddr, hv]) hr
  · rename_i id i j
    obtain ⟨hid, rfl⟩ := hp'.ref_inv
    split at h
    · rename_i b hb
      split at h
      · rename_i c hc
        obtain ⟨cur, h1, h2, h3⟩ := (hi.live id b hb).row
        have hcell : ∀ k : Nat, w.cell? ((⟨(G id).g, i * (G id).s + j, none⟩ : Addr).add k) = cur[i * (G id).s + j + k]? := by
          intro k
          rw [Addr.add_lit, cell_of_row w _ _ cur _ _ h1]
        obtain ⟨v, hv, hr⟩ := read_done (G := G) (nx := nx) (w := w) (S := S) h ⟨(G id).g, i * (G id).s + j, none⟩ (fun k => (cur[i * (G id).s + j + k]?).getD undef) (fun k pv hk => by
          rw [List.getElem?_drop] at hk
          obtain ⟨u, h4, h5⟩ := h3 i (j + k) c pv hc hk
          rw [hcell]
          have e : i * (G id).s + j + k = i * (G id).s + (j + k) := by omega
          rw [e, h4]
          exact ⟨rfl, h5.2.1⟩)
        exact done_pure hi (v := v) (by simp [Instr.loadAt, Instr.sureAddr, hv]) hr
      · cases h
    · cases h
  · cases h

end
end Go.AM
