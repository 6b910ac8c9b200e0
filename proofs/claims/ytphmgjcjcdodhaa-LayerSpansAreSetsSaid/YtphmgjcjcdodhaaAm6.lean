/-
  The abstract machine, part 6: giving up blocks, stores, addresses, values.
-/
import Derived.Test.YtphmgjcjcdodhaaAm5
namespace Go.AM
open Go.RowKit

section
variable {P : Program} {w : World} {S : Nat → Prop} {G : Nat → GI} {hp : Hp} {nx : Nat}

/-- Two lists of one length, element by element. -/
def Zip {α β : Type} (R : α → β → Prop) (xs : List α) (us : List β) : Prop := xs.length = us.length ∧ ∀ (j : Nat) (x : α) (u : β), xs[j]? = some x → us[j]? = some u → R x u

theorem Zip.nil {α β : Type} {R : α → β → Prop} : Zip R [] ([] : List β) := ⟨rfl, by simp⟩
theorem Zip.cons {α β : Type} {R : α → β → Prop} {x : α} {u : β} {xs : List α} {us : List β} (h : R x u) (t : Zip R xs us) : Zip R (x :: xs) (u :: us) := by
  refine ⟨by simp [t.1], fun j y v hy hv => ?_⟩
  cases j with
  | zero => simp at hy hv; subst hy; subst hv; exact h
  | succ j => exact t.2 j y v (by simpa using hy) (by simpa using hv)
theorem Zip.uncons {α β : Type} {R : α → β → Prop} {x : α} {xs : List α} {us : List β} (h : Zip R (x :: xs) us) : ∃ u us', us = u :: us' ∧ R x u ∧ Zip R xs us' := by
  cases us with
  | nil => have := h.1; simp at this
  | cons u us' =>
    refine ⟨u, us', rfl, h.2 0 x u rfl rfl, by have := h.1; simpa using this, fun j y v hy hv => h.2 (j + 1) y v (by simpa using hy) (by simpa using hv)⟩
theorem Zip.unnil {α β : Type} {R : α → β → Prop} {us : List β} (h : Zip R ([] : List α) us) : us = [] := List.eq_nil_of_length_eq_zero h.1.symm
theorem Zip.imp {α β : Type} {R R' : α → β → Prop} {xs : List α} {us : List β} (h : Zip R xs us) (hr : ∀ x u, R x u → R' x u) : Zip R' xs us := ⟨h.1, fun j x u a b => hr x u (h.2 j x u a b)⟩

theorem upd_none {h : Hp} {i k : Nat} {b : Blk} (hb : upd h i none k = some b) : h k = some b := by
  unfold upd at hb
  split at hb
  · cases hb
  · exact hb

theorem freezeCell_sound (hi : Inv P w S G hp nx) {x y : PV} {hp1 : Hp} {u : Value} (h : freezeCell hp x = some (y, hp1)) (hx : RepO w S G nx x u) :
    ∃ S', Stp P hp nx S G w hp1 nx S' G w ∧ RepC w S' y u ∧ (x.cellOpen = false → S' = S) := by
  have same : ∀ {y' : PV} {hp' : Hp}, some (x, hp) = some (y', hp') → RepC w S x u → ∃ S', Stp P hp nx S G w hp' nx S' G w ∧ RepC w S' y' u ∧ (x.cellOpen = false → S' = S) := by
    intro y' hp' e hr
    injection e with e
    injection e with e1 e2
    subst e1; subst e2
    exact ⟨S, .refl hi, hr, fun _ => rfl⟩
  unfold freezeCell at h
  split at h
  · rename_i id off n
    split at h
    · rename_i b hb
      split at h
      · rename_i hc
        injection h with h
        injection h with h1 h2
        subst h1; subst h2
        obtain ⟨cap, h3, h4, h5, h6, rfl⟩ := hx.own_inv
        exact ⟨_, Stp.kill hi hb, frozen_rep hi hb hc.1 hc.2 h4 h5 _ (fun k hk => .inl hk) (.inr rfl), fun h => by simp [PV.cellOpen] at h⟩
      · cases h
    · cases h
  · obtain ⟨rfl, hl⟩ := hx.v_inv
    exact same h (.v hl)
  · have := hx.nil_inv
    subst this
    exact same h .nil
  · exact same h hx.sl_inv
  · obtain ⟨ad, cap, rfl, hm⟩ := hx.em_inv
    exact same h (.em hm)
  · exact same h hx.ptr_inv
  · obtain ⟨us, ts, rfl, h1, h2, _, _⟩ := hx.fn_inv
    exact same h (.fn h1 h2 (by simp) (by simp))
  · cases h

theorem freezeCell_isCell {hp hp1 : Hp} {x y : PV} (h : freezeCell hp x = some (y, hp1)) : y.isCell = true := by
  unfold freezeCell at h
  split at h <;> (try (split at h)) <;> (try (split at h)) <;> first
    | (injection h with h; injection h with h1 h2; subst h1; rfl)
    | cases h

theorem freezeCells_sound : ∀ {xs ys : List PV} {hp hp1 : Hp} {S : Nat → Prop} {us : List Value} (_ : Inv P w S G hp nx), freezeCells hp xs = some (ys, hp1) → Zip (RepO w S G nx) xs us →
    ∃ S', Stp P hp nx S G w hp1 nx S' G w ∧ Zip (RepC w S') ys us ∧ ys.all PV.isCell = true ∧ (xs.any PV.cellOpen = false → S' = S)
  | [], ys, hp, hp1, S, us, hi, h, hz => by
    simp only [freezeCells] at h
    injection h with h
    injection h with h1 h2
    subst h1; subst h2
    rw [hz.unnil]
    exact ⟨S, .refl hi, .nil, rfl, fun _ => rfl⟩
  | x :: l, ys, hp, hp1, S, us, hi, h, hz => by
    simp only [freezeCells] at h
    split at h
    · rename_i y h1 hf
      split at h
      · rename_i r h2 hr
        injection h with h
        injection h with e1 e2
        subst e1; subst e2
        obtain ⟨u, us', rfl, hu, hz'⟩ := hz.uncons
        obtain ⟨S1, k1, c1, n1⟩ := freezeCell_sound hi hf hu
        have hS := k1.same hi
        obtain ⟨S2, k2, c2, c3, n2⟩ := freezeCells_sound (S := S1) k1.inv hr (hz'.imp fun x u hx => hx.mono hS (Nat.le_refl _) (fun _ _ => rfl))
        refine ⟨S2, k1.trans k2, .cons (c1.mono (k2.same k1.inv)) c2, by simp [c3, freezeCell_isCell hf], fun hn => ?_⟩
        simp only [List.any_cons, Bool.or_eq_false_iff] at hn
        rw [n2 hn.2, n1 hn.1]
      · cases h
    · cases h

theorem freezeVal_sound (hi : Inv P w S G hp nx) {x y : PV} {hp1 : Hp} {u : Value} (h : freezeVal hp x = some (y, hp1)) (hx : RepO w S G nx x u) :
    ∃ S', Stp P hp nx S G w hp1 nx S' G w ∧ RepC w S' y u ∧ y.cells.all PV.isCell = true ∧ (x.noOwn = true → S' = S) := by
  unfold freezeVal at h
  split at h
  · rename_i cs
    split at h
    · rename_i l hp2 hf
      injection h with h
      injection h with e1 e2
      subst e1; subst e2
      obtain ⟨us, rfl, hl, hr⟩ := hx.agg_inv
      obtain ⟨S', k, z, hc, hn⟩ := freezeCells_sound (us := us.toList) hi hf ⟨by simpa using hl, fun j pv x a b => hr j pv x a (by simpa using b)⟩
      exact ⟨S', k, .agg (by have := z.1; simpa using this) (fun j pv x a b => z.2 j pv x a (by simpa using b)), hc, fun h => hn (by simpa [PV.noOwn] using h)⟩
    · cases h
  · obtain ⟨S', k, c, hn⟩ := freezeCell_sound hi h hx
    refine ⟨S', k, c, ?_, fun hh => hn ?_⟩
    · have := freezeCell_isCell h
      cases y <;> simp_all [PV.cells, PV.isCell]
    · cases x <;> simp_all [PV.noOwn, PV.cellOpen]

theorem freezeVals_sound : ∀ {xs ys : List PV} {hp hp1 : Hp} {S : Nat → Prop} {us : List Value} (_ : Inv P w S G hp nx), freezeVals hp xs = some (ys, hp1) → Zip (RepO w S G nx) xs us →
    ∃ S', Stp P hp nx S G w hp1 nx S' G w ∧ Zip (RepC w S') ys us ∧ (xs.all PV.noOwn = true → S' = S)
  | [], ys, hp, hp1, S, us, hi, h, hz => by
    simp only [freezeVals] at h
    injection h with h
    injection h with h1 h2
    subst h1; subst h2
    rw [hz.unnil]
    exact ⟨S, .refl hi, .nil, fun _ => rfl⟩
  | x :: l, ys, hp, hp1, S, us, hi, h, hz => by
    simp only [freezeVals] at h
    split at h
    · rename_i y h1 hf
      split at h
      · rename_i r h2 hr
        injection h with h
        injection h with e1 e2
        subst e1; subst e2
        obtain ⟨u, us', rfl, hu, hz'⟩ := hz.uncons
        obtain ⟨S1, k1, c1, _, n1⟩ := freezeVal_sound hi hf hu
        have hS := k1.same hi
        obtain ⟨S2, k2, c2, n2⟩ := freezeVals_sound (S := S1) k1.inv hr (hz'.imp fun x u hx => hx.mono hS (Nat.le_refl _) (fun _ _ => rfl))
        refine ⟨S2, k1.trans k2, .cons (c1.mono (k2.same k1.inv)) c2, fun hn => ?_⟩
        simp only [List.all_cons, Bool.and_eq_true] at hn
        rw [n2 hn.2, n1 hn.1]
      · cases h
    · cases h

theorem freeze_sound (hi : Inv P w S G hp nx) {x y : PV} {hp1 : Hp} {u : Value} (h : freeze hp x = some (y, hp1)) (hx : RepO w S G nx x u) :
    ∃ S', Stp P hp nx S G w hp1 nx S' G w ∧ RepC w S' y u := by
  unfold freeze at h
  split at h
  · rename_i cs
    split at h
    · rename_i l hp2 hf
      injection h with h
      injection h with e1 e2
      subst e1; subst e2
      obtain ⟨us, rfl, hl, hr⟩ := hx.tup_inv
      obtain ⟨S', k, z, _⟩ := freezeVals_sound (us := us.toList) hi hf ⟨by simpa using hl, fun j pv x a b => hr j pv x a (by simpa using b)⟩
      exact ⟨S', k, .tup (by have := z.1; simpa using this) (fun j pv x a b => z.2 j pv x a (by simpa using b))⟩
    · cases h
  · obtain ⟨S', k, c, _⟩ := freezeVal_sound hi h hx
    exact ⟨S', k, c⟩

theorem setCells_length : ∀ (l cs : List PV) (off : Nat), (setCells cs off l).length = cs.length
  | [], cs, off => rfl
  | x :: l, cs, off => by simp [setCells, setCells_length l]

theorem setCells_get : ∀ (l cs : List PV) (off k : Nat), off + l.length ≤ cs.length → (setCells cs off l)[k]? = if off ≤ k ∧ k < off + l.length then l[k - off]? else cs[k]?
  | [], cs, off, k, _ => by simp [setCells]; omega
  | x :: l, cs, off, k, h => by
    simp only [List.length_cons] at h
    have ih := setCells_get l (cs.set off x) (off + 1) k (by simp; omega)
    simp only [setCells]
    rw [ih]
    by_cases h1 : off + 1 ≤ k ∧ k < off + 1 + l.length
    · rw [if_pos h1, if_pos ⟨by omega, by simp; omega⟩]
      obtain ⟨d, rfl⟩ : ∃ d, k = off + 1 + d := ⟨k - (off + 1), by omega⟩
      rw [show off + 1 + d - (off + 1) = d from by omega, show off + 1 + d - off = d + 1 from by omega]
      simp
    · rw [if_neg h1]
      by_cases h2 : k = off
      · subst h2
        rw [if_pos ⟨by omega, by simp⟩, List.getElem?_set_self (by omega)]
        simp
      · rw [if_neg (by simp; omega), List.getElem?_set_ne (by omega)]

theorem splice_get {α : Type} (l vs : List α) (o k : Nat) (h : o + vs.length ≤ l.length) : (l.take o ++ vs ++ l.drop (o + vs.length))[k]? = if o ≤ k ∧ k < o + vs.length then vs[k - o]? else l[k]? := by
  have hlo : (l.take o).length = o := by simp; omega
  rw [List.append_assoc]
  by_cases h1 : k < o
  · rw [if_neg (by omega), List.getElem?_append_left (by omega), List.getElem?_take, if_pos h1]
  · rw [List.getElem?_append_right (by omega), hlo]
    by_cases h2 : k < o + vs.length
    · rw [if_pos ⟨by omega, h2⟩, List.getElem?_append_left (by omega)]
    · rw [if_neg (by omega), List.getElem?_append_right (by omega), List.getElem?_drop]
      congr 1
      omega

theorem splice_length {α : Type} (l vs : List α) (o : Nat) (h : o + vs.length ≤ l.length) : (l.take o ++ vs ++ l.drop (o + vs.length)).length = l.length := by
  simp; omega

theorem elem_apart {s i j i' : Nat} (hj : j < s) (hn : i' ≠ i) (a n : Nat) (ha : a + n ≤ s) : ¬ (i * s + a ≤ i' * s + j ∧ i' * s + j < i * s + a + n) := by
  rcases Nat.lt_or_gt_of_ne hn with h | h
  · have : (i' + 1) * s ≤ i * s := Nat.mul_le_mul_right s h
    rw [Nat.add_mul] at this
    omega
  · have : (i + 1) * s ≤ i' * s := Nat.mul_le_mul_right s h
    rw [Nat.add_mul] at this
    omega

theorem elem_lt {i j n s : Nat} (hi : i < n) (hj : j < s) : i * s + j < n * s := by
  have : (i + 1) * s ≤ n * s := Nat.mul_le_mul_right s hi
  rw [Nat.add_mul] at this
  omega

/-- Cells are stored into one element of a live block. -/
theorem setElem_done (hi : Inv P w S G hp nx) {id i j : Nat} {b : Blk} {c ys : List PV} {vs : List Value} (hb : hp id = some b) (hc : b.es[i]? = some c) (hl : ys.length = vs.length) (hj : j + ys.length ≤ c.length)
    (hr : ∀ (k : Nat) (pv : PV) (u : Value), ys[k]? = some pv → vs[k]? = some u → CellRep w S G nx b.arr pv u) :
    ∃ w', (storeCells ⟨(G id).g, i * (G id).s + j, none⟩ vs).run P w = .ok () w' ∧ Stp P hp nx S G w (upd hp id (some ⟨b.e, b.s, b.arr, b.es.set i (setCells c j ys)⟩)) nx S G w' := by
  have hbr := hi.live id b hb
  obtain ⟨cur, h1, h2, h3⟩ := hbr.row
  have hcs : c.length = (G id).s := hbr.len c (List.mem_of_getElem? hc)
  have hil : i < b.es.length := (List.getElem?_eq_some_iff.1 hc).1
  have hfit : i * (G id).s + j + vs.length ≤ cur.size := by
    have : (i + 1) * (G id).s ≤ b.es.length * (G id).s := Nat.mul_le_mul_right _ hil
    have := hbr.fit
    rw [Nat.add_mul] at *
    omega
  have h1c : ∀ v ∈ vs, v.oneCell' = true := by
    intro v hv
    obtain ⟨k, hk⟩ := List.getElem?_of_mem hv
    have hkl : k < ys.length := by rw [hl]; exact (List.getElem?_eq_some_iff.1 hk).1
    exact (hr k ys[k] v (List.getElem?_eq_getElem hkl) hk).2.2
  have hst := run_storeCells_at P (G id).g (i * (G id).s + j) b.e vs 0 cur w h1 (by simpa using hfit) h1c
  simp only [Nat.add_zero] at hst
  have hsl : i * (G id).s + j + vs.length ≤ cur.toList.length := by simpa using hfit
  refine ⟨_, hst, Stp.set hi hb _ _ ?_ ?_ ?_ ?_⟩
  · rw [List.size_toArray, splice_length _ _ _ hsl]; simpa using h2
  · intro c' hc'
    rcases List.mem_or_eq_of_mem_set hc' with h | h
    · exact hbr.len c' h
    · subst h; rw [setCells_length]; exact hcs
  · simpa using hbr.fit
  · intro i' j' c' pv hi' hj'
    have hi'l : i' < b.es.length := by have := (List.getElem?_eq_some_iff.1 hi').1; simpa using this
    rw [List.getElem?_toArray, splice_get _ _ _ _ hsl]
    by_cases hii : i' = i
    · subst hii
      rw [List.getElem?_set_self hil] at hi'
      injection hi' with hi'
      subst hi'
      rw [setCells_get _ _ _ _ hj] at hj'
      by_cases hin : j ≤ j' ∧ j' < j + ys.length
      · rw [if_pos hin] at hj'
        rw [if_pos ⟨by omega, by omega⟩]
        have hk : j' - j < vs.length := by omega
        refine ⟨vs[j' - j], ?_, hr (j' - j) pv _ hj' (List.getElem?_eq_getElem hk)⟩
        rw [show i' * (G id).s + j' - (i' * (G id).s + j) = j' - j from by omega]
        exact List.getElem?_eq_getElem hk
      · rw [if_neg hin] at hj'
        rw [if_neg (by omega)]
        obtain ⟨u, h4, h5⟩ := h3 i' j' c pv hc hj'
        exact ⟨u, by simpa using h4, h5⟩
    · rw [List.getElem?_set_ne (fun e => hii e.symm)] at hi'
      have hj'l : j' < (G id).s := by
        rw [← hbr.len c' (List.mem_of_getElem? hi')]
        exact (List.getElem?_eq_some_iff.1 hj').1
      rw [if_neg (elem_apart hj'l hii j vs.length (by omega))]
      obtain ⟨u, h4, h5⟩ := h3 i' j' c' pv hi' hj'
      exact ⟨u, by simpa using h4, h5⟩

theorem store_done (hi : Inv P w S G hp nx) {t : TypeId} {a x : PV} {hp' : Hp} {u v : Value} (h : storeA P hp t a x = some hp') (ha : RepO w S G nx a u) (hx : RepO w S G nx x v) :
    ∃ w' S' G', (Instr.storeAt t u v).run P w = .ok () w' ∧ Stp P hp nx S G w hp' nx S' G' w' := by
  unfold storeA at h
  split at h
  · rename_i id i j
    obtain ⟨hid, rfl⟩ := ha.ref_inv
    split at h
    · rename_i b0 hb0
      have key : ∀ (y : PV) (hp1 : Hp) (S1 : Nat → Prop), Stp P hp nx S G w hp1 nx S1 G w → RepO w S1 G nx y v → (b0.arr = true → RepC w S1 y v) → (∀ b, hp1 id = some b → b.arr = b0.arr) →
          (match hp1 id, sizeA P t with
            | some b, some n => match b.es[i]? with
              | some c => if y.cells.length = n ∧ j + n ≤ c.length ∧ y.cells.all PV.isCell = true then some (upd hp1 id (some ⟨b.e, b.s, b.arr, b.es.set i (setCells c j y.cells)⟩)) else none
              | none => none
            | _, _ => none) = some hp' → ∃ w' S' G', (Instr.storeAt t (.pointer (some ⟨(G id).g, i * (G id).s + j, none⟩)) v).run P w = .ok () w' ∧ Stp P hp nx S G w hp' nx S' G' w' := by
        intro y hp1 S1 k1 hy hyc hbb h
        split at h
        · rename_i b n hb hn
          split at h
          · rename_i c hc
            split at h
            · rename_i hcond
              obtain ⟨e1, e2, e3⟩ := hcond
              injection h with h
              subst h
              obtain ⟨hl, hr⟩ := cells_rep hy e3
              have hsz : v.cells.size = n := by rw [← hl, e1]
              obtain ⟨w', hst, k2⟩ := setElem_done (P := P) k1.inv (ys := y.cells) (vs := v.cells.toList) (j := j) hb hc (by simpa using hl) (by rw [e1]; exact e2) (fun k pv u hk hu => by
                have hu' : v.cells[k]? = some u := by simpa using hu
                have h6 := hr k pv u hk hu'
                refine ⟨fun hba => ?_, h6.1, h6.2⟩
                rw [hbb b hb] at hba
                have hyr := hyc hba
                by_cases hag : ∃ cs, y = .agg cs
                · obtain ⟨cs, rfl⟩ := hag
                  cases hyr with
                  | agg g1 g2 => exact g2 k pv u hk hu'
                · have hy1 : y.cells = [y] := by cases y <;> first | rfl | exact (hag ⟨_, rfl⟩).elim
                  have ho := hyr.oneCell (by rw [hy1] at e3; simpa using e3)
                  have hv1 : v.cells = #[v] := by cases v <;> first | rfl | simp [Value.oneCell'] at ho
                  rw [hy1] at hk
                  rw [hv1] at hu'
                  cases k with
                  | zero => simp at hk hu'; subst hk; subst hu'; exact hyr
                  | succ k => simp at hk)
              refine ⟨w', S1, G, ?_, k1.trans k2⟩
              simp [Instr.storeAt, Instr.sureAddr, storeVar, run_sizeOf hn, hsz, hst]
            · cases h
          · cases h
        · cases h
      by_cases harr : b0.arr = true
      · simp only [harr, if_true] at h
        split at h
        · rename_i y hp1 hf
          obtain ⟨S1, k1, hc, _, _⟩ := freezeVal_sound hi hf hx
          refine key y hp1 S1 k1 (.c hc) (fun _ => hc) (fun b hb => ?_) h
          have : ∀ b, hp1 id = some b → hp id = some b := fun b hb => by
            have hsub : ∀ {x y : PV} {h h' : Hp} (_ : freezeCell h x = some (y, h')) (k : Nat) (b : Blk), h' k = some b → h k = some b := by
              intro x y h h' hf k b hb
              unfold freezeCell at hf
              split at hf <;> (try (split at hf)) <;> (try (split at hf)) <;> first
                | (injection hf with hf; injection hf with e1 e2; subst e2
                   first
                     | exact hb
                     | exact upd_none hb)
                | cases hf
            have hsubs : ∀ (xs ys : List PV) (h h' : Hp) (_ : freezeCells h xs = some (ys, h')) (k : Nat) (b : Blk), h' k = some b → h k = some b := by
              intro xs
              induction xs with
              | nil => intro ys h h' hf k b hb; simp only [freezeCells] at hf; injection hf with hf; injection hf with _ e; subst e; exact hb
              | cons x l ih =>
                intro ys h h' hf k b hb
                simp only [freezeCells] at hf
                split at hf
                · rename_i y h1 hc1
                  split at hf
                  · rename_i r h2 hr
                    injection hf with hf
                    injection hf with _ e
                    subst e
                    exact hsub hc1 k b (ih _ _ _ hr k b hb)
                  · cases hf
                · cases hf
            unfold freezeVal at hf
            split at hf
            · split at hf
              · rename_i l h2 hcs
                injection hf with hf
                injection hf with _ e
                subst e
                exact hsubs _ _ _ _ hcs id b hb
              · cases hf
            · exact hsub hf id b hb
          have := this b hb
          rw [hb0] at this
          injection this with this
          rw [this]
        · cases h
      · simp only [harr] at h
        exact key x hp S (.refl hi) hx (fun h => (harr h).elim) (fun b hb => by rw [hb0] at hb; injection hb with hb; rw [hb]) h
    · cases h
  · cases h

end
end Go.AM
