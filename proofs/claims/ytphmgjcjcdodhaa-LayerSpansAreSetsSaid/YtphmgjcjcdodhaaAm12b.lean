/-
  The abstract machine, part 12b: a load and a store that touch different blocks can change places.
-/
import Derived.Test.YtphmgjcjcdodhaaAm12
namespace Go.AM
open Go.RowKit
section
variable {C : Ctx} {pf : FuncId → Bool}

theorem freezeCell_box {hp hp1 : Hp} {x y : PV} (h : freezeCell hp x = some (y, hp1)) {id : Nat} {b : Blk} (hb : hp id = some b) (ha : b.arr = false) : hp1 id = some b := by
  unfold freezeCell at h
  split at h
  · split at h
    · rename_i b' hb'
      split at h
      · rename_i hc
        injection h with h
        injection h with _ h
        subst h
        rw [upd_other]
        · exact hb
        · rintro rfl
          rw [hb] at hb'
          injection hb' with hb'
          subst hb'
          rw [ha] at hc
          cases hc.1
      · cases h
    · cases h
  all_goals first
    | (injection h with h; injection h with _ h; subst h; exact hb)
    | cases h
theorem freezeCells_box : ∀ {xs ys : List PV} {hp hp1 : Hp}, freezeCells hp xs = some (ys, hp1) → ∀ {id : Nat} {b : Blk}, hp id = some b → b.arr = false → hp1 id = some b
  | [], ys, hp, hp1, h, id, b, hb, ha => by
    simp only [freezeCells] at h
    injection h with h; injection h with _ h; subst h; exact hb
  | x :: l, ys, hp, hp1, h, id, b, hb, ha => by
    simp only [freezeCells] at h
    split at h
    · rename_i y hp2 h1
      split at h
      · rename_i r hp3 h2
        injection h with h; injection h with _ h; subst h
        exact freezeCells_box h2 (freezeCell_box h1 hb ha) ha
      · cases h
    · cases h
theorem freezeVal_box {hp hp1 : Hp} {x y : PV} (h : freezeVal hp x = some (y, hp1)) {id : Nat} {b : Blk} (hb : hp id = some b) (ha : b.arr = false) : hp1 id = some b := by
  unfold freezeVal at h
  split at h
  · split at h
    · rename_i l h2 hf
      injection h with h; injection h with _ h; subst h
      exact freezeCells_box hf hb ha
    · cases h
  · exact freezeCell_box h hb ha

/-- A store keeps variables variables. -/
theorem store_box {P : Program} {hp hp' : Hp} {t : TypeId} {p x : PV} (h : storeA P hp t p x = some hp') {id : Nat} {b : Blk} (hb : hp id = some b) (ha : b.arr = false) : ∃ b', hp' id = some b' ∧ b'.arr = false := by
  unfold storeA at h
  split at h
  · rename_i id' i j
    split at h
    · rename_i b0 hb0
      split at h
      · rename_i y hp1 hf
        have h1 : hp1 id = some b := by
          split at hf
          · exact freezeVal_box hf hb ha
          · injection hf with hf; injection hf with _ hf; subst hf; exact hb
        split at h
        · rename_i b1 n hb1 _
          split at h
          · split at h
            · injection h with h
              subst h
              by_cases he : id = id'
              · subst he
                rw [h1] at hb1
                injection hb1 with hb1
                subst hb1
                exact ⟨_, upd_same _ _ _, ha⟩
              · exact ⟨b, by rw [upd_other _ _ _ _ he]; exact h1, ha⟩
            · cases h
          · cases h
        · cases h
      · cases h
    · cases h
  · cases h
/-- A store into a variable touches its block alone. -/
theorem store_only {P : Program} {hp hp' : Hp} {t : TypeId} {id i j : Nat} {x : PV} {b : Blk} (h : storeA P hp t (.ref id i j) x = some hp') (hb : hp id = some b) (ha : b.arr = false) {k : Nat} (hk : k ≠ id) : hp' k = hp k := by
  simp only [storeA, hb, ha] at h
  simp only [Bool.false_eq_true, if_false] at h
  split at h
  · split at h
    · split at h
      · injection h with h
        subst h
        exact upd_other _ _ _ _ hk
      · cases h
    · cases h
  · cases h
theorem store_upd {P : Program} {hp : Hp} {t : TypeId} {id i j : Nat} {x : PV} {b : Blk} (hb : hp id = some b) (ha : b.arr = false) : ∃ o : Option Blk, storeA P hp t (.ref id i j) x = o.map fun b' => upd hp id (some b') := by
  simp only [storeA, hb, ha]
  simp only [Bool.false_eq_true, if_false]
  split
  · split
    · split
      · exact ⟨some _, rfl⟩
      · exact ⟨none, rfl⟩
    · exact ⟨none, rfl⟩
  · exact ⟨none, rfl⟩

theorem pair_comm {D : List (Tmp × Tmp)} {ops : Array Oper} {l s : Oper} {t t' : TypeId} {a b : Tmp} {x : Operand} (hl : l.op = .load t (.tmp a)) (hs : s.op = .store t' (.tmp b) x) (gl : l.guard = none) (gs : s.guard = none) (hap : l.apart ops s = true) {st : St} (hA : apart1 st a b) :
    (stepA C ops l st).bind (stepA C ops s) = (stepA C ops s st).bind (stepA C ops l) := by
  obtain ⟨h1, h2, h3⟩ := Oper.apart_spec hap
  have wl : ∀ σ, Region.wanted l (yieldA ops σ) = true := fun σ => by unfold Region.wanted; rw [gl]
  have ws : ∀ σ, Region.wanted s (yieldA ops σ) = true := fun σ => by unfold Region.wanted; rw [gs]
  have rl : ∀ σ hp nx, rawA C ops l σ hp nx = (loadA C.P hp t (σ a)).map fun y => (y, hp, nx) := fun σ hp nx => by simp only [rawA, wl, if_true, hl, evalOp, get]
  have cs : ∀ y hp nx, rawA C ops s (put st.σ l.dst y) hp nx = rawA C ops s st.σ hp nx := fun y hp nx => rawA_congr fun u hu => put_other fun e he hte => h1 e he (hte ▸ hu)
  have cl : ∀ y hp nx, rawA C ops l (put st.σ s.dst y) hp nx = rawA C ops l st.σ hp nx := fun y hp nx => rawA_congr fun u hu => put_other fun e he hte => h3 e he (hte ▸ hu)
  have comm : ∀ y z, put (put st.σ l.dst y) s.dst z = put (put st.σ s.dst z) l.dst y := fun y z => put_comm h2
  obtain ⟨id, i, j, id', i', j', blk, ea, eb, hne, hb, harr⟩ := hA
  have rs : ∃ o : Option Blk, rawA C ops s st.σ st.hp st.nx = o.map fun b' => (.tup [], upd st.hp id' (some b'), st.nx) := by
    simp only [rawA, ws, if_true, hs, evalOp]
    cases hx : get st.σ x with
    | none => exact ⟨none, by simp [get]⟩
    | some y =>
      obtain ⟨o, ho⟩ := store_upd (P := C.P) (t := t') (i := i') (j := j') (x := y) hb harr
      refine ⟨o, ?_⟩
      simp only [get, eb, ho]
      cases o <;> rfl
  obtain ⟨o, ho⟩ := rs
  have hload : ∀ b' : Blk, loadA C.P (upd st.hp id' (some b')) t (st.σ a) = loadA C.P st.hp t (st.σ a) := fun b' => by
    rw [ea]
    simp only [loadA, upd_other _ _ _ _ hne]
  rw [stepA_raw ops l st, stepA_raw ops s st, rl, ho]
  cases hv : loadA C.P st.hp t (st.σ a) with
  | none =>
    cases o with
    | none => rfl
    | some b' =>
      simp only [Option.map_some, Option.map_none, Option.bind_some, Option.bind_none]
      rw [stepA_raw]
      simp only [cl, rl, hload, hv, Option.map_none]
  | some y =>
    simp only [Option.map_some, Option.bind_some]
    rw [stepA_raw]
    simp only [cs, ho]
    cases o with
    | none => rfl
    | some b' =>
      simp only [Option.map_some, Option.bind_some]
      rw [stepA_raw]
      simp only [cl, rl, hload, hv, Option.map_some, comm]

theorem load_comm {ops : Array Oper} {l c : Oper} {t : TypeId} {a : Tmp} {g : FuncId} {as : Array Operand} {ts : Array TypeId} {L : List Tmp} (hl : l.op = .load t (.tmp a)) (hc : c.op = .call ⟨.value (.func g), as, ts⟩) (hk : ∀ spec, C.Γ g = some spec → BoxKeep spec) (gl : l.guard = none) (gc : c.guard = none) (hap : l.apart ops c = true) {st : St} (hA : RefsA L st) (ha : a ∈ L) :
    (stepA C ops l st).bind (stepA C ops c) = (stepA C ops c st).bind (stepA C ops l) := by
  obtain ⟨h1, h2, h3⟩ := Oper.apart_spec hap
  have wl : ∀ σ, Region.wanted l (yieldA ops σ) = true := fun σ => by unfold Region.wanted; rw [gl]
  have wc : ∀ σ, Region.wanted c (yieldA ops σ) = true := fun σ => by unfold Region.wanted; rw [gc]
  have rl : ∀ σ hp nx, rawA C ops l σ hp nx = (loadA C.P hp t (σ a)).map fun y => (y, hp, nx) := fun σ hp nx => by simp only [rawA, wl, if_true, hl, evalOp, get]
  have cs : ∀ y hp nx, rawA C ops c (put st.σ l.dst y) hp nx = rawA C ops c st.σ hp nx := fun y hp nx => rawA_congr fun u hu => put_other fun e he hte => h1 e he (hte ▸ hu)
  have cl : ∀ y hp nx, rawA C ops l (put st.σ c.dst y) hp nx = rawA C ops l st.σ hp nx := fun y hp nx => rawA_congr fun u hu => put_other fun e he hte => h3 e he (hte ▸ hu)
  have comm : ∀ y z, put (put st.σ l.dst y) c.dst z = put (put st.σ c.dst z) l.dst y := fun y z => put_comm h2
  have hload : ∀ z hp' nx', rawA C ops c st.σ st.hp st.nx = some (z, hp', nx') → loadA C.P hp' t (st.σ a) = loadA C.P st.hp t (st.σ a) := by
    intro z hp' nx' hr
    simp only [rawA, wc, if_true, hc, evalOp, evalCall] at hr
    split at hr
    · simp only [get, callVal] at hr
      split at hr
      · rename_i spec hs
        have hb := (hk spec hs _ _ _ _ _ _ hr).2
        cases hσ : st.σ a with
        | ref id i j =>
          obtain ⟨e1, blk, e2, e3⟩ := hA a ha id i j hσ
          simp only [loadA, hb id blk e1 e2 e3, e2]
        | _ => rfl
      · cases hr
    · cases hr
  rw [stepA_raw ops l st, stepA_raw ops c st, rl]
  cases hr : rawA C ops c st.σ st.hp st.nx with
  | none =>
    cases hv : loadA C.P st.hp t (st.σ a) with
    | none => rfl
    | some y =>
      simp only [Option.map_some, Option.map_none, Option.bind_some, Option.bind_none]
      rw [stepA_raw]
      simp only [cs, hr, Option.map_none]
  | some q =>
    obtain ⟨z, hp', nx'⟩ := q
    have hlo := hload z hp' nx' hr
    cases hv : loadA C.P st.hp t (st.σ a) with
    | none =>
      simp only [Option.map_some, Option.map_none, Option.bind_some, Option.bind_none]
      rw [stepA_raw]
      simp only [cl, rl, hlo, hv, Option.map_none]
    | some y =>
      simp only [Option.map_some, Option.bind_some]
      rw [stepA_raw, stepA_raw]
      simp only [cs, hr, cl, rl, hlo, hv, Option.map_some, comm]

theorem commD_ok (hpf : ∀ g spec, pf g = true → C.Γ g = some spec → Quiet spec) {bk : FuncId → Bool} (hbk : ∀ g spec, bk g = true → C.Γ g = some spec → BoxKeep spec) {D : List (Tmp × Tmp)} {L : List Tmp} {ops : Array Oper} (hpl : plainB pf D L bk ops = true) : CommOk C ops (commD pf D L bk ops) (fun st => ApartA D st ∧ RefsA L st) := by
  refine ⟨fun i o st st' ho hA hs => ?_, fun i j a b st ha hb hcm hA => ?_⟩
  · simp only [plainB, Bool.or_eq_true, Bool.and_eq_true] at hpl
    rcases hpl with ⟨hD, hL⟩ | hpl
    · have hD : D = [] := by simpa using hD
      have hL : L = [] := by simpa using hL
      subst hD; subst hL
      exact ⟨(fun p hp => (by cases hp)), (fun s hs => (by cases hs))⟩
    have h0 := Array.all_eq_true'.1 hpl o (Array.mem_of_getElem? ho)
    simp only [Bool.and_eq_true, Bool.or_eq_true, decide_eq_true_eq] at h0
    obtain ⟨⟨hd, hld⟩, hk⟩ := h0
    rw [stepA_raw] at hs
    obtain ⟨r, hr, hst⟩ := map_some_inv hs
    obtain ⟨y, hp1, nx1⟩ := r
    subst hst
    -- what becomes of variables
    have hbox : (∀ id blk, st.hp id = some blk → blk.arr = false → D ≠ [] ∨ id < st.nx → ∃ b', hp1 id = some b' ∧ b'.arr = false) ∧ st.nx ≤ nx1 := by
      rcases hk with hk | hk
      · obtain ⟨rfl, rfl⟩ := raw_quiet1 hpf hk hr
        exact ⟨fun id blk h1 h2 _ => ⟨blk, h1, h2⟩, Nat.le_refl _⟩
      · unfold rawA at hr
        split at hr
        · split at hk
          · rename_i t q x hop
            rw [hop] at hr
            simp only [evalOp] at hr
            split at hr
            · obtain ⟨h2, e1, e2⟩ := map_some_inv hr
              injection e2 with _ e2
              injection e2 with e2 e3
              subst e2; subst e3
              exact ⟨fun id blk h1 h2 _ => store_box e1 h1 h2, Nat.le_refl _⟩
            · cases hr
          · rename_i g as ts hop
            simp only [Bool.and_eq_true] at hk
            rw [hop] at hr
            simp only [evalOp, evalCall] at hr
            split at hr
            · simp only [get, callVal] at hr
              split at hr
              · rename_i spec hsp
                obtain ⟨e1, e2⟩ := hbk g spec hk.2 hsp _ _ _ _ _ _ hr
                refine ⟨fun id blk h1 h2 h3 => ?_, e1⟩
                rcases h3 with h3 | h3
                · exact absurd (by simpa using hk.1) h3
                · exact ⟨blk, e2 id blk h3 h1 h2, h2⟩
              · cases hr
            · cases hr
          · cases hk
        · injection hr with hr
          injection hr with _ hr
          injection hr with e1 e2
          subst e1; subst e2
          exact ⟨fun id blk h1 h2 _ => ⟨blk, h1, h2⟩, Nat.le_refl _⟩
    refine ⟨fun p hp => ?_, fun s hsL id i' j' hs' => ?_⟩
    rotate_left
    · replace hs' : put st.σ o.dst y s = .ref id i' j' := hs'
      have hlow : id < st.nx ∧ ∃ blk, st.hp id = some blk ∧ blk.arr = false := by
        have hl := List.all_eq_true.1 hld s hsL
        simp only [Bool.or_eq_true, bne_iff_ne] at hl
        by_cases hds : o.dst = some s
        · rcases hl with hl | hl
          · exact absurd hds hl
          · split at hl
            · rename_i t b f hop
              have hy : y = .ref id i' j' := by
                simp only [hds, put] at hs'
                rw [upd_same] at hs'
                exact hs'
              subst hy
              unfold rawA at hr
              split at hr
              · rw [hop] at hr
                simp only [evalOp, get] at hr
                obtain ⟨z, e1, e2⟩ := map_some_inv hr
                injection e2 with e2 _
                subst e2
                unfold fieldAddrA at e1
                split at e1
                · split at e1
                  · split at e1
                    · cases e1
                    · injection e1 with e1; cases e1
                  · cases e1
                · rename_i id0 i0 j0 hσ
                  split at e1
                  · split at e1
                    · cases e1
                    · injection e1 with e1
                      injection e1 with e1 _ _
                      subst e1
                      exact hA.2 b (by simpa using hl) _ _ _ hσ
                  · cases e1
                · cases e1
              · injection hr with hr
                injection hr with hr _
                cases hr
            · cases hl
        · rw [put_other (fun e he => by rintro rfl; exact hds he)] at hs'
          exact hA.2 s hsL id i' j' hs'
      obtain ⟨h1, blk, h2, h3⟩ := hlow
      exact ⟨Nat.lt_of_lt_of_le h1 hbox.2, hbox.1 id blk h2 h3 (.inr h1)⟩
    · obtain ⟨id, k, m, id', k', m', blk, ea, eb, hne, hbl, harr⟩ := hA.1 p hp
      have hd := List.all_eq_true.1 hd p hp
      simp only [Bool.and_eq_true, bne_iff_ne] at hd
      have ea' : put st.σ o.dst y p.1 = .ref id k m := by rw [put_other (fun e he => by rintro rfl; exact hd.1 he)]; exact ea
      have eb' : put st.σ o.dst y p.2 = .ref id' k' m' := by rw [put_other (fun e he => by rintro rfl; exact hd.2 he)]; exact eb
      obtain ⟨b', hb1, hb2⟩ := hbox.1 id' blk hbl harr (.inl (by rintro rfl; cases hp))
      exact ⟨id, k, m, id', k', m', b', ea', eb', hne, hb1, hb2⟩
  · simp only [commD, Bool.or_eq_true] at hcm
    rcases hcm with hcm | hcm
    · exact step_comm hpf hcm st
    · simp only [pairB, Bool.and_eq_true, Option.isNone_iff_eq_none] at hcm
      obtain ⟨⟨⟨⟨hap, hap2⟩, ga⟩, gb⟩, hm⟩ := hcm
      split at hm
      · rename_i t u t' v x h1 h2
        exact pair_comm (D := D) h1 h2 ga gb hap (hA.1 _ (by simpa using hm))
      · rename_i t v x t' u h1 h2
        exact (pair_comm (D := D) h2 h1 gb ga hap2 (hA.1 _ (by simpa using hm))).symm
      · rename_i t u g as ts h1 h2
        simp only [Bool.and_eq_true, List.contains_iff_mem] at hm
        exact load_comm h1 h2 (fun spec hs => hbk g spec hm.2 hs) ga gb hap hA.2 hm.1
      · rename_i g as ts t u h1 h2
        simp only [Bool.and_eq_true, List.contains_iff_mem] at hm
        exact (load_comm h2 h1 (fun spec hs => hbk g spec hm.2 hs) gb ga hap2 hA.2 hm.1).symm
      · cases hm
end
end Go.AM
