/-
  The abstract machine, part 17: from what the row reads to pure arguments; a law's call.
-/
import Derived.Test.YtphmgjcjcdodhaaAm16
import Derived.ProofKit
namespace Go.AM
open Go.RowKit Go.WideShapes Go.ChangeShapes

/-- Pure cells of a type. Bl: what is known of lengths. -/
def Typed (P : Program) (Bl : Nat → Prop) : Nat → TypeId → List PV → Prop
  | 0, _, _ => False
  | n + 1, t, pvs => match P.underlying t with
    | some .bool => ∃ b, pvs = [.v (.bool b)]
    | some (.int k) => ∃ i, pvs = [.v (.int k i)] ∧ (Lit.int k i).wf = true
    | some .string => ∃ s : ByteArray, pvs = [.v (.string s)] ∧ s.size ≤ maxLen ∧ Bl s.size
    | some (.slice e) => ∃ es, pvs = [.sl (P.cellsOf e) es] ∧ es.length ≤ maxLen ∧ Bl es.length ∧ ∀ c ∈ es, c.length = P.cellsOf e ∧ Typed P Bl n e c
    | some (.struct fs) => pvs.length = P.cellsOf t ∧ ∀ f ∈ fs.toList, Typed P Bl n f.type ((pvs.drop f.offset).take (P.cellsOf f.type))
    | _ => False

/-- Types that are read: bools, ints, strings, slices and structs of these, the fields one after the other. -/
def tiled (P : Program) : Nat → List Field → Option Nat
  | o, [] => some o
  | o, f :: fs => if f.offset = o then tiled P (o + P.cellsOf f.type) fs else none

def typesOk (P : Program) (T : List TypeId) : Bool := T.all fun t => match P.underlying t with
  | some .bool | some (.int _) | some .string => P.cellsOf t == 1
  | some (.slice e) => P.cellsOf t == 1 && T.contains e && decide (0 < P.cellsOf e)
  | some (.struct fs) => tiled P 0 fs.toList == some (P.cellsOf t) && fs.toList.all fun f => T.contains f.type
  | _ => false

/-- What a bound on the data gives. -/
structure Bounds (H : Type) (Bl : Nat → Prop) (Bd : DataW H → Prop) : Prop where
  slice : ∀ es sp, Bd (.slice es sp) → Bl es.length ∧ ∀ d ∈ es, Bd d
  nil : Bl 0
  agg : ∀ l, Bd (.agg l) → ∀ d ∈ l, Bd d
  str : ∀ b, Bd (.lit (.string b)) → Bl b.length

theorem bounds_all (H : Type) : Bounds H (fun _ => True) (fun _ => True) := ⟨fun _ _ _ => ⟨trivial, fun _ _ => trivial⟩, trivial, fun _ _ _ _ => trivial, fun _ _ => trivial⟩

section
variable {H : Type} {enc : TypeId × Value → H} {P : Program} {w : World} {sp : Nat → Bool} {held : Bool} {Bl : Nat → Prop} {Bd : DataW H → Prop}

theorem drop_take_get {α : Type} {l : List α} {o n j : Nat} (hj : j < n) : ((l.drop o).take n)[j]? = l[o + j]? := by
  rw [List.getElem?_take, if_pos hj, List.getElem?_drop]

/-- The fields' cells put together. -/
theorem tile_join {R : PV → Value → Prop} {Q : Field → List PV → Prop} : ∀ (fs : List Field) (o n : Nat) (cs : List Value), tiled P o fs = some n → cs.length = n →
    (∀ f ∈ fs, ∃ pvs, Zip R pvs ((cs.drop f.offset).take (P.cellsOf f.type)) ∧ Q f pvs) →
    ∃ pvs : List PV, pvs.length + o = n ∧ (∀ (j : Nat) (pv : PV) (u : Value), pvs[j]? = some pv → cs[o + j]? = some u → R pv u) ∧ ∀ f ∈ fs, o ≤ f.offset ∧ Q f ((pvs.drop (f.offset - o)).take (P.cellsOf f.type))
  | [], o, n, cs, ht, hl, _ => by
    simp only [tiled] at ht
    injection ht with ht
    subst ht
    exact ⟨[], by simp, by simp, by simp⟩
  | f :: fs, o, n, cs, ht, hl, h => by
    simp only [tiled] at ht
    split at ht
    · rename_i ho
      obtain ⟨p1, hz, hq⟩ := h f (by simp)
      obtain ⟨p2, h1, h2, h3⟩ := tile_join fs (o + P.cellsOf f.type) n cs ht hl (fun f' hf' => h f' (by simp [hf']))
      have hl1 : p1.length = P.cellsOf f.type := by
        have := hz.1
        simp only [List.length_take, List.length_drop] at this
        omega
      refine ⟨p1 ++ p2, by simp; omega, fun j pv u hj hu => ?_, fun f' hf' => ?_⟩
      · by_cases hjl : j < p1.length
        · rw [List.getElem?_append_left hjl] at hj
          refine hz.2 j pv u hj ?_
          rw [drop_take_get (by omega), ho]
          exact hu
        · rw [List.getElem?_append_right (by omega)] at hj
          refine h2 (j - p1.length) pv u hj ?_
          rw [show o + P.cellsOf f.type + (j - p1.length) = o + j from by omega]
          exact hu
      · rcases List.mem_cons.1 hf' with rfl | hf'
        · refine ⟨by omega, ?_⟩
          have : ((p1 ++ p2).drop (f'.offset - o)).take (P.cellsOf f'.type) = p1 := by
            rw [show f'.offset - o = 0 from by omega, List.drop_zero, ← hl1, List.take_left]
          rw [this]
          exact hq
        · obtain ⟨a1, a2⟩ := h3 f' hf'
          refine ⟨by omega, ?_⟩
          have : (p1 ++ p2).drop (f'.offset - o) = p2.drop (f'.offset - (o + P.cellsOf f.type)) := by
            rw [List.drop_append, List.drop_eq_nil_of_le (by omega), List.nil_append]
            congr 1
            omega
          rw [this]
          exact a2
    · cases ht

theorem trod_typed (hb : Bounds H Bl Bd) {T : List TypeId} (hT : typesOk P T = true) : ∀ (fuel : Nat) (t : TypeId) (cs : List Value) (d : DataW H) (ps : List MemPlace), t ∈ T → Bd d → DataW.trod enc P w 0 sp held fuel t cs = some (d, ps) →
    ∃ pvs, Zip (fun pv u => RepC w (fun b => b < w.heap.size) pv u ∧ u.oneCell' = true) pvs cs ∧ cs.length = P.cellsOf t ∧ Typed P Bl fuel t pvs
  | 0, t, cs, d, ps, _, _, h => by simp [DataW.trod] at h
  | n + 1, t, cs, d, ps, ht, hd, h => by
    have hTt := List.all_eq_true.1 hT t ht
    have one : ∀ {pv : PV} {u : Value}, RepC w (fun b => b < w.heap.size) pv u → u.oneCell' = true → Zip (fun pv u => RepC w (fun b => b < w.heap.size) pv u ∧ u.oneCell' = true) [pv] [u] := fun h1 h2 => .cons ⟨h1, h2⟩ .nil
    split at hTt
    · rename_i hu
      obtain ⟨b, rfl, hx⟩ := DataW.trod_bool hu h
      exact ⟨[.v (.bool b)], one (.v rfl) rfl, by simpa using (by simpa using hTt : P.cellsOf t = 1).symm, by unfold Typed; rw [hu]; exact ⟨b, rfl⟩⟩
    · rename_i k hu
      obtain ⟨i, rfl, hx, hwf⟩ := DataW.trod_int hu h
      exact ⟨[.v (.int k i)], one (.v rfl) rfl, by simpa using (by simpa using hTt : P.cellsOf t = 1).symm, by unfold Typed; rw [hu]; exact ⟨i, rfl, hwf⟩⟩
    · rename_i hu
      obtain ⟨s, rfl, hx, hs⟩ := DataW.trod_string hu h
      simp only [Prod.mk.injEq] at hx
      have hbl := hb.str s.data.toList (hx.1 ▸ hd)
      have hsz : s.data.toList.length = s.size := Array.length_toList
      rw [hsz] at hbl
      exact ⟨[.v (.string s)], one (.v rfl) rfl, by simpa using (by simpa using hTt : P.cellsOf t = 1).symm, by unfold Typed; rw [hu]; exact ⟨s, rfl, hs, hbl⟩⟩
    · rename_i e hu
      simp only [Bool.and_eq_true, beq_iff_eq, decide_eq_true_eq, List.contains_iff_mem] at hTt
      obtain ⟨⟨hc1, heT⟩, hce⟩ := hTt
      rcases DataW.trod_slice hu h with ⟨rfl, hx⟩ | ⟨a, len, cap, elems, rest, m, hm, rfl, hx, _, hlc, hcm, hel, hget, _, _⟩
      · refine ⟨[.sl (P.cellsOf e) []], one ?_ rfl, by simp [hc1], by unfold Typed; rw [hu]; exact ⟨[], rfl, by simp, hb.nil, by simp⟩⟩
        exact RepC.sl (es := []) (s := P.cellsOf e) (fun _ _ => undef) (by simp) (by simp) (by simp [maxLen]) (by simp) (by simp) (by simp)
      · obtain rfl : m = n := by omega
        simp only [Prod.mk.injEq] at hx
        obtain ⟨hbl, hbe⟩ := hb.slice _ _ (hx.1 ▸ hd)
        have hel' : ∀ i, i < len → ∃ cs' y, w.cells? 0 (a.add (i * P.cellsOf e)) (P.cellsOf e) = some cs' ∧ elems[i]? = some y ∧ DataW.trod enc P w 0 sp held m e cs' = some y := by
          intro i hi
          have h1 := hget i hi
          have h2 : elems[i]? = some (elems[i]'(by omega)) := List.getElem?_eq_getElem (by omega)
          rw [h2] at h1
          cases hc : w.cells? 0 (a.add (i * P.cellsOf e)) (P.cellsOf e) with
          | none => simp [hc] at h1
          | some cs' => exact ⟨cs', _, rfl, h2, by simpa [hc] using h1⟩
        have hall : ∀ i, ∃ pvs cs' : List Value × List PV, i < len → w.cells? 0 (a.add (i * P.cellsOf e)) (P.cellsOf e) = some pvs.1 ∧ Zip (fun pv u => RepC w (fun b => b < w.heap.size) pv u ∧ u.oneCell' = true) pvs.2 pvs.1 ∧ pvs.1.length = P.cellsOf e ∧ Typed P Bl m e pvs.2 := by
          intro i
          by_cases hi : i < len
          · obtain ⟨cs', y, g1, g2, g3⟩ := hel' i hi
            obtain ⟨pvs, q1, q2, q3⟩ := trod_typed hb hT m e cs' y.1 y.2 heT (hbe y.1 (by
              have : elems.map (·.1) = elems.map (·.1) := rfl
              exact List.mem_map.2 ⟨y, List.mem_of_getElem? g2, rfl⟩)) (by rw [g3])
            exact ⟨(cs', pvs), (cs', pvs), fun _ => ⟨g1, q1, q2, q3⟩⟩
          · exact ⟨([], []), ([], []), fun h => absurd h hi⟩
        have hch : ∀ i, ∃ q : List Value × List PV, i < len → w.cells? 0 (a.add (i * P.cellsOf e)) (P.cellsOf e) = some q.1 ∧ Zip (fun pv u => RepC w (fun b => b < w.heap.size) pv u ∧ u.oneCell' = true) q.2 q.1 ∧ q.1.length = P.cellsOf e ∧ Typed P Bl m e q.2 := fun i => by
          obtain ⟨q, _, hq⟩ := hall i
          exact ⟨q, hq⟩
        let q : Nat → List Value × List PV := fun i => Classical.choose (hch i)
        have hq : ∀ i, i < len → w.cells? 0 (a.add (i * P.cellsOf e)) (P.cellsOf e) = some (q i).1 ∧ Zip (fun pv u => RepC w (fun b => b < w.heap.size) pv u ∧ u.oneCell' = true) (q i).2 (q i).1 ∧ (q i).1.length = P.cellsOf e ∧ Typed P Bl m e (q i).2 := fun i => Classical.choose_spec (hch i)
        have hlen : ((List.range len).map fun i => (q i).2).length = len := by simp
        have hgi : ∀ (i : Nat) (c : List PV), ((List.range len).map fun i => (q i).2)[i]? = some c → i < len ∧ c = (q i).2 := by
          intro i c hi
          have hil : i < len := by have := (List.getElem?_eq_some_iff.1 hi).1; simpa using this
          rw [List.getElem?_map, List.getElem?_range hil] at hi
          simp at hi
          exact ⟨hil, hi.symm⟩
        have key : RepC w (fun b => b < w.heap.size) (.sl (P.cellsOf e) ((List.range len).map fun i => (q i).2)) (.slice (some a) ((List.range len).map fun i => (q i).2).length cap) := by
          refine .sl (fun i j => ((q i).1[j]?).getD undef) (by simp) (by rw [hlen]; exact hlc) hcm (fun c hc => ?_) (fun i j c pv hi hj => ?_) (fun i j c pv hi hj => ?_)
          · obtain ⟨i, hi, rfl⟩ := List.mem_map.1 hc
            have h1 := hq i (List.mem_range.1 hi)
            rw [h1.2.1.1, h1.2.2.1]
          · obtain ⟨hil, rfl⟩ := hgi i c hi
            obtain ⟨g1, g2, g3, _⟩ := hq i hil
            have hjl : j < (q i).1.length := by rw [← g2.1]; exact (List.getElem?_eq_some_iff.1 hj).1
            have hju : (q i).1[j]? = some ((q i).1[j]) := List.getElem?_eq_getElem hjl
            obtain ⟨_, g5, g6⟩ := World.cells?_some g1
            have hcell := g6 j (by omega)
            rw [add_add] at hcell
            rw [hju] at hcell
            refine ⟨a, rfl, ?_, ?_, ?_⟩
            · have := block_lt_of_cell hcell
              rwa [add_block] at this
            · rw [hcell, hju]; rfl
            · rw [hju]; exact (g2.2 j pv _ hj hju).2
          · obtain ⟨hil, rfl⟩ := hgi i c hi
            obtain ⟨g1, g2, g3, _⟩ := hq i hil
            have hjl : j < (q i).1.length := by rw [← g2.1]; exact (List.getElem?_eq_some_iff.1 hj).1
            have hju : (q i).1[j]? = some ((q i).1[j]) := List.getElem?_eq_getElem hjl
            rw [hju]
            exact (g2.2 j pv _ hj hju).1
        rw [hlen] at key
        refine ⟨[.sl (P.cellsOf e) ((List.range len).map fun i => (q i).2)], one key rfl, by simp [hc1], ?_⟩
        unfold Typed
        rw [hu]
        refine ⟨_, rfl, by rw [hlen]; omega, ?_, fun c hc => ?_⟩
        · rw [hlen]
          have : (elems.map (·.1)).length = len := by simpa using hel
          rwa [this] at hbl
        · obtain ⟨i, hi, rfl⟩ := List.mem_map.1 hc
          have h1 := hq i (List.mem_range.1 hi)
          exact ⟨by rw [h1.2.1.1, h1.2.2.1], h1.2.2.2⟩
    · rename_i fs hu
      simp only [Bool.and_eq_true, beq_iff_eq, List.all_eq_true, List.contains_iff_mem] at hTt
      obtain ⟨htile, hfT⟩ := hTt
      obtain ⟨xs, m, hm, hx, hcl, hxl, hf⟩ := DataW.trod_struct hu h
      obtain rfl : m = n := by omega
      simp only [Prod.mk.injEq] at hx
      have hba := hb.agg _ (hx.1 ▸ hd)
      obtain ⟨pvs, g1, g2, g3⟩ := tile_join (P := P) (R := fun pv u => RepC w (fun b => b < w.heap.size) pv u ∧ u.oneCell' = true) (Q := fun f pvs => Typed P Bl m f.type pvs) fs.toList 0 (P.cellsOf t) cs htile hcl (fun f hfm => by
        obtain ⟨i, hi⟩ := List.getElem?_of_mem hfm
        have hfi := hf i f (by simpa using hi)
        have hil : i < xs.length := by rw [hxl]; have := (List.getElem?_eq_some_iff.1 hi).1; simpa using this
        rw [List.getElem?_eq_getElem hil] at hfi
        obtain ⟨pvs, q1, _, q3⟩ := trod_typed hb hT m f.type _ (xs[i]).1 (xs[i]).2 (hfT f hfm) (hba _ (List.mem_map.2 ⟨xs[i], List.getElem_mem hil, rfl⟩)) hfi
        exact ⟨pvs, q1, q3⟩)
      refine ⟨pvs, ⟨by omega, fun j pv u hj hu' => g2 j pv u hj (by simpa using hu')⟩, hcl, ?_⟩
      unfold Typed
      rw [hu]
      exact ⟨by omega, fun f hfm => by have := (g3 f hfm).2; simpa using this⟩
    · cases hTt

/-- An argument, as a pure value. -/
theorem arg_typed (hb : Bounds H Bl Bd) {T : List TypeId} (hT : typesOk P T = true) {t : TypeId} {v : Value} {d : DataW H} {ps : List MemPlace} {r : Reach} {base : Nat} (ht : t ∈ T) (hd : Bd d) (hv : Value.okWide P w r base t v) (h : DataW.Trod enc P w 0 sp held t v d ps) :
    ∃ (n : Nat) (pvs : List PV) (p : PV), Typed P Bl n t pvs ∧ RepC w (fun b => b < w.heap.size) p v ∧ p.cells = pvs ∧ ((∃ fs, P.underlying t = some (.struct fs)) → p = .agg pvs) ∧ ((¬ ∃ fs, P.underlying t = some (.struct fs)) → pvs = [p]) := by
  obtain ⟨n, hn⟩ := h
  obtain ⟨pvs, h1, h2, h3⟩ := trod_typed hb hT n t v.cells.toList d ps ht hd hn
  by_cases hs : ∃ fs, P.underlying t = some (.struct fs)
  · obtain ⟨fs, hu⟩ := hs
    obtain ⟨cs, rfl, hsz⟩ := okWide_struct hu hv
    refine ⟨n, pvs, .agg pvs, h3, .agg (by have := h1.1; simpa [Value.cells] using this) (fun j pv u hj hu' => (h1.2 j pv u hj (by simpa [Value.cells] using hu')).1), rfl, fun _ => rfl, fun h => absurd ⟨fs, hu⟩ h⟩
  · have hTt := List.all_eq_true.1 hT t ht
    have hc1 : P.cellsOf t = 1 := by
      split at hTt
      · simpa using hTt
      · simpa using hTt
      · simpa using hTt
      · simp only [Bool.and_eq_true, beq_iff_eq] at hTt; exact hTt.1.1
      · rename_i fs hu; exact absurd ⟨fs, hu⟩ hs
      · cases hTt
    rw [hc1] at h2
    match pvs, h1, h3 with
    | [], h1, h3 => have := h1.1; rw [h2] at this; simp at this
    | p :: q :: l, h1, h3 => have := h1.1; rw [h2] at this; simp at this
    | [p], h1, h3 =>
      obtain ⟨u, hu, hr, ho⟩ := zip_one h1
      have hvu : v = u := by
        cases v with
        | agg cs =>
          simp only [Value.cells] at hu
          -- a value of a type of one cell that is no struct is no aggregate
          exfalso
          split at hTt
          · rename_i hun; simp [Value.okWide, hun, Cell.okWide, Cell.ok] at hv
          · rename_i hun; simp [Value.okWide, hun, Cell.okWide, Cell.ok] at hv
          · rename_i hun; simp [Value.okWide, hun, Cell.okWide, Cell.ok] at hv
          · rename_i hun; simp [Value.okWide, hun, Cell.okWide, Cell.ok] at hv
          · rename_i fs hun; exact hs ⟨fs, hun⟩
          · cases hTt
        | _ => simpa [Value.cells] using hu
      subst hvu
      refine ⟨n, [p], p, h3, hr, ?_, fun h => absurd h hs, fun _ => rfl⟩
      have hp : p.isCell = true ∨ p.isCell = false := by cases p.isCell <;> simp
      rcases hp with hp | hp
      · cases p <;> first | rfl | simp [PV.isCell] at hp
      · cases hr <;> first | rfl | (simp [Value.oneCell'] at ho)

end

section
variable {C : Ctx} {pf : FuncId → Bool} {f : FuncId} {fn : Func} {code : Code}

/-- A law's call. -/
theorem law_calls (hg : Good C pf) (hk : Known C pf f fn code) {args : List PV} (h : evalPure C fn args = some (.v (.bool true))) (hn : args.length ≤ fn.ntmps) {w : World} {vs : List Value} (hz : Zip (RepC w (fun b => b < w.heap.size)) args vs) :
    Calls C.P f vs.toArray w fun e w' => e = .returned (.bool true) ∧ Below w.heap.size w w' := by
  unfold evalPure at h
  split at h
  · rename_i x hpe nxe hef
    obtain ⟨⟨r, hp2⟩, hfz, hr⟩ := map_some_inv h
    simp only at hr
    subst hr
    refine (run_closed hg hk hef hn (fun _ hb => hb) hz).mono fun e w' hh => ?_
    obtain ⟨v, S', G', he, fr, inv', hx, _⟩ := hh
    obtain ⟨S2, _, hc⟩ := freeze_sound inv' hfz hx
    obtain ⟨rfl, _⟩ := hc.v_inv
    exact ⟨he, fr.os, fr.tape, fr.output, fr.size, fun k hk => fr.block k hk fun h => h⟩
  · cases h

end
end Go.AM
