/-
  The abstract machine, part 17: from what the row reads to pure arguments; a law's call.
  The abstract machine, part 18: rules for running it on code that is written out.
  The abstract machine, part 19: contexts, specs of models, slices that a function builds.
-/
import Derived.Test.YtphmgjcjcdodhaaAm14
import Derived.ProofKit
namespace Go.AM
open Go.RowKit Go.WideShapes Go.ChangeShapes

/-- Pure cells of a type. Bl: what is known of lengths. -/
def Typed (P : Program) (Bl : Nat → Prop) : Nat → TypeId → List PV → Prop
  | 0, _, _ => False
  | n + 1, t, pvs => match P.underlying t with
    | some .bool => ∃ b, pvs = [.v (.bool b)]
    | some (.int k) => ∃ i, pvs = [.v (.int k i)] ∧ (Lit.int k i).wf = true
    | some .string => ∃ s : ByteArray, pvs = [.v (.string s)] ∧ s.size ≤ maxLen ∧ Bl s.size
    | some (.slice e) => ∃ es, pvs = [.sl (P.cellsOf e) es] ∧ es.length ≤ maxLen ∧ Bl es.length ∧ ∀ c ∈ es, c.length = P.cellsOf e ∧ Typed P Bl n e c
    | some (.struct fs) => pvs.length = P.cellsOf t ∧ ∀ f ∈ fs.toList, Typed P Bl n f.type ((pvs.drop f.offset).take (P.cellsOf f.type))
    | _ => False

/-- Types that are read: bools, ints, strings, slices and structs of these, the fields one after the other. -/
def tiled (P : Program) : Nat → List Field → Option Nat
  | o, [] => some o
  | o, f :: fs => if f.offset = o then tiled P (o + P.cellsOf f.type) fs else none

def typesOk (P : Program) (T : List TypeId) : Bool := T.all fun t => match P.underlying t with
  | some .bool | some (.int _) | some .string => P.cellsOf t == 1
  | some (.slice e) => P.cellsOf t == 1 && T.contains e && decide (0 < P.cellsOf e)
  | some (.struct fs) => tiled P 0 fs.toList == some (P.cellsOf t) && fs.toList.all fun f => T.contains f.type
  | _ => false

/-- What a bound on the data gives. -/
structure Bounds (H : Type) (Bl : Nat → Prop) (Bd : DataW H → Prop) : Prop where
  slice : ∀ es sp, Bd (.slice es sp) → Bl es.length ∧ ∀ d ∈ es, Bd d
  nil : Bl 0
  agg : ∀ l, Bd (.agg l) → ∀ d ∈ l, Bd d
  str : ∀ b, Bd (.lit (.string b)) → Bl b.length

theorem bounds_all (H : Type) : Bounds H (fun _ => True) (fun _ => True) := ⟨fun _ _ _ => ⟨trivial, fun _ _ => trivial⟩, trivial, fun _ _ _ _ => trivial, fun _ _ => trivial⟩

section
variable {H : Type} {enc : TypeId × Value → H} {P : Program} {w : World} {sp : Nat → Bool} {held : Bool} {Bl : Nat → Prop} {Bd : DataW H → Prop}

theorem drop_take_get {α : Type} {l : List α} {o n j : Nat} (hj : j < n) : ((l.drop o).take n)[j]? = l[o + j]? := by
  rw [List.getElem?_take, if_pos hj, List.getElem?_drop]

/-- The fields' cells put together. -/
theorem tile_join {R : PV → Value → Prop} {Q : Field → List PV → Prop} : ∀ (fs : List Field) (o n : Nat) (cs : List Value), tiled P o fs = some n → cs.length = n →
    (∀ f ∈ fs, ∃ pvs, Zip R pvs ((cs.drop f.offset).take (P.cellsOf f.type)) ∧ Q f pvs) →
    ∃ pvs : List PV, pvs.length + o = n ∧ (∀ (j : Nat) (pv : PV) (u : Value), pvs[j]? = some pv → cs[o + j]? = some u → R pv u) ∧ ∀ f ∈ fs, o ≤ f.offset ∧ Q f ((pvs.drop (f.offset - o)).take (P.cellsOf f.type))
  | [], o, n, cs, ht, hl, _ => by
    simp only [tiled] at ht
    injection ht with ht
    subst ht
    exact ⟨[], by simp, by simp, by simp⟩
  | f :: fs, o, n, cs, ht, hl, h => by
    simp only [tiled] at ht
    split at ht
    · rename_i ho
      obtain ⟨p1, hz, hq⟩ := h f (by simp)
      obtain ⟨p2, h1, h2, h3⟩ := tile_join fs (o + P.cellsOf f.type) n cs ht hl (fun f' hf' => h f' (by simp [hf']))
      have hl1 : p1.length = P.cellsOf f.type := by
        have := hz.1
        simp only [List.length_take, List.length_drop] at this
        omega
      refine ⟨p1 ++ p2, by simp; omega, fun j pv u hj hu => ?_, fun f' hf' => ?_⟩
      · by_cases hjl : j < p1.length
        · rw [List.getElem?_append_left hjl] at hj
          refine hz.2 j pv u hj ?_
          rw [drop_take_get (by omega), ho]
          exact hu
        · rw [List.getElem?_append_right (by omega)] at hj
          refine h2 (j - p1.length) pv u hj ?_
          rw [show o + P.cellsOf f.type + (j - p1.length) = o + j from by omega]
          exact hu
      · rcases List.mem_cons.1 hf' with rfl | hf'
        · refine ⟨by omega, ?_⟩
          have : ((p1 ++ p2).drop (f'.offset - o)).take (P.cellsOf f'.type) = p1 := by
            rw [show f'.offset - o = 0 from by omega, List.drop_zero, ← hl1, List.take_left]
          rw [this]
          exact hq
        · obtain ⟨a1, a2⟩ := h3 f' hf'
          refine ⟨by omega, ?_⟩
          have : (p1 ++ p2).drop (f'.offset - o) = p2.drop (f'.offset - (o + P.cellsOf f.type)) := by
            rw [List.drop_append, List.drop_eq_nil_of_le (by omega), List.nil_append]
            congr 1
            omega
          rw [this]
          exact a2
    · cases ht

theorem trod_typed (hb : Bounds H Bl Bd) {T : List TypeId} (hT : typesOk P T = true) : ∀ (fuel : Nat) (t : TypeId) (cs : List Value) (d : DataW H) (ps : List MemPlace), t ∈ T → Bd d → DataW.trod enc P w 0 sp held fuel t cs = some (d, ps) →
    ∃ pvs, Zip (fun pv u => RepC w (fun b => b < w.heap.size) pv u ∧ u.oneCell' = true) pvs cs ∧ cs.length = P.cellsOf t ∧ Typed P Bl fuel t pvs
  | 0, t, cs, d, ps, _, _, h => by simp [DataW.trod] at h
  | n + 1, t, cs, d, ps, ht, hd, h => by
    have hTt := List.all_eq_true.1 hT t ht
    have one : ∀ {pv : PV} {u : Value}, RepC w (fun b => b < w.heap.size) pv u → u.oneCell' = true → Zip (fun pv u => RepC w (fun b => b < w.heap.size) pv u ∧ u.oneCell' = true) [pv] [u] := fun h1 h2 => .cons ⟨h1, h2⟩ .nil
    split at hTt
    · rename_i hu
      obtain ⟨b, rfl, hx⟩ := DataW.trod_bool hu h
      exact ⟨[.v (.bool b)], one (.v rfl) rfl, by simpa using (by simpa using hTt : P.cellsOf t = 1).symm, by unfold Typed; rw [hu]; exact ⟨b, rfl⟩⟩
    · rename_i k hu
      obtain ⟨i, rfl, hx, hwf⟩ := DataW.trod_int hu h
      exact ⟨[.v (.int k i)], one (.v rfl) rfl, by simpa using (by simpa using hTt : P.cellsOf t = 1).symm, by unfold Typed; rw [hu]; exact ⟨i, rfl, hwf⟩⟩
    · rename_i hu
      obtain ⟨s, rfl, hx, hs⟩ := DataW.trod_string hu h
      simp only [Prod.mk.injEq] at hx
      have hbl := hb.str s.data.toList (hx.1 ▸ hd)
      have hsz : s.data.toList.length = s.size := Array.length_toList
      rw [hsz] at hbl
      exact ⟨[.v (.string s)], one (.v rfl) rfl, by simpa using (by simpa using hTt : P.cellsOf t = 1).symm, by unfold Typed; rw [hu]; exact ⟨s, rfl, hs, hbl⟩⟩
    · rename_i e hu
      simp only [Bool.and_eq_true, beq_iff_eq, decide_eq_true_eq, List.contains_iff_mem] at hTt
      obtain ⟨⟨hc1, heT⟩, hce⟩ := hTt
      rcases DataW.trod_slice hu h with ⟨rfl, hx⟩ | ⟨a, len, cap, elems, rest, m, hm, rfl, hx, _, hlc, hcm, hel, hget, _, _⟩
      · refine ⟨[.sl (P.cellsOf e) []], one ?_ rfl, by simp [hc1], by unfold Typed; rw [hu]; exact ⟨[], rfl, by simp, hb.nil, by simp⟩⟩
        exact RepC.sl (es := []) (s := P.cellsOf e) (fun _ _ => undef) (by simp) (by simp) (by simp [maxLen]) (by simp) (by simp) (by simp)
      · obtain rfl : m = n := by omega
        simp only [Prod.mk.injEq] at hx
        obtain ⟨hbl, hbe⟩ := hb.slice _ _ (hx.1 ▸ hd)
        have hel' : ∀ i, i < len → ∃ cs' y, w.cells? 0 (a.add (i * P.cellsOf e)) (P.cellsOf e) = some cs' ∧ elems[i]? = some y ∧ DataW.trod enc P w 0 sp held m e cs' = some y := by
          intro i hi
          have h1 := hget i hi
          have h2 : elems[i]? = some (elems[i]'(by omega)) := List.getElem?_eq_getElem (by omega)
          rw [h2] at h1
          cases hc : w.cells? 0 (a.add (i * P.cellsOf e)) (P.cellsOf e) with
          | none => simp [hc] at h1
          | some cs' => exact ⟨cs', _, rfl, h2, by simpa [hc] using h1⟩
        have hall : ∀ i, ∃ pvs cs' : List Value × List PV, i < len → w.cells? 0 (a.add (i * P.cellsOf e)) (P.cellsOf e) = some pvs.1 ∧ Zip (fun pv u => RepC w (fun b => b < w.heap.size) pv u ∧ u.oneCell' = true) pvs.2 pvs.1 ∧ pvs.1.length = P.cellsOf e ∧ Typed P Bl m e pvs.2 := by
          intro i
          by_cases hi : i < len
          · obtain ⟨cs', y, g1, g2, g3⟩ := hel' i hi
            obtain ⟨pvs, q1, q2, q3⟩ := trod_typed hb hT m e cs' y.1 y.2 heT (hbe y.1 (by
              have : elems.map (·.1) = elems.map (·.1) := rfl
              exact List.mem_map.2 ⟨y, List.mem_of_getElem? g2, rfl⟩)) (by rw [g3])
            exact ⟨(cs', pvs), (cs', pvs), fun _ => ⟨g1, q1, q2, q3⟩⟩
          · exact ⟨([], []), ([], []), fun h => absurd h hi⟩
        have hch : ∀ i, ∃ q : List Value × List PV, i < len → w.cells? 0 (a.add (i * P.cellsOf e)) (P.cellsOf e) = some q.1 ∧ Zip (fun pv u => RepC w (fun b => b < w.heap.size) pv u ∧ u.oneCell' = true) q.2 q.1 ∧ q.1.length = P.cellsOf e ∧ Typed P Bl m e q.2 := fun i => by
          obtain ⟨q, _, hq⟩ := hall i
          exact ⟨q, hq⟩
        let q : Nat → List Value × List PV := fun i => Classical.choose (hch i)
        have hq : ∀ i, i < len → w.cells? 0 (a.add (i * P.cellsOf e)) (P.cellsOf e) = some (q i).1 ∧ Zip (fun pv u => RepC w (fun b => b < w.heap.size) pv u ∧ u.oneCell' = true) (q i).2 (q i).1 ∧ (q i).1.length = P.cellsOf e ∧ Typed P Bl m e (q i).2 := fun i => Classical.choose_spec (hch i)
        have hlen : ((List.range len).map fun i => (q i).2).length = len := by simp
        have hgi : ∀ (i : Nat) (c : List PV), ((List.range len).map fun i => (q i).2)[i]? = some c → i < len ∧ c = (q i).2 := by
          intro i c hi
          have hil : i < len := by have := (List.getElem?_eq_some_iff.1 hi).1; simpa using this
          rw [List.getElem?_map, List.getElem?_range hil] at hi
          simp at hi
          exact ⟨hil, hi.symm⟩
        have key : RepC w (fun b => b < w.heap.size) (.sl (P.cellsOf e) ((List.range len).map fun i => (q i).2)) (.slice (some a) ((List.range len).map fun i => (q i).2).length cap) := by
          refine .sl (fun i j => ((q i).1[j]?).getD undef) (by simp) (by rw [hlen]; exact hlc) hcm (fun c hc => ?_) (fun i j c pv hi hj => ?_) (fun i j c pv hi hj => ?_)
          · obtain ⟨i, hi, rfl⟩ := List.mem_map.1 hc
            have h1 := hq i (List.mem_range.1 hi)
            rw [h1.2.1.1, h1.2.2.1]
          · obtain ⟨hil, rfl⟩ := hgi i c hi
            obtain ⟨g1, g2, g3, _⟩ := hq i hil
            have hjl : j < (q i).1.length := by rw [← g2.1]; exact (List.getElem?_eq_some_iff.1 hj).1
            have hju : (q i).1[j]? = some ((q i).1[j]) := List.getElem?_eq_getElem hjl
            obtain ⟨_, g5, g6⟩ := World.cells?_some g1
            have hcell := g6 j (by omega)
            rw [add_add] at hcell
            rw [hju] at hcell
            refine ⟨a, rfl, ?_, ?_, ?_⟩
            · have := block_lt_of_cell hcell
              rwa [add_block] at this
            · rw [hcell, hju]; rfl
            · rw [hju]; exact (g2.2 j pv _ hj hju).2
          · obtain ⟨hil, rfl⟩ := hgi i c hi
            obtain ⟨g1, g2, g3, _⟩ := hq i hil
            have hjl : j < (q i).1.length := by rw [← g2.1]; exact (List.getElem?_eq_some_iff.1 hj).1
            have hju : (q i).1[j]? = some ((q i).1[j]) := List.getElem?_eq_getElem hjl
            rw [hju]
            exact (g2.2 j pv _ hj hju).1
        rw [hlen] at key
        refine ⟨[.sl (P.cellsOf e) ((List.range len).map fun i => (q i).2)], one key rfl, by simp [hc1], ?_⟩
        unfold Typed
        rw [hu]
        refine ⟨_, rfl, by rw [hlen]; omega, ?_, fun c hc => ?_⟩
        · rw [hlen]
          have : (elems.map (·.1)).length = len := by simpa using hel
          rwa [this] at hbl
        · obtain ⟨i, hi, rfl⟩ := List.mem_map.1 hc
          have h1 := hq i (List.mem_range.1 hi)
          exact ⟨by rw [h1.2.1.1, h1.2.2.1], h1.2.2.2⟩
    · rename_i fs hu
      simp only [Bool.and_eq_true, beq_iff_eq, List.all_eq_true, List.contains_iff_mem] at hTt
      obtain ⟨htile, hfT⟩ := hTt
      obtain ⟨xs, m, hm, hx, hcl, hxl, hf⟩ := DataW.trod_struct hu h
      obtain rfl : m = n := by omega
      simp only [Prod.mk.injEq] at hx
      have hba := hb.agg _ (hx.1 ▸ hd)
      obtain ⟨pvs, g1, g2, g3⟩ := tile_join (P := P) (R := fun pv u => RepC w (fun b => b < w.heap.size) pv u ∧ u.oneCell' = true) (Q := fun f pvs => Typed P Bl m f.type pvs) fs.toList 0 (P.cellsOf t) cs htile hcl (fun f hfm => by
        obtain ⟨i, hi⟩ := List.getElem?_of_mem hfm
        have hfi := hf i f (by simpa using hi)
        have hil : i < xs.length := by rw [hxl]; have := (List.getElem?_eq_some_iff.1 hi).1; simpa using this
        rw [List.getElem?_eq_getElem hil] at hfi
        obtain ⟨pvs, q1, _, q3⟩ := trod_typed hb hT m f.type _ (xs[i]).1 (xs[i]).2 (hfT f hfm) (hba _ (List.mem_map.2 ⟨xs[i], List.getElem_mem hil, rfl⟩)) hfi
        exact ⟨pvs, q1, q3⟩)
      refine ⟨pvs, ⟨by omega, fun j pv u hj hu' => g2 j pv u hj (by simpa using hu')⟩, hcl, ?_⟩
      unfold Typed
      rw [hu]
      exact ⟨by omega, fun f hfm => by have := (g3 f hfm).2; simpa using this⟩
    · cases hTt

/-- An argument, as a pure value. -/
theorem arg_typed (hb : Bounds H Bl Bd) {T : List TypeId} (hT : typesOk P T = true) {t : TypeId} {v : Value} {d : DataW H} {ps : List MemPlace} {r : Reach} {base : Nat} (ht : t ∈ T) (hd : Bd d) (hv : Value.okWide P w r base t v) (h : DataW.Trod enc P w 0 sp held t v d ps) :
    ∃ (n : Nat) (pvs : List PV) (p : PV), Typed P Bl n t pvs ∧ RepC w (fun b => b < w.heap.size) p v ∧ p.cells = pvs ∧ ((∃ fs, P.underlying t = some (.struct fs)) → p = .agg pvs) ∧ ((¬ ∃ fs, P.underlying t = some (.struct fs)) → pvs = [p]) := by
  obtain ⟨n, hn⟩ := h
  obtain ⟨pvs, h1, h2, h3⟩ := trod_typed hb hT n t v.cells.toList d ps ht hd hn
  by_cases hs : ∃ fs, P.underlying t = some (.struct fs)
  · obtain ⟨fs, hu⟩ := hs
    obtain ⟨cs, rfl, hsz⟩ := okWide_struct hu hv
    refine ⟨n, pvs, .agg pvs, h3, .agg (by have := h1.1; simpa [Value.cells] using this) (fun j pv u hj hu' => (h1.2 j pv u hj (by simpa [Value.cells] using hu')).1), rfl, fun _ => rfl, fun h => absurd ⟨fs, hu⟩ h⟩
  · have hTt := List.all_eq_true.1 hT t ht
    have hc1 : P.cellsOf t = 1 := by
      split at hTt
      · simpa using hTt
      · simpa using hTt
      · simpa using hTt
      · simp only [Bool.and_eq_true, beq_iff_eq] at hTt; exact hTt.1.1
      · rename_i fs hu; exact absurd ⟨fs, hu⟩ hs
      · cases hTt
    rw [hc1] at h2
    match pvs, h1, h3 with
    | [], h1, h3 => have := h1.1; rw [h2] at this; simp at this
    | p :: q :: l, h1, h3 => have := h1.1; rw [h2] at this; simp at this
    | [p], h1, h3 =>
      obtain ⟨u, hu, hr, ho⟩ := zip_one h1
      have hvu : v = u := by
        cases v with
        | agg cs =>
          simp only [Value.cells] at hu
          -- a value of a type of one cell that is no struct is no aggregate
          exfalso
          split at hTt
          · rename_i hun; simp [Value.okWide, hun, Cell.okWide, Cell.ok] at hv
          · rename_i hun; simp [Value.okWide, hun, Cell.okWide, Cell.ok] at hv
          · rename_i hun; simp [Value.okWide, hun, Cell.okWide, Cell.ok] at hv
          · rename_i hun; simp [Value.okWide, hun, Cell.okWide, Cell.ok] at hv
          · rename_i fs hun; exact hs ⟨fs, hun⟩
          · cases hTt
        | _ => simpa [Value.cells] using hu
      subst hvu
      refine ⟨n, [p], p, h3, hr, ?_, fun h => absurd h hs, fun _ => rfl⟩
      have hp : p.isCell = true ∨ p.isCell = false := by cases p.isCell <;> simp
      rcases hp with hp | hp
      · cases p <;> first | rfl | simp [PV.isCell] at hp
      · cases hr <;> first | rfl | (simp [Value.oneCell'] at ho)

end

section
variable {C : Ctx} {pf : FuncId → Bool} {f : FuncId} {fn : Func} {code : Code}

/-- A law's call. -/
theorem law_calls (hg : Good C pf) (hk : Known C pf f fn code) {args : List PV} (h : evalPure C fn args = some (.v (.bool true))) (hn : args.length ≤ fn.ntmps) {w : World} {vs : List Value} (hz : Zip (RepC w (fun b => b < w.heap.size)) args vs) :
    Calls C.P f vs.toArray w fun e w' => e = .returned (.bool true) ∧ Below w.heap.size w w' := by
  unfold evalPure at h
  split at h
  · rename_i x hpe nxe hef
    obtain ⟨⟨r, hp2⟩, hfz, hr⟩ := map_some_inv h
    simp only at hr
    subst hr
    refine (run_closed hg hk hef hn (fun _ hb => hb) hz).mono fun e w' hh => ?_
    obtain ⟨v, S', G', he, fr, inv', hx, _⟩ := hh
    obtain ⟨S2, _, hc⟩ := freeze_sound inv' hfz hx
    obtain ⟨rfl, _⟩ := hc.v_inv
    exact ⟨he, fr.os, fr.tape, fr.output, fr.size, fun k hk => fr.block k hk fun h => h⟩
  · cases h

end
end Go.AM
namespace Go.AM
open Go.RowKit

attribute [congr] bindK_congr condK_congr
attribute [simp] EvC_skip EvC_exit EvC_ret EvC_label EvC_seq EvC_cond EvC_block EvL_nil EvL_cons restK_eq bindK_some condK_true condK_false thenK_normal thenK_ret thenK_exit blockK_normal blockK_ret blockK_exit_same
  roundK_normal roundK_ret roundK_exit retK_normal retK_ret

@[simp] theorem normK_eq (K : Exit → St → Prop) (st : St) : normK K st = K .normal st := rfl
@[simp] theorem blockK_other (id i : Nat) (K : Exit → St → Prop) (st : St) (h : ¬ i = id) : blockK id K (.exit i) st = K (.exit i) st := by simp [blockK, h]

theorem upd_app {α : Type} (f : Nat → α) (k i : Nat) (x : α) : upd f k x i = if i = k then x else f i := rfl
@[simp] theorem upd_hit {α : Type} (f : Nat → α) (k : Nat) (x : α) : upd f k x k = x := by simp [upd]
@[simp] theorem upd_miss {α : Type} (f : Nat → α) (k i : Nat) (x : α) (h : ¬ i = k) : upd f k x i = f i := by simp [upd, h]
@[simp] theorem put_some (σ : Nat → PV) (d : Nat) (x : PV) : put σ (some d) x = upd σ d x := rfl
@[simp] theorem put_none (σ : Nat → PV) (x : PV) : put σ none x = σ := rfl
@[simp] theorem start_app (args : List PV) (t : Nat) : startσ args t = (args[t]?).getD (.tup []) := rfl

@[simp] theorem get_tmp (σ : Nat → PV) (t : Nat) : get σ (.tmp t) = some (σ t) := rfl
@[simp] theorem get_func (σ : Nat → PV) (f : Nat) : get σ (.func f) = some (.fn (.func f) [] []) := rfl
@[simp] theorem get_int (σ : Nat → PV) (k : IntKind) (n : Int) : get σ (.const (.int k n)) = some (.v (.int k n)) := rfl
@[simp] theorem get_bool (σ : Nat → PV) (b : Bool) : get σ (.const (.bool b)) = some (.v (.bool b)) := rfl
@[simp] theorem get_str (σ : Nat → PV) (s : ByteArray) : get σ (.const (.string s)) = some (.v (.string s)) := rfl
@[simp] theorem get_nil (σ : Nat → PV) : get σ (.const (.slice none 0 0)) = some .nil := rfl
@[simp] theorem get_nilFunc (σ : Nat → PV) : get σ (.const .nilFunc) = some (.v .nilFunc) := rfl
@[simp] theorem get_agg (σ : Nat → PV) (cs : Array Value) : get σ (.const (.agg cs)) = (ofCells cs.toList).map .agg := rfl

@[simp] theorem step_plain (C : Ctx) (ops : Array Oper) (d : Option Tmp) (op : Op) (t : TypeId) (p : String) (af : Array Edge) (st : St) : stepA C ops ⟨d, op, t, p, af, none⟩ st =
    (evalOp C (get st.σ) st.hp st.nx op).map fun r => ⟨put st.σ d r.1, r.2.1, r.2.2⟩ := stepA_eq C ops d op t p af st
/-- A guarded operation: whether it is carried out is asked first. -/
def guardA (C : Ctx) (d : Option Tmp) (op : Op) (st : St) (y : Option Bool) (b : Bool) : Option St :=
  if y = some b then (evalOp C (get st.σ) st.hp st.nx op).map fun r => ⟨put st.σ d r.1, r.2.1, r.2.2⟩ else some ⟨put st.σ d (.tup []), st.hp, st.nx⟩
theorem guardA_congr {C : Ctx} {d : Option Tmp} {op : Op} {st : St} {y y' : Option Bool} {b : Bool} (h : y = y') : guardA C d op st y b = guardA C d op st y' b := by rw [h]
@[simp] theorem step_guard (C : Ctx) (ops : Array Oper) (d : Option Tmp) (op : Op) (t : TypeId) (p : String) (af : Array Edge) (j : Nat) (b : Bool) (st : St) : stepA C ops ⟨d, op, t, p, af, some (j, b)⟩ st =
    guardA C d op st (yieldA ops st.σ j) b := by
  unfold stepA guardA Region.wanted
  simp only [beq_iff_eq]
  split
  · cases evalOp C (get st.σ) st.hp st.nx op <;> rfl
  · rfl
@[simp] theorem guard_hit (C : Ctx) (d : Option Tmp) (op : Op) (st : St) (b : Bool) : guardA C d op st (some b) b = (evalOp C (get st.σ) st.hp st.nx op).map fun r => ⟨put st.σ d r.1, r.2.1, r.2.2⟩ := by simp [guardA]
@[simp] theorem guard_tf (C : Ctx) (d : Option Tmp) (op : Op) (st : St) : guardA C d op st (some true) false = some ⟨put st.σ d (.tup []), st.hp, st.nx⟩ := by simp [guardA]
@[simp] theorem guard_ft (C : Ctx) (d : Option Tmp) (op : Op) (st : St) : guardA C d op st (some false) true = some ⟨put st.σ d (.tup []), st.hp, st.nx⟩ := by simp [guardA]
@[simp] theorem guard_none (C : Ctx) (d : Option Tmp) (op : Op) (st : St) (b : Bool) : guardA C d op st none b = some ⟨put st.σ d (.tup []), st.hp, st.nx⟩ := by simp [guardA]
attribute [congr] guardA_congr

/-- The guard's outcome, out of the slot. -/
def boolOf : PV → Option Bool
  | .v (.bool b) => some b
  | _ => none
@[simp] theorem boolOf_bool (b : Bool) : boolOf (.v (.bool b)) = some b := rfl
@[simp] theorem boolOf_tup (l : List PV) : boolOf (.tup l) = none := rfl
def slotOf (σ : Nat → PV) : Option Nat → Option Bool
  | some d => boolOf (σ d)
  | none => none
@[simp] theorem slotOf_some (σ : Nat → PV) (d : Nat) : slotOf σ (some d) = boolOf (σ d) := rfl
@[simp] theorem yield_get (ops : Array Oper) (σ : Nat → PV) (j : Nat) : yieldA ops σ j = slotOf σ ((ops[j]?).bind (·.dst)) := by
  unfold yieldA slotOf boolOf
  cases (ops[j]?).bind (·.dst) with
  | none => rfl
  | some d => rfl

section
variable (C : Ctx) (ρ : Operand → Option PV) (hp : Hp) (nx : Nat)
@[simp] theorem op_move (x : Operand) : evalOp C ρ hp nx (.move x) = (ρ x).map fun y => (y, hp, nx) := rfl
@[simp] theorem op_assign (x : Operand) : evalOp C ρ hp nx (.assign x) = (ρ x).map fun y => (y, hp, nx) := rfl
def pickA (c a b : Option PV) : Option PV := match c with
  | some (.v (.bool true)) => a
  | some (.v (.bool false)) => b
  | _ => none
@[simp] theorem pickA_true (a b : Option PV) : pickA (some (.v (.bool true))) a b = a := rfl
@[simp] theorem pickA_false (a b : Option PV) : pickA (some (.v (.bool false))) a b = b := rfl
@[simp] theorem op_pick (c a b : Operand) : evalOp C ρ hp nx (.pick c a b) = (pickA (ρ c) (ρ a) (ρ b)).map fun y => (y, hp, nx) := by
  unfold pickA
  simp only [evalOp]
  generalize ρ c = o
  cases o with
  | none => rfl
  | some p =>
    cases p <;> (try rfl)
    rename_i x
    cases x <;> (try rfl)
    rename_i t
    cases t <;> rfl
@[simp] theorem op_bin (op : BinOp) (t t2 : TypeId) (x y : Operand) : evalOp C ρ hp nx (.binOp op t x y t2) = (do let p ← ρ x; let q ← ρ y; let r ← binA C.P op t p q; some (r, hp, nx)) := by
  simp only [evalOp]; cases ρ x <;> cases ρ y <;> (try rfl); simp; cases binA C.P op t _ _ <;> rfl
@[simp] theorem op_un (op : UnOp) (t : TypeId) (x : Operand) : evalOp C ρ hp nx (.unOp op t x) = (do let p ← ρ x; let r ← unA op p; some (r, hp, nx)) := by
  simp only [evalOp]; cases ρ x <;> (try rfl); simp; cases unA op _ <;> rfl
@[simp] theorem op_conv (s d : TypeId) (x : Operand) : evalOp C ρ hp nx (.convert s d x) = (do let p ← ρ x; let r ← convA C.P s d p; some (r, hp, nx)) := by
  simp only [evalOp]; cases ρ x <;> (try rfl); simp; cases convA C.P s d _ <;> rfl
@[simp] theorem op_load (t : TypeId) (x : Operand) : evalOp C ρ hp nx (.load t x) = (do let p ← ρ x; let r ← loadA C.P hp t p; some (r, hp, nx)) := by
  simp only [evalOp]; cases ρ x <;> (try rfl); simp; cases loadA C.P hp t _ <;> rfl
@[simp] theorem op_store (t : TypeId) (a x : Operand) : evalOp C ρ hp nx (.store t a x) = (do let p ← ρ a; let q ← ρ x; let h ← storeA C.P hp t p q; some (.tup [], h, nx)) := by
  simp only [evalOp]; cases ρ a <;> cases ρ x <;> (try rfl); simp; cases storeA C.P hp t _ _ <;> rfl
@[simp] theorem op_fieldAddr (t : TypeId) (x : Operand) (f : Nat) : evalOp C ρ hp nx (.fieldAddr t x f) = (do let p ← ρ x; let r ← fieldAddrA C.P t f p; some (r, hp, nx)) := by
  simp only [evalOp]; cases ρ x <;> (try rfl); simp; cases fieldAddrA C.P t f _ <;> rfl
@[simp] theorem op_field (t : TypeId) (x : Operand) (f : Nat) : evalOp C ρ hp nx (.field t x f) = (do let p ← ρ x; let r ← fieldValA C.P t f p; some (r, hp, nx)) := by
  simp only [evalOp]; cases ρ x <;> (try rfl); simp; cases fieldValA C.P t f _ <;> rfl
@[simp] theorem op_indexAddr (t : TypeId) (x i : Operand) : evalOp C ρ hp nx (.indexAddr t x i) = (do let p ← ρ x; let q ← ρ i; let r ← indexAddrA C.P hp t p q; some (r, hp, nx)) := by
  simp only [evalOp]; cases ρ x <;> cases ρ i <;> (try rfl); simp; cases indexAddrA C.P hp t _ _ <;> rfl
@[simp] theorem op_index (t : TypeId) (x i : Operand) : evalOp C ρ hp nx (.index t x i) = (do let p ← ρ x; let q ← ρ i; let r ← indexA C.P t p q; some (r, hp, nx)) := by
  simp only [evalOp]; cases ρ x <;> cases ρ i <;> (try rfl); simp; cases indexA C.P t _ _ <;> rfl
@[simp] theorem op_slice (t : TypeId) (x : Operand) (lo hi : Option Operand) : evalOp C ρ hp nx (.slice t x lo hi none) = (do let p ← ρ x; let r ← sliceA C.P hp t p (lo.map ρ) (hi.map ρ); some (r, hp, nx)) := by
  simp only [evalOp]; cases ρ x <;> (try rfl); simp; cases sliceA C.P hp t _ _ _ <;> rfl
@[simp] theorem op_makeSlice (t : TypeId) (l c : Operand) : evalOp C ρ hp nx (.makeSlice t l c) = (do let p ← ρ l; let q ← ρ c; makeSliceA C.P hp nx t p q) := by
  simp only [evalOp]; cases ρ l <;> cases ρ c <;> rfl
def extractA (i : Nat) : PV → Option PV
  | .tup vs => vs[i]?
  | _ => none
@[simp] theorem extractA_tup (i : Nat) (vs : List PV) : extractA i (.tup vs) = vs[i]? := rfl
@[simp] theorem op_extract (x : Operand) (i : Nat) : evalOp C ρ hp nx (.extract x i) = (do let p ← ρ x; let r ← extractA i p; some (r, hp, nx)) := by
  simp only [evalOp]
  cases ρ x with
  | none => rfl
  | some p => cases p <;> (try rfl); simp [extractA]; rename_i vs; cases vs[i]? <;> rfl
@[simp] theorem op_alloc (t : TypeId) : evalOp C ρ hp nx (.alloc t) = (do let n ← sizeA C.P t; let z ← zeroA C.P t; if z.length = n then some (.ref nx 0 0, upd hp nx (some ⟨t, n, false, [z]⟩), nx + 1) else none) := by
  simp only [evalOp]; cases sizeA C.P t <;> cases zeroA C.P t <;> rfl
@[simp] theorem op_box (t : TypeId) (x : Operand) : evalOp C ρ hp nx (.box t x) = (do let n ← sizeA C.P t; let y ← ρ x; if y.cells.length = n ∧ y.cells.all PV.isCell = true then some (.ref nx 0 0, upd hp nx (some ⟨t, n, false, [y.cells]⟩), nx + 1) else none) := by
  simp only [evalOp]; cases sizeA C.P t <;> cases ρ x <;> rfl
@[simp] theorem op_build (t : TypeId) (ps : Array (Nat × Operand)) : evalOp C ρ hp nx (.build t ps) = (do let q ← partsA ρ ps.toList; let r ← buildA C.P t q; some (r, hp, nx)) := by
  simp only [evalOp]; cases partsA ρ ps.toList <;> (try rfl); simp; cases buildA C.P t _ <;> rfl
@[simp] theorem op_buildSlice (t : TypeId) (n : Nat) (ps : Array (Nat × Operand)) : evalOp C ρ hp nx (.buildSlice t n ps) = (do let q ← partsA ρ ps.toList; buildSliceA C.P hp nx t n q) := by
  simp only [evalOp]; cases partsA ρ ps.toList <;> rfl
@[simp] theorem op_makeFunc (f : Fn) (a b : Array Operand) : evalOp C ρ hp nx (.makeFunc f a b) = (do let p ← allSome (a.toList.map ρ); let q ← allSome (b.toList.map ρ); some (.fn f p q, hp, nx)) := by
  simp only [evalOp]; cases allSome (a.toList.map ρ) <;> cases allSome (b.toList.map ρ) <;> rfl
@[simp] theorem op_call (f : Operand) (args : Array Operand) (ts : Array TypeId) : evalOp C ρ hp nx (.call { callee := .value f, args := args, argTypes := ts }) = (do let xs ← allSome (args.toList.map ρ); callVal C hp nx (ρ f) xs) := by
  simp only [evalOp, evalCall]; cases allSome (args.toList.map ρ) <;> rfl
@[simp] theorem op_builtin (b : Builtin) (args : Array Operand) (ts : Array TypeId) : evalOp C ρ hp nx (.call { callee := .builtin b, args := args, argTypes := ts }) = (do let xs ← allSome (args.toList.map ρ); evalBuiltin C.P hp nx ts b xs) := by
  simp only [evalOp, evalCall]; cases allSome (args.toList.map ρ) <;> rfl
end

@[simp] theorem allSome_nil {α : Type} : allSome ([] : List (Option α)) = some [] := rfl
@[simp] theorem allSome_cons {α : Type} (x : α) (l : List (Option α)) : allSome (some x :: l) = (allSome l).map (x :: ·) := rfl
@[simp] theorem parts_nil (ρ : Operand → Option PV) : partsA ρ [] = some [] := rfl
@[simp] theorem parts_cons (ρ : Operand → Option PV) (i : Nat) (x : Operand) (l : List (Nat × Operand)) : partsA ρ ((i, x) :: l) = (do let p ← ρ x; let r ← partsA ρ l; some ((i, p) :: r)) := by
  simp only [partsA]; cases ρ x <;> cases partsA ρ l <;> rfl
theorem callVal_fn (C : Ctx) (hp : Hp) (nx g : Nat) (first captured xs : List PV) (spec : AM.Spec) (h : C.Γ g = some spec) : callVal C hp nx (some (.fn (.func g) first captured)) xs = spec (first ++ xs ++ captured) hp nx := by simp [callVal, h]

section
variable (P : Program) (hp : Hp) (nx : Nat) (t : TypeId)
@[simp] theorem bin_int (op : BinOp) (k : IntKind) (a b : Int) : binA P op t (.v (.int k a)) (.v (.int k b)) = intA op k a b := by simp [binA]
@[simp] theorem bin_str (op : BinOp) (a b : ByteArray) : binA P op t (.v (.string a)) (.v (.string b)) = strA op a b := rfl
theorem bin_agg (op : BinOp) (xs ys : List PV) : binA P op t (.agg xs) (.agg ys) = match flatA P t with
    | some ks => match op with
      | .eql => (eqCells ks xs ys).map fun r => .v (.bool r)
      | .neq => (eqCells ks xs ys).map fun r => .v (.bool !r)
      | _ => none
    | none => none := rfl
@[simp] theorem un_not (b : Bool) : unA .not (.v (.bool b)) = some (.v (.bool !b)) := rfl
@[simp] theorem un_neg (k : IntKind) (n : Int) : unA .neg (.v (.int k n)) = some (.v (.int k (k.wrap (0 - n)))) := rfl
@[simp] theorem load_ptr (cs : List PV) : loadA P hp t (.ptr cs) = readCells P t cs := rfl
@[simp] theorem load_ref (id i j : Nat) : loadA P hp t (.ref id i j) = (do let b ← hp id; let c ← b.es[i]?; readCells P t (c.drop j)) := by
  simp only [loadA]; cases hp id with
  | none => rfl
  | some b => simp; cases b.es[i]? <;> rfl
@[simp] theorem fieldAddr_ptr (f : Nat) (cs : List PV) : fieldAddrA P t f (.ptr cs) = (do let q ← fieldA P t f; if q.2.1 = 0 then none else some (.ptr (cs.drop q.1))) := by
  simp only [fieldAddrA]; cases fieldA P t f <;> rfl
@[simp] theorem fieldAddr_ref (f id i j : Nat) : fieldAddrA P t f (.ref id i j) = (do let q ← fieldA P t f; if q.2.1 = 0 then none else some (.ref id i (j + q.1))) := by
  simp only [fieldAddrA]; cases fieldA P t f <;> rfl
@[simp] theorem len_str (s : ByteArray) : lenA P t (.v (.string s)) = match P.underlying t with | some .string => some (.v (.int .i64 s.size)) | _ => none := rfl
@[simp] theorem len_sl (s : Nat) (es : List (List PV)) : lenA P t (.sl s es) = (elemA P t).map fun _ => .v (.int .i64 es.length) := rfl
@[simp] theorem len_nil : lenA P t .nil = (elemA P t).map fun _ => .v (.int .i64 0) := rfl
@[simp] theorem len_own (id off n : Nat) : lenA P t (.own id off n) = (elemA P t).map fun _ => .v (.int .i64 n) := rfl
@[simp] theorem index_sl (s : Nat) (es : List (List PV)) (k : IntKind) (i : Int) : indexAddrA P hp t (.sl s es) (.v (.int k i)) = (do let e ← elemA P t; let n ← sizeA P e; if s = n ∧ 0 < n ∧ 0 ≤ i then (es[i.toNat]?).map .ptr else none) := by
  simp only [indexAddrA]; cases elemA P t with
  | none => rfl
  | some e => simp; cases sizeA P e <;> rfl
@[simp] theorem index_own (id off n : Nat) (k : IntKind) (i : Int) : indexAddrA P hp t (.own id off n) (.v (.int k i)) = (do let e ← elemA P t; let m ← sizeA P e; let b ← hp id; if b.e = e ∧ 0 < m ∧ 0 ≤ i ∧ i.toNat < n then some (.ref id (off + i.toNat) 0) else none) := by
  simp only [indexAddrA]; cases elemA P t with
  | none => rfl
  | some e => simp; cases sizeA P e <;> (try rfl); simp; cases hp id <;> rfl
end

@[simp] theorem blt_len (P : Program) (hp : Hp) (nx : Nat) (ts : Array TypeId) (x : PV) : evalBuiltin P hp nx ts .len [x] = (do let t ← ts[0]?; let y ← lenA P t x; some (y, hp, nx)) := by
  simp only [evalBuiltin]; cases ts[0]? with
  | none => rfl
  | some t => simp; cases lenA P t x <;> rfl
@[simp] theorem blt_min (P : Program) (hp : Hp) (nx : Nat) (ts : Array TypeId) (xs : List PV) : evalBuiltin P hp nx ts .min xs = (minA xs).map fun y => (y, hp, nx) := rfl
@[simp] theorem blt_max (P : Program) (hp : Hp) (nx : Nat) (ts : Array TypeId) (xs : List PV) : evalBuiltin P hp nx ts .max xs = (maxA xs).map fun y => (y, hp, nx) := rfl
@[simp] theorem blt_append (P : Program) (hp : Hp) (nx : Nat) (ts : Array TypeId) (s x : PV) : evalBuiltin P hp nx ts .append [s, x] = (do let t ← ts[0]?; let u ← ts[1]?; appendA P hp nx t u s x) := by
  simp only [evalBuiltin]; cases ts[0]? <;> cases ts[1]? <;> rfl
@[simp] theorem blt_copy (P : Program) (hp : Hp) (nx : Nat) (ts : Array TypeId) (s x : PV) : evalBuiltin P hp nx ts .copy [s, x] = (do let t ← ts[0]?; copyA P hp nx t s x) := by
  simp only [evalBuiltin]; cases ts[0]? <;> rfl
attribute [simp] minA minFrom maxA maxFrom intA strA setCells resultsA resultA
@[simp] theorem cells_agg (cs : List PV) : PV.cells (.agg cs) = cs := rfl
@[simp] theorem cells_tup (cs : List PV) : PV.cells (.tup cs) = [.tup cs] := rfl
@[simp] theorem cells_v (x : Value) : PV.cells (.v x) = [.v x] := rfl
@[simp] theorem cells_nil : PV.cells .nil = [.nil] := rfl
@[simp] theorem cells_em : PV.cells .em = [.em] := rfl
@[simp] theorem cells_sl (s : Nat) (es : List (List PV)) : PV.cells (.sl s es) = [.sl s es] := rfl
@[simp] theorem cells_ptr (cs : List PV) : PV.cells (.ptr cs) = [.ptr cs] := rfl
@[simp] theorem cells_own (i o n : Nat) : PV.cells (.own i o n) = [.own i o n] := rfl
@[simp] theorem cells_ref (i o n : Nat) : PV.cells (.ref i o n) = [.ref i o n] := rfl
@[simp] theorem cells_fn (f : Fn) (a b : List PV) : PV.cells (.fn f a b) = [.fn f a b] := rfl
@[simp] theorem isCell_v (x : Value) : PV.isCell (.v x) = true := rfl
@[simp] theorem isCell_nil : PV.isCell .nil = true := rfl
@[simp] theorem isCell_em : PV.isCell .em = true := rfl
@[simp] theorem isCell_sl (s : Nat) (es : List (List PV)) : PV.isCell (.sl s es) = true := rfl
@[simp] theorem isCell_ptr (cs : List PV) : PV.isCell (.ptr cs) = true := rfl
@[simp] theorem isCell_own (i o n : Nat) : PV.isCell (.own i o n) = true := rfl
@[simp] theorem isCell_ref (i o n : Nat) : PV.isCell (.ref i o n) = true := rfl
@[simp] theorem isCell_fn (f : Fn) (a b : List PV) : PV.isCell (.fn f a b) = true := rfl
@[simp] theorem isCell_agg (cs : List PV) : PV.isCell (.agg cs) = false := rfl
@[simp] theorem isCell_tup (cs : List PV) : PV.isCell (.tup cs) = false := rfl

attribute [simp] freezeCell freezeVal freezeVals freezeCells AM.freeze PV.flat PV.isV PV.noOwn
@[simp] theorem cellOpen_own (i o n : Nat) : PV.cellOpen (.own i o n) = true := rfl
@[simp] theorem cellOpen_v (x : Value) : PV.cellOpen (.v x) = false := rfl
@[simp] theorem cellOpen_nil : PV.cellOpen .nil = false := rfl
@[simp] theorem cellOpen_em : PV.cellOpen .em = false := rfl
@[simp] theorem cellOpen_sl (s : Nat) (es : List (List PV)) : PV.cellOpen (.sl s es) = false := rfl
@[simp] theorem cellOpen_ptr (cs : List PV) : PV.cellOpen (.ptr cs) = false := rfl
@[simp] theorem cellOpen_ref (i o n : Nat) : PV.cellOpen (.ref i o n) = false := rfl
@[simp] theorem cellOpen_fn (f : Fn) (a b : List PV) : PV.cellOpen (.fn f a b) = false := rfl
@[simp] theorem upd_upd {α : Type} (f : Nat → α) (k : Nat) (x y : α) : upd (upd f k x) k y = upd f k y := by
  funext i; simp only [upd]; split <;> rfl
@[simp] theorem store_ref (P : Program) (hp : Hp) (t : TypeId) (id i j : Nat) (x : PV) : storeA P hp t (.ref id i j) x = (do
    let b0 ← hp id
    let q ← (if b0.arr = true then freezeVal hp x else some (x, hp))
    let b ← q.2 id
    let n ← sizeA P t
    let c ← b.es[i]?
    if q.1.cells.length = n ∧ j + n ≤ c.length ∧ q.1.cells.all PV.isCell = true then some (upd q.2 id (some ⟨b.e, b.s, b.arr, b.es.set i (setCells c j q.1.cells)⟩)) else none) := by
  simp only [storeA]
  cases hp id with
  | none => rfl
  | some b0 =>
    simp only [Option.bind_eq_bind, Option.bind_some]
    generalize (if b0.arr = true then freezeVal hp x else some (x, hp)) = o
    cases o with
    | none => rfl
    | some q =>
      obtain ⟨y, h1⟩ := q
      simp only [Option.bind_some]
      cases h1 id with
      | none => rfl
      | some b =>
        simp only [Option.bind_some]
        cases sizeA P t with
        | none => rfl
        | some n =>
          simp only [Option.bind_some]
          cases b.es[i]? <;> rfl

theorem pureR_eq (r x : PV) (hp : Hp) (nx : Nat) : pureR r x hp nx = ((AM.freeze hp x).map (·.1) = some r) := rfl
@[simp] theorem pureR_v (x y : Value) (hp : Hp) (nx : Nat) : pureR (.v y) (.v x) hp nx = (x = y) := by simp [pureR]

/-- The number in a slot. -/
def numAt : PV → Int
  | .v (.int _ n) => n
  | _ => 0
@[simp] theorem numAt_int (k : IntKind) (n : Int) : numAt (.v (.int k n)) = n := rfl

/-- Numbers that fit. -/
theorem wrap_fit {n : Int} (h1 : -9223372036854775808 ≤ n) (h2 : n ≤ 9223372036854775807) : IntKind.i64.wrap n = n := by rw [IntKind.wrap_i64]; omega

end Go.AM
namespace Go.AM
open Go.RowKit

open Classical in
/-- A model as a partial function on pure arguments: enc writes its arguments out, pre says where it speaks. -/
noncomputable def specOf {α β : Type} (enc : α → List PV) (pre : α → Prop) (out : α → β) : List PV → Option β := fun args =>
  if h : ∃ a, args = enc a ∧ pre a then some (out (Classical.choose h)) else none

theorem specOf_eq {α β : Type} {enc : α → List PV} {pre : α → Prop} {out : α → β} (inj : ∀ a b, enc a = enc b → a = b) {a : α} (h : pre a) : specOf enc pre out (enc a) = some (out a) := by
  have hex : ∃ b, enc a = enc b ∧ pre b := ⟨a, rfl, h⟩
  unfold specOf
  rw [dif_pos hex]
  have := Classical.choose_spec hex
  rw [← inj _ _ this.1]

theorem specOf_inv {α β : Type} {enc : α → List PV} {pre : α → Prop} {out : α → β} {args : List PV} {r : β} (h : specOf enc pre out args = some r) : ∃ a, args = enc a ∧ pre a ∧ r = out a := by
  unfold specOf at h
  split at h
  · rename_i hex
    injection h with h
    have := Classical.choose_spec hex
    exact ⟨_, this.1, this.2, h.symm⟩
  · cases h

abbrev Tab := List (Nat × AM.Spec)
def lookup : Tab → Nat → Option AM.Spec
  | [], _ => none
  | (k, s) :: l, g => if g = k then some s else lookup l g
@[simp] theorem lookup_cons (k : Nat) (s : AM.Spec) (l : Tab) (g : Nat) : lookup ((k, s) :: l) g = if g = k then some s else lookup l g := rfl
def mkCtx (P : Program) (l : Tab) : Ctx := ⟨P, lookup l, fun _ => [], fun _ => [], fun _ => false, fun _ => []⟩
@[simp] theorem mkCtx_dyn (P : Program) (l : Tab) (i : Nat) : (mkCtx P l).dyn i = [] := rfl
@[simp] theorem EvC_region_mk (P : Program) (l : Tab) (i : Nat) (ops : Array Oper) (d : Bool) (st : St) (K : Exit → St → Prop) : EvC (mkCtx P l) (.region i ops d) st K = EvL (mkCtx P l) ops ops.toList st (normK K) := EvC_region _ i ops d st K rfl rfl
/-- With what is asked of regions that draw their order. -/
def mkCtxD (P : Program) (l : Tab) (dyn : Nat → List (Tmp × Tmp)) : Ctx := ⟨P, lookup l, dyn, fun _ => [], fun _ => false, fun _ => []⟩
@[simp] theorem mkCtxD_P (P : Program) (l : Tab) (dyn : Nat → List (Tmp × Tmp)) : (mkCtxD P l dyn).P = P := rfl
@[simp] theorem mkCtx_P (P : Program) (l : Tab) : (mkCtx P l).P = P := rfl
@[simp] theorem call_mk (P : Program) (l : Tab) (hp : Hp) (nx g : Nat) (a b xs : List PV) : callVal (mkCtx P l) hp nx (some (.fn (.func g) a b)) xs = (lookup l g).bind fun s => s (a ++ xs ++ b) hp nx := by
  unfold callVal mkCtx
  simp only
  cases lookup l g <;> rfl

@[simp] theorem call_mkD (P : Program) (l : Tab) (dyn : Nat → List (Tmp × Tmp)) (hp : Hp) (nx g : Nat) (a b xs : List PV) : callVal (mkCtxD P l dyn) hp nx (some (.fn (.func g) a b)) xs = (lookup l g).bind fun s => s (a ++ xs ++ b) hp nx := by
  unfold callVal mkCtxD
  simp only
  cases lookup l g <;> rfl

def AllOk (P : Program) (q : List Nat) : Tab → Prop
  | [] => True
  | (g, s) :: l => SpecSound P g s ∧ (q.contains g = true → Quiet s) ∧ AllOk P q l

theorem good_of {P : Program} {l : Tab} {q : List Nat} (hm : P.follows .mixedOrders = true) (h : AllOk P q l) : Good (mkCtx P l) (fun g => q.contains g) := by
  have key : ∀ (l : Tab), AllOk P q l → ∀ g s, lookup l g = some s → SpecSound P g s ∧ (q.contains g = true → Quiet s) := by
    intro l
    induction l with
    | nil => intro _ g s h; cases h
    | cons x l ih =>
      obtain ⟨k, sp⟩ := x
      rintro ⟨h1, h2, h3⟩ g s hs
      simp only [lookup_cons] at hs
      split at hs
      · rename_i hgk
        injection hs with hs
        subst hs
        subst hgk
        exact ⟨h1, h2⟩
      · exact ih h3 g s hs
  exact ⟨fun g s hs => (key l h g s hs).1, fun g s hq hs => (key l h g s hs).2 hq, hm, fun _ _ h => by cases h⟩

theorem good_ofD {P : Program} {l : Tab} {q : List Nat} (dyn : Nat → List (Tmp × Tmp)) (hm : P.follows .mixedOrders = true) (h : AllOk P q l) : Good (mkCtxD P l dyn) (fun g => q.contains g) :=
  let g := good_of hm h
  ⟨g.spec, g.quiet, g.mixed, fun _ _ h => by cases h⟩

/-- A pure function's outcome, nil taken for no elements. -/
def pureN (r : PV) (x : PV) (hp : Hp) (_ : Nat) : Prop := ∃ r0, (AM.freeze hp x).map (·.1) = some r0 ∧ NilUp r0 r
theorem evalPureN_of {C : Ctx} {fn : Func} {code : Code} {args : List PV} {r : PV} (hb : fn.body = some code)
    (h : EvC C code ⟨startσ args, fun _ => none, 0⟩ (retK C.P fn (pureN r))) : ∃ r0, evalPure C fn args = some r0 ∧ NilUp r0 r := by
  obtain ⟨x, hp', nx', h1, r0, h2, h3⟩ := evalFunc_of hb h
  exact ⟨r0, by unfold evalPure; simp only [h1]; exact h2, h3⟩
theorem up1_rfl (x : PV) : NilUp1 x x := .inl rfl
theorem up_of (x : PV) : NilUp x x := by
  unfold NilUp
  split
  · exact ⟨rfl, fun j x y hx hy => by rw [hx] at hy; injection hy with hy; exact .inl hy⟩
  · exact .inl rfl
@[simp] theorem pureN_v (x y : Value) (hp : Hp) (nx : Nat) : pureN (.v y) (.v x) hp nx = (x = y) := by
  simp only [pureN, AM.freeze, freezeVal, freezeCell, Option.map_some, Option.some.injEq, exists_eq_left', NilUp, NilUp1]
  simp
theorem evalFuncR_of {C : Ctx} {fn : Func} {code : Code} {args : List PV} {hp : Hp} {nx : Nat} {r : Option Blk} (hb : fn.body = some code)
    (h : EvC C code ⟨startσ args, hp, nx⟩ (retK C.P fn (OwnR r))) : ∃ x hp' nx', evalFunc C fn args hp nx = some (x, hp', nx') ∧ OwnR r x hp' nx' := evalFunc_of hb h

/-- A slice that the function itself builds: nil so far, or a block of its own. -/
def OwnS (hp : Hp) (nx : Nat) (e s : Nat) (v : PV) (xs : List (List PV)) : Prop := (v = .nil ∧ xs = []) ∨ ∃ id, id < nx ∧ v = .own id 0 xs.length ∧ hp id = some ⟨e, s, true, xs⟩
def killV (v : PV) (hp : Hp) : Hp := match v with
  | .own id _ _ => upd hp id none
  | _ => hp
theorem OwnS.nil (hp : Hp) (nx e s : Nat) : OwnS hp nx e s .nil [] := .inl ⟨rfl, rfl⟩
theorem OwnS.own {hp : Hp} {nx e s id : Nat} {xs : List (List PV)} (h1 : id < nx) (h2 : hp id = some ⟨e, s, true, xs⟩) : OwnS hp nx e s (.own id 0 xs.length) xs := .inr ⟨id, h1, rfl, h2⟩
theorem OwnS.len {P : Program} {hp : Hp} {nx e s : Nat} {v : PV} {xs : List (List PV)} {t : TypeId} (h : OwnS hp nx e s v xs) (ht : elemA P t = some e) : lenA P t v = some (.v (.int .i64 xs.length)) := by
  rcases h with ⟨rfl, rfl⟩ | ⟨id, _, rfl, _⟩ <;> simp [ht]
theorem OwnS.view {hp : Hp} {nx e s : Nat} {v : PV} {xs : List (List PV)} (h : OwnS hp nx e s v xs) : view hp s v = some xs := by
  rcases h with ⟨rfl, rfl⟩ | ⟨id, _, rfl, h⟩ <;> simp [AM.view, *]

/-- append of one element. -/
theorem OwnS.append1 {P : Program} {hp : Hp} {nx e s by_ : Nat} {v : PV} {xs : List (List PV)} {c z : List PV} {t : TypeId} (h : OwnS hp nx e s v xs) (ht : elemA P t = some e) (hs : sizeA P e = some s) (hb : bytesA P e = some by_) (hz : zeroA P e = some z)
    (hzl : z.length = s) (h0 : 0 < s) (h1 : xs.length + 1 ≤ maxLen) (h2 : (xs.length + 1) * by_ ≤ 140737488355328) :
    appendA P (upd hp nx (some ⟨e, s, true, [c]⟩)) (nx + 1) t t v (.own nx 0 1) =
      some (.own (nx + 1) 0 (xs.length + 1), upd (killV v (upd hp nx (some ⟨e, s, true, [c]⟩))) (nx + 1) (some ⟨e, s, true, xs ++ [c]⟩), nx + 2) := by
  rcases h with ⟨rfl, rfl⟩ | ⟨id, hid, rfl, hh⟩
  · simp at h1 h2
    simp [appendA, ht, hs, hb, hz, hzl, h0, h1, h2, AM.view, killV]
  · have hne : ¬ id = nx := by omega
    simp [appendA, ht, hs, hb, hz, hzl, h0, h1, h2, AM.view, killV, hne, hh]
theorem OwnS.after {hp : Hp} {nx e s : Nat} {v : PV} {xs : List (List PV)} {c : List PV} {tmp : Option Blk} : OwnS (upd (killV v (upd hp nx tmp)) (nx + 1) (some ⟨e, s, true, xs ++ [c]⟩)) (nx + 2) e s (.own (nx + 1) 0 (xs.length + 1)) (xs ++ [c]) :=
  .inr ⟨nx + 1, by omega, by simp, by simp⟩
/-- What else is live stays so. -/
theorem killV_other {hp : Hp} {nx e s : Nat} {v : PV} {xs : List (List PV)} (h : OwnS hp nx e s v xs) (hp' : Hp) (id : Nat) (hne : ∀ n, v ≠ .own id 0 n) : killV v hp' id = hp' id := by
  rcases h with ⟨rfl, rfl⟩ | ⟨k, hk, rfl, hh⟩
  · rfl
  · have : ¬ id = k := fun e => hne _ (by rw [e])
    simp [killV, this]
/-- Its end as a result. -/
theorem OwnS.ret {hp : Hp} {nx e s : Nat} {v : PV} {xs : List (List PV)} (h : OwnS hp nx e s v xs) (nx' : Nat) : OwnR (match v with | .nil => none | _ => some ⟨e, s, true, xs⟩) v hp nx' := by
  rcases h with ⟨rfl, rfl⟩ | ⟨id, hid, rfl, hh⟩
  · rfl
  · exact ⟨id, rfl, hh, rfl⟩
theorem OwnS.freeze {hp : Hp} {nx e s : Nat} {v : PV} {xs : List (List PV)} (h : OwnS hp nx e s v xs) (nx' : Nat) : pureN (.sl s xs) v hp nx' := by
  rcases h with ⟨rfl, rfl⟩ | ⟨id, hid, rfl, hh⟩
  · exact ⟨.nil, by simp, .inr ⟨rfl, s, rfl⟩⟩
  · exact ⟨.sl s xs, by simp [hh], up_of _⟩
/-- As one of two results. -/
theorem OwnS.freeze2 {hp : Hp} {nx e s : Nat} {v : PV} {xs : List (List PV)} (h : OwnS hp nx e s v xs) (y : Value) (nx' : Nat) : pureN (.tup [.sl s xs, .v y]) (.tup [v, .v y]) hp nx' := by
  rcases h with ⟨rfl, rfl⟩ | ⟨id, hid, rfl, hh⟩
  · refine ⟨.tup [.nil, .v y], by simp, rfl, fun j a b ha hb => ?_⟩
    match j, ha, hb with
    | 0, ha, hb => simp at ha hb; subst ha; subst hb; exact .inr ⟨rfl, s, rfl⟩
    | 1, ha, hb => simp at ha hb; subst ha; subst hb; exact .inl rfl
    | j + 2, ha, hb => simp at ha
  · exact ⟨.tup [.sl s xs, .v y], by simp [hh], up_of _⟩

theorem map_inj {α β : Type} {f : α → β} (h : ∀ a b, f a = f b → a = b) : ∀ {xs ys : List α}, xs.map f = ys.map f → xs = ys
  | [], [], _ => rfl
  | [], y :: ys, e => by simp at e
  | x :: xs, [], e => by simp at e
  | x :: xs, y :: ys, e => by
    simp at e
    rw [h x y e.1, map_inj h e.2]

/-- A loop that counts: I k holds at the head of round k. -/
def forK (I : Nat → (Nat → PV) → Hp → Nat → Prop) (n k : Nat) (K : Exit → St → Prop) (e : Exit) (st : St) : Prop := match e with
  | .normal => k + 1 ≤ n ∧ I (k + 1) st.σ st.hp st.nx
  | e => K e st
@[simp] theorem forK_normal (I : Nat → (Nat → PV) → Hp → Nat → Prop) (n k : Nat) (K : Exit → St → Prop) (st : St) : forK I n k K .normal st = (k + 1 ≤ n ∧ I (k + 1) st.σ st.hp st.nx) := rfl
@[simp] theorem forK_ret (I : Nat → (Nat → PV) → Hp → Nat → Prop) (n k : Nat) (K : Exit → St → Prop) (st : St) : forK I n k K .ret st = K .ret st := rfl
@[simp] theorem forK_exit (I : Nat → (Nat → PV) → Hp → Nat → Prop) (n k i : Nat) (K : Exit → St → Prop) (st : St) : forK I n k K (.exit i) st = K (.exit i) st := rfl
theorem EvC_for {C : Ctx} {b : Code} {st : St} {K : Exit → St → Prop} (I : Nat → (Nat → PV) → Hp → Nat → Prop) (n : Nat) (h0 : I 0 st.σ st.hp st.nx)
    (round : ∀ k σ hp nx, k ≤ n → I k σ hp nx → EvC C b ⟨σ, hp, nx⟩ (forK I n k K)) : EvC C (.loop b) st K := by
  have key : ∀ d k st, n - k = d → k ≤ n → I k st.σ st.hp st.nx → EvC C (.loop b) st K := by
    intro d
    induction d with
    | zero =>
      intro k st hd hk hI
      rw [EvC_loop_unfold]
      refine (round k st.σ st.hp st.nx hk hI).mono fun e st' h => ?_
      cases e
      case normal => have := h.1; omega
      all_goals exact h
    | succ d ih =>
      intro k st hd hk hI
      rw [EvC_loop_unfold]
      refine (round k st.σ st.hp st.nx hk hI).mono fun e st' h => ?_
      cases e
      case normal => exact ih (k + 1) st' (by omega) h.1 h.2
      all_goals exact h
  exact key _ 0 st rfl (Nat.zero_le _) h0

end Go.AM
