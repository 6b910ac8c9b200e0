/-
  The abstract machine, part 15: what may be said of a function to its callers: pure ones, ones that return a new slice, ones that take a slice over.
-/
import Derived.Test.YtphmgjcjcdodhaaAm14
namespace Go.AM
open Go.RowKit

def PV.isV : PV → Bool
  | .v _ => true
  | _ => false
def PV.flat : PV → Bool
  | .v _ => true
  | .tup cs => cs.all PV.isV
  | _ => false

/-- nil is a slice without elements. -/
def nilTo (s : Nat) : PV → PV
  | .nil => .sl s []
  | x => x
def normArgs : List Nat → List PV → List PV
  | s :: ns, x :: l => nilTo s x :: normArgs ns l
  | _, l => l
def NilUp1 (x y : PV) : Prop := x = y ∨ (x = .nil ∧ ∃ s, y = .sl s [])
def NilUp : PV → PV → Prop
  | .tup xs, .tup ys => xs.length = ys.length ∧ ∀ (j : Nat) (x y : PV), xs[j]? = some x → ys[j]? = some y → NilUp1 x y
  | x, y => NilUp1 x y

/-- A function of closed data. Where it is given slices of the caller's own and returns more than numbers and texts, these are given up (kill), or the call is not allowed. -/
def hPure (kill : Bool) (ns : List Nat) (F : List PV → Option PV) : AM.Spec := fun args hp nx =>
  match freezeVals hp args with
  | some (as, hp1) => match F (normArgs ns as) with
    | some r => if r.flat = true ∨ args.all PV.noOwn = true then some (r, hp, nx) else if kill = true then some (r, hp1, nx) else none
    | none => none
  | none => none

/-- A function of closed data that returns a slice of its own (or nil). -/
def hFresh (ns : List Nat) (F : List PV → Option (Option Blk)) : AM.Spec := fun args hp nx =>
  match freezeVals hp args with
  | some (as, hp1) => match F (normArgs ns as) with
    | some none => some (.nil, hp1, nx)
    | some (some b) => some (.own nx 0 b.es.length, upd hp1 nx (some b), nx + 1)
    | none => none
  | none => none

/-- A function that takes a slice of the caller's own over (or nil), and returns one (or nil). -/
def hMove (ns : List Nat) (F : Option Blk → List PV → Option (Option Blk)) : AM.Spec := fun args hp nx =>
  match args with
  | .nil :: l => match freezeVals hp l with
    | some (as, hp1) => match F none (normArgs ns as) with
      | some none => some (.nil, hp1, nx)
      | some (some b) => some (.own nx 0 b.es.length, upd hp1 nx (some b), nx + 1)
      | none => none
    | none => none
  | .own id 0 n :: l => match freezeVals hp l with
    | some (as, hp1) => match hp1 id with
      | some b0 => if b0.arr = true ∧ n = b0.es.length then match F (some b0) (normArgs ns as) with
          | some none => some (.nil, upd hp1 id none, nx)
          | some (some b) => some (.own nx 0 b.es.length, upd (upd hp1 id none) nx (some b), nx + 1)
          | none => none
        else none
      | none => none
    | none => none
  | _ => none

theorem hPure_quiet (ns : List Nat) (F : List PV → Option PV) : Quiet (hPure false ns F) := by
  intro args hp nx r hp' nx' h
  unfold hPure at h
  split at h
  · split at h
    · split at h
      · injection h with h
        injection h with _ h
        injection h with h1 h2
        exact ⟨h1.symm, h2.symm⟩
      · simp at h
    · cases h
  · cases h

/-- What is known of a function's text. -/
structure Known (C : Ctx) (pf : FuncId → Bool) (f : FuncId) (fn : Func) (code : Code) : Prop where
  func : C.P.funcs[f]? = some fn
  name : (fn.name == "runtime.NumGoroutine") = false
  body : fn.body = some code
  ok : codeOk pf C.dyn C.lds C.bk fn.ntmps code = true

/-- What is known of the functions that are called. -/
structure Good (C : Ctx) (pf : FuncId → Bool) : Prop where
  spec : ∀ g spec, C.Γ g = some spec → SpecSound C.P g spec
  quiet : ∀ g spec, pf g = true → C.Γ g = some spec → Quiet spec
  mixed : C.P.follows .mixedOrders = true
  box : ∀ g spec, C.bk g = true → C.Γ g = some spec → BoxKeep spec := by intro _ _ h; cases h

theorem freezeCell_same {hp hp1 : Hp} {x y : PV} (h : freezeCell hp x = some (y, hp1)) (hn : x.cellOpen = false) : hp1 = hp := by
  unfold freezeCell at h
  split at h <;> first
    | (injection h with h; injection h with _ h; exact h.symm)
    | (simp [PV.cellOpen] at hn; done)
    | cases h

theorem freezeCells_same : ∀ {xs ys : List PV} {hp hp1 : Hp}, freezeCells hp xs = some (ys, hp1) → xs.any PV.cellOpen = false → hp1 = hp
  | [], ys, hp, hp1, h, _ => by
    simp only [freezeCells] at h
    injection h with h
    injection h with _ h
    exact h.symm
  | x :: l, ys, hp, hp1, h, hn => by
    simp only [freezeCells] at h
    simp only [List.any_cons, Bool.or_eq_false_iff] at hn
    split at h
    · rename_i y h1 hf
      split at h
      · rename_i r h2 hr
        injection h with h
        injection h with _ h
        subst h
        rw [freezeCells_same hr hn.2, freezeCell_same hf hn.1]
      · cases h
    · cases h

theorem freezeVal_same {hp hp1 : Hp} {x y : PV} (h : freezeVal hp x = some (y, hp1)) (hn : x.noOwn = true) : hp1 = hp := by
  unfold freezeVal at h
  split at h
  · split at h
    · rename_i l h2 hf
      injection h with h
      injection h with _ h
      subst h
      exact freezeCells_same hf (by simpa [PV.noOwn] using hn)
    · cases h
  · refine freezeCell_same h ?_
    cases x <;> simp_all [PV.noOwn, PV.cellOpen]

theorem freezeVals_same : ∀ {xs ys : List PV} {hp hp1 : Hp}, freezeVals hp xs = some (ys, hp1) → xs.all PV.noOwn = true → hp1 = hp
  | [], ys, hp, hp1, h, _ => by
    simp only [freezeVals] at h
    injection h with h
    injection h with _ h
    exact h.symm
  | x :: l, ys, hp, hp1, h, hn => by
    simp only [freezeVals] at h
    simp only [List.all_cons, Bool.and_eq_true] at hn
    split at h
    · rename_i y h1 hf
      split at h
      · rename_i r h2 hr
        injection h with h
        injection h with _ h
        subst h
        rw [freezeVals_same hr hn.2, freezeVal_same hf hn.1]
      · cases h
    · cases h

section
variable {C : Ctx} {pf : FuncId → Bool} {f : FuncId} {fn : Func} {code : Code}

/-- Nothing that was there has changed; what is new is stable. -/
theorem Stp.outer {P : Program} {hp : Hp} {nx : Nat} {S : Nat → Prop} {G : Nat → GI} {w w' : World} (h : Inv P w S G hp nx) (k : Fr w (fun _ => False) w') :
    Stp P hp nx S G w hp nx (fun b => S b ∨ (w.heap.size ≤ b ∧ b < w'.heap.size)) G w' := by
  have hold : ∀ b, b < w.heap.size → w'.heap[b]? = w.heap[b]? := fun b hb => k.block b hb fun h => h
  have hS : ∀ b, S b → (S b ∨ (w.heap.size ≤ b ∧ b < w'.heap.size)) ∧ w'.heap[b]? = w.heap[b]? := fun b hb => ⟨.inl hb, hold b (h.st b hb)⟩
  refine ⟨⟨fun b hb => ?_, h.top, fun id b hb => (h.live id b hb).mono hS (Nat.le_refl _) (fun _ _ => rfl) (hold _ (h.live id b hb).lt), fun id b hb hs => ?_, h.inj⟩, Nat.le_refl _, fun _ _ => rfl, fun _ hb => .inl hb, fun b hb => ?_, fun id b hb => .inl ⟨id, b, hb, rfl⟩, ⟨k.os, k.tape, k.output, k.size, k.drawn, fun b hb _ => hold b hb⟩⟩
  · rcases hb with hb | hb
    · exact Nat.lt_of_lt_of_le (h.st b hb) k.size
    · exact hb.2
  · rcases hs with hs | hs
    · exact h.apart id b hb hs
    · have := (h.live id b hb).lt; omega
  · rcases hb with hb | hb
    · exact .inl hb
    · exact .inr (.inr hb.1)

theorem inv_empty {P : Program} {w : World} {S : Nat → Prop} (G : Nat → GI) (hS : ∀ b, S b → b < w.heap.size) : Inv P w S G (fun _ => none) 0 :=
  ⟨hS, fun _ _ h => (by cases h), fun _ _ h => (by cases h), fun _ _ h => (by cases h), fun _ _ _ _ h => (by cases h)⟩

theorem live_empty {G : Nat → GI} {b : Nat} (h : liveIn (fun _ => none) G b) : False := by
  obtain ⟨_, _, h, _⟩ := h
  cases h

theorem Zip.closed {w : World} {S : Nat → Prop} {G : Nat → GI} {nx : Nat} {xs : List PV} {us : List Value} (h : Zip (RepC w S) xs us) : Zip (RepO w S G nx) xs us := h.imp fun _ _ h => .c h

theorem flat_any {w w' : World} {S S' : Nat → Prop} {r : PV} {v : Value} (h : RepC w S r v) (hf : r.flat = true) : RepC w' S' r v := by
  cases h with
  | v h => exact .v h
  | tup hl hr =>
    refine .tup hl fun j pv u hj hu => ?_
    simp only [PV.flat, List.all_eq_true] at hf
    have := hf pv (List.mem_of_getElem? hj)
    have h2 := hr j pv u hj hu
    cases pv <;> simp [PV.isV] at this
    obtain ⟨rfl, hl⟩ := h2.v_inv
    exact .v hl
  | _ => simp [PV.flat] at hf

/-- A run on closed data, seen from the caller. -/
theorem run_closed (hg : Good C pf) (hk : Known C pf f fn code) {args : List PV} {x : PV} {hp1 : Hp} {nx1 : Nat} (h : evalFunc C fn args (fun _ => none) 0 = some (x, hp1, nx1)) (hn : args.length ≤ fn.ntmps)
    {w : World} {S : Nat → Prop} {vs : List Value} (hS : ∀ b, S b → b < w.heap.size) (hz : Zip (RepC w S) args vs) :
    Calls C.P f vs.toArray w fun e w' => ∃ v S' G', e = .returned v ∧ Fr w (fun _ => False) w' ∧ Inv C.P w' S' G' hp1 nx1 ∧ RepO w' S' G' nx1 x v ∧ (∀ b, S b → S' b) ∧ (∀ b, S' b → S b ∨ w.heap.size ≤ b) ∧ (∀ id blk, hp1 id = some blk → w.heap.size ≤ (G' id).g) := by
  refine (func_calls hg.spec hg.quiet hg.box hg.mixed hk.func hk.body hk.ok h (inv_empty (fun _ => ⟨0, 0, 0⟩) hS) hz.closed hn).mono fun e w' hh => ?_
  obtain ⟨v, S', G', he, k, hx⟩ := hh
  refine ⟨v, S', G', he, ⟨k.fr.os, k.fr.tape, k.fr.output, k.fr.size, k.fr.drawn, fun b hb _ => k.fr.block b hb live_empty⟩, k.inv, hx, k.keep, fun b hb => ?_, fun id blk hb => ?_⟩
  · rcases k.from_ b hb with h | h | h
    · exact .inl h
    · exact (live_empty h).elim
    · exact .inr h
  · rcases k.own id blk hb with h | h
    · exact (live_empty h).elim
    · exact h

theorem nilTo_rep {w : World} {S : Nat → Prop} {x : PV} {u : Value} (h : RepC w S x u) (s : Nat) : RepC w S (nilTo s x) u := by
  unfold nilTo
  split
  · cases h
    exact .sl (es := []) (fun _ _ => undef) (by simp) (by simp) (by simp [maxLen]) (by simp) (by simp) (by simp)
  · exact h

theorem norm_rep {w : World} {S : Nat → Prop} : ∀ {ns : List Nat} {xs : List PV} {us : List Value}, Zip (RepC w S) xs us → Zip (RepC w S) (normArgs ns xs) us
  | [], xs, us, h => by unfold normArgs; exact h
  | s :: ns, [], us, h => by unfold normArgs; exact h
  | s :: ns, x :: xs, us, h => by
    obtain ⟨u, us', rfl, hu, hz⟩ := h.uncons
    simp only [normArgs]
    exact .cons (nilTo_rep hu s) (norm_rep hz)

theorem up_rep1 {w : World} {S : Nat → Prop} {x y : PV} {u : Value} (h : RepC w S x u) (hu : NilUp1 x y) : RepC w S y u := by
  rcases hu with rfl | ⟨rfl, s, rfl⟩
  · exact h
  · exact nilTo_rep h s

theorem up_rep {w : World} {S : Nat → Prop} {x y : PV} {u : Value} (h : RepC w S x u) (hu : NilUp x y) : RepC w S y u := by
  unfold NilUp at hu
  split at hu
  · cases h with
    | tup hl hr =>
      rename_i xs ys us
      refine .tup (by omega) fun j pv v hj hv => ?_
      have hjl : j < xs.length := by rw [hu.1]; exact (List.getElem?_eq_some_iff.1 hj).1
      exact up_rep1 (hr j xs[j] v (List.getElem?_eq_getElem hjl) hv) (hu.2 j xs[j] pv (List.getElem?_eq_getElem hjl) hj)
  · exact up_rep1 h hu

theorem hPure_sound (hg : Good C pf) (hk : Known C pf f fn code) (kill : Bool) (ns : List Nat) (F : List PV → Option PV) (hF : ∀ args r, F args = some r → args.length ≤ fn.ntmps ∧ ∃ r0, evalPure C fn args = some r0 ∧ NilUp r0 r) : SpecSound C.P f (hPure kill ns F) := by
  refine ⟨⟨fn, hk.func, hk.name, by rw [hk.body]; rfl⟩, ?_⟩
  intro args hp nx r hp' nx' h w S G vs hi hz
  unfold hPure at h
  split at h
  · rename_i as hp1 hfr
    split at h
    · rename_i r0 hF0
      obtain ⟨hn, rr, hev, hup⟩ := hF _ r0 hF0
      unfold evalPure at hev
      split at hev
      · rename_i x hpe nxe hef
        obtain ⟨⟨r1, hpf1⟩, hfz, hr1⟩ := map_some_inv hev
        simp only at hr1
        subst hr1
        obtain ⟨S1, k1, hz1, hsn⟩ := freezeVals_sound hi hfr hz
        refine (run_closed hg hk hef hn k1.inv.st (norm_rep hz1)).mono fun e w' hh => ?_
        obtain ⟨v, S', G', he, fr, inv', hx, hs0, hs1, _⟩ := hh
        obtain ⟨S2, k2, hc0⟩ := freeze_sound inv' hfz hx
        have hc := up_rep hc0 hup
        have hS2 : ∀ b, S2 b → S1 b ∨ (w.heap.size ≤ b ∧ b < w'.heap.size) := by
          intro b hb
          have hlt := k2.inv.st b hb
          rcases k2.from_ b hb with h1 | ⟨id, blk, h1, rfl⟩ | h1
          · rcases hs1 b h1 with h2 | h2
            · exact .inl h2
            · exact .inr ⟨h2, hlt⟩
          · rcases Nat.lt_or_ge (G' id).g w.heap.size with h3 | h3
            · rename_i hown
              have := hown id blk h1
              omega
            · exact .inr ⟨h3, hlt⟩
          · exact absurd h1 (by omega)
        split at h
        · rename_i hflat
          injection h with h
          injection h with e1 h
          injection h with e2 e3
          subst e1; subst e2; subst e3
          refine ⟨v, _, G, he, Stp.outer hi fr, .c ?_⟩
          rcases hflat with hfl | hno
          · exact flat_any hc hfl
          · have hno' := hsn hno
            exact hc.mono fun b hb => ⟨by rw [← hno']; exact hS2 b hb, rfl⟩
        · split at h
          · injection h with h
            injection h with e1 h
            injection h with e2 e3
            subst e1; subst e2; subst e3
            exact ⟨v, _, G, he, k1.trans (Stp.outer k1.inv fr), .c (hc.mono fun b hb => ⟨hS2 b hb, rfl⟩)⟩
          · cases h
      · cases hev
    · cases h
  · cases h

end
end Go.AM
