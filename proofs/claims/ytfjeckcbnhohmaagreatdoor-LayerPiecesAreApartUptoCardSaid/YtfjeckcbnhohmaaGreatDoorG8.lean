/-
  Copies of slices.
  The reference's Check of a value: what it computes, and that it is value.Check's.
  The reference's Check of a value.
  Comparisons: cmp.Compare at numbers and texts; a value compared with itself.
  Comparing versions and cuts.
  value.Compare: how two values are ordered.
-/
import Derived.Test.YtfjeckcbnhohmaaGreatDoorG5
import Derived.Test.YtfjeckcbnhohmaaGreatDoorG6
import Derived.Lib.Bytealg
import Derived.Test.YtfjeckcbnhohmaaGreatDoorG7
namespace Go.Proofs.YtfjeckcbnhohmaaGreatDoor
open Go.RowKit Go.AM

/-- What slices.Clone makes. -/
def cloneF (e s : Nat) : List PV → Option (Option Blk)
  | [.nil] => some none
  | [.em] => some (some ⟨e, s, true, []⟩)
  | [.sl s' es] => if s' = s ∧ es ≠ [] ∧ es.length ≤ lim then some (some ⟨e, s, true, es⟩) else none
  | _ => none
/-- A slice of the call's own, or nil. -/
def ownOr (e s : Nat) (es : List (List PV)) (y : PV) (nx : Nat) : PV × (Hp → Hp) × Nat := match y with
  | .nil => (.nil, fun h => h, nx)
  | _ => (.own nx 0 es.length, fun h => upd h nx (some ⟨e, s, true, es⟩), nx + 1)
theorem clone_call {e s : Nat} {es : List (List PV)} {y : PV} (h : SlOf s es y) (hl : es.length ≤ lim) (hp : Hp) (nx : Nat) : hFresh [] (cloneF e s) [y] hp nx = some ((ownOr e s es y nx).1, (ownOr e s es y nx).2.1 hp, (ownOr e s es y nx).2.2) := by
  cases h with
  | nil => rfl
  | em => rfl
  | sl => simp at hl; simp [hFresh, normArgs, cloneF, ownOr, hl]
theorem ownOr_other {e s : Nat} {es : List (List PV)} {y : PV} {nx : Nat} (hp : Hp) {id : Nat} (h : id < nx) : (ownOr e s es y nx).2.1 hp id = hp id := by
  unfold ownOr
  split
  · rfl
  · exact upd_miss _ _ _ _ (by omega)
theorem ownOr_fst (e s : Nat) (es : List (List PV)) (y : PV) (nx : Nat) : (ownOr e s es y nx).1 = .nil ∨ (ownOr e s es y nx).1 = .own nx 0 es.length := by
  unfold ownOr
  split
  · exact .inl rfl
  · exact .inr rfl
theorem ownOr_nx (e s : Nat) (es : List (List PV)) (y : PV) (nx : Nat) : nx ≤ (ownOr e s es y nx).2.2 := by
  unfold ownOr
  split <;> simp
theorem clone_ownS {e s : Nat} {es : List (List PV)} {y : PV} (h : SlOf s es y) (hp : Hp) (nx : Nat) : OwnS ((ownOr e s es y nx).2.1 hp) (ownOr e s es y nx).2.2 e s (ownOr e s es y nx).1 es := by
  cases h with
  | nil => exact .inl ⟨rfl, rfl⟩
  | em => exact .inr ⟨nx, by simp [ownOr], rfl, by simp [ownOr]⟩
  | sl => exact .inr ⟨nx, by simp [ownOr], rfl, by simp [ownOr]⟩
/-! ### slices.Clone at V -/
set_option maxRecDepth 4000 in
theorem cloneV_eval (args : List PV) (r : Option Blk) (h : cloneF 146 5 args = some r) : args.length ≤ Tryz.f277.ntmps ∧ ∃ x hp nx, evalFunc C0 Tryz.f277 args (fun _ => none) 0 = some (x, hp, nx) ∧ OwnR r x hp nx := by
  unfold cloneF at h
  split at h
  · injection h with h; subst h
    exact ⟨by simp [Tryz.f277], evalFunc_of rfl (by simp [binA, isNilA, Tryz.f277, OwnR])⟩
  · injection h with h; subst h
    exact ⟨by simp [Tryz.f277], evalFunc_of rfl (by simp [binA, isNilA, Tryz.f277, OwnR, buildSliceA, appendA, AM.view, maxLen, setElems, freezeParts])⟩
  · rename_i es
    split at h
    · rename_i hc
      obtain ⟨rfl, hne, hl⟩ := hc
      injection h with h; subst h
      cases es with
      | nil => exact absurd rfl hne
      | cons c es =>
        unfold lim at hl
        simp at hl
        have m1 : es.length + 1 ≤ maxLen := by unfold maxLen; omega
        have m2 : (es.length + 1) * 80 ≤ 140737488355328 := by omega
        refine ⟨by simp [Tryz.f277], evalFunc_of rfl ?_⟩
        simp [binA, isNilA, Tryz.f277, OwnR, buildSliceA, appendA, AM.view, setElems, freezeParts, m1, m2]
    · cases h
  · cases h
theorem cloneV_sound : SpecSound Tryz.prog 277 (hFresh [] (cloneF 146 5)) :=
  hFresh_sound (fn := Tryz.f277) (code := _) good0 ⟨Tryz.func277, by kernel_rfl, rfl, by kernel_rfl⟩ [] _ cloneV_eval
/-! ### the reference's inner -/
def Val.inner (v : Val) : List Val := v.items ++ v.fields.map (·.2)
def innerTo (v : Val) (k : Nat) : List (List PV) := (v.items ++ (v.fields.take k).map (·.2)).map Val.enc
theorem innerTo_zero (v : Val) : innerTo v 0 = v.items.map Val.enc := by simp [innerTo]
theorem innerTo_succ {v : Val} {k : Nat} (h : k < v.fields.length) : innerTo v (k + 1) = innerTo v k ++ [v.fields[k].2.enc] := by
  unfold innerTo
  rw [List.take_succ_eq_append_getElem h, List.map_append (f := fun x : List UInt8 × Val => x.2), ← List.append_assoc, List.map_append (f := Val.enc)]
  rfl
theorem innerTo_full (v : Val) : innerTo v v.fields.length = v.inner.map Val.enc := by simp [innerTo, Val.inner]
theorem innerTo_length (v : Val) (k : Nat) : (innerTo v k).length ≤ v.items.length + v.fields.length := by simp [innerTo]; omega
noncomputable abbrev Cin : Ctx := mkCtx Tryz.prog [(277, hFresh [] (cloneF 146 5))]
set_option maxRecDepth 8000 in
theorem inner_eval (v : Val) (hv : v.vb ≤ lim) (y : PV) (hy : SlOf 5 (v.items.map Val.enc) y) :
    ∃ r0, evalPure Cin Tryz.f225 [.agg (v.enc.set 3 y)] = some r0 ∧ ∀ (w : World) (S : Nat → Prop) (u : Value), RepC w S r0 u → RepC w S (.sl 5 (v.inner.map Val.enc)) u := by
  have hvb := vb_eq v
  have hl1 := vbs_length v.items
  have hl2 := fbs_length v.fields
  have hcl := fun hp nx => clone_call (e := 146) hy (by simp; omega) hp nx
  have hown := fun hp nx => clone_ownS (e := 146) hy hp nx
  unfold lim at hv
  have henc : v.enc.set 3 y = [int v.kind, int v.n, str v.s, y, .sl 6 (v.fields.map encF)] := by rw [enc_eq]; rfl
  have hfin : ∀ {code}, Tryz.f225.body = some code → EvC Cin code ⟨startσ [.agg (v.enc.set 3 y)], fun _ => none, 0⟩ (retK Cin.P Tryz.f225 (pureN (.sl 5 (v.inner.map Val.enc)))) → ∃ r0, evalPure Cin Tryz.f225 [.agg (v.enc.set 3 y)] = some r0 ∧ ∀ (w : World) (S : Nat → Prop) (u : Value), RepC w S r0 u → RepC w S (.sl 5 (v.inner.map Val.enc)) u := by
    intro code hb h
    obtain ⟨r0, h1, h2⟩ := evalPureN_of hb h
    exact ⟨r0, h1, fun w S u hr => up_rep hr h2⟩
  refine hfin rfl ?_
  rw [henc]
  have ho := fun hp => ownOr_other (e := 146) (s := 5) (es := v.items.map Val.enc) (y := y) (nx := 1) hp (id := 0) (by omega)
  simp [hy.cell, hcl, ho]
  refine EvC_for (fun k σ hp nx => σ 10 = .sl 6 (v.fields.map encF) ∧ σ 11 = int v.fields.length ∧ σ 12 = int k ∧ OwnS hp nx 146 5 (σ 3) (innerTo v k)) v.fields.length
    ⟨by simp, by simp, by simp, by rw [innerTo_zero]; simpa using hown _ _⟩ ?_
  rintro k σ hp nx hk ⟨h10, h11, h12, hO⟩
  have hle := innerTo_length v k
  by_cases hlt : k < v.fields.length
  · have hw : IntKind.i64.wrap ((k : Int) + 1) = (k : Int) + 1 := wrap_fit (by omega) (by omega)
    have hO1 := hO.more (some ⟨180, 6, false, [str v.fields[k].1 :: v.fields[k].2.enc]⟩)
    have hap := hO1.append1 (P := Tryz.prog) (t := 42) (c := v.fields[k].2.enc) el42 sz146 by146 ze146 rfl (by omega) (by unfold maxLen; omega) (by omega)
    have hbs : ∀ hp nx, buildSliceA Tryz.prog hp nx 42 1 [(0, .agg v.fields[k].2.enc)] = some (.own nx 0 1, upd hp nx (some ⟨146, 5, true, [v.fields[k].2.enc]⟩), nx + 1) := fun hp nx => by
      simp only [buildSliceA, el42, sz146, ze146, freezeParts, freeze_enc]
      simp [setElems]
    simp [h10, h11, h12, hlt, hbs, hw, hap]
    refine ⟨hlt, ?_⟩
    rw [innerTo_succ hlt]
    exact OwnS.after
  · obtain rfl : k = v.fields.length := by omega
    rw [innerTo_full] at hO
    have := hO.freeze nx
    simp [h10, h11, h12, Tryz.f225]
    exact this
set_option maxRecDepth 4000 in
theorem inner_sound : SpecSound Tryz.prog 225 (GV fun v => .sl 5 (v.inner.map Val.enc)) :=
  pureG (fn := Tryz.f225) (good_of (q := []) mixed ⟨cloneV_sound, by simp, trivial⟩ : AM.Good Cin _) ⟨_, Tryz.func225, by kernel_rfl, rfl, by kernel_rfl⟩ false [] _ fun args r h w S vs hz => by
    obtain ⟨v, rfl, hv, rfl⟩ := FV_inv h
    obtain ⟨u, hu, hr⟩ := zip_one hz
    subst hu
    obtain ⟨y, hy, hr2⟩ := rep_agg_set hr (j := 3) (s := 5) (es := v.items.map Val.enc) (by simp)
    obtain ⟨r0, h1, h2⟩ := inner_eval v hv.1 y hy
    exact ⟨_, r0, .cons hr2 .nil, by simp [Tryz.f225], h1, h2⟩
end Go.Proofs.YtfjeckcbnhohmaaGreatDoor
namespace Go.Proofs.YtfjeckcbnhohmaaGreatDoor
open Go.RowKit Go.AM

def cutB (s : Int × Bool) : Bool := s.2 || decide (1000 < s.1)
def stepR (s r : Int × Bool) : Int × Bool := if cutB s then s else (s.1 + r.1, s.2 || r.2)
mutual
def Val.rp : Val → Int → Int × Bool
  | .mk _ _ _ is fs, l => rpF fs l (rpV is l (1, decide (8 < l)))
def rpV : List Val → Int → Int × Bool → Int × Bool
  | [], _, s => s
  | v :: vs, l, s => rpV vs l (stepR s (v.rp (l + 1)))
def rpF : List (List UInt8 × Val) → Int → Int × Bool → Int × Bool
  | [], _, s => s
  | (_, v) :: vs, l, s => rpF vs l (stepR s (v.rp (l + 1)))
end

def rpI (xs : List Val) (l : Int) (s : Int × Bool) : Int × Bool := xs.foldl (fun s x => stepR s (x.rp (l + 1))) s
theorem rpV_eq : ∀ (xs : List Val) (l : Int) (s : Int × Bool), rpV xs l s = rpI xs l s
  | [], _, _ => rfl
  | v :: vs, l, s => by simp only [rpV, rpI, List.foldl_cons]; exact rpV_eq vs l _
theorem rpF_eq : ∀ (xs : List (List UInt8 × Val)) (l : Int) (s : Int × Bool), rpF xs l s = rpI (xs.map (·.2)) l s
  | [], _, _ => rfl
  | (a, v) :: vs, l, s => by simp only [rpF, rpI, List.map_cons, List.foldl_cons]; exact rpF_eq vs l _
theorem rp_eq (v : Val) (l : Int) : v.rp l = rpI v.inner l (1, decide (8 < l)) := by
  cases v with
  | mk k n s is fs => simp only [Val.rp, rpV_eq, rpF_eq, Val.inner, Val.items, Val.fields, rpI, List.foldl_append]
theorem rpI_stop {xs : List Val} {l : Int} {s : Int × Bool} (h : cutB s = true) : rpI xs l s = s := by
  induction xs with
  | nil => rfl
  | cons x xs ih => simp only [rpI, List.foldl_cons, stepR, h, if_true]; exact ih
theorem rpI_drop {xs : List Val} {l : Int} {s : Int × Bool} {k : Nat} (h : k < xs.length) : rpI (xs.drop k) l s = rpI (xs.drop (k + 1)) l (stepR s (xs[k].rp (l + 1))) := by
  rw [List.drop_eq_getElem_cons h]; rfl

def partsI (xs : List Val) : Nat := (xs.map Val.parts).sum
def levelsI : List Val → Nat
  | [] => 0
  | v :: l => max v.levels (levelsI l)
theorem partsI_eq (v : Val) : v.parts = 1 + partsI v.inner := by
  rw [parts_eq]
  have h1 : ∀ l : List Val, partsV l = partsI l := by
    intro l; induction l with
    | nil => rfl
    | cons v l ih => simp [partsV, partsI, ih]
  have h2 : ∀ l : List (List UInt8 × Val), partsF l = partsI (l.map (·.2)) := by
    intro l; induction l with
    | nil => rfl
    | cons v l ih => obtain ⟨a, v⟩ := v; simp [partsF, partsI] at ih ⊢; rw [ih]
  rw [h1, h2]
  simp [partsI, Val.inner, Nat.add_assoc]
theorem levelsI_eq (v : Val) : v.levels = levelsI v.inner + 1 := by
  rw [levels_eq]
  have h1 : ∀ l : List Val, levelsV l = levelsI l := by
    intro l; induction l with
    | nil => rfl
    | cons v l ih => simp [levelsV, levelsI, ih]
  have h2 : ∀ l : List (List UInt8 × Val), levelsF l = levelsI (l.map (·.2)) := by
    intro l; induction l with
    | nil => rfl
    | cons v l ih => obtain ⟨a, v⟩ := v; simp [levelsF, levelsI, ih]
  have h3 : ∀ a b : List Val, levelsI (a ++ b) = max (levelsI a) (levelsI b) := by
    intro a b; induction a with
    | nil => simp [levelsI]
    | cons v a ih => simp only [List.cons_append, levelsI, ih]; omega
  rw [h1, h2, Val.inner, h3]
theorem inner_mem {v x : Val} (h : x ∈ v.inner) : x.vb < v.vb := by
  have hvb := vb_eq v
  rcases List.mem_append.1 h with h | h
  · have := vbs_mem h; omega
  · obtain ⟨f, hf, rfl⟩ := List.mem_map.1 h
    have := fbs_mem hf; omega

/-- What is known of the count with its end ahead. -/
structure RP (xs : List Val) (l : Int) (s r : Int × Bool) : Prop where
  lo : s.1 ≤ r.1
  hi : r.1 ≤ s.1 + partsI xs
  deep : r.2 = true → s.2 = true ∨ 8 < l + (levelsI xs : Int)
  all : cutB r = false → r.1 = s.1 + partsI xs ∧ (xs ≠ [] → l + (levelsI xs : Int) ≤ 8)
theorem rp_spec : ∀ (b : Nat) (v : Val), v.vb ≤ b → ∀ l, 0 ≤ (v.rp l).1 ∧ (v.rp l).1 ≤ v.parts ∧ ((v.rp l).2 = true → 8 < l + (v.levels : Int) - 1) ∧ (cutB (v.rp l) = false → (v.rp l).1 = v.parts ∧ l + (v.levels : Int) - 1 ≤ 8) := by
  intro b
  induction b with
  | zero => intro v hv; have := vb_pos v; omega
  | succ b ih =>
    intro v hv l
    have key : ∀ (xs : List Val) (s : Int × Bool), 0 ≤ s.1 → (∀ x ∈ xs, x.vb ≤ b) → RP xs l s (rpI xs l s) := by
      intro xs
      induction xs with
      | nil => intro s _ _; exact ⟨by simp [rpI], by simp [rpI, partsI], fun h => .inl (by simpa [rpI] using h), fun _ => ⟨by simp [rpI, partsI], fun h => absurd rfl h⟩⟩
      | cons x xs ihx =>
        intro s h0 hm
        by_cases hc : cutB s = true
        · rw [rpI_stop hc]
          exact ⟨by omega, by omega, fun h => .inl h, fun h => by rw [hc] at h; cases h⟩
        · have e : rpI (x :: xs) l s = rpI xs l (s.1 + (x.rp (l + 1)).1, s.2 || (x.rp (l + 1)).2) := by
            simp only [rpI, List.foldl_cons, stepR, hc]; rfl
          rw [e]
          obtain ⟨g1, g2, g3, g4⟩ := ih x (hm x (by simp)) (l + 1)
          have hr := ihx (s.1 + (x.rp (l + 1)).1, s.2 || (x.rp (l + 1)).2) (by simp only; omega) (fun y hy => hm y (by simp [hy]))
          have hpi : partsI (x :: xs) = x.parts + partsI xs := by simp [partsI]
          have hlo := hr.lo
          have hhi := hr.hi
          simp only at hlo hhi
          refine ⟨by omega, by rw [hpi]; omega, fun h => ?_, fun h => ?_⟩
          · simp only [levelsI]
            rcases hr.deep h with h | h
            · simp only [Bool.or_eq_true] at h
              rcases h with h | h
              · exact .inl h
              · right; have := g3 h; omega
            · right; omega
          · obtain ⟨a1, a2⟩ := hr.all h
            have hx : cutB (x.rp (l + 1)) = false := by
              simp only [cutB, Bool.or_eq_false_iff, decide_eq_false_iff_not] at h hc ⊢
              refine ⟨?_, by omega⟩
              cases hd : (x.rp (l + 1)).2 with
              | false => rfl
              | true =>
                exfalso
                have hst : cutB (s.1 + (x.rp (l + 1)).1, s.2 || (x.rp (l + 1)).2) = true := by simp [cutB, hd]
                rw [rpI_stop hst] at h
                simp [hd] at h
            obtain ⟨b1, b2⟩ := g4 hx
            simp only at a1
            refine ⟨by rw [hpi]; omega, fun _ => ?_⟩
            simp only [levelsI]
            by_cases hn : xs = []
            · subst hn; simp only [levelsI]; omega
            · have := a2 hn; omega
    have hk := key v.inner (1, decide (8 < l)) (by simp) fun x hx => by have := inner_mem hx; omega
    rw [rp_eq, partsI_eq, levelsI_eq]
    have k1 := hk.lo
    have k2 := hk.hi
    simp only at k1 k2
    refine ⟨by omega, by omega, fun h => ?_, fun h => ?_⟩
    · rcases hk.deep h with h | h
      · simp at h; omega
      · omega
    · obtain ⟨a1, a2⟩ := hk.all h
      simp only at a1
      refine ⟨by omega, ?_⟩
      by_cases hn : v.inner = []
      · rw [hn] at h ⊢
        simp [rpI, cutB] at h
        simp only [levelsI]
        omega
      · have := a2 hn; omega
/-- The two counts agree on what is too large. -/
theorem large_eq (v : Val) : cutB (v.rp 1) = (decide ((1000 : Int) < v.parts) || decide ((8 : Int) < v.levels)) := by
  obtain ⟨h1, h2, h3, h4⟩ := rp_spec v.vb v (Nat.le_refl _) 1
  cases hc : cutB (v.rp 1) with
  | false =>
    obtain ⟨a, b⟩ := h4 hc
    simp only [cutB, Bool.or_eq_false_iff, decide_eq_false_iff_not] at hc
    symm
    simp only [Bool.or_eq_false_iff, decide_eq_false_iff_not]
    omega
  | true =>
    symm
    simp only [cutB, Bool.or_eq_true, decide_eq_true_eq] at hc ⊢
    rcases hc with hc | hc
    · right; have := h3 hc; omega
    · left; omega

/-- A function of a value and a number. -/
noncomputable def FV2 (out : Val → Int → PV) (lo hi : Int) (n : Nat) : List PV → Option PV := specOf (α := Val × Int) (fun a => [.agg a.1.enc, int a.2]) (fun a => a.1.vb ≤ lim ∧ a.1.vb ≤ n ∧ lo ≤ a.2 ∧ a.2 ≤ hi) (fun a => out a.1 a.2)
theorem FV2_call (out : Val → Int → PV) (lo hi : Int) (n : Nat) (v : Val) (i : Int) (hp : Hp) (nx : Nat) (h : v.vb ≤ lim ∧ v.vb ≤ n ∧ lo ≤ i ∧ i ≤ hi) : hPure false [] (FV2 out lo hi n) [.agg v.enc, int i] hp nx = some (out v i, hp, nx) :=
  hPure_v (hp1 := hp) (show freezeVals hp [.agg v.enc, int i] = some ([.agg v.enc, int i], hp) by simp only [freezeVals, freeze_enc]; simp)
    (specOf_eq (enc := fun a : Val × Int => [.agg a.1.enc, int a.2]) (a := (v, i)) (fun a b e => by
      obtain ⟨a1, a2⟩ := a; obtain ⟨b1, b2⟩ := b
      simp only [List.cons.injEq, and_true, PV.agg.injEq] at e
      rw [enc_inj e.1, pint_inj e.2]) h) (.inr (by simp only [List.all_cons, noOwn_enc, List.all_nil]; rfl))
noncomputable abbrev Crp (n : Nat) : Ctx := mkCtx Tryz.prog [(162, hPure false [] (FV2 (fun v l => .tup [int (v.rp l).1, boo (v.rp l).2]) 1 9 n)), (225, GV fun v => .sl 5 (v.inner.map Val.enc))]
theorem inner_length (v : Val) : v.inner.length < v.vb := by
  have := vb_eq v
  have := vbs_length v.items
  have := fbs_length v.fields
  simp [Val.inner]
  omega
set_option maxRecDepth 8000 in
theorem rparts_eval (n : Nat) (v : Val) (l : Int) (h : v.vb ≤ lim ∧ v.vb ≤ n + 1 ∧ 1 ≤ l ∧ l ≤ 9) : evalPure (Crp n) Tryz.f162 [.agg v.enc, int l] = some (.tup [int (v.rp l).1, boo (v.rp l).2]) := by
  obtain ⟨ha, hb, hl1, hl2⟩ := h
  have hil := inner_length v
  have hin := fun hp nx => GV_call (fun v => .sl 5 (v.inner.map Val.enc)) v hp nx ha
  unfold lim at ha
  refine evalPure_of rfl ?_
  simp [hin]
  refine EvC_for (fun k σ hp nx => σ 1 = int l ∧ σ 15 = .sl 5 (v.inner.map Val.enc) ∧ σ 16 = int v.inner.length ∧ σ 17 = int k ∧ ∃ s : Int × Bool, σ 6 = int s.1 ∧ σ 7 = boo s.2 ∧ 0 ≤ s.1 ∧ s.1 ≤ 2000000 ∧ (s.2 = false → l ≤ 8) ∧ v.rp l = rpI (v.inner.drop k) l s) v.inner.length
    ⟨by simp, by simp, by simp, by simp, (1, decide (8 < l)), by simp, by simp, by simp, by simp, by simp, by rw [rp_eq]; simp⟩ ?_
  rintro k σ hp nx hk ⟨h1, h15, h16, h17, s, h6, h7, s0, s1, s2, he⟩
  by_cases hlt : k < v.inner.length
  · have hw : IntKind.i64.wrap ((k : Int) + 1) = (k : Int) + 1 := wrap_fit (by omega) (by omega)
    have hm := inner_mem (List.getElem_mem hlt)
    have hec : (s.2 || decide (1000 < s.1)) = cutB s := rfl
    cases hc : cutB s
    · have hs2 : s.2 = false := by cases h : s.2 <;> simp_all [cutB]
      have hl8 := s2 hs2
      have wl : IntKind.i64.wrap (l + 1) = l + 1 := wrap_fit (by omega) (by omega)
      have hcall := fun hp nx => FV2_call (fun v l => .tup [int (v.rp l).1, boo (v.rp l).2]) 1 9 n v.inner[k] (l + 1) hp nx ⟨by unfold lim; omega, by omega, by omega, by omega⟩
      obtain ⟨g1, g2, g3, g4⟩ := rp_spec _ v.inner[k] (Nat.le_refl _) (l + 1)
      have hpl := parts_le v.inner[k]
      have hs1 : s.1 ≤ 1000 := by simp [cutB] at hc; omega
      have ws : IntKind.i64.wrap (s.1 + (v.inner[k].rp (l + 1)).1) = s.1 + (v.inner[k].rp (l + 1)).1 := wrap_fit (by omega) (by omega)
      rw [rpI_drop hlt] at he
      simp only [stepR, hc, Bool.false_eq_true, if_false] at he
      simp [h1, h15, h16, h17, h6, h7, hlt, hec, hc, hcall, wl, ws, hw]
      refine ⟨hlt, ?_⟩
      rw [he, hs2]
      cases hd : (v.inner[k].rp (l + 1)).2 <;> simp [hd] <;> omega
    · rw [rpI_stop hc] at he
      simp [h1, h15, h16, h17, h6, h7, hlt, hec, hc, he, Tryz.f162, pureR]
  · obtain rfl : k = v.inner.length := by omega
    rw [List.drop_length] at he
    have he : v.rp l = s := he
    simp [h1, h15, h16, h17, h6, h7, he, Tryz.f162, pureR]
theorem FV2_inv {out : Val → Int → PV} {lo hi : Int} {n : Nat} {args : List PV} {r : PV} (h : FV2 out lo hi n args = some r) : ∃ (v : Val) (i : Int), args = [.agg v.enc, int i] ∧ (v.vb ≤ lim ∧ v.vb ≤ n ∧ lo ≤ i ∧ i ≤ hi) ∧ r = out v i := by
  obtain ⟨⟨v, i⟩, h1, h2, h3⟩ := specOf_inv h
  exact ⟨v, i, h1, h2, h3⟩
theorem FV2_zero {out : Val → Int → PV} {lo hi : Int} {f : FuncId} (hfn : ∃ fn, Tryz.prog.funcs[f]? = some fn ∧ (fn.name == "runtime.NumGoroutine") = false ∧ fn.body.isNone = false) : SpecSound Tryz.prog f (hPure false [] (FV2 out lo hi 0)) := by
  refine ⟨hfn, fun args hp nx r hp' nx' h => ?_⟩
  unfold hPure at h
  split at h
  · split at h
    · rename_i r0 hF
      obtain ⟨v, i, _, hv, _⟩ := FV2_inv hF
      have := vb_pos v
      omega
    · cases h
  · cases h
set_option maxRecDepth 100000 in
theorem rparts_sound : ∀ n, SpecSound Tryz.prog 162 (hPure false [] (FV2 (fun v l => .tup [int (v.rp l).1, boo (v.rp l).2]) 1 9 n)) := by
  intro n
  induction n with
  | zero => exact FV2_zero ⟨_, Tryz.func162, by kernel_rfl, by kernel_rfl⟩
  | succ n ih =>
    have hg : AM.Good (Crp n) (fun g => ([] : List Nat).contains g) := good_of mixed ⟨ih, by simp, inner_sound, by simp, trivial⟩
    exact pureS (fn := Tryz.f162) hg ⟨_, Tryz.func162, by kernel_rfl, rfl, by kernel_rfl⟩ false [] _ fun args r h => by
      obtain ⟨v, l, rfl, hv, rfl⟩ := FV2_inv h
      exact ⟨Nat.le_trans (Nat.le_refl 2) (by decide), _, rparts_eval n v l hv, up_of _⟩

/-! ### the reference's checkPart -/
noncomputable abbrev Crc : Ctx := mkCtx Tryz.prog [(227, hPure false [] (F3 inB)), (228, hPure false [] (FS (bytesIn 32 126)))]
@[simp] theorem qrc1 : QuietIn Crc 227 := quietIn_of (by rfl) (hPure_quiet _ _)
@[simp] theorem qrc2 : QuietIn Crc 228 := quietIn_of (by rfl) (hPure_quiet _ _)
def headV (v : Val) : Int := headF v.kind v.n v.s v.items.length v.fields.length
theorem headV_eq (v : Val) : headV v = if (!inB v.kind 0 5) then 4 else if (v.kind != 1 && v.kind != 2 && v.n != 0) then 3 else if (v.kind != 3 && !v.s.isEmpty) then 3 else if (v.kind != 4 && decide (0 < v.items.length)) then 3 else if (v.kind != 5 && decide (0 < v.fields.length)) then 3 else if (v.kind == 1 && !inB v.n 0 1) then 1 else if (v.kind == 2 && !inB v.n (-999999999999999) 999999999999999) then 1 else if (decide ((500 : Int) < v.s.length)) then 2 else if (!bytesIn 32 126 v.s) then 1 else if (decide ((100 : Int) < v.items.length) || decide ((100 : Int) < v.fields.length)) then 2 else 0 := by
  unfold headV headF
  have q1 : cKind v.kind = !inB v.kind 0 5 := by rw [Bool.eq_iff_iff]; simp [cKind, inB]
  have q2 : cSpare v.kind v.n v.s v.items.length v.fields.length = ((v.kind != 1 && v.kind != 2 && v.n != 0) || (v.kind != 3 && !v.s.isEmpty) || (v.kind != 4 && decide (0 < v.items.length)) || (v.kind != 5 && decide (0 < v.fields.length))) := by
    unfold cSpare
    have : (v.s == []) = v.s.isEmpty := by cases v.s <;> rfl
    rw [this]
    generalize (v.kind != 1) = x1
    generalize (v.kind != 2) = x2
    generalize (v.kind != 3) = x3
    generalize (v.kind != 4) = x4
    generalize (v.kind != 5) = x5
    generalize (v.n != 0) = x6
    generalize v.s.isEmpty = x7
    generalize decide (0 < v.items.length) = x8
    generalize decide (0 < v.fields.length) = x9
    cases x1 <;> cases x2 <;> cases x3 <;> cases x4 <;> cases x5 <;> cases x6 <;> cases x7 <;> cases x8 <;> cases x9 <;> rfl
  have q3 : cRange1 v.kind v.n = (v.kind == 1 && !inB v.n 0 1) := by rw [Bool.eq_iff_iff]; simp [cRange1, inB]; omega
  have q4 : cRange2 v.kind v.n = (v.kind == 2 && !inB v.n (-999999999999999) 999999999999999) := by rw [Bool.eq_iff_iff]; simp [cRange2, inB]; omega
  rw [q1, q2, q3, q4, cLong, cMany]
  generalize (!inB v.kind 0 5) = b1
  generalize (v.kind != 1 && v.kind != 2 && v.n != 0) = b2
  generalize (v.kind != 3 && !v.s.isEmpty) = b3
  generalize (v.kind != 4 && decide (0 < v.items.length)) = b4
  generalize (v.kind != 5 && decide (0 < v.fields.length)) = b5
  generalize (v.kind == 1 && !inB v.n 0 1) = b6
  generalize (v.kind == 2 && !inB v.n (-999999999999999) 999999999999999) = b7
  cases b1 <;> cases b2 <;> cases b3 <;> cases b4 <;> cases b5 <;> cases b6 <;> cases b7 <;> cases bytesIn 32 126 v.s <;> rfl
set_option maxRecDepth 8000 in
theorem rcheckPart_eval (v : Val) (h : v.vb ≤ lim) : evalPure Crc Tryz.f226 [.agg v.enc] = some (int (headV v)) := by
  have hvb := vb_eq v
  have hsl : v.s.length ≤ lim := by omega
  refine evalPure_of rfl ?_
  have hh := headV_eq v
  obtain ⟨a1, ea1⟩ : ∃ b, (!inB v.kind 0 5) = b := ⟨_, rfl⟩
  obtain ⟨a2, ea2⟩ : ∃ b, (v.kind != 1 && v.kind != 2 && v.n != 0) = b := ⟨_, rfl⟩
  obtain ⟨a3, ea3⟩ : ∃ b, (v.kind != 3 && !v.s.isEmpty) = b := ⟨_, rfl⟩
  obtain ⟨a4, ea4⟩ : ∃ b, (v.kind != 4 && decide (0 < v.items.length)) = b := ⟨_, rfl⟩
  obtain ⟨a5, ea5⟩ : ∃ b, (v.kind != 5 && decide (0 < v.fields.length)) = b := ⟨_, rfl⟩
  obtain ⟨a6, ea6⟩ : ∃ b, (v.kind == 1 && !inB v.n 0 1) = b := ⟨_, rfl⟩
  obtain ⟨a7, ea7⟩ : ∃ b, (v.kind == 2 && !inB v.n (-999999999999999) 999999999999999) = b := ⟨_, rfl⟩
  obtain ⟨a8, ea8⟩ : ∃ b, (decide ((500 : Int) < v.s.length)) = b := ⟨_, rfl⟩
  obtain ⟨a9, ea9⟩ : ∃ b, (!bytesIn 32 126 v.s) = b := ⟨_, rfl⟩
  obtain ⟨a10, ea10⟩ : ∃ b, (decide ((100 : Int) < v.items.length) || decide ((100 : Int) < v.fields.length)) = b := ⟨_, rfl⟩
  rw [ea1, ea2, ea3, ea4, ea5, ea6, ea7, ea8, ea9, ea10] at hh
  cases a1
  case true => simp [hsl, ea1, ea2, ea3, ea4, ea5, ea6, ea7, ea8, ea9, ea10, hh, Tryz.f226]
  cases a2
  case true => simp [hsl, ea1, ea2, ea3, ea4, ea5, ea6, ea7, ea8, ea9, ea10, hh, Tryz.f226]
  cases a3
  case true => simp [hsl, ea1, ea2, ea3, ea4, ea5, ea6, ea7, ea8, ea9, ea10, hh, Tryz.f226]
  cases a4
  case true => simp [hsl, ea1, ea2, ea3, ea4, ea5, ea6, ea7, ea8, ea9, ea10, hh, Tryz.f226]
  cases a5
  case true => simp [hsl, ea1, ea2, ea3, ea4, ea5, ea6, ea7, ea8, ea9, ea10, hh, Tryz.f226]
  cases a6
  case true => simp [hsl, ea1, ea2, ea3, ea4, ea5, ea6, ea7, ea8, ea9, ea10, hh, Tryz.f226]
  cases a7
  case true => simp [hsl, ea1, ea2, ea3, ea4, ea5, ea6, ea7, ea8, ea9, ea10, hh, Tryz.f226]
  cases a8
  case true => simp [hsl, ea1, ea2, ea3, ea4, ea5, ea6, ea7, ea8, ea9, ea10, hh, Tryz.f226]
  cases a9
  case true => simp [hsl, ea1, ea2, ea3, ea4, ea5, ea6, ea7, ea8, ea9, ea10, hh, Tryz.f226]
  cases a10
  case true => simp [hsl, ea1, ea2, ea3, ea4, ea5, ea6, ea7, ea8, ea9, ea10, hh, Tryz.f226]
  simp [hsl, ea1, ea2, ea3, ea4, ea5, ea6, ea7, ea8, ea9, ea10, hh, Tryz.f226]
theorem rcheckPart_sound : SpecSound Tryz.prog 226 (GV fun v => int (headV v)) :=
  pureS (fn := Tryz.f226) (good_of (q := [227, 228]) mixed ⟨rWithin_sound, fun _ => hPure_quiet _ _, printable_sound, fun _ => hPure_quiet _ _, trivial⟩ : AM.Good Crc _) ⟨_, Tryz.func226, by kernel_rfl, rfl, by kernel_rfl⟩ false [] _ fun args r h => by
    obtain ⟨v, rfl, hv, rfl⟩ := FV_inv h
    exact ⟨by simp [Tryz.f226], _, rcheckPart_eval v hv.1, up_of _⟩
end Go.Proofs.YtfjeckcbnhohmaaGreatDoor
namespace Go.Proofs.YtfjeckcbnhohmaaGreatDoor
open Go.RowKit Go.AM

noncomputable abbrev Cra (n : Nat) : Ctx := mkCtx Tryz.prog [(163, hPure false [] (FV (fun v => int v.fault) n)), (226, GV fun v => int (headV v)), (227, hPure false [] (F3 inB)), (228, hPure false [] (FS (bytesIn 32 126)))]
@[simp] theorem qra1 (n : Nat) : QuietIn (Cra n) 227 := quietIn_of (by rfl) (hPure_quiet _ _)
@[simp] theorem qra2 (n : Nat) : QuietIn (Cra n) 228 := quietIn_of (by rfl) (hPure_quiet _ _)
theorem cName_ref (a : List UInt8) : (!inB a.length 1 60 || !bytesIn 32 126 a) = cName a := by
  unfold cName inB
  cases a with
  | nil => rfl
  | cons c a =>
    generalize bytesIn 32 126 (c :: a) = x
    rw [Bool.eq_iff_iff]
    cases x <;> simp <;> omega
set_option maxRecDepth 8000 in
theorem checkAll_eval (n : Nat) (v : Val) (h : v.vb ≤ lim ∧ v.vb ≤ n + 1) : evalPure (Cra n) Tryz.f163 [.agg v.enc] = some (int v.fault) := by
  have hvb := vb_eq v
  have hl1 := vbs_length v.items
  have hl2 := fbs_length v.fields
  obtain ⟨ha, hb⟩ := h
  have hsp := fun hp nx => GV_call (fun v => int (headV v)) v hp nx ha
  unfold lim at ha
  have hf := fault_eq v
  refine evalPure_of rfl ?_
  by_cases hh : headV v = 0
  case neg =>
    have hh2 : (headV v != 0) = true := by simpa using hh
    have hf' : v.fault = headV v := by rw [hf]; exact if_neg hh
    simp [hsp, hh2, hf', Tryz.f163]
  have hf : v.fault = if faultV v.items = 0 then faultF none v.fields else faultV v.items := by rw [hf]; exact if_pos hh
  simp [hsp, hh]
  refine EvC_for (fun k σ hp nx => σ 1 = .ref 0 0 0 ∧ σ 16 = .sl 5 (v.items.map Val.enc) ∧ σ 17 = int v.items.length ∧ σ 18 = int k ∧ 1 ≤ nx ∧ hp 0 = some ⟨146, 5, false, [v.enc]⟩ ∧ faultV v.items = faultV (v.items.drop k)) v.items.length
    ⟨by simp, by simp, by simp, by simp, by simp, by simp, by simp⟩ ?_
  rintro k σ hp nx hk ⟨h1, h70, h71, h72, hnx, b0, he⟩
  have n0 : ¬ 0 = nx := by omega
  by_cases hlt : k < v.items.length
  · have hm := vbs_mem (List.getElem_mem hlt)
    have hw : IntKind.i64.wrap ((k : Int) + 1) = (k : Int) + 1 := wrap_fit (by omega) (by omega)
    have hcall := fun hp nx => FV_call (fun v => int v.fault) n v.items[k] hp nx ⟨by unfold lim; omega, by omega⟩
    rw [faultV_drop hlt] at he
    by_cases hz : v.items[k].fault = 0
    · rw [if_pos hz] at he
      simp [h1, h70, h71, h72, hlt, hcall, hz, hw]
      and_intros <;> first | omega | exact he | simp [n0, b0]
    · rw [if_neg hz] at he
      have hz2 : (v.items[k].fault != 0) = true := by simpa using hz
      rw [he, if_neg hz] at hf
      simp [h1, h70, h71, h72, hlt, hcall, hz2, hf, Tryz.f163]
  · obtain rfl : k = v.items.length := by omega
    rw [List.drop_length] at he
    have he : faultV v.items = 0 := by rw [he]; rfl
    rw [he, if_pos rfl] at hf
    simp [h1, h70, h71, h72, b0]
    refine EvC_for (fun k σ hp nx => σ 1 = .ref 0 0 0 ∧ σ 29 = .sl 6 (v.fields.map encF) ∧ σ 30 = int v.fields.length ∧ σ 31 = int k ∧ 1 ≤ nx ∧ hp 0 = some ⟨146, 5, false, [v.enc]⟩ ∧ v.fault = faultF (prevOf v.fields k) (v.fields.drop k)) v.fields.length
      ⟨by simp [h1], by simp, by simp, by simp, hnx, b0, by simp [hf, prevOf]⟩ ?_
    clear h1 h70 h71 h72 hnx b0 hlt hk n0 nx hp σ hf
    rintro k σ hp nx hk ⟨h1, h83, h84, h85, hnx, b0, hf⟩
    have n0 : ¬ 0 = nx := by omega
    by_cases hlt : k < v.fields.length
    · have hm := fbs_mem (List.getElem_mem hlt)
      have hw : IntKind.i64.wrap ((k : Int) + 1) = (k : Int) + 1 := wrap_fit (by omega) (by omega)
      have hnl : v.fields[k].1.length ≤ lim := by unfold lim; omega
      have hcall := fun hp nx => FV_call (fun v => int v.fault) n v.fields[k].2 hp nx ⟨by unfold lim; omega, by omega⟩
      have en := cName_ref v.fields[k].1
      rw [faultF_drop hlt] at hf
      cases d1 : cName v.fields[k].1
      case true => simp [h1, h83, h84, h85, hlt, hnl, en, d1, hf, Tryz.f163]
      have hpv : prevOf v.fields (k + 1) = some v.fields[k].1 := by simp [prevOf, hlt]
      simp only [d1, Bool.false_eq_true, if_false] at hf
      by_cases k0 : k = 0
      · subst k0
        simp only [prevOf, cPrev, if_true, Bool.false_eq_true, if_false] at hf
        by_cases hz : v.fields[0].2.fault = 0
        · rw [if_pos hz] at hf
          have w1 : IntKind.i64.wrap 1 = 1 := wrap_fit (by omega) (by omega)
          simp [h1, h83, h84, h85, hlt, hnl, en, d1, hcall, hz, w1]
          and_intros <;> first | omega | (rw [hf]; rw [hpv]; simp; done) | simp [n0, b0]
        · rw [if_neg hz] at hf
          have hz2 : (v.fields[0].2.fault != 0) = true := by simpa using hz
          simp [h1, h83, h84, h85, hlt, hnl, en, d1, hcall, hz2, hf, Tryz.f163]
      · obtain ⟨j, rfl⟩ : ∃ j, k = j + 1 := ⟨k - 1, by omega⟩
        have hj : j < v.fields.length := by omega
        have wj : IntKind.i64.wrap ((j : Int) + 1 - 1) = (j : Int) := by rw [wrap_fit (by omega) (by omega)]; omega
        have wj' : IntKind.i64.wrap (j : Int) = (j : Int) := wrap_fit (by omega) (by omega)
        have j1 : ((j : Int) + 1).toNat = j + 1 := by omega
        have j2 : 0 < (j : Int) + 1 := by omega
        have j3 : 0 ≤ (j : Int) + 1 := by omega
        have j4 : (j : Int) + 1 < v.fields.length := by omega
        have wk : IntKind.i64.wrap ((j : Int) + 1 + 1) = (j : Int) + 1 + 1 := wrap_fit (by omega) (by omega)
        have el : (Op.bytesLess v.fields[j + 1].1 v.fields[j].1 || v.fields[j + 1].1 == v.fields[j].1) = leB v.fields[j + 1].1 v.fields[j].1 := rfl
        have hpj : prevOf v.fields (j + 1) = some v.fields[j].1 := by simp [prevOf, hj]
        simp only [hpj, cPrev] at hf
        cases d2 : leB v.fields[j + 1].1 v.fields[j].1
        case true =>
          simp only [d2, if_true] at hf
          simp [h1, h83, h84, h85, hlt, hj, hnl, en, d1, hcall, b0, n0, wj, wj', j1, j2, j3, j4, el, d2, hf, Tryz.f163]
        simp only [d2, Bool.false_eq_true, if_false] at hf
        by_cases hz : v.fields[j + 1].2.fault = 0
        · rw [if_pos hz] at hf
          simp [h1, h83, h84, h85, hlt, hj, hnl, en, d1, hcall, b0, n0, wj, wj', j1, j2, j3, j4, el, d2, hz, wk]
          and_intros <;> first | omega | (rw [hf]; rw [hpv]) | simp [n0, b0]
        · rw [if_neg hz] at hf
          have hz2 : (v.fields[j + 1].2.fault != 0) = true := by simpa using hz
          simp [h1, h83, h84, h85, hlt, hj, hnl, en, d1, hcall, b0, n0, wj, wj', j1, j2, j3, j4, el, d2, hz2, hf, Tryz.f163]
    · obtain rfl : k = v.fields.length := by omega
      rw [List.drop_length] at hf
      have hf : v.fault = 0 := by rw [hf]; rfl
      simp [h1, h83, h84, h85, hf, Tryz.f163]
set_option maxRecDepth 100000 in
theorem checkAll_sound : ∀ n, SpecSound Tryz.prog 163 (hPure false [] (FV (fun v => int v.fault) n)) := by
  intro n
  induction n with
  | zero => exact FV_zero ⟨_, Tryz.func163, by kernel_rfl, by kernel_rfl⟩
  | succ n ih =>
    have hg : AM.Good (Cra n) (fun g => [227, 228].contains g) := good_of mixed ⟨ih, by simp, rcheckPart_sound, by simp, rWithin_sound, fun _ => hPure_quiet _ _, printable_sound, fun _ => hPure_quiet _ _, trivial⟩
    exact pureS (fn := Tryz.f163) hg ⟨_, Tryz.func163, by kernel_rfl, rfl, by kernel_rfl⟩ false [] _ fun args r h => by
      obtain ⟨v, rfl, hv, rfl⟩ := FV_inv h
      exact ⟨Nat.le_trans (Nat.le_refl 1) (by decide), _, checkAll_eval n v hv, up_of _⟩
noncomputable abbrev Crch : Ctx := mkCtx Tryz.prog [(163, GV fun v => int v.fault), (162, hPure false [] (FV2 (fun v l => .tup [int (v.rp l).1, boo (v.rp l).2]) 1 9 lim))]
set_option maxRecDepth 4000 in
theorem rcheck_sound : SpecSound Tryz.prog 116 (GV fun v => int v.check) :=
  pureS (fn := Tryz.f116) (good_of (q := []) mixed ⟨checkAll_sound lim, by simp, rparts_sound lim, by simp, trivial⟩ : AM.Good Crch _) ⟨_, Tryz.func116, by kernel_rfl, rfl, by kernel_rfl⟩ false [] _ fun args r h => by
    obtain ⟨v, rfl, hv, rfl⟩ := FV_inv h
    have h1 := fun hp nx => GV_call (fun v => int v.fault) v hp nx hv.1
    have h2 := fun hp nx => FV2_call (fun v l => .tup [int (v.rp l).1, boo (v.rp l).2]) 1 9 lim v 1 hp nx ⟨hv.1, hv.1, by omega, by omega⟩
    refine ⟨by simp [Tryz.f116], _, evalPure_of rfl ?_, up_of _⟩
    have hl := large_eq v
    have hc0 : ((v.rp 1).2 || decide (1000 < (v.rp 1).1)) = cutB (v.rp 1) := rfl
    unfold Val.check
    rw [← hl]
    cases hc : cutB (v.rp 1)
    · simp [h1, h2, hc0, hc, Tryz.f116]
    · simp [h1, h2, hc0, hc, Tryz.f116]
end Go.Proofs.YtfjeckcbnhohmaaGreatDoor
namespace Go.Proofs.YtfjeckcbnhohmaaGreatDoor
open Go.RowKit Go.AM

def cmpI (a b : Int) : Int := if a < b then -1 else if b < a then 1 else 0
def cmpS (a b : List UInt8) : Int := if Op.bytesLess a b then -1 else if Op.bytesLess a b || a == b then 0 else 1
def F2I (f : Int → Int → Int) : List PV → Option PV
  | [.v (.int .i64 a), .v (.int .i64 b)] => some (int (f a b))
  | _ => none
theorem F2I_inv {f : Int → Int → Int} {args : List PV} {r : PV} (h : F2I f args = some r) : ∃ a b, args = [int a, int b] ∧ r = int (f a b) := by
  unfold F2I at h
  split at h
  · injection h with h; exact ⟨_, _, rfl, h.symm⟩
  · cases h
@[simp] theorem F2I_call (f : Int → Int → Int) (a b : Int) (hp : Hp) (nx : Nat) : hPure false [] (F2I f) [.v (.int .i64 a), .v (.int .i64 b)] hp nx = some (int (f a b), hp, nx) := hPure_v rfl rfl (.inl rfl)
def isNaNI : List PV → Option PV
  | [.v (.int .i64 _)] => some (boo false)
  | _ => none
def isNaNS : List PV → Option PV
  | [.v (.string _)] => some (boo false)
  | _ => none
@[simp] theorem isNaNI_call (a : Int) (hp : Hp) (nx : Nat) : hPure false [] isNaNI [.v (.int .i64 a)] hp nx = some (boo false, hp, nx) := hPure_v rfl rfl (.inl rfl)
@[simp] theorem isNaNS_call (a : ByteArray) (hp : Hp) (nx : Nat) : hPure false [] isNaNS [.v (.string a)] hp nx = some (boo false, hp, nx) := hPure_v rfl rfl (.inl rfl)
theorem isNaNI_sound : SpecSound Tryz.prog 208 (hPure false [] isNaNI) :=
  pureS (fn := Tryz.f208) good0 ⟨_, Tryz.func208, by kernel_rfl, rfl, by kernel_rfl⟩ false [] _ fun args r h => by
    unfold isNaNI at h
    split at h
    · injection h with h; subst h
      exact ⟨by simp [Tryz.f208], _, evalPure_of rfl (by simp [Tryz.f208]), up_of _⟩
    · cases h
theorem isNaNS_sound : SpecSound Tryz.prog 229 (hPure false [] isNaNS) :=
  pureS (fn := Tryz.f229) good0 ⟨_, Tryz.func229, by kernel_rfl, rfl, by kernel_rfl⟩ false [] _ fun args r h => by
    unfold isNaNS at h
    split at h
    · injection h with h; subst h
      exact ⟨by simp [Tryz.f229], _, evalPure_of rfl (by simp [Tryz.f229]), up_of _⟩
    · cases h
noncomputable abbrev Cnn : Ctx := mkCtx Tryz.prog [(208, hPure false [] isNaNI), (229, hPure false [] isNaNS)]
theorem goodnn : AM.Good Cnn (fun g => [208, 229].contains g) := good_of mixed ⟨isNaNI_sound, fun _ => hPure_quiet _ _, isNaNS_sound, fun _ => hPure_quiet _ _, trivial⟩
set_option maxRecDepth 4000 in
theorem cmpI_sound : SpecSound Tryz.prog 149 (hPure false [] (F2I cmpI)) :=
  pureS (fn := Tryz.f149) goodnn ⟨_, Tryz.func149, by kernel_rfl, rfl, by kernel_rfl⟩ false [] _ fun args r h => by
    obtain ⟨a, b, rfl, rfl⟩ := F2I_inv h
    refine ⟨by simp [Tryz.f149], _, evalPure_of rfl ?_, up_of _⟩
    unfold cmpI
    by_cases h1 : a < b
    · simp [h1, Tryz.f149]
    · by_cases h2 : b < a
      · simp [h1, h2, Tryz.f149]
      · simp [h1, h2, Tryz.f149]
noncomputable def F2S (f : List UInt8 → List UInt8 → Int) : List PV → Option PV := specOf (α := List UInt8 × List UInt8) (fun a => [str a.1, str a.2]) (fun _ => True) (fun a => int (f a.1 a.2))
@[simp] theorem F2S_call (f : List UInt8 → List UInt8 → Int) (a b : List UInt8) (hp : Hp) (nx : Nat) : hPure false [] (F2S f) [str a, str b] hp nx = some (int (f a b), hp, nx) :=
  hPure_v rfl (specOf_eq (enc := fun a : List UInt8 × List UInt8 => [str a.1, str a.2]) (a := (a, b)) (fun a b e => by
    obtain ⟨a1, a2⟩ := a; obtain ⟨b1, b2⟩ := b
    simp only [List.cons.injEq, and_true] at e
    rw [str_inj e.1, str_inj e.2]) trivial) (.inl rfl)
set_option maxRecDepth 4000 in
theorem cmpS_sound : SpecSound Tryz.prog 164 (hPure false [] (F2S cmpS)) :=
  pureS (fn := Tryz.f164) goodnn ⟨_, Tryz.func164, by kernel_rfl, rfl, by kernel_rfl⟩ false [] _ fun args r h => by
    obtain ⟨⟨a, b⟩, rfl, _, rfl⟩ := specOf_inv h
    refine ⟨by simp [Tryz.f164], _, evalPure_of rfl ?_, up_of _⟩
    simp only [cmpS]
    cases h1 : Op.bytesLess a b
    · cases h2 : (a == b)
      · simp [h1, h2, Tryz.f164]
      · simp [h1, h2, Tryz.f164]
    · simp [h1, Tryz.f164]
theorem bytesLess_self : ∀ a : List UInt8, Op.bytesLess a a = false
  | [] => rfl
  | c :: a => by simp [Op.bytesLess, bytesLess_self a]
@[simp] theorem cmpS_self (a : List UInt8) : cmpS a a = 0 := by simp [cmpS, bytesLess_self]
@[simp] theorem cmpI_self (a : Int) : cmpI a a = 0 := by simp [cmpI]

/-- A value and itself. -/
noncomputable def FVV (out : Val → PV) (n : Nat) : List PV → Option PV := specOf (α := Val) (fun v => [.agg v.enc, .agg v.enc]) (fun v => v.vb ≤ lim ∧ v.vb ≤ n) out
theorem FVV_call (out : Val → PV) (n : Nat) (v : Val) (hp : Hp) (nx : Nat) (h : v.vb ≤ lim ∧ v.vb ≤ n) : hPure false [] (FVV out n) [.agg v.enc, .agg v.enc] hp nx = some (out v, hp, nx) :=
  hPure_v (hp1 := hp) (show freezeVals hp [.agg v.enc, .agg v.enc] = some ([.agg v.enc, .agg v.enc], hp) by simp only [freezeVals, freeze_enc])
    (specOf_eq (enc := fun v : Val => [PV.agg v.enc, PV.agg v.enc]) (a := v) (fun a b e => by simp only [List.cons.injEq, and_true, PV.agg.injEq] at e; exact enc_inj e.1) h) (.inr (by simp only [List.all_cons, noOwn_enc, List.all_nil, Bool.and_self]))
noncomputable abbrev Ccs (n : Nat) : Ctx := mkCtx Tryz.prog [(117, hPure false [] (FVV (fun _ => int 0) n)), (149, hPure false [] (F2I cmpI)), (164, hPure false [] (F2S cmpS))]
set_option maxRecDepth 8000 in
theorem compare_eval (n : Nat) (v : Val) (h : v.vb ≤ lim ∧ v.vb ≤ n + 1) : evalPure (Ccs n) Tryz.f117 [.agg v.enc, .agg v.enc] = some (int 0) := by
  have hvb := vb_eq v
  have hl1 := vbs_length v.items
  have hl2 := fbs_length v.fields
  obtain ⟨ha, hb⟩ := h
  unfold lim at ha
  refine evalPure_of rfl ?_
  by_cases k1 : v.kind = 1
  · simp [k1, Tryz.f117]
  by_cases k2 : v.kind = 2
  · simp [k2, Tryz.f117]
  by_cases k3 : v.kind = 3
  · simp [k3, Tryz.f117]
  by_cases k4 : v.kind = 4
  · simp [k4]
    refine EvC_for (fun k σ hp nx => σ 2 = .ref 0 0 0 ∧ σ 3 = .ref 1 0 0 ∧ σ 43 = int v.items.length ∧ σ 44 = int k ∧ hp 0 = some ⟨146, 5, false, [v.enc]⟩ ∧ hp 1 = some ⟨146, 5, false, [v.enc]⟩) v.items.length
      ⟨by simp, by simp, by simp, by simp, by simp, by simp⟩ ?_
    rintro k σ hp nx hk ⟨h2, h3, h43, h44, b0, b1⟩
    by_cases hlt : k < v.items.length
    · have hm := vbs_mem (List.getElem_mem hlt)
      have hw : IntKind.i64.wrap ((k : Int) + 1) = (k : Int) + 1 := wrap_fit (by omega) (by omega)
      have hcall := fun hp nx => FVV_call (fun _ => int 0) n v.items[k] hp nx ⟨by unfold lim; omega, by omega⟩
      simp [h2, h3, h43, h44, b0, b1, hlt, hcall, hw]
      exact hlt
    · obtain rfl : k = v.items.length := by omega
      simp [h2, h3, h43, h44, b0, b1, Tryz.f117]
  by_cases k5 : v.kind = 5
  · simp [k5]
    refine EvC_for (fun k σ hp nx => σ 2 = .ref 0 0 0 ∧ σ 3 = .ref 1 0 0 ∧ σ 77 = int v.fields.length ∧ σ 78 = int k ∧ hp 0 = some ⟨146, 5, false, [v.enc]⟩ ∧ hp 1 = some ⟨146, 5, false, [v.enc]⟩) v.fields.length
      ⟨by simp, by simp, by simp, by simp, by simp, by simp⟩ ?_
    rintro k σ hp nx hk ⟨h2, h3, h43, h44, b0, b1⟩
    by_cases hlt : k < v.fields.length
    · have hm := fbs_mem (List.getElem_mem hlt)
      have hw : IntKind.i64.wrap ((k : Int) + 1) = (k : Int) + 1 := wrap_fit (by omega) (by omega)
      have hcall := fun hp nx => FVV_call (fun _ => int 0) n v.fields[k].2 hp nx ⟨by unfold lim; omega, by omega⟩
      simp [h2, h3, h43, h44, b0, b1, hlt, hcall, hw]
      exact hlt
    · obtain rfl : k = v.fields.length := by omega
      simp [h2, h3, h43, h44, b0, b1, Tryz.f117]
  have j1 : (v.kind == 1) = false := by simpa using k1
  have j2 : (v.kind == 2) = false := by simpa using k2
  have j3 : (v.kind == 3) = false := by simpa using k3
  have j4 : (v.kind == 4) = false := by simpa using k4
  have j5 : (v.kind == 5) = false := by simpa using k5
  simp [j1, j2, j3, j4, j5, Tryz.f117]
theorem FVV_inv {out : Val → PV} {n : Nat} {args : List PV} {r : PV} (h : FVV out n args = some r) : ∃ v : Val, args = [.agg v.enc, .agg v.enc] ∧ (v.vb ≤ lim ∧ v.vb ≤ n) ∧ r = out v := specOf_inv h
set_option maxRecDepth 100000 in
theorem compare_sound : ∀ n, SpecSound Tryz.prog 117 (hPure false [] (FVV (fun _ => int 0) n)) := by
  intro n
  induction n with
  | zero =>
    refine ⟨⟨_, Tryz.func117, by kernel_rfl, by kernel_rfl⟩, fun args hp nx r hp' nx' h => ?_⟩
    unfold hPure at h
    split at h
    · split at h
      · rename_i r0 hF
        obtain ⟨v, _, hv, _⟩ := FVV_inv hF
        have := vb_pos v
        omega
      · cases h
    · cases h
  | succ n ih =>
    have hg : AM.Good (Ccs n) (fun g => [117, 149, 164].contains g) := good_of mixed ⟨ih, fun _ => hPure_quiet _ _, cmpI_sound, fun _ => hPure_quiet _ _, cmpS_sound, fun _ => hPure_quiet _ _, trivial⟩
    exact pureS (fn := Tryz.f117) hg ⟨_, Tryz.func117, by kernel_rfl, rfl, by kernel_rfl⟩ false [] _ fun args r h => by
      obtain ⟨v, rfl, hv, rfl⟩ := FVV_inv h
      exact ⟨Nat.le_trans (Nat.le_refl 2) (by decide), _, compare_eval n v hv, up_of _⟩
noncomputable abbrev Csv : Ctx := mkCtx Tryz.prog [(117, hPure false [] (FVV (fun _ => int 0) lim))]
/-! ### strings.Compare -/
noncomputable abbrev cmpB := Lib.compareBytes
theorem cmpString_sound : SpecSound Tryz.prog 135 (hPure false [] (F2S cmpB)) :=
  sound_scalar ⟨_, Tryz.func135, by kernel_rfl, by kernel_rfl⟩ fun args r h => by
    obtain ⟨⟨a, b⟩, rfl, _, rfl⟩ := specOf_inv h
    exact ⟨[.string ⟨a.toArray⟩, .string ⟨b.toArray⟩], rfl, by simp [lit], _, rfl, rfl, fun w => by simpa using Tryz.bytealg_CompareString ⟨a.toArray⟩ ⟨b.toArray⟩ w⟩
noncomputable abbrev Cstr : Ctx := mkCtx Tryz.prog [(135, hPure false [] (F2S cmpB))]
theorem strCompare_sound : SpecSound Tryz.prog 88 (hPure false [] (F2S cmpB)) :=
  pureS (fn := Tryz.f88) (good_of (q := []) mixed ⟨cmpString_sound, by simp, trivial⟩ : AM.Good Cstr _) ⟨_, Tryz.func88, by kernel_rfl, rfl, by kernel_rfl⟩ false [] _ fun args r h => by
    obtain ⟨⟨a, b⟩, rfl, _, rfl⟩ := specOf_inv h
    exact ⟨by simp [Tryz.f88], _, evalPure_of rfl (by simp [Tryz.f88]), up_of _⟩
end Go.Proofs.YtfjeckcbnhohmaaGreatDoor
namespace Go.Proofs.YtfjeckcbnhohmaaGreatDoor
open Go.RowKit Go.AM

/-! ### cmp.Or -/
def orL : List Int → Int
  | [] => 0
  | n :: l => if n = 0 then orL l else n
def encN (l : List Int) : List (List PV) := l.map fun n => [int n]
@[simp] theorem encN_length (l : List Int) : (encN l).length = l.length := by simp [encN]
@[simp] theorem encN_at {l : List Int} {k : Nat} (h : k < (encN l).length) : (encN l)[k] = [int (l[k]'(by simpa using h))] := by simp [encN]
theorem encN_inj {a b : List Int} (h : encN a = encN b) : a = b := map_inj (fun x y e => by simp only [List.cons.injEq, and_true] at e; exact pint_inj e) h
noncomputable def FOr : List PV → Option PV := specOf (α := List Int) (fun l => [.sl 1 (encN l)]) (fun l => l.length ≤ lim) (fun l => int (orL l))
set_option maxRecDepth 4000 in
theorem or_eval (l : List Int) (hl : l.length ≤ lim) : evalPure C0 Tryz.f209 [.sl 1 (encN l)] = some (int (orL l)) := by
  refine evalPure_of rfl ?_
  unfold lim at hl
  simp
  refine EvC_for (fun k σ hp nx => σ 3 = int 0 ∧ σ 6 = .sl 1 (encN l) ∧ σ 7 = int l.length ∧ σ 8 = int k ∧ orL l = orL (l.drop k)) l.length ⟨by simp, by simp, by simp, by simp, by simp⟩ ?_
  rintro k σ hp nx hk ⟨h3, h6, h7, h8, he⟩
  by_cases hlt : k < l.length
  · have hw : IntKind.i64.wrap ((k : Int) + 1) = (k : Int) + 1 := wrap_fit (by omega) (by omega)
    rw [List.drop_eq_getElem_cons hlt] at he
    simp only [orL] at he
    by_cases hz : l[k] = 0
    · rw [if_pos hz] at he
      simp [h3, h6, h7, h8, hlt, hz, hw]
      exact ⟨hlt, he⟩
    · rw [if_neg hz] at he
      have hz' : (l[k] != 0) = true := by simpa using hz
      simp [h3, h6, h7, h8, hlt, hz', he, Tryz.f209]
  · obtain rfl : k = l.length := by omega
    rw [List.drop_length] at he
    simp [h3, h6, h7, h8, he, orL, Tryz.f209]
theorem or_sound : SpecSound Tryz.prog 209 (hPure false [] FOr) :=
  pureS (fn := Tryz.f209) good0 ⟨_, Tryz.func209, by kernel_rfl, rfl, by kernel_rfl⟩ false [] _ fun args r h => by
    obtain ⟨l, rfl, hp, rfl⟩ := specOf_inv h
    exact ⟨by simp [Tryz.f209], _, or_eval l hp, up_of _⟩
theorem or_call (l : List Int) (hp : Hp) (nx id : Nat) (e : Nat) (h : l.length ≤ lim) (hh : hp id = some ⟨e, 1, true, encN l⟩) : hPure false [] FOr [.own id 0 l.length] hp nx = some (int (orL l), hp, nx) := by
  have ht : (encN l).take l.length = encN l := List.take_of_length_le (by simp)
  refine hPure_v (show freezeVals hp [.own id 0 l.length] = some ([.sl 1 (encN l)], upd hp id none) by simp [hh, ht]) ?_ (.inl rfl)
  exact specOf_eq (enc := fun l : List Int => [PV.sl 1 (encN l)]) (a := l) (fun a b e => by simp only [List.cons.injEq, and_true] at e; injection e with _ e; exact encN_inj e) h

/-! ### parts of Pre -/
def digs1 (l : List UInt8) : Bool := !l.isEmpty && digs l
noncomputable def cmpPreB (a b : List UInt8) : Int := if digs1 a = true then (if digs1 b = true then orL [cmpI (Lib.trimLeftB a 48).length (Lib.trimLeftB b 48).length, cmpB (Lib.trimLeftB a 48) (Lib.trimLeftB b 48)] else -1) else if digs1 b = true then 1 else cmpB a b
noncomputable abbrev Ccp : Ctx := mkCtx Tryz.prog [(341, hPure false [] (FS digs)), (280, hPure false [] (FTT tlP fun _ b => one7 b)), (149, hPure false [] (F2I cmpI)), (88, hPure false [] (F2S cmpB)), (209, hPure false [] FOr)]
theorem goodcp : AM.Good Ccp (fun g => [341].contains g) := good_of mixed ⟨allDigits_sound, fun _ => hPure_quiet _ _, trimLeft_sound, by simp, cmpI_sound, by simp, strCompare_sound, by simp, or_sound, by simp, trivial⟩
@[simp] theorem quietcp : QuietIn Ccp 341 := quietIn_of (by rfl) (hPure_quiet _ _)
theorem tl_call (a : List UInt8) (hp : Hp) (nx : Nat) (h : a.length ≤ lim) : hPure false [] (FTT tlP fun _ b => one7 b) [str a, str [48]] hp nx = some (str (Lib.trimLeftB a 48), hp, nx) := FTT_call _ _ a [48] hp nx h (by decide) ⟨48, rfl, by decide⟩ rfl
set_option maxRecDepth 8000 in
theorem comparePre_eval (a b : List UInt8) (ha : a.length ≤ lim) (hb : b.length ≤ lim) : evalPure Ccp Tryz.f320 [str a, str b] = some (int (cmpPreB a b)) := by
  refine evalPure_of rfl ?_
  have da := fun hp nx => FS_call digs a hp nx ha
  have db := fun hp nx => FS_call digs b hp nx hb
  have ta := fun hp nx => tl_call a hp nx ha
  have tb := fun hp nx => tl_call b hp nx hb
  have ea : (!a.isEmpty && digs a) = digs1 a := rfl
  have eb : (!b.isEmpty && digs b) = digs1 b := rfl
  cases h1 : digs1 a <;> cases h2 : digs1 b
  · simp [da, db, ea, eb, h1, h2, cmpPreB, Tryz.f320]
  · simp [da, db, ea, eb, h1, h2, cmpPreB, Tryz.f320]
  · simp [da, db, ea, eb, h1, h2, cmpPreB, Tryz.f320]
  · have ho : ∀ (hp : Hp) (nx id : Nat), hp id = some ⟨3, 1, true, [[int (cmpI (Lib.trimLeftB a 48).length (Lib.trimLeftB b 48).length)], [int (cmpB (Lib.trimLeftB a 48) (Lib.trimLeftB b 48))]]⟩ → hPure false [] FOr [.own id 0 2] hp nx = some (int (orL [cmpI (Lib.trimLeftB a 48).length (Lib.trimLeftB b 48).length, cmpB (Lib.trimLeftB a 48) (Lib.trimLeftB b 48)]), hp, nx) := fun hp nx id hh => or_call [_, _] hp nx id _ (by show 2 ≤ lim; decide) hh
    simp [da, db, ta, tb, ea, eb, h1, h2, ho, buildSliceA, setElems, freezeParts, cmpPreB, Tryz.f320]
theorem comparePre_sound : SpecSound Tryz.prog 320 (hPure false [] (FTT (fun a b => int (cmpPreB a b)) fun _ _ => True)) :=
  pureS (fn := Tryz.f320) goodcp ⟨_, Tryz.func320, by kernel_rfl, rfl, by kernel_rfl⟩ false [] _ fun args r h => by
    obtain ⟨a, b, rfl, h1, h2, _, rfl⟩ := FTT_inv h
    exact ⟨by simp [Tryz.f320], _, comparePre_eval a b h1 h2, up_of _⟩
theorem cpre_call (a b : List UInt8) (hp : Hp) (nx : Nat) (h : a.length ≤ lim) (h2 : b.length ≤ lim) : hPure false [] (FTT (fun a b => int (cmpPreB a b)) fun _ _ => True) [str a, str b] hp nx = some (int (cmpPreB a b), hp, nx) := FTT_call _ _ a b hp nx h h2 trivial rfl
/-! ### slices.CompareFunc -/
def lexL {α : Type} (c : α → α → Int) : List α → List α → Int
  | [], [] => 0
  | [], _ :: _ => -1
  | _ :: _, [] => 1
  | x :: a, y :: b => if c x y = 0 then lexL c a b else c x y
noncomputable abbrev Ccf : Ctx := mkCtx Tryz.prog [(320, hPure false [] (FTT (fun a b => int (cmpPreB a b)) fun _ _ => True))]
theorem goodcf : AM.Good Ccf (fun g => ([] : List Nat).contains g) := good_of mixed ⟨comparePre_sound, by simp, trivial⟩
def smallT (l : List (List UInt8)) : Prop := l.length ≤ lim ∧ ∀ p ∈ l, p.length ≤ lim
set_option maxRecDepth 8000 in
theorem compareFuncT_eval (a b : List (List UInt8)) (ha : smallT a) (hb : smallT b) : evalPure Ccf Tryz.f319 [.sl 1 (encT a), .sl 1 (encT b), .fn (.func 320) [] []] = some (int (lexL cmpPreB a b)) := by
  refine evalPure_of rfl ?_
  obtain ⟨ha, hap⟩ := ha
  obtain ⟨hb, hbp⟩ := hb
  unfold lim at ha hb
  simp
  refine EvC_for (fun k σ hp nx => σ 0 = .sl 1 (encT a) ∧ σ 1 = .sl 1 (encT b) ∧ σ 2 = .fn (.func 320) [] [] ∧ σ 11 = .sl 1 (encT a) ∧ σ 12 = int a.length ∧ σ 13 = int k ∧ k ≤ b.length ∧ lexL cmpPreB a b = lexL cmpPreB (a.drop k) (b.drop k)) a.length
    ⟨by simp, by simp, by simp, by simp, by simp, by simp, by simp, by simp⟩ ?_
  rintro k σ hp nx hk ⟨h0, h1, h2, h11, h12, h13, hkb, he⟩
  by_cases hlt : k < a.length
  · have hw : IntKind.i64.wrap ((k : Int) + 1) = (k : Int) + 1 := wrap_fit (by omega) (by omega)
    by_cases hltb : k < b.length
    · have hltb' : ¬ b.length ≤ k := by omega
      have hc := fun hp nx => cpre_call a[k] b[k] hp nx (hap _ (List.getElem_mem hlt)) (hbp _ (List.getElem_mem hltb))
      rw [List.drop_eq_getElem_cons hlt, List.drop_eq_getElem_cons hltb] at he
      simp only [lexL] at he
      by_cases hz : cmpPreB a[k] b[k] = 0
      · rw [if_pos hz] at he
        simp [h0, h1, h2, h11, h12, h13, hlt, hltb, hltb', hc, hz, hw]
        exact ⟨hlt, by omega, he⟩
      · rw [if_neg hz] at he
        have hz' : (cmpPreB a[k] b[k] != 0) = true := by simpa using hz
        simp [h0, h1, h2, h11, h12, h13, hlt, hltb, hltb', hc, hz', he, Tryz.f319]
    · obtain rfl : k = b.length := by omega
      rw [List.drop_eq_getElem_cons hlt, List.drop_length] at he
      simp only [lexL] at he
      simp [h0, h1, h2, h11, h12, h13, hlt, he, Tryz.f319]
  · obtain rfl : k = a.length := by omega
    rw [List.drop_length] at he
    by_cases hl : a.length < b.length
    · rw [List.drop_eq_getElem_cons hl] at he
      simp only [lexL] at he
      simp [h0, h1, h2, h11, h12, h13, hl, he, Tryz.f319]
    · rw [List.drop_of_length_le (by omega)] at he
      simp only [lexL] at he
      have hl' : ¬ ((a.length : Int) < b.length) := by omega
      simp [h0, h1, h2, h11, h12, h13, hl, he, Tryz.f319]
/-- Two rows of texts, compared part by part. -/
noncomputable def FCf : List PV → Option PV := specOf (α := List (List UInt8) × List (List UInt8)) (fun a => [.sl 1 (encT a.1), .sl 1 (encT a.2), .fn (.func 320) [] []]) (fun a => smallT a.1 ∧ smallT a.2) (fun a => int (lexL cmpPreB a.1 a.2))
theorem cf_inj : ∀ a b : List (List UInt8) × List (List UInt8), [PV.sl 1 (encT a.1), .sl 1 (encT a.2), .fn (.func 320) [] []] = [.sl 1 (encT b.1), .sl 1 (encT b.2), .fn (.func 320) [] []] → a = b := by
  rintro ⟨a1, a2⟩ ⟨b1, b2⟩ e
  simp only [List.cons.injEq, and_true] at e
  obtain ⟨e1, e2⟩ := e
  injection e1 with _ e1
  injection e2 with _ e2
  rw [encT_inj e1, encT_inj e2]
theorem compareFuncT_sound : SpecSound Tryz.prog 319 (hPure false [] FCf) :=
  pureS (fn := Tryz.f319) goodcf ⟨_, Tryz.func319, by kernel_rfl, rfl, by kernel_rfl⟩ false [] _ fun args r h => by
    obtain ⟨⟨a, b⟩, rfl, ⟨h1, h2⟩, rfl⟩ := specOf_inv h
    exact ⟨by simp [Tryz.f319], _, compareFuncT_eval a b h1 h2, up_of _⟩
theorem cf_call (a b : List (List UInt8)) (hp : Hp) (nx : Nat) (h1 : smallT a) (h2 : smallT b) : hPure false [] FCf [.sl 1 (encT a), .sl 1 (encT b), .fn (.func 320) [] []] hp nx = some (int (lexL cmpPreB a b), hp, nx) :=
  hPure_v (hp1 := hp) (by simp) (specOf_eq (enc := fun a : List (List UInt8) × List (List UInt8) => [PV.sl 1 (encT a.1), .sl 1 (encT a.2), .fn (.func 320) [] []]) (a := (a, b)) cf_inj ⟨h1, h2⟩) (.inl rfl)
/-! ### CompareVersions -/
noncomputable def cmpV (v w : Ver) : Int := if orL [cmpI v.a w.a, cmpI v.b w.b, cmpI v.c w.c] = 0 then (if v.pre.length = 0 then (if w.pre.length = 0 then 0 else 1) else if w.pre.length = 0 then -1 else lexL cmpPreB v.pre w.pre) else orL [cmpI v.a w.a, cmpI v.b w.b, cmpI v.c w.c]
noncomputable abbrev Ccv : Ctx := mkCtx Tryz.prog [(149, hPure false [] (F2I cmpI)), (209, hPure false [] FOr), (319, hPure false [] FCf)]
theorem goodcv : AM.Good Ccv (fun g => [149, 209].contains g) := good_of mixed ⟨cmpI_sound, fun _ => hPure_quiet _ _, or_sound, fun _ => hPure_quiet _ _, compareFuncT_sound, by simp, trivial⟩
set_option maxRecDepth 8000 in
theorem compareVersions_eval (v w : Ver) (hv : v.small) (hw : w.small) : evalPure Ccv Tryz.f273 [.agg v.enc, .agg w.enc] = some (int (cmpV v w)) := by
  obtain ⟨a, b, c, p⟩ := v
  obtain ⟨a', b', c', p'⟩ := w
  refine evalPure_of rfl ?_
  have hcf := fun hp nx => cf_call p p' hp nx hv hw
  obtain ⟨o, ho⟩ : ∃ o, orL [cmpI a a', cmpI b b', cmpI c c'] = o := ⟨_, rfl⟩
  have hor : ∀ (hp : Hp) (nx id : Nat), hp id = some ⟨3, 1, true, [[int (cmpI a a')], [int (cmpI b b')], [int (cmpI c c')]]⟩ → hPure false [] FOr [.own id 0 3] hp nx = some (int o, hp, nx) := fun hp nx id hh => ho ▸ or_call [_, _, _] hp nx id _ (by show 3 ≤ lim; decide) hh
  have hval : cmpV ⟨a, b, c, p⟩ ⟨a', b', c', p'⟩ = if o = 0 then (if p.length = 0 then (if p'.length = 0 then 0 else 1) else if p'.length = 0 then -1 else lexL cmpPreB p p') else o := by rw [← ho]; rfl
  rw [hval]
  by_cases h1 : o = 0
  · subst h1
    by_cases h2 : p.length = 0 <;> by_cases h3 : p'.length = 0
    · simp [Ver.enc, hor, buildSliceA, setElems, freezeParts, h2, h3, Tryz.f273]
    · have h3' : ((p'.length : Int) == 0) = false := by simpa using h3
      simp [Ver.enc, hor, buildSliceA, setElems, freezeParts, h2, h3, h3', Tryz.f273]
    · have h2' : ((p.length : Int) == 0) = false := by simpa using h2
      simp [Ver.enc, hor, buildSliceA, setElems, freezeParts, h2, h3, h2', Tryz.f273]
    · have h2' : ((p.length : Int) == 0) = false := by simpa using h2
      have h3' : ((p'.length : Int) == 0) = false := by simpa using h3
      simp [Ver.enc, hor, buildSliceA, setElems, freezeParts, h2, h3, h2', h3', hcf, Tryz.f273]
  · have h1' : (o != 0) = true := by simpa using h1
    simp [Ver.enc, hor, buildSliceA, setElems, freezeParts, h1, h1', Tryz.f273]
/-- Two versions. -/
noncomputable def FVV2 (f : Ver → Ver → PV) : List PV → Option PV := specOf (α := Ver × Ver) (fun a => [.agg a.1.enc, .agg a.2.enc]) (fun a => a.1.small ∧ a.2.small) (fun a => f a.1 a.2)
theorem vv_inj : ∀ a b : Ver × Ver, [PV.agg a.1.enc, .agg a.2.enc] = [.agg b.1.enc, .agg b.2.enc] → a = b := by
  rintro ⟨a1, a2⟩ ⟨b1, b2⟩ e
  simp only [List.cons.injEq, and_true] at e
  obtain ⟨e1, e2⟩ := e
  injection e1 with e1
  injection e2 with e2
  rw [venc_inj e1, venc_inj e2]
theorem compareVersions_sound : SpecSound Tryz.prog 273 (hPureN [.g vpat, .g vpat] (FVV2 fun v w => int (cmpV v w))) :=
  pureN_sound (fn := Tryz.f273) goodcv ⟨_, Tryz.func273, by kernel_rfl, rfl, by kernel_rfl⟩ _ _ fun args r h => by
    obtain ⟨⟨v, w⟩, rfl, ⟨h1, h2⟩, rfl⟩ := specOf_inv h
    exact ⟨by simp [Tryz.f273], _, compareVersions_eval v w h1 h2, Stands.refl _⟩
theorem cv_call (v w : Ver) (hp : Hp) (nx : Nat) (h1 : v.small) (h2 : w.small) : hPureN [.g vpat, .g vpat] (FVV2 fun v w => int (cmpV v w)) [.agg v.enc, .agg w.enc] hp nx = some (int (cmpV v w), hp, nx) :=
  hPureN_v (show freezeVals hp [.agg v.enc, .agg w.enc] = some ([.agg v.enc, .agg w.enc], hp) by simp [Ver.enc]) (specOf_eq (enc := fun a : Ver × Ver => [PV.agg a.1.enc, .agg a.2.enc]) (a := (v, w)) vv_inj ⟨h1, h2⟩) (.inl rfl)
/-! ### cuts -/
structure Cut where
  v : Ver
  after : Bool
def Cut.enc (c : Cut) : List PV := [int c.v.a, int c.v.b, int c.v.c, .sl 1 (encT c.v.pre), boo c.after]
abbrev cpat : List (Option Nat) := [none, none, none, some 1, none]
theorem cuenc_inj {a b : Cut} (h : a.enc = b.enc) : a = b := by
  obtain ⟨⟨a1, a2, a3, a4⟩, a5⟩ := a
  obtain ⟨⟨b1, b2, b3, b4⟩, b5⟩ := b
  simp only [Cut.enc, List.cons.injEq, and_true] at h
  obtain ⟨h1, h2, h3, h4, h5⟩ := h
  injection h4 with _ h4
  rw [pint_inj h1, pint_inj h2, pint_inj h3, encT_inj h4, pbool_inj h5]
noncomputable def cmpC (a b : Cut) : Int := if cmpV a.v b.v = 0 then (if a.after = b.after then 0 else if b.after = true then -1 else 1) else cmpV a.v b.v
noncomputable def FCC (f : Cut → Cut → PV) : List PV → Option PV := specOf (α := Cut × Cut) (fun a => [.agg a.1.enc, .agg a.2.enc]) (fun a => a.1.v.small ∧ a.2.v.small) (fun a => f a.1 a.2)
theorem cc_inj : ∀ a b : Cut × Cut, [PV.agg a.1.enc, .agg a.2.enc] = [.agg b.1.enc, .agg b.2.enc] → a = b := by
  rintro ⟨a1, a2⟩ ⟨b1, b2⟩ e
  simp only [List.cons.injEq, and_true] at e
  obtain ⟨e1, e2⟩ := e
  injection e1 with e1
  injection e2 with e2
  rw [cuenc_inj e1, cuenc_inj e2]
noncomputable abbrev Ccu : Ctx := mkCtx Tryz.prog [(273, hPureN [.g vpat, .g vpat] (FVV2 fun v w => int (cmpV v w)))]
theorem goodcu : AM.Good Ccu (fun g => ([] : List Nat).contains g) := good_of mixed ⟨compareVersions_sound, by simp, trivial⟩
set_option maxRecDepth 8000 in
theorem compareCuts_eval (x y : Cut) (hx : x.v.small) (hy : y.v.small) : evalPure Ccu Tryz.f222 [.agg x.enc, .agg y.enc] = some (int (cmpC x y)) := by
  obtain ⟨⟨a, b, c, p⟩, f⟩ := x
  obtain ⟨⟨a', b', c', p'⟩, f'⟩ := y
  refine evalPure_of rfl ?_
  have hcv := fun hp nx => cv_call ⟨a, b, c, p⟩ ⟨a', b', c', p'⟩ hp nx hx hy
  simp only [Ver.enc] at hcv
  by_cases h1 : cmpV ⟨a, b, c, p⟩ ⟨a', b', c', p'⟩ = 0
  · cases f <;> cases f' <;> simp [Cut.enc, hcv, h1, cmpC, Tryz.f222]
  · have h1' : (cmpV ⟨a, b, c, p⟩ ⟨a', b', c', p'⟩ != 0) = true := by simpa using h1
    simp [Cut.enc, hcv, h1, h1', cmpC, Tryz.f222]
theorem compareCuts_sound : SpecSound Tryz.prog 222 (hPureN [.g cpat, .g cpat] (FCC fun v w => int (cmpC v w))) :=
  pureN_sound (fn := Tryz.f222) goodcu ⟨_, Tryz.func222, by kernel_rfl, rfl, by kernel_rfl⟩ _ _ fun args r h => by
    obtain ⟨⟨v, w⟩, rfl, ⟨h1, h2⟩, rfl⟩ := specOf_inv h
    exact ⟨by simp [Tryz.f222], _, compareCuts_eval v w h1 h2, Stands.refl _⟩
theorem cc_call (x y : Cut) (u v : PV) (hp : Hp) (nx : Nat) (hu : (Sh.g cpat).fix u = .agg x.enc) (hv : (Sh.g cpat).fix v = .agg y.enc) (hf : freezeVals hp [u, v] = some ([u, v], hp)) (h1 : x.v.small) (h2 : y.v.small) : hPureN [.g cpat, .g cpat] (FCC fun v w => int (cmpC v w)) [u, v] hp nx = some (int (cmpC x y), hp, nx) :=
  hPureN_v hf (by
    show FCC _ [(Sh.g cpat).fix u, (Sh.g cpat).fix v] = _
    rw [hu, hv]
    exact specOf_eq (enc := fun a : Cut × Cut => [PV.agg a.1.enc, .agg a.2.enc]) (a := (x, y)) cc_inj ⟨h1, h2⟩) (.inl rfl)
end Go.Proofs.YtfjeckcbnhohmaaGreatDoor
namespace Go.Proofs.YtfjeckcbnhohmaaGreatDoor
open Go.RowKit Go.AM
mutual
/-- How two values are ordered. -/
noncomputable def cmpVal : Val → Val → Int
  | .mk k n s is fs, w => if k = w.kind then (if k = 1 ∨ k = 2 then cmpI n w.n else if k = 3 then cmpB s w.s else if k = 4 then cmpVals is w.items else if k = 5 then cmpFlds fs w.fields else 0) else cmpI k w.kind
noncomputable def cmpVals : List Val → List Val → Int
  | [], [] => 0
  | [], _ :: _ => -1
  | _ :: _, [] => 1
  | a :: xs, b :: ys => if cmpVal a b = 0 then cmpVals xs ys else cmpVal a b
noncomputable def cmpFlds : List (List UInt8 × Val) → List (List UInt8 × Val) → Int
  | [], [] => 0
  | [], _ :: _ => -1
  | _ :: _, [] => 1
  | (x, a) :: xs, g :: ys => if orL [cmpB x g.1, cmpVal a g.2] = 0 then cmpFlds xs ys else orL [cmpB x g.1, cmpVal a g.2]
end

noncomputable def cmpFld (f g : List UInt8 × Val) : Int := orL [cmpB f.1 g.1, cmpVal f.2 g.2]
theorem cmpVals_eq : ∀ a b : List Val, cmpVals a b = lexL cmpVal a b
  | [], [] => rfl
  | [], _ :: _ => rfl
  | _ :: _, [] => rfl
  | a :: xs, b :: ys => by simp only [cmpVals, lexL, cmpVals_eq xs ys]
theorem cmpFlds_eq : ∀ a b : List (List UInt8 × Val), cmpFlds a b = lexL cmpFld a b
  | [], [] => rfl
  | [], _ :: _ => rfl
  | _ :: _, [] => rfl
  | (x, a) :: xs, g :: ys => by simp only [cmpFlds, lexL, cmpFlds_eq xs ys, cmpFld]; rfl
theorem cmpVal_eq (a b : Val) : cmpVal a b = if a.kind = b.kind then (if a.kind = 1 ∨ a.kind = 2 then cmpI a.n b.n else if a.kind = 3 then cmpB a.s b.s else if a.kind = 4 then lexL cmpVal a.items b.items else if a.kind = 5 then lexL cmpFld a.fields b.fields else 0) else cmpI a.kind b.kind := by
  cases a with
  | mk k n s is fs =>
    cases b with
    | mk k' n' s' is' fs' => simp only [cmpVal, cmpVals_eq, cmpFlds_eq, Val.kind, Val.n, Val.s, Val.items, Val.fields]; rfl
/-- Two values. -/
noncomputable def FCV (n : Nat) : List PV → Option PV := specOf (α := Val × Val) (fun a => [.agg a.1.enc, .agg a.2.enc]) (fun a => a.1.vb ≤ lim ∧ a.1.vb ≤ n ∧ a.2.vb ≤ lim) (fun a => int (cmpVal a.1 a.2))
theorem FCV_call (n : Nat) (a b : Val) (hp : Hp) (nx : Nat) (h : a.vb ≤ lim ∧ a.vb ≤ n ∧ b.vb ≤ lim) : hPure false [] (FCV n) [.agg a.enc, .agg b.enc] hp nx = some (int (cmpVal a b), hp, nx) :=
  hPure_v (hp1 := hp) (show freezeVals hp [.agg a.enc, .agg b.enc] = some ([.agg a.enc, .agg b.enc], hp) by simp only [freezeVals, freeze_enc])
    (specOf_eq (enc := fun a : Val × Val => [.agg a.1.enc, .agg a.2.enc]) (a := (a, b)) (fun x y e => by
      obtain ⟨x1, x2⟩ := x; obtain ⟨y1, y2⟩ := y
      simp only [List.cons.injEq, and_true, PV.agg.injEq] at e
      rw [enc_inj e.1, enc_inj e.2]) h) (.inl rfl)
theorem spec_none {f : FuncId} {F : List PV → Option PV} (hfn : ∃ fn, Tryz.prog.funcs[f]? = some fn ∧ (fn.name == "runtime.NumGoroutine") = false ∧ fn.body.isNone = false) (h : ∀ args r, F args = some r → False) : SpecSound Tryz.prog f (hPure false [] F) := by
  refine ⟨hfn, fun args hp nx r hp' nx' hh => ?_⟩
  unfold hPure at hh
  split at hh
  · split at hh
    · rename_i r0 hF
      exact (h _ _ hF).elim
    · cases hh
  · cases hh
theorem encFd_inj {a b : List UInt8 × Val} (h : encF a = encF b) : a = b := by
  obtain ⟨a1, a2⟩ := a; obtain ⟨b1, b2⟩ := b
  simp only [encF, List.cons.injEq] at h
  rw [str_inj h.1, enc_inj h.2]
theorem encFs_inj {a b : List (List UInt8 × Val)} (h : a.map encF = b.map encF) : a = b := map_inj (fun _ _ => encFd_inj) h
theorem encVs_inj {a b : List Val} (h : a.map Val.enc = b.map Val.enc) : a = b := map_inj (fun _ _ => enc_inj) h
/-! ### slices.CompareFunc at V -/
noncomputable abbrev Ccfv (n : Nat) : Ctx := mkCtx Tryz.prog [(111, hPure false [] <| FCV n)]
set_option maxRecDepth 8000 in
theorem compareFuncV_eval (n : Nat) (a b : List (Val)) (ha : vbs a ≤ lim ∧ vbs a ≤ n) (hb : vbs b ≤ lim) : evalPure (Ccfv n) Tryz.f150 [.sl 5 (a.map Val.enc), .sl 5 (b.map Val.enc), .fn (.func 111) [] []] = some (int (lexL cmpVal a b)) := by
  refine evalPure_of rfl ?_
  obtain ⟨ha, han⟩ := ha
  have la := vbs_length a
  have lb := vbs_length b
  unfold lim at ha hb
  simp
  refine EvC_for (fun k σ hp nx => σ 0 = .sl 5 (a.map Val.enc) ∧ σ 1 = .sl 5 (b.map Val.enc) ∧ σ 2 = .fn (.func 111) [] [] ∧ σ 11 = .sl 5 (a.map Val.enc) ∧ σ 12 = int a.length ∧ σ 13 = int k ∧ k ≤ b.length ∧ lexL cmpVal a b = lexL cmpVal (a.drop k) (b.drop k)) a.length
    ⟨by simp, by simp, by simp, by simp, by simp, by simp, by simp, by simp⟩ ?_
  rintro k σ hp nx hk ⟨h0, h1, h2, h11, h12, h13, hkb, he⟩
  by_cases hlt : k < a.length
  · have hw : IntKind.i64.wrap ((k : Int) + 1) = (k : Int) + 1 := wrap_fit (by omega) (by omega)
    by_cases hltb : k < b.length
    · have hltb' : ¬ b.length ≤ k := by omega
      have ma := vbs_mem (List.getElem_mem hlt)
      have mb := vbs_mem (List.getElem_mem hltb)
      have hc := fun hp nx => FCV_call n a[k] b[k] hp nx ⟨by unfold lim; omega, by omega, by unfold lim; omega⟩
      skip
      rw [List.drop_eq_getElem_cons hlt, List.drop_eq_getElem_cons hltb] at he
      simp only [lexL] at he
      by_cases hz : cmpVal a[k] b[k] = 0
      · rw [if_pos hz] at he
        simp [h0, h1, h2, h11, h12, h13, hlt, hltb, hltb', hc, hz, hw]
        exact ⟨hlt, by omega, he⟩
      · rw [if_neg hz] at he
        have hz' : (cmpVal a[k] b[k] != 0) = true := by simpa using hz
        simp [h0, h1, h2, h11, h12, h13, hlt, hltb, hltb', hc, hz', he, Tryz.f150]
    · obtain rfl : k = b.length := by omega
      rw [List.drop_eq_getElem_cons hlt, List.drop_length] at he
      simp only [lexL] at he
      simp [h0, h1, h2, h11, h12, h13, hlt, he, Tryz.f150]
  · obtain rfl : k = a.length := by omega
    rw [List.drop_length] at he
    by_cases hl : a.length < b.length
    · rw [List.drop_eq_getElem_cons hl] at he
      simp only [lexL] at he
      simp [h0, h1, h2, h11, h12, h13, hl, he, Tryz.f150]
    · rw [List.drop_of_length_le (by omega)] at he
      simp only [lexL] at he
      have hl' : ¬ ((a.length : Int) < b.length) := by omega
      simp [h0, h1, h2, h11, h12, h13, hl, he, Tryz.f150]
noncomputable def FLV (n : Nat) : List PV → Option PV := specOf (α := List (Val) × List (Val)) (fun a => [.sl 5 (a.1.map Val.enc), .sl 5 (a.2.map Val.enc), .fn (.func 111) [] []]) (fun a => (vbs a.1 ≤ lim ∧ vbs a.1 ≤ n) ∧ vbs a.2 ≤ lim) (fun a => int (lexL cmpVal a.1 a.2))
theorem FLV_call (n : Nat) (a b : List (Val)) (hp : Hp) (nx : Nat) (h : (vbs a ≤ lim ∧ vbs a ≤ n) ∧ vbs b ≤ lim) : hPure false [] (FLV n) [.sl 5 (a.map Val.enc), .sl 5 (b.map Val.enc), .fn (.func 111) [] []] hp nx = some (int (lexL cmpVal a b), hp, nx) :=
  hPure_v (hp1 := hp) (by simp) (specOf_eq (enc := fun a : List (Val) × List (Val) => [PV.sl 5 (a.1.map Val.enc), .sl 5 (a.2.map Val.enc), .fn (.func 111) [] []]) (a := (a, b)) (fun x y e => by
      obtain ⟨x1, x2⟩ := x; obtain ⟨y1, y2⟩ := y
      simp only [List.cons.injEq, and_true] at e
      obtain ⟨e1, e2⟩ := e
      injection e1 with _ e1
      injection e2 with _ e2
      rw [encVs_inj e1, encVs_inj e2]) h) (.inl rfl)
/-- Two fields. -/
noncomputable def FFF (n : Nat) : List PV → Option PV := specOf (α := (List UInt8 × Val) × (List UInt8 × Val)) (fun a => [.agg (encF a.1), .agg (encF a.2)]) (fun a => (a.1.2.vb ≤ lim ∧ a.1.2.vb ≤ n ∧ a.2.2.vb ≤ lim)) (fun a => int (cmpFld a.1 a.2))
theorem FFF_call (n : Nat) (a b : List UInt8 × Val) (hp : Hp) (nx : Nat) (h : a.2.vb ≤ lim ∧ a.2.vb ≤ n ∧ b.2.vb ≤ lim) : hPure false [] (FFF n) [.agg (encF a), .agg (encF b)] hp nx = some (int (cmpFld a b), hp, nx) :=
  hPure_v (hp1 := hp) (show freezeVals hp [.agg (encF a), .agg (encF b)] = some ([.agg (encF a), .agg (encF b)], hp) by simp [encF])
    (specOf_eq (enc := fun a : (List UInt8 × Val) × (List UInt8 × Val) => [.agg (encF a.1), .agg (encF a.2)]) (a := (a, b)) (fun x y e => by
      obtain ⟨x1, x2⟩ := x; obtain ⟨y1, y2⟩ := y
      have e1 : encF x1 = encF y1 ∧ encF x2 = encF y2 := by
        simp only [List.cons.injEq, and_true, PV.agg.injEq] at e
        exact ⟨List.cons.injEq .. ▸ e.1, List.cons.injEq .. ▸ e.2⟩
      rw [encFd_inj e1.1, encFd_inj e1.2]) h) (.inl rfl)
/-! ### compareFields -/
noncomputable abbrev Ccfl (n : Nat) : Ctx := mkCtx Tryz.prog [(88, hPure false [] (F2S cmpB)), (111, hPure false [] (FCV n)), (209, hPure false [] FOr)]
@[simp] theorem qcfl1 (n : Nat) : QuietIn (Ccfl n) 88 := quietIn_of (by rfl) (hPure_quiet _ _)
@[simp] theorem qcfl2 (n : Nat) : QuietIn (Ccfl n) 111 := quietIn_of (by rfl) (hPure_quiet _ _)
@[simp] theorem qcfl3 (n : Nat) : QuietIn (Ccfl n) 209 := quietIn_of (by rfl) (hPure_quiet _ _)
set_option maxRecDepth 8000 in
theorem compareFields_eval (n : Nat) (a b : List UInt8 × Val) (h : a.2.vb ≤ lim ∧ a.2.vb ≤ n ∧ b.2.vb ≤ lim) : evalPure (Ccfl n) Tryz.f152 [.agg (encF a), .agg (encF b)] = some (int (cmpFld a b)) := by
  refine evalPure_of rfl ?_
  have hc := fun hp nx => FCV_call n a.2 b.2 hp nx h
  have ho : ∀ (hp : Hp) (nx id : Nat), hp id = some ⟨3, 1, true, [[int (cmpB a.1 b.1)], [int (cmpVal a.2 b.2)]]⟩ → hPure false [] FOr [.own id 0 2] hp nx = some (int (cmpFld a b), hp, nx) := fun hp nx id hh => or_call [_, _] hp nx id _ (by show 2 ≤ lim; decide) hh
  simp [encF, hc, ho, buildSliceA, setElems, freezeParts, Tryz.f152]
/-! ### slices.CompareFunc at F -/
noncomputable abbrev Ccff (n : Nat) : Ctx := mkCtx Tryz.prog [(152, hPure false [] <| FFF n)]
set_option maxRecDepth 8000 in
theorem compareFuncF_eval (n : Nat) (a b : List (List UInt8 × Val)) (ha : fbs a ≤ lim ∧ fbs a ≤ n) (hb : fbs b ≤ lim) : evalPure (Ccff n) Tryz.f151 [.sl 6 (a.map encF), .sl 6 (b.map encF), .fn (.func 152) [] []] = some (int (lexL cmpFld a b)) := by
  refine evalPure_of rfl ?_
  obtain ⟨ha, han⟩ := ha
  have la := fbs_length a
  have lb := fbs_length b
  unfold lim at ha hb
  simp
  refine EvC_for (fun k σ hp nx => σ 0 = .sl 6 (a.map encF) ∧ σ 1 = .sl 6 (b.map encF) ∧ σ 2 = .fn (.func 152) [] [] ∧ σ 11 = .sl 6 (a.map encF) ∧ σ 12 = int a.length ∧ σ 13 = int k ∧ k ≤ b.length ∧ lexL cmpFld a b = lexL cmpFld (a.drop k) (b.drop k)) a.length
    ⟨by simp, by simp, by simp, by simp, by simp, by simp, by simp, by simp⟩ ?_
  rintro k σ hp nx hk ⟨h0, h1, h2, h11, h12, h13, hkb, he⟩
  by_cases hlt : k < a.length
  · have hw : IntKind.i64.wrap ((k : Int) + 1) = (k : Int) + 1 := wrap_fit (by omega) (by omega)
    by_cases hltb : k < b.length
    · have hltb' : ¬ b.length ≤ k := by omega
      have ma := fbs_mem (List.getElem_mem hlt)
      have mb := fbs_mem (List.getElem_mem hltb)
      have hc := fun hp nx => FFF_call n a[k] b[k] hp nx ⟨by unfold lim; omega, by omega, by unfold lim; omega⟩
      simp only [encF] at hc
      rw [List.drop_eq_getElem_cons hlt, List.drop_eq_getElem_cons hltb] at he
      simp only [lexL] at he
      by_cases hz : cmpFld a[k] b[k] = 0
      · rw [if_pos hz] at he
        simp [h0, h1, h2, h11, h12, h13, hlt, hltb, hltb', hc, hz, hw]
        exact ⟨hlt, by omega, he⟩
      · rw [if_neg hz] at he
        have hz' : (cmpFld a[k] b[k] != 0) = true := by simpa using hz
        simp [h0, h1, h2, h11, h12, h13, hlt, hltb, hltb', hc, hz', he, Tryz.f151]
    · obtain rfl : k = b.length := by omega
      rw [List.drop_eq_getElem_cons hlt, List.drop_length] at he
      simp only [lexL] at he
      simp [h0, h1, h2, h11, h12, h13, hlt, he, Tryz.f151]
  · obtain rfl : k = a.length := by omega
    rw [List.drop_length] at he
    by_cases hl : a.length < b.length
    · rw [List.drop_eq_getElem_cons hl] at he
      simp only [lexL] at he
      simp [h0, h1, h2, h11, h12, h13, hl, he, Tryz.f151]
    · rw [List.drop_of_length_le (by omega)] at he
      simp only [lexL] at he
      have hl' : ¬ ((a.length : Int) < b.length) := by omega
      simp [h0, h1, h2, h11, h12, h13, hl, he, Tryz.f151]
noncomputable def FLF (n : Nat) : List PV → Option PV := specOf (α := List (List UInt8 × Val) × List (List UInt8 × Val)) (fun a => [.sl 6 (a.1.map encF), .sl 6 (a.2.map encF), .fn (.func 152) [] []]) (fun a => (fbs a.1 ≤ lim ∧ fbs a.1 ≤ n) ∧ fbs a.2 ≤ lim) (fun a => int (lexL cmpFld a.1 a.2))
theorem FLF_call (n : Nat) (a b : List (List UInt8 × Val)) (hp : Hp) (nx : Nat) (h : (fbs a ≤ lim ∧ fbs a ≤ n) ∧ fbs b ≤ lim) : hPure false [] (FLF n) [.sl 6 (a.map encF), .sl 6 (b.map encF), .fn (.func 152) [] []] hp nx = some (int (lexL cmpFld a b), hp, nx) :=
  hPure_v (hp1 := hp) (by simp) (specOf_eq (enc := fun a : List (List UInt8 × Val) × List (List UInt8 × Val) => [PV.sl 6 (a.1.map encF), .sl 6 (a.2.map encF), .fn (.func 152) [] []]) (a := (a, b)) (fun x y e => by
      obtain ⟨x1, x2⟩ := x; obtain ⟨y1, y2⟩ := y
      simp only [List.cons.injEq, and_true] at e
      obtain ⟨e1, e2⟩ := e
      injection e1 with _ e1
      injection e2 with _ e2
      rw [encFs_inj e1, encFs_inj e2]) h) (.inl rfl)
/-! ### Compare -/
noncomputable abbrev Ccmv (n : Nat) : Ctx := mkCtx Tryz.prog [(149, hPure false [] (F2I cmpI)), (88, hPure false [] (F2S cmpB)), (150, hPure false [] (FLV n)), (151, hPure false [] (FLF n))]
set_option maxRecDepth 8000 in
theorem vcompare_eval (n : Nat) (a b : Val) (h : a.vb ≤ lim ∧ a.vb ≤ n + 1 ∧ b.vb ≤ lim) : evalPure (Ccmv n) Tryz.f111 [.agg a.enc, .agg b.enc] = some (int (cmpVal a b)) := by
  obtain ⟨h1, h2, h3⟩ := h
  have va := vb_eq a
  have vb := vb_eq b
  have hv := fun hp nx => FLV_call n a.items b.items hp nx ⟨⟨by omega, by omega⟩, by omega⟩
  have hf := fun hp nx => FLF_call n a.fields b.fields hp nx ⟨⟨by omega, by omega⟩, by omega⟩
  refine evalPure_of rfl ?_
  have hcv := cmpVal_eq a b
  by_cases hk : a.kind = b.kind
  · rw [if_pos hk] at hcv
    by_cases k1 : a.kind = 1
    · rw [if_pos (.inl k1)] at hcv
      have kb : b.kind = 1 := by omega
      simp [k1, kb, hcv, Tryz.f111]
    by_cases k2 : a.kind = 2
    · rw [if_pos (.inr k2)] at hcv
      have kb : b.kind = 2 := by omega
      simp [k2, kb, hcv, Tryz.f111]
    rw [if_neg (by omega)] at hcv
    by_cases k3 : a.kind = 3
    · rw [if_pos k3] at hcv
      have kb : b.kind = 3 := by omega
      simp [k3, kb, hcv, Tryz.f111]
    rw [if_neg k3] at hcv
    by_cases k4 : a.kind = 4
    · rw [if_pos k4] at hcv
      have kb : b.kind = 4 := by omega
      simp [k4, kb, hcv, hv, Tryz.f111]
    rw [if_neg k4] at hcv
    by_cases k5 : a.kind = 5
    · rw [if_pos k5] at hcv
      have kb : b.kind = 5 := by omega
      simp [k5, kb, hcv, hf, Tryz.f111]
    rw [if_neg k5] at hcv
    have e0 : (a.kind != b.kind) = false := by simpa using hk
    have e1 : (a.kind == 1) = false := by simpa using k1
    have e2 : (a.kind == 2) = false := by simpa using k2
    have e3 : (a.kind == 3) = false := by simpa using k3
    have e4 : (a.kind == 4) = false := by simpa using k4
    have e5 : (a.kind == 5) = false := by simpa using k5
    simp [e0, e1, e2, e3, e4, e5, hcv, Tryz.f111]
  · rw [if_neg hk] at hcv
    have e0 : (a.kind != b.kind) = true := by simpa using hk
    simp [e0, hcv, Tryz.f111]
theorem FCV_inv {n : Nat} {args : List PV} {r : PV} (h : FCV n args = some r) : ∃ a b : Val, args = [.agg a.enc, .agg b.enc] ∧ (a.vb ≤ lim ∧ a.vb ≤ n ∧ b.vb ≤ lim) ∧ r = int (cmpVal a b) := by
  obtain ⟨⟨a, b⟩, h1, h2, h3⟩ := specOf_inv h
  exact ⟨a, b, h1, h2, h3⟩
set_option maxRecDepth 100000 in
theorem vcompare_sound : ∀ n, SpecSound Tryz.prog 111 (hPure false [] (FCV n)) := by
  intro n
  induction n with
  | zero =>
    exact spec_none ⟨_, Tryz.func111, by kernel_rfl, by kernel_rfl⟩ fun args r h => by
      obtain ⟨a, b, _, h2, _⟩ := FCV_inv h
      have := vb_pos a
      omega
  | succ n ih =>
    have g1 : AM.Good (Ccfv n) (fun g => ([] : List Nat).contains g) := good_of mixed ⟨ih, by simp, trivial⟩
    have s1 : SpecSound Tryz.prog 150 (hPure false [] (FLV n)) :=
      pureS (fn := Tryz.f150) g1 ⟨_, Tryz.func150, by kernel_rfl, rfl, by kernel_rfl⟩ false [] _ fun args r h => by
        obtain ⟨⟨a, b⟩, rfl, ⟨h1, h2⟩, rfl⟩ := specOf_inv h
        exact ⟨Nat.le_trans (Nat.le_refl 3) (by decide), _, compareFuncV_eval n a b h1 h2, up_of _⟩
    have g2 : AM.Good (Ccfl n) (fun g => [88, 111, 209].contains g) := good_of mixed ⟨strCompare_sound, fun _ => hPure_quiet _ _, ih, fun _ => hPure_quiet _ _, or_sound, fun _ => hPure_quiet _ _, trivial⟩
    have s2 : SpecSound Tryz.prog 152 (hPure false [] (FFF n)) :=
      pureS (fn := Tryz.f152) g2 ⟨_, Tryz.func152, by kernel_rfl, rfl, by kernel_rfl⟩ false [] _ fun args r h => by
        obtain ⟨⟨a, b⟩, rfl, h1, rfl⟩ := specOf_inv h
        exact ⟨Nat.le_trans (Nat.le_refl 2) (by decide), _, compareFields_eval n a b h1, up_of _⟩
    have g3 : AM.Good (Ccff n) (fun g => ([] : List Nat).contains g) := good_of mixed ⟨s2, by simp, trivial⟩
    have s3 : SpecSound Tryz.prog 151 (hPure false [] (FLF n)) :=
      pureS (fn := Tryz.f151) g3 ⟨_, Tryz.func151, by kernel_rfl, rfl, by kernel_rfl⟩ false [] _ fun args r h => by
        obtain ⟨⟨a, b⟩, rfl, ⟨h1, h2⟩, rfl⟩ := specOf_inv h
        exact ⟨Nat.le_trans (Nat.le_refl 3) (by decide), _, compareFuncF_eval n a b h1 h2, up_of _⟩
    have g4 : AM.Good (Ccmv n) (fun g => ([] : List Nat).contains g) := good_of mixed ⟨cmpI_sound, by simp, strCompare_sound, by simp, s1, by simp, s3, by simp, trivial⟩
    exact pureS (fn := Tryz.f111) g4 ⟨_, Tryz.func111, by kernel_rfl, rfl, by kernel_rfl⟩ false [] _ fun args r h => by
      obtain ⟨a, b, rfl, h1, rfl⟩ := FCV_inv h
      exact ⟨Nat.le_trans (Nat.le_refl 2) (by decide), _, vcompare_eval n a b h1, up_of _⟩
end Go.Proofs.YtfjeckcbnhohmaaGreatDoor
