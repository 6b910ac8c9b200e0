/-
  Cuts and stretches out of partial versions.
  The range of a comparison.
  Words: operators, slices.DeleteFunc at texts.
  An alternative of a range: its comparisons.
  Whether a range covers the place behind a cut.
-/
import Derived.Test.YtfjeckcbnhohmaaGreatDoorG8
namespace Go.AM
open Go.RowKit
/-- A function of closed data, by what its arguments stand for; slices of the caller's own that it is given are done with. -/
def hPureK (shs : List Sh) (F : List PV → Option PV) : AM.Spec := hPure true [] fun args => F (fixL shs args)
theorem pureK_sound {C : Ctx} {pf : FuncId → Bool} {f : FuncId} {fn : Func} (hg : AM.Good C pf) (hk : KnownF C pf f fn) (shs : List Sh) (F : List PV → Option PV)
    (hF : ∀ args r, F args = some r → args.length ≤ fn.ntmps ∧ ∃ r0, evalPure C fn args = some r0 ∧ Stands r0 r) : SpecSound C.P f (hPureK shs F) :=
  pureG hg hk true [] _ fun args r h w S vs hz => by
    obtain ⟨h1, r0, h2, h3⟩ := hF _ _ h
    exact ⟨fixL shs args, r0, fixL_rep hz, h1, h2, h3⟩
theorem hPureK_v {shs : List Sh} {F : List PV → Option PV} {args : List PV} {hp hp1 : Hp} {nx : Nat} {ys : List PV} {r : PV} (h1 : freezeVals hp args = some (ys, hp1)) (h2 : F (fixL shs ys) = some r) (h3 : (r.flat = true ∨ args.all PV.noOwn = true) → hp1 = hp) :
    hPureK shs F args hp nx = some (r, hp1, nx) := by
  have hn : normArgs [] ys = ys := by cases ys <;> rfl
  unfold hPureK hPure
  simp only [h1, hn, h2]
  split
  · rename_i h; rw [h3 h]
  · simp
theorem hPureK_box (shs : List Sh) (F : List PV → Option PV) : BoxKeep (hPureK shs F) := by
  intro args hp nx r hp' nx' h
  unfold hPureK hPure at h
  split at h
  · rename_i ys hp1 hf
    split at h
    · split at h
      · injection h with h; injection h with _ h; injection h with h1 h2; subst h1; subst h2
        exact ⟨Nat.le_refl _, fun id blk _ h1 _ => h1⟩
      · split at h
        · injection h with h; injection h with _ h; injection h with h1 h2; subst h1; subst h2
          exact ⟨Nat.le_refl _, fun id blk _ h1 h2 => freezeVals_box hf h1 h2⟩
        · cases h
    · cases h
  · cases h
/-- l: the specs; k: the region that draws; D, L, b: what it is asked. -/
def mkCtxDL (P : Program) (l : Tab) (k : Nat) (D : List (Tmp × Tmp)) (L : List Tmp) (b : List Nat) : Ctx := ⟨P, lookup l, fun i => if i = k then D else [], fun i => if i = k then L else [], fun g => b.contains g, fun _ => [], fun _ => none⟩
@[simp] theorem mkCtxDL_P (P : Program) (l : Tab) (k : Nat) (D : List (Tmp × Tmp)) (L : List Tmp) (b : List Nat) : (mkCtxDL P l k D L b).P = P := rfl
@[simp] theorem call_mkDL (P : Program) (l : Tab) (k : Nat) (D : List (Tmp × Tmp)) (L : List Tmp) (b : List Nat) (hp : Hp) (nx g : Nat) (x y xs : List PV) : callVal (mkCtxDL P l k D L b) hp nx (some (.fn (.func g) x y)) xs = (lookup l g).bind fun s => s (x ++ xs ++ y) hp nx := by
  unfold callVal mkCtxDL
  simp only
  cases lookup l g <;> rfl
@[simp] theorem EvC_region_mkDL (P : Program) (l : Tab) (k : Nat) (D : List (Tmp × Tmp)) (L : List Tmp) (b : List Nat) (i : Nat) (ops : Array Oper) (d : Bool) (st : St) (K : Exit → St → Prop) (h : ¬ i = k) : EvC (mkCtxDL P l k D L b) (.region i ops d) st K = EvL (mkCtxDL P l k D L b) ops ops.toList st (normK K) :=
  EvC_region _ i ops d st K (by simp [mkCtxDL, h]) (by simp [mkCtxDL, h])
theorem EvC_region_hereDL {P : Program} {l : Tab} {k : Nat} {D : List (Tmp × Tmp)} {L : List Tmp} {b : List Nat} {ops : Array Oper} {d : Bool} {st : St} {K : Exit → St → Prop} (h : ApartA D st) (h2 : RefsA L st) : EvC (mkCtxDL P l k D L b) (.region k ops d) st K = EvL (mkCtxDL P l k D L b) ops ops.toList st (normK K) :=
  EvC_region' _ k ops d st K (by simpa [mkCtxDL] using h) (by simpa [mkCtxDL] using h2)
theorem good_ofDL {P : Program} {l : Tab} {q : List Nat} {k : Nat} {D : List (Tmp × Tmp)} {L : List Tmp} {b : List Nat} (hm : P.follows .mixedOrders = true) (h : AllOk P q l) (hb : AllBox b l) : AM.Good (mkCtxDL P l k D L b) (fun g => q.contains g) :=
  let g := good_ofL (k := k) (L := L) hm h hb
  ⟨g.spec, g.quiet, g.mixed, g.box, fun _ _ h => by cases h⟩
end Go.AM
namespace Go.Proofs.YtfjeckcbnhohmaaGreatDoor
open Go.RowKit Go.AM
/-! ### version -/
def ar3 (a b c : Int) : PV := .agg [int a, int b, int c]
/-- Three numbers and a Pre. -/
noncomputable def FVer : List PV → Option PV := specOf (α := Int × Int × Int × List (List UInt8)) (fun a => [ar3 a.1 a.2.1 a.2.2.1, .sl 1 (encT a.2.2.2)]) (fun _ => True) (fun a => .agg (⟨a.1, a.2.1, a.2.2.1, a.2.2.2⟩ : Ver).enc)
theorem ver_inj : ∀ a b : Int × Int × Int × List (List UInt8), [ar3 a.1 a.2.1 a.2.2.1, .sl 1 (encT a.2.2.2)] = [ar3 b.1 b.2.1 b.2.2.1, .sl 1 (encT b.2.2.2)] → a = b := by
  rintro ⟨a1, a2, a3, a4⟩ ⟨b1, b2, b3, b4⟩ e
  simp only [ar3, List.cons.injEq, and_true] at e
  obtain ⟨e1, e2⟩ := e
  injection e1 with e1
  simp only [List.cons.injEq, and_true] at e1
  obtain ⟨e1, e3, e4⟩ := e1
  injection e2 with _ e2
  rw [pint_inj e1, pint_inj e3, pint_inj e4, encT_inj e2]
set_option maxRecDepth 8000 in
theorem version_eval (a b c : Int) (p : List (List UInt8)) : evalPure C0 Tryz.f271 [ar3 a b c, .sl 1 (encT p)] = some (.agg (⟨a, b, c, p⟩ : Ver).enc) := by
  refine evalPure_of rfl ?_
  simp [ar3, Ver.enc, buildA, fillA, pureR, Tryz.f271]
theorem version_sound : SpecSound Tryz.prog 271 (hPureK [.a, .s 1 []] FVer) :=
  pureK_sound (fn := Tryz.f271) good0 ⟨_, Tryz.func271, by kernel_rfl, rfl, by kernel_rfl⟩ _ _ fun args r h => by
    obtain ⟨⟨a, b, c, p⟩, rfl, _, rfl⟩ := specOf_inv h
    exact ⟨by simp [Tryz.f271], _, version_eval a b c p, Stands.refl _⟩
theorem version_call (a b c : Int) (p : List (List UInt8)) (y z : PV) (hp hp1 : Hp) (nx : Nat) (hy : freezeVal hp y = some (z, hp1)) (hz : n1 1 z = .sl 1 (encT p)) (hn : y.noOwn = true → hp1 = hp) : hPureK [.a, .s 1 []] FVer [ar3 a b c, y] hp nx = some (.agg (⟨a, b, c, p⟩ : Ver).enc, hp1, nx) :=
  hPureK_v (ys := [ar3 a b c, z]) (by
    have h0 : freezeVal hp (ar3 a b c) = some (ar3 a b c, hp) := by simp [ar3]
    simp only [freezeVals, h0, hy]) (by
    have : (Sh.s 1 []).fix z = .sl 1 (encT p) := by
      cases z with
      | sl m es => simp only [n1] at hz; simp only [Sh.fix]; rw [← hz]; congr 1; exact (List.map_congr_left (fun c _ => by cases c <;> rfl)).trans (List.map_id _)
      | _ => exact hz
    show FVer [ar3 a b c, (Sh.s 1 []).fix z] = _
    rw [this]
    exact specOf_eq (enc := fun a : Int × Int × Int × List (List UInt8) => [ar3 a.1 a.2.1 a.2.2.1, .sl 1 (encT a.2.2.2)]) (a := (a, b, c, p)) ver_inj trivial) (by simpa [ar3, Ver.enc] using hn)
/-! ### cuts -/
def leastC : Cut := ⟨⟨0, 0, 0, [[48]]⟩, false⟩
noncomputable def FUnit (r : PV) : List PV → Option PV := specOf (α := Unit) (fun _ => []) (fun _ => True) (fun _ => r)
theorem FUnit_call (r : PV) (hp : Hp) (nx : Nat) : hPureN [] (FUnit r) [] hp nx = some (r, hp, nx) := hPureN_v (show freezeVals hp [] = some ([], hp) from rfl) (specOf_eq (enc := fun _ : Unit => []) (a := ()) (fun _ _ _ => rfl) trivial) (.inr rfl)
set_option maxRecDepth 8000 in
theorem least_eval : evalPure C0 Tryz.f216 [] = some (.agg leastC.enc) := by
  refine evalPure_of rfl ?_
  simp [leastC, Cut.enc, encT, str, buildA, fillA, buildSliceA, setElems, freezeParts, pureR, Tryz.f216]
theorem least_sound : SpecSound Tryz.prog 216 (hPureN [] (FUnit (.agg leastC.enc))) :=
  pureN_sound (fn := Tryz.f216) good0 ⟨_, Tryz.func216, by kernel_rfl, rfl, by kernel_rfl⟩ _ _ fun args r h => by
    obtain ⟨_, rfl, _, rfl⟩ := specOf_inv h
    exact ⟨by simp [Tryz.f216], _, least_eval, Stands.refl _⟩
/-- Stretches. -/
structure Str where
  lo : Cut
  hi : Cut
  endless : Bool
def Str.enc (s : Str) : List PV := s.lo.enc ++ s.hi.enc ++ [boo s.endless]
def cut0 : Cut := ⟨⟨0, 0, 0, []⟩, false⟩
abbrev spat : List (Option Nat) := [none, none, none, some 1, none, none, none, none, some 1, none, none]
def fromS (c : Cut) : Str := ⟨c, cut0, true⟩
def betw (a b : Cut) : Str := ⟨a, b, false⟩
/-- Rows of stretches. -/
def encR (l : List Str) : List (List PV) := l.map Str.enc
def everyP : PV := .sl 11 (encR [fromS leastC])
noncomputable abbrev Cev : Ctx := mkCtx Tryz.prog [(216, hPureN [] (FUnit (.agg leastC.enc)))]
theorem goodev : AM.Good Cev (fun g => ([] : List Nat).contains g) := good_of mixed ⟨least_sound, by simp, trivial⟩
set_option maxRecDepth 8000 in
theorem everything_eval : ∃ r0, evalPure Cev Tryz.f155 [] = some r0 ∧ Stands r0 everyP := by
  refine evalPureF_of (sh := .s 11 spat) rfl ?_
  simp [FUnit_call, leastC, Cut.enc, encT, str, buildA, fillA, buildSliceA, setElems, freezeParts, pureF, everyP, encR, fromS, Str.enc, cut0, Tryz.f155]
theorem everything_sound : SpecSound Tryz.prog 155 (hPureN [] (FUnit everyP)) :=
  pureN_sound (fn := Tryz.f155) goodev ⟨_, Tryz.func155, by kernel_rfl, rfl, by kernel_rfl⟩ _ _ fun args r h => by
    obtain ⟨_, rfl, _, rfl⟩ := specOf_inv h
    obtain ⟨r0, h1, h2⟩ := everything_eval
    exact ⟨by simp [Tryz.f155], r0, h1, h2⟩
/-! ### partial versions -/
theorem penc_inj {a b : Part} (h : a.enc = b.enc) : a = b := by
  obtain ⟨a1, a2, a3, a4, a5⟩ := a
  obtain ⟨b1, b2, b3, b4, b5⟩ := b
  simp only [Part.enc, List.cons.injEq, and_true] at h
  obtain ⟨h1, h2, h3, h4, h5⟩ := h
  injection h5 with _ h5
  rw [pint_inj h1, pint_inj h2, pint_inj h3, pint_inj h4, encT_inj h5]
/-- Numbers that can be made 1 greater. -/
def Part.ok (p : Part) : Prop := (0 ≤ p.n0 ∧ p.n0 ≤ 999999) ∧ (0 ≤ p.n1 ∧ p.n1 ≤ 999999) ∧ (0 ≤ p.n2 ∧ p.n2 ≤ 999999) ∧ (1 ≤ p.has ∧ p.has ≤ 3) ∧ smallT p.pre
noncomputable def FPa (f : Part → PV) : List PV → Option PV := specOf (α := Part) (fun p => [.agg p.enc]) Part.ok f
theorem FPa_call (f : Part → PV) (p : Part) (u : PV) (hp : Hp) (nx : Nat) (h : p.ok) (hu : (Sh.g ppat).fix u = .agg p.enc) (hf : freezeVal hp u = some (u, hp)) (hn : u.noOwn = true) : hPureN [.g ppat] (FPa f) [u] hp nx = some (f p, hp, nx) :=
  hPureN_v (show freezeVals hp [u] = some ([u], hp) by simp only [freezeVals, hf]) (by
    show FPa f [(Sh.g ppat).fix u] = _
    rw [hu]
    exact specOf_eq (enc := fun p : Part => [PV.agg p.enc]) (a := p) (fun a b e => by simp only [List.cons.injEq, and_true] at e; injection e with e; exact penc_inj e) h) (.inr (by rw [List.all_cons, hn]; rfl))
/-- The same, whatever the version. -/
noncomputable def FPt (f : Part → PV) : List PV → Option PV := specOf (α := Part) (fun p => [.agg p.enc]) (fun _ => True) f
theorem FPt_call (f : Part → PV) (p : Part) (hp : Hp) (nx : Nat) : hPureN [.g ppat] (FPt f) [.agg p.enc] hp nx = some (f p, hp, nx) :=
  hPureN_v (show freezeVals hp [.agg p.enc] = some ([.agg p.enc], hp) by simp [Part.enc]) (by
    show FPt f [(Sh.g ppat).fix (.agg p.enc)] = _
    rw [show (Sh.g ppat).fix (.agg p.enc) = .agg p.enc by simp [Part.enc]]
    exact specOf_eq (enc := fun p : Part => [PV.agg p.enc]) (a := p) (fun a b e => by simp only [List.cons.injEq, and_true] at e; injection e with e; exact penc_inj e) trivial) (.inr (by simp [Part.enc]))
def lowC (p : Part) : Cut := ⟨⟨p.n0, p.n1, p.n2, p.pre⟩, false⟩
noncomputable abbrev Clo : Ctx := mkCtx Tryz.prog [(271, hPureK [.a, .s 1 []] FVer)]
theorem goodlo : AM.Good Clo (fun g => ([] : List Nat).contains g) := good_of mixed ⟨version_sound, by simp, trivial⟩
set_option maxRecDepth 8000 in
theorem low_eval (p : Part) : evalPure Clo Tryz.f217 [.agg p.enc] = some (.agg (lowC p).enc) := by
  obtain ⟨a, b, c, d, e⟩ := p
  refine evalPure_of rfl ?_
  have hv := fun hp nx => version_call a b c e (.sl 1 (encT e)) (.sl 1 (encT e)) hp hp nx (by simp) rfl (fun _ => rfl)
  simp [ar3] at hv
  simp [Part.enc, hv, lowC, Cut.enc, Ver.enc, buildA, fillA, pureR, Tryz.f217]
theorem low_sound : SpecSound Tryz.prog 217 (hPureN [.g ppat] (FPt fun p => .agg (lowC p).enc)) :=
  pureN_sound (fn := Tryz.f217) goodlo ⟨_, Tryz.func217, by kernel_rfl, rfl, by kernel_rfl⟩ _ _ fun args r h => by
    obtain ⟨p, rfl, _, rfl⟩ := specOf_inv h
    exact ⟨by simp [Tryz.f217], _, low_eval p, Stands.refl _⟩
/-- A cut before the version in which the number at a place is 1 greater. -/
def raisedC (p : Part) : Nat → Cut
  | 0 => ⟨⟨p.n0 + 1, 0, 0, [[48]]⟩, false⟩
  | 1 => ⟨⟨p.n0, p.n1 + 1, 0, [[48]]⟩, false⟩
  | _ => ⟨⟨p.n0, p.n1, p.n2 + 1, [[48]]⟩, false⟩
def raisedB (p : Part) : Nat → Bool
  | 0 => decide (p.n0 + 1 ≤ 999999)
  | 1 => decide (p.n1 + 1 ≤ 999999)
  | _ => decide (p.n2 + 1 ≤ 999999)
def raisedP (p : Part) (i : Nat) : PV := .tup [.agg (raisedC p i).enc, boo (raisedB p i)]
noncomputable abbrev Crsd : Ctx := mkCtxDL Tryz.prog [(271, hPureK [.a, .s 1 []] FVer)] 7 [(6, 4), (28, 4)] [4, 6, 28] [271]
theorem goodrsd : AM.Good Crsd (fun g => ([] : List Nat).contains g) := good_ofDL mixed ⟨version_sound, by simp, trivial⟩ ⟨fun _ => hPureK_box _ _, trivial⟩
theorem apart_nil (st : St) : ApartA [] st := fun _ h => by cases h
theorem apart_cons {a b : Tmp} {D : List (Tmp × Tmp)} {st : St} (h : apart1 st a b) (hD : ApartA D st) : ApartA ((a, b) :: D) st := fun p hp => by
  rcases List.mem_cons.1 hp with rfl | hp
  · exact h
  · exact hD p hp
theorem refs_nil (st : St) : RefsA [] st := fun _ h => by cases h
theorem refs_ref {s : Tmp} {L : List Tmp} {st : St} {id i j : Nat} {blk : Blk} (h : st.σ s = .ref id i j) (hn : id < st.nx) (hb : st.hp id = some blk) (ha : blk.arr = false) (hL : RefsA L st) : RefsA (s :: L) st := fun t ht => by
  rcases List.mem_cons.1 ht with rfl | ht
  · refine ⟨fun id' o n e => (by rw [h] at e; cases e), fun id' i' j' e => ?_⟩
    rw [h] at e
    injection e with e _ _
    subst e
    exact ⟨hn, blk, hb, ha⟩
  · exact hL t ht
theorem refs_not {s : Tmp} {L : List Tmp} {st : St} {x : List PV} (h : st.σ s = .tup x) (hL : RefsA L st) : RefsA (s :: L) st := fun t ht => by
  rcases List.mem_cons.1 ht with rfl | ht
  · exact ⟨fun id' o n e => (by rw [h] at e; cases e), fun id' i' j' e => (by rw [h] at e; cases e)⟩
  · exact hL t ht
theorem apart_ref {a b : Tmp} {st : St} {id i j id' i' j' : Nat} {blk : Blk} (h1 : st.σ a = .ref id i j) (h2 : st.σ b = .ref id' i' j') (h3 : id ≠ id') (h4 : st.hp id' = some blk) (h5 : blk.arr = false) : apart1 st a b := by
  intro id0 i0 j0 e0
  rw [h1] at e0
  injection e0 with e0 _ _
  subst e0
  exact ⟨id', i', j', blk, h2, h3, h4, h5⟩
theorem apart_not {a b : Tmp} {st : St} {x : List PV} (h1 : st.σ a = .tup x) : apart1 st a b := by
  intro id0 i0 j0 e0
  rw [h1] at e0
  cases e0
set_option maxRecDepth 8000 in
theorem raised_eval (p : Part) (i : Nat) (hi : i < 3) (hp : p.ok) : ∃ r0, evalPure Crsd Tryz.f220 [.agg p.enc, int i] = some r0 ∧ Stands r0 (raisedP p i) := by
  obtain ⟨a, b, c, d, e⟩ := p
  obtain ⟨⟨a1, a2⟩, ⟨b1, b2⟩, ⟨c1, c2⟩, _⟩ := hp
  simp only at a1 a2 b1 b2 c1 c2
  refine evalPureF2_of (sh := .g cpat) rfl ?_
  have wa : IntKind.i64.wrap (a + 1) = a + 1 := wrap_fit (by omega) (by omega)
  have wb : IntKind.i64.wrap (b + 1) = b + 1 := wrap_fit (by omega) (by omega)
  have wc : IntKind.i64.wrap (c + 1) = c + 1 := wrap_fit (by omega) (by omega)
  have hv : ∀ (a b c : Int) (hp : Hp) (nx id : Nat), hp id = some ⟨9, 1, true, [[str [48]]]⟩ → hPureK [.a, .s 1 []] FVer [ar3 a b c, .own id 0 1] hp nx = some (.agg (⟨a, b, c, [[48]]⟩ : Ver).enc, upd hp id none, nx) := fun a b c hp nx id hh => version_call a b c [[48]] (.own id 0 1) (.sl 1 [[str [48]]]) hp (upd hp id none) nx (by simp [hh]) rfl (fun h => by cases h)
  simp [ar3, str] at hv
  rcases (by omega : i = 0 ∨ i = 1 ∨ i = 2) with rfl | rfl | rfl
  · simp [Part.enc, wa]
    rw [EvC_loop_unfold]
    simp
    rw [EvC_loop_unfold]
    simp
    rw [EvC_loop_unfold]
    simp
    rw [EvC_region_hereDL (apart_cons (apart_ref (by simp; exact ⟨rfl, rfl, rfl⟩) (by simp; exact ⟨rfl, rfl, rfl⟩) (by omega) (by simp; rfl) rfl) (apart_cons (apart_not (by simp; rfl)) (apart_nil _)))
      (refs_ref (by simp; exact ⟨rfl, rfl, rfl⟩) (by simp) (by simp; rfl) rfl (refs_ref (by simp; exact ⟨rfl, rfl, rfl⟩) (by simp) (by simp; rfl) rfl (refs_not (by simp; rfl) (refs_nil _))))]
    simp [hv, buildA, fillA, buildSliceA, setElems, freezeParts, pureF2, raisedP, raisedC, raisedB, Cut.enc, Ver.enc, Tryz.f220]
  · simp [Part.enc, wb]
    rw [EvC_loop_unfold]
    simp
    rw [EvC_loop_unfold]
    simp
    rw [EvC_region_hereDL (apart_cons (apart_ref (by simp; exact ⟨rfl, rfl, rfl⟩) (by simp; exact ⟨rfl, rfl, rfl⟩) (by omega) (by simp; rfl) rfl) (apart_cons (apart_not (by simp; rfl)) (apart_nil _)))
      (refs_ref (by simp; exact ⟨rfl, rfl, rfl⟩) (by simp) (by simp; rfl) rfl (refs_ref (by simp; exact ⟨rfl, rfl, rfl⟩) (by simp) (by simp; rfl) rfl (refs_not (by simp; rfl) (refs_nil _))))]
    simp [hv, buildA, fillA, buildSliceA, setElems, freezeParts, pureF2, raisedP, raisedC, raisedB, Cut.enc, Ver.enc, Tryz.f220]
  · simp [Part.enc, wc]
    rw [EvC_loop_unfold]
    simp
    rw [EvC_region_hereDL (apart_cons (apart_ref (by simp; exact ⟨rfl, rfl, rfl⟩) (by simp; exact ⟨rfl, rfl, rfl⟩) (by omega) (by simp; rfl) rfl) (apart_cons (apart_not (by simp; rfl)) (apart_nil _)))
      (refs_ref (by simp; exact ⟨rfl, rfl, rfl⟩) (by simp) (by simp; rfl) rfl (refs_ref (by simp; exact ⟨rfl, rfl, rfl⟩) (by simp) (by simp; rfl) rfl (refs_not (by simp; rfl) (refs_nil _))))]
    simp [hv, buildA, fillA, buildSliceA, setElems, freezeParts, pureF2, raisedP, raisedC, raisedB, Cut.enc, Ver.enc, Tryz.f220]
/-- A partial version and a place. -/
noncomputable def FPi (f : Part → Nat → PV) : List PV → Option PV := specOf (α := Part × Nat) (fun a => [.agg a.1.enc, int a.2]) (fun a => a.1.ok ∧ a.2 < 3) (fun a => f a.1 a.2)
theorem pi_inj : ∀ a b : Part × Nat, [PV.agg a.1.enc, int a.2] = [PV.agg b.1.enc, int b.2] → a = b := by
  rintro ⟨a1, a2⟩ ⟨b1, b2⟩ e
  simp only [List.cons.injEq, and_true] at e
  obtain ⟨e1, e2⟩ := e
  injection e1 with e1
  have := pint_inj e2
  rw [penc_inj e1, show a2 = b2 by omega]
theorem FPi_call (f : Part → Nat → PV) (p : Part) (i : Nat) (u : PV) (hp : Hp) (nx : Nat) (h : p.ok) (hi : i < 3) (hu : (Sh.g ppat).fix u = .agg p.enc) (hf : freezeVal hp u = some (u, hp)) (hn : u.noOwn = true) : hPureN [.g ppat] (FPi f) [u, int i] hp nx = some (f p i, hp, nx) :=
  hPureN_v (show freezeVals hp [u, int i] = some ([u, int i], hp) by simp only [freezeVals, hf]; rfl) (by
    show FPi f [(Sh.g ppat).fix u, int i] = _
    rw [hu]
    exact specOf_eq (enc := fun a : Part × Nat => [PV.agg a.1.enc, int a.2]) (a := (p, i)) pi_inj ⟨h, hi⟩) (.inr (by rw [List.all_cons, hn]; rfl))
theorem raised_sound : SpecSound Tryz.prog 220 (hPureN [.g ppat] (FPi raisedP)) :=
  pureN_sound (fn := Tryz.f220) goodrsd ⟨_, Tryz.func220, by kernel_rfl, rfl, by kernel_rfl⟩ _ _ fun args r h => by
    obtain ⟨⟨p, i⟩, rfl, ⟨h1, h2⟩, rfl⟩ := specOf_inv h
    obtain ⟨r0, h3, h4⟩ := raised_eval p i h2 h1
    exact ⟨by simp [Tryz.f220], r0, h3, h4⟩
/-- The cut behind all versions that a partial one means. -/
def highC (p : Part) : Cut := if p.has < 3 then raisedC p (p.has - 1).toNat else ⟨⟨p.n0, p.n1, p.n2, p.pre⟩, true⟩
def highB (p : Part) : Bool := if p.has < 3 then raisedB p (p.has - 1).toNat else true
def highP (p : Part) : PV := .tup [.agg (highC p).enc, boo (highB p)]
noncomputable abbrev Chi : Ctx := mkCtx Tryz.prog [(271, hPureK [.a, .s 1 []] FVer), (220, hPureN [.g ppat] (FPi raisedP))]
theorem goodhi : AM.Good Chi (fun g => ([] : List Nat).contains g) := good_of mixed ⟨version_sound, by simp, raised_sound, by simp, trivial⟩
@[simp] theorem enc_frz (p : Part) (hp : Hp) : freezeVal hp (.agg p.enc) = some (.agg p.enc, hp) := by simp [Part.enc]
set_option maxRecDepth 8000 in
theorem high_eval (p : Part) (hp : p.ok) : evalPure Chi Tryz.f219 [.agg p.enc] = some (highP p) := by
  have hok := hp
  obtain ⟨_, _, _, ⟨h1, h2⟩, _⟩ := hp
  refine evalPure_of rfl ?_
  have hr := fun hp nx => FPi_call raisedP p (p.has - 1).toNat (.agg p.enc) hp nx hok (by omega) (by simp [Part.enc]) (enc_frz p hp) (by simp [Part.enc])
  have e1 : (((p.has - 1).toNat : Nat) : Int) = p.has - 1 := by omega
  have hw : IntKind.i64.wrap (p.has - 1) = p.has - 1 := wrap_fit (by omega) (by omega)
  rw [e1] at hr
  have hv := fun hp nx => version_call p.n0 p.n1 p.n2 p.pre (.sl 1 (encT p.pre)) (.sl 1 (encT p.pre)) hp hp nx (by simp) rfl (fun _ => rfl)
  simp [ar3] at hv
  simp only [Part.enc] at hr
  by_cases h3 : p.has < 3
  · simp [Part.enc, h3, hr, hw, highP, highC, highB, raisedP, Cut.enc, pureR, Tryz.f219]
  · simp [Part.enc, h3, hv, highP, highC, highB, Cut.enc, Ver.enc, buildA, fillA, pureR, Tryz.f219]
theorem high_sound : SpecSound Tryz.prog 219 (hPureN [.g ppat] (FPa highP)) :=
  pureN_sound (fn := Tryz.f219) goodhi ⟨_, Tryz.func219, by kernel_rfl, rfl, by kernel_rfl⟩ _ _ fun args r h => by
    obtain ⟨p, rfl, h1, rfl⟩ := specOf_inv h
    exact ⟨by simp [Tryz.f219], _, high_eval p h1, Stands.refl _⟩
/-! ### between -/
noncomputable def btw (a b : Cut) : List Str := if 0 ≤ cmpC a b then [] else [betw a b]
noncomputable def btwP (a b : Cut) : PV := .sl 11 (encR (btw a b))
noncomputable abbrev Cbt : Ctx := mkCtx Tryz.prog [(222, hPureN [.g cpat, .g cpat] (FCC fun v w => int (cmpC v w)))]
theorem goodbt : AM.Good Cbt (fun g => ([] : List Nat).contains g) := good_of mixed ⟨compareCuts_sound, by simp, trivial⟩
set_option maxRecDepth 8000 in
theorem between_eval (x y : Cut) (hx : x.v.small) (hy : y.v.small) : ∃ r0, evalPure Cbt Tryz.f218 [.agg x.enc, .agg y.enc] = some r0 ∧ Stands r0 (btwP x y) := by
  refine evalPureF_of (sh := .s 11 spat) rfl ?_
  have hc := fun hp nx => cc_call x y (.agg x.enc) (.agg y.enc) hp nx (by simp [Cut.enc]) (by simp [Cut.enc]) (by simp [Cut.enc]) hx hy
  simp only [Cut.enc] at hc
  by_cases h : 0 ≤ cmpC x y
  · simp [Cut.enc, hc, h, pureF, btwP, btw, encR, Tryz.f218]
  · simp [Cut.enc, hc, h, buildA, fillA, buildSliceA, setElems, freezeParts, pureF, btwP, btw, encR, betw, Str.enc, Tryz.f218]
theorem between_sound : SpecSound Tryz.prog 218 (hPureN [.g cpat, .g cpat] (FCC btwP)) :=
  pureN_sound (fn := Tryz.f218) goodbt ⟨_, Tryz.func218, by kernel_rfl, rfl, by kernel_rfl⟩ _ _ fun args r h => by
    obtain ⟨⟨v, w⟩, rfl, ⟨h1, h2⟩, rfl⟩ := specOf_inv h
    obtain ⟨r0, h3, h4⟩ := between_eval v w h1 h2
    exact ⟨by simp [Tryz.f218], r0, h3, h4⟩
end Go.Proofs.YtfjeckcbnhohmaaGreatDoor
namespace Go.Proofs.YtfjeckcbnhohmaaGreatDoor
open Go.RowKit Go.AM
/-- A comparison. -/
structure Cpn where
  sign : List UInt8
  p : Part
  to : Part
def Cpn.enc (c : Cpn) : List PV := [str c.sign, int c.p.n0, int c.p.n1, int c.p.n2, int c.p.has, .sl 1 (encT c.p.pre), int c.to.n0, int c.to.n1, int c.to.n2, int c.to.has, .sl 1 (encT c.to.pre)]
abbrev mpat : List (Option Nat) := [none, none, none, none, none, some 1, none, none, none, none, some 1]
theorem cpenc_inj {a b : Cpn} (h : a.enc = b.enc) : a = b := by
  obtain ⟨a0, ⟨a1, a2, a3, a4, a5⟩, ⟨a6, a7, a8, a9, a10⟩⟩ := a
  obtain ⟨b0, ⟨b1, b2, b3, b4, b5⟩, ⟨b6, b7, b8, b9, b10⟩⟩ := b
  simp only [Cpn.enc, List.cons.injEq, and_true] at h
  obtain ⟨h0, h1, h2, h3, h4, h5, h6, h7, h8, h9, h10⟩ := h
  injection h5 with _ h5
  injection h10 with _ h10
  rw [str_inj h0, pint_inj h1, pint_inj h2, pint_inj h3, pint_inj h4, encT_inj h5, pint_inj h6, pint_inj h7, pint_inj h8, pint_inj h9, encT_inj h10]
def sgAll : List UInt8 := [97, 108, 108]
def Cpn.ok (c : Cpn) : Prop := c.sign.length ≤ lim ∧ (c.sign = sgAll ∨ (c.p.ok ∧ (c.sign = [45] → c.to.ok)))
/-- The place of the number that ^ makes greater. -/
def caretI (p : Part) : Nat := if 1 < p.has ∧ p.n0 = 0 then (if 2 < p.has ∧ p.n1 = 0 then 2 else 1) else 0
theorem caretI_lt (p : Part) : caretI p < 3 := by unfold caretI; split <;> (try split) <;> omega
noncomputable def strS (c : Cpn) : List Str × Bool :=
  if c.sign = sgAll then ([fromS leastC], true)
  else if c.sign = [62, 61] then ([fromS (lowC c.p)], true)
  else if c.sign = [60] then (btw leastC (lowC c.p), true)
  else if c.sign = [62] then ([fromS (highC c.p)], highB c.p)
  else if c.sign = [60, 61] then (btw leastC (highC c.p), highB c.p)
  else if c.sign = [45] then (btw (lowC c.p) (highC c.to), highB c.to)
  else if c.sign = [126] then (btw (lowC c.p) (raisedC c.p (min (c.p.has - 1) 1).toNat), raisedB c.p (min (c.p.has - 1) 1).toNat)
  else if c.sign = [94] then (btw (lowC c.p) (raisedC c.p (caretI c.p)), raisedB c.p (caretI c.p))
  else (btw (lowC c.p) (highC c.p), highB c.p)
noncomputable def strP (c : Cpn) : PV := .tup [.sl 11 (encR (strS c).1), boo (strS c).2]
def lowP (p : Part) : PV := .agg (lowC p).enc
def leastP : PV := .agg leastC.enc
noncomputable abbrev Cstt : Ctx := mkCtx Tryz.prog [(217, hPureN [.g ppat] (FPt lowP)), (219, hPureN [.g ppat] (FPa highP)), (220, hPureN [.g ppat] (FPi raisedP)), (216, hPureN [] (FUnit leastP)), (155, hPureN [] (FUnit everyP)), (218, hPureN [.g cpat, .g cpat] (FCC btwP))]
theorem goodstt : AM.Good Cstt (fun g => [216, 218].contains g) := good_of mixed ⟨low_sound, by simp, high_sound, by simp, raised_sound, by simp, least_sound, fun _ => hPureN_quiet _ _, everything_sound, by simp, between_sound, fun _ => hPureN_quiet _ _, trivial⟩
@[simp] theorem quietst1 : QuietIn Cstt 216 := quietIn_of (by rfl) (hPureN_quiet _ _)
@[simp] theorem quietst2 : QuietIn Cstt 218 := quietIn_of (by rfl) (hPureN_quiet _ _)
theorem small0 : leastC.v.small := ⟨by decide, fun p hp => by simp [leastC] at hp; subst hp; decide⟩
theorem raised_small (p : Part) (i : Nat) : (raisedC p i).v.small := by
  have h : (raisedC p i).v.pre = [[48]] := by unfold raisedC; split <;> rfl
  exact ⟨by rw [h]; decide, fun q hq => by rw [h] at hq; simp at hq; subst hq; decide⟩
theorem low_small {p : Part} (h : smallT p.pre) : (lowC p).v.small := h
theorem high_small {p : Part} (h : smallT p.pre) : (highC p).v.small := by
  unfold highC
  split
  · exact raised_small _ _
  · exact h
theorem cutfix (c : Cut) : (Sh.g cpat).fix (.agg c.enc) = .agg c.enc := by simp [Cut.enc]
theorem cutfrz (c : Cut) (hp : Hp) : freezeVal hp (.agg c.enc) = some (.agg c.enc, hp) := by simp [Cut.enc]
theorem bt_call (x y : Cut) (hp : Hp) (nx : Nat) (h1 : x.v.small) (h2 : y.v.small) : hPureN [.g cpat, .g cpat] (FCC btwP) [.agg x.enc, .agg y.enc] hp nx = some (btwP x y, hp, nx) :=
  hPureN_v (show freezeVals hp [.agg x.enc, .agg y.enc] = some ([.agg x.enc, .agg y.enc], hp) by simp only [freezeVals, cutfrz]) (by
    show FCC _ [(Sh.g cpat).fix (.agg x.enc), (Sh.g cpat).fix (.agg y.enc)] = _
    rw [cutfix, cutfix]
    exact specOf_eq (enc := fun a : Cut × Cut => [PV.agg a.1.enc, .agg a.2.enc]) (a := (x, y)) cc_inj ⟨h1, h2⟩) (.inr (by simp [Cut.enc]))
set_option maxRecDepth 8000 in
theorem stretches_eval (c : Cpn) (hc : c.ok) : ∃ r0, evalPure Cstt Tryz.f156 [.agg c.enc] = some r0 ∧ Stands r0 (strP c) := by
  obtain ⟨sign, p, to⟩ := c
  obtain ⟨_, hc⟩ := hc
  simp only at hc
  refine evalPureF2_of (sh := .s 11 spat) rfl ?_
  have hlo := fun hp nx => FPt_call lowP p hp nx
  have hle : ∀ (hp : Hp) (nx : Nat), hPureN [] (FUnit leastP) [] hp nx = some (.agg [int leastC.v.a, int leastC.v.b, int leastC.v.c, .sl 1 (encT leastC.v.pre), boo leastC.after], hp, nx) := fun hp nx => FUnit_call _ hp nx
  have hev : ∀ (hp : Hp) (nx : Nat), hPureN [] (FUnit everyP) [] hp nx = some (.sl 11 (encR [fromS leastC]), hp, nx) := fun hp nx => FUnit_call _ hp nx
  simp only [lowP, Part.enc, Cut.enc] at hlo
  by_cases s0 : sign = sgAll
  · subst s0
    simp [Cpn.enc, hlo, hev, sgAll, pureF2, strP, strS, encR, fromS, Str.enc, Cut.enc, cut0, Tryz.f156]
  obtain ⟨hp, ht⟩ := hc.resolve_left s0
  have hsm : smallT p.pre := hp.2.2.2.2
  have e0 : (sign == [97, 108, 108]) = false := by simpa [sgAll] using s0
  by_cases s1 : sign = [62, 61]
  · subst s1
    simp [Cpn.enc, hlo, e0, buildA, fillA, buildSliceA, setElems, freezeParts, sgAll, pureF2, strP, strS, encR, fromS, Str.enc, Cut.enc, cut0, Tryz.f156]
  have e1 : (sign == [62, 61]) = false := by simpa using s1
  have hb1 := fun hp nx => bt_call leastC (lowC p) hp nx small0 (low_small hsm)
  have hb2 := fun hp nx => bt_call leastC (highC p) hp nx small0 (high_small hsm)
  have hhi := fun hp' nx => FPa_call highP p (.agg p.enc) hp' nx hp (by simp [Part.enc]) (enc_frz p hp') (by simp [Part.enc])
  simp only [btwP, highP, Part.enc, Cut.enc] at hb1 hb2 hhi
  by_cases s2 : sign = [60]
  · subst s2
    simp [Cpn.enc, hlo, hle, hb1, e0, e1, sgAll, pureF2, strP, strS, encR, Str.enc, Cut.enc, Tryz.f156]
  have e2 : (sign == [60]) = false := by simpa using s2
  by_cases s3 : sign = [62]
  · subst s3
    simp [Cpn.enc, hlo, hhi, e0, e1, e2, buildA, fillA, buildSliceA, setElems, freezeParts, sgAll, pureF2, strP, strS, encR, fromS, Str.enc, Cut.enc, cut0, Tryz.f156]
  have e3 : (sign == [62]) = false := by simpa using s3
  by_cases s4 : sign = [60, 61]
  · subst s4
    simp [Cpn.enc, hlo, hhi, hle, hb2, e0, e1, e2, e3, buildA, fillA, buildSliceA, setElems, freezeParts, sgAll, pureF2, strP, strS, encR, fromS, Str.enc, Cut.enc, cut0, Tryz.f156]
  have e4 : (sign == [60, 61]) = false := by simpa using s4
  by_cases s5 : sign = [45]
  · subst s5
    have hto := ht rfl
    have hb3 := fun hp nx => bt_call (lowC p) (highC to) hp nx (low_small hsm) (high_small hto.2.2.2.2)
    have hht := fun hp' nx => FPa_call highP to (.agg to.enc) hp' nx hto (by simp [Part.enc]) (enc_frz to hp') (by simp [Part.enc])
    simp only [btwP, highP, Part.enc, Cut.enc] at hb3 hht
    simp [Cpn.enc, hlo, hht, hb3, e0, e1, e2, e3, e4, buildA, fillA, buildSliceA, setElems, freezeParts, sgAll, pureF2, strP, strS, encR, fromS, Str.enc, Cut.enc, cut0, Tryz.f156]
  have e5 : (sign == [45]) = false := by simpa using s5
  have hra := fun i (hi : i < 3) hp' nx => FPi_call raisedP p i (.agg p.enc) hp' nx hp hi (by simp [Part.enc]) (enc_frz p hp') (by simp [Part.enc])
  have hb4 := fun i hp nx => bt_call (lowC p) (raisedC p i) hp nx (low_small hsm) (raised_small p i)
  simp only [btwP, raisedP, Part.enc, Cut.enc] at hra hb4
  have hw : IntKind.i64.wrap (p.has - 1) = p.has - 1 := wrap_fit (by have := hp.2.2.2.1; omega) (by have := hp.2.2.2.1; omega)
  by_cases s6 : sign = [126]
  · subst s6
    have hm : (if 1 < p.has - 1 then 1 else p.has - 1) = (((min (p.has - 1) 1).toNat : Nat) : Int) := by have := hp.2.2.2.1; split <;> omega
    have hra1 := hra (min (p.has - 1) 1).toNat (by omega)
    rw [← hm] at hra1
    simp [Cpn.enc, hlo, hra1, hb4, hw, e0, e1, e2, e3, e4, e5, buildA, fillA, buildSliceA, setElems, freezeParts, sgAll, pureF2, strP, strS, encR, fromS, Str.enc, Cut.enc, cut0, Tryz.f156]
  have e6 : (sign == [126]) = false := by simpa using s6
  by_cases s7 : sign = [94]
  · subst s7
    have hs3 : (2 : Int) < p.has → p.has = 3 := by have := hp.2.2.2.1; omega
    by_cases hA : 1 < p.has
    · have hA' : (0 : Int) < p.has - 1 := by omega
      by_cases hn0 : p.n0 = 0
      · have hn0t : (p.n0 == 0) = true := by simpa using hn0
        by_cases hB : 2 < p.has
        · have hB' : (1 : Int) < p.has - 1 := by omega
          have hC' : ¬ (2 : Int) < p.has - 1 := by have := hp.2.2.2.1; omega
          by_cases hn1 : p.n1 = 0
          · have hn1t : (p.n1 == 0) = true := by simpa using hn1
            have hci : caretI p = 2 := by simp [caretI, hA, hA', hB, hB', hC', hn0, hn1]
            have hra1 := hra 2 (by omega)
            rw [show ((2 : Nat) : Int) = 2 from rfl] at hra1
            simp [Cpn.enc, hlo, hw, e0, e1, e2, e3, e4, e5, e6, hA, hA', hB, hB', hC', hn0t, hn1t, sgAll]
            rw [EvC_loop_unfold]
            simp [Cpn.enc, hlo, hw, e0, e1, e2, e3, e4, e5, e6, hA, hA', hB, hB', hC', hn0t, hn1t]
            rw [EvC_loop_unfold]
            simp [Cpn.enc, hlo, hw, e0, e1, e2, e3, e4, e5, e6, hA, hA', hB, hB', hC', hn0t, hn1t]
            rw [EvC_loop_unfold]
            simp [Cpn.enc, hlo, hw, e0, e1, e2, e3, e4, e5, e6, hra1, hb4, hci, hA, hA', hB, hB', hC', hn0t, hn1t, buildA, fillA, buildSliceA, setElems, freezeParts, sgAll, pureF2, strP, strS, encR, fromS, Str.enc, Cut.enc, cut0, Tryz.f156]
          · have hn1' : (p.n1 == 0) = false := by simpa using hn1
            have hci : caretI p = 1 := by simp [caretI, hA, hA', hB, hB', hn0, hn1, hn1']
            have hra1 := hra 1 (by omega)
            rw [show ((1 : Nat) : Int) = 1 from rfl] at hra1
            simp [Cpn.enc, hlo, hw, e0, e1, e2, e3, e4, e5, e6, hA, hA', hB, hB', hn0t, hn1', sgAll]
            rw [EvC_loop_unfold]
            simp [Cpn.enc, hlo, hw, e0, e1, e2, e3, e4, e5, e6, hA, hA', hB, hB', hn0t, hn1']
            rw [EvC_loop_unfold]
            simp [Cpn.enc, hlo, hw, e0, e1, e2, e3, e4, e5, e6, hra1, hb4, hci, hA, hA', hB, hB', hn0t, hn1', buildA, fillA, buildSliceA, setElems, freezeParts, sgAll, pureF2, strP, strS, encR, fromS, Str.enc, Cut.enc, cut0, Tryz.f156]
        · have hB' : ¬ (1 : Int) < p.has - 1 := by omega
          have hci : caretI p = 1 := by simp [caretI, hA, hA', hB, hB', hn0]
          have hra1 := hra 1 (by omega)
          rw [show ((1 : Nat) : Int) = 1 from rfl] at hra1
          simp [Cpn.enc, hlo, hw, e0, e1, e2, e3, e4, e5, e6, hA, hA', hB, hB', hn0t, sgAll]
          rw [EvC_loop_unfold]
          simp [Cpn.enc, hlo, hw, e0, e1, e2, e3, e4, e5, e6, hA, hA', hB, hB', hn0t]
          rw [EvC_loop_unfold]
          simp [Cpn.enc, hlo, hw, e0, e1, e2, e3, e4, e5, e6, hra1, hb4, hci, hA, hA', hB, hB', hn0t, buildA, fillA, buildSliceA, setElems, freezeParts, sgAll, pureF2, strP, strS, encR, fromS, Str.enc, Cut.enc, cut0, Tryz.f156]
      · have hn0' : (p.n0 == 0) = false := by simpa using hn0
        have hci : caretI p = 0 := by simp [caretI, hA, hA', hn0, hn0']
        have hra1 := hra 0 (by omega)
        rw [show ((0 : Nat) : Int) = 0 from rfl] at hra1
        simp [Cpn.enc, hlo, hw, e0, e1, e2, e3, e4, e5, e6, hA, hA', hn0', sgAll]
        rw [EvC_loop_unfold]
        simp [Cpn.enc, hlo, hw, e0, e1, e2, e3, e4, e5, e6, hra1, hb4, hci, hA, hA', hn0', buildA, fillA, buildSliceA, setElems, freezeParts, sgAll, pureF2, strP, strS, encR, fromS, Str.enc, Cut.enc, cut0, Tryz.f156]
    · have hA' : ¬ (0 : Int) < p.has - 1 := by omega
      have hci : caretI p = 0 := by simp [caretI, hA, hA']
      have hra1 := hra 0 (by omega)
      rw [show ((0 : Nat) : Int) = 0 from rfl] at hra1
      simp [Cpn.enc, hlo, hw, e0, e1, e2, e3, e4, e5, e6, hA, hA', sgAll]
      rw [EvC_loop_unfold]
      simp [Cpn.enc, hlo, hw, e0, e1, e2, e3, e4, e5, e6, hra1, hb4, hci, hA, hA', buildA, fillA, buildSliceA, setElems, freezeParts, sgAll, pureF2, strP, strS, encR, fromS, Str.enc, Cut.enc, cut0, Tryz.f156]
  have e7 : (sign == [94]) = false := by simpa using s7
  have hb5 := fun hp nx => bt_call (lowC p) (highC p) hp nx (low_small hsm) (high_small hsm)
  simp only [btwP, Cut.enc] at hb5
  simp only [sgAll] at s0
  have e1' := s1
  simp [Cpn.enc, hlo, hhi, hb5, e0, e1, e2, e3, e4, e5, e6, e7, s0, s1, s2, s3, s4, s5, s6, s7, buildA, fillA, buildSliceA, setElems, freezeParts, sgAll, pureF2, strP, strS, encR, fromS, Str.enc, Cut.enc, cut0, Tryz.f156]
noncomputable def FCm (f : Cpn → PV) : List PV → Option PV := specOf (α := Cpn) (fun c => [.agg c.enc]) Cpn.ok f
theorem stretches_sound : SpecSound Tryz.prog 156 (hPureN [.g mpat] (FCm strP)) :=
  pureN_sound (fn := Tryz.f156) goodstt ⟨_, Tryz.func156, by kernel_rfl, rfl, by kernel_rfl⟩ _ _ fun args r h => by
    obtain ⟨c, rfl, h1, rfl⟩ := specOf_inv h
    obtain ⟨r0, h3, h4⟩ := stretches_eval c h1
    exact ⟨by simp [Tryz.f156], r0, h3, h4⟩
end Go.Proofs.YtfjeckcbnhohmaaGreatDoor
namespace Go.Proofs.YtfjeckcbnhohmaaGreatDoor
open Go.RowKit Go.AM
/-! ### operator -/
def sgs : List (List UInt8) := [[62, 61], [60, 61], [62], [60], [61], [126], [94]]
def opW : List (List UInt8) → List UInt8 → List UInt8 × List UInt8
  | [], s => ([], s)
  | g :: l, s => if g.isPrefixOf s = true then (g, s.drop g.length) else opW l s
def opP (s : List UInt8) : PV := .tup [str (opW sgs s).1, str (opW sgs s).2]
noncomputable abbrev Cop : Ctx := mkCtx Tryz.prog [(270, hPure false [] (FTT cpP fun _ _ => True))]
theorem goodop : AM.Good Cop (fun g => ([] : List Nat).contains g) := good_of mixed ⟨cutPrefix_sound, by simp, trivial⟩
set_option maxRecDepth 8000 in
theorem operator_eval (s : List UInt8) (h : s.length ≤ lim) : evalPure Cop Tryz.f214 [str s] = some (opP s) := by
  refine evalPure_of rfl ?_
  have hb : ∀ hp nx, buildSliceA Tryz.prog hp nx 102 7 [(0, str [62, 61]), (1, str [60, 61]), (2, str [62]), (3, str [60]), (4, str [61]), (5, str [126]), (6, str [94])] = some (.own nx 0 7, upd hp nx (some ⟨9, 1, true, encT sgs⟩), nx + 1) := fun hp nx => by
    simp [buildSliceA, setElems, freezeParts, sgs, str]
  simp [str] at hb
  simp [hb]
  refine EvC_for (fun k σ hp nx => σ 0 = str s ∧ σ 8 = .own 0 0 7 ∧ σ 9 = int 7 ∧ σ 10 = int k ∧ hp 0 = some ⟨9, 1, true, encT sgs⟩ ∧ opW sgs s = opW (sgs.drop k) s) 7 ⟨by simp, by simp, by simp, by simp, by simp, by simp⟩ ?_
  rintro k σ hp nx hk ⟨h0, h8, h9, h10, b0, he⟩
  by_cases hlt : k < 7
  · have hl : k < sgs.length := hlt
    have hgl : sgs[k].length ≤ lim := by
      have : ∀ q ∈ sgs, q.length ≤ lim := by decide
      exact this _ (List.getElem_mem hl)
    have hc := fun hp nx => cp_call s sgs[k] hp nx h hgl
    have hw : IntKind.i64.wrap ((k : Int) + 1) = (k : Int) + 1 := wrap_fit (by omega) (by omega)
    have hk7 : (k : Int) < 7 := by omega
    rw [List.drop_eq_getElem_cons hl] at he
    simp only [opW] at he
    by_cases hp : (sgs[k]).isPrefixOf s = true
    · rw [if_pos hp] at he
      simp [h0, h8, h9, h10, b0, hk7, hlt, hl, hc, hp, hw, opP, he, pureR, Tryz.f214]
    · rw [if_neg hp] at he
      have hp' : (sgs[k]).isPrefixOf s = false := Bool.eq_false_iff.2 hp
      simp [h0, h8, h9, h10, b0, hk7, hlt, hl, hc, hp', hw]
      exact ⟨by omega, he⟩
  · obtain rfl : k = 7 := by omega
    rw [show sgs.drop 7 = [] from rfl] at he
    simp only [opW] at he
    simp [h0, h8, h9, h10, opP, he, pureR,  Tryz.f214]
theorem operator_sound : SpecSound Tryz.prog 214 (hPure false [] (FSP opP)) :=
  pureS (fn := Tryz.f214) goodop ⟨_, Tryz.func214, by kernel_rfl, rfl, by kernel_rfl⟩ false [] _ fun args r h => by
    obtain ⟨l, rfl, hp, rfl⟩ := specOf_inv h
    exact ⟨by simp [Tryz.f214], _, operator_eval l hp, up_of _⟩
/-! ### slices.DeleteFunc -/
def emp (l : List UInt8) : Bool := l.isEmpty
set_option maxRecDepth 4000 in
theorem alt1_sound : SpecSound Tryz.prog 212 (hPure false [] (FS emp)) :=
  pureS (fn := Tryz.f212) good0 ⟨_, Tryz.func212, by kernel_rfl, rfl, by kernel_rfl⟩ false [] _ fun args r h => by
    obtain ⟨l, rfl, hp, rfl⟩ := specOf_inv h
    exact ⟨by simp [Tryz.f212], _, evalPure_of rfl (by simp [pureR, emp, Tryz.f212]), up_of _⟩
/-- The first text that is empty, from place k on. -/
def idxE : Nat → List (List UInt8) → Int
  | _, [] => -1
  | k, x :: l => if x = [] then k else idxE (k + 1) l
def fnE : PV := .fn (.func 212) [] []
noncomputable def FIx : List PV → Option PV := specOf (α := List (List UInt8)) (fun l => [.sl 1 (encT l), fnE]) smallT (fun l => int (idxE 0 l))
noncomputable abbrev Cixf : Ctx := mkCtx Tryz.prog [(212, hPure false [] (FS emp))]
theorem goodixf : AM.Good Cixf (fun g => ([] : List Nat).contains g) := good_of mixed ⟨alt1_sound, by simp, trivial⟩
set_option maxRecDepth 8000 in
theorem indexFuncE_eval (l : List (List UInt8)) (h : smallT l) : evalPure Cixf Tryz.f266 [.sl 1 (encT l), fnE] = some (int (idxE 0 l)) := by
  refine evalPure_of rfl ?_
  obtain ⟨hl, hps⟩ := h
  unfold lim at hl
  simp [fnE]
  refine EvC_for (fun k σ hp nx => σ 0 = .sl 1 (encT l) ∧ σ 1 = fnE ∧ σ 7 = int l.length ∧ σ 8 = int k ∧ idxE 0 l = idxE k (l.drop k)) l.length ⟨by simp, by simp [fnE], by simp, by simp, by simp⟩ ?_
  rintro k σ hp nx hk ⟨h0, h1, h7, h8, he⟩
  by_cases hlt : k < l.length
  · have hw : IntKind.i64.wrap ((k : Int) + 1) = (k : Int) + 1 := wrap_fit (by omega) (by omega)
    have hc := fun hp' nx => FS_call emp l[k] hp' nx (hps _ (List.getElem_mem hlt))
    rw [List.drop_eq_getElem_cons hlt] at he
    simp only [idxE] at he
    by_cases hz : l[k] = []
    · rw [if_pos hz] at he
      have hz' : emp l[k] = true := by simpa [emp] using hz
      simp [h0, h1, h7, h8, fnE, hlt, hc, hz', hw, he, pureR, Tryz.f266]
    · rw [if_neg hz] at he
      have hz' : emp l[k] = false := by simpa [emp] using hz
      simp [h0, h1, h7, h8, fnE, hlt, hc, hz', hw]
      exact ⟨hlt, he⟩
  · obtain rfl : k = l.length := by omega
    rw [List.drop_length] at he
    simp only [idxE] at he
    simp [h0, h1, h7, h8, he, pureR, Tryz.f266]
theorem fixe_inj : ∀ a b : List (List UInt8), [PV.sl 1 (encT a), fnE] = [PV.sl 1 (encT b), fnE] → a = b := fun a b e => by
  simp only [List.cons.injEq, and_true] at e
  injection e with _ e
  exact encT_inj e
theorem indexFuncE_sound : SpecSound Tryz.prog 266 (hPure false [] FIx) :=
  pureS (fn := Tryz.f266) goodixf ⟨_, Tryz.func266, by kernel_rfl, rfl, by kernel_rfl⟩ false [] _ fun args r h => by
    obtain ⟨l, rfl, hp, rfl⟩ := specOf_inv h
    exact ⟨by simp [Tryz.f266], _, indexFuncE_eval l hp, up_of _⟩
theorem ixe_call (l : List (List UInt8)) (hp : Hp) (nx id : Nat) (h : smallT l) (hh : hp id = some (blkT l)) : hPure false [] FIx [.own id 0 l.length, fnE] hp nx = some (int (idxE 0 l), hp, nx) := by
  have ht : (encT l).take l.length = encT l := List.take_of_length_le (by simp)
  refine hPure_v (show freezeVals hp [.own id 0 l.length, fnE] = some ([.sl 1 (encT l), fnE], upd hp id none) by
    have : hp id = some ⟨9, 1, true, encT l⟩ := hh
    simp [fnE, this, ht]) (specOf_eq (enc := fun l : List (List UInt8) => [PV.sl 1 (encT l), fnE]) (a := l) fixe_inj h) (.inl rfl)
/-- Words: texts that are not empty. -/
def wordsL (l : List (List UInt8)) : List (List UInt8) := l.filter fun x => !emp x
theorem idxE_spec : ∀ (l : List (List UInt8)) (k : Nat), (idxE k l = -1 ∧ wordsL l = l) ∨ ∃ i, ∃ h : i < l.length, idxE k l = ((k + i : Nat) : Int) ∧ emp l[i] = true ∧ wordsL (l.take i) = l.take i
  | [], k => .inl ⟨rfl, rfl⟩
  | x :: l, k => by
    by_cases hx : x = []
    · exact .inr ⟨0, by simp, by simp [idxE, hx], by simp [emp, hx], by simp [wordsL]⟩
    · have hx' : emp x = false := by simpa [emp] using hx
      rcases idxE_spec l (k + 1) with ⟨h1, h2⟩ | ⟨i, h, h1, h2, h3⟩
      · exact .inl ⟨by simp [idxE, hx, h1], by simp only [wordsL, List.filter_cons, hx']; simpa [wordsL] using h2⟩
      · refine .inr ⟨i + 1, by simpa using h, by simp only [idxE, if_neg hx, h1]; congr 1; omega, by simpa using h2, ?_⟩
        simp only [List.take_succ_cons, wordsL, List.filter_cons, hx']
        simpa [wordsL] using h3
theorem words_take {l : List (List UInt8)} {j : Nat} (h : j < l.length) : wordsL (l.take (j + 1)) = if emp l[j] = true then wordsL (l.take j) else wordsL (l.take j) ++ [l[j]] := by
  rw [List.take_succ_eq_append_getElem h]
  simp only [wordsL, List.filter_append, List.filter_cons, List.filter_nil]
  cases emp l[j] <;> simp
theorem encT_append (a b : List (List UInt8)) : encT (a ++ b) = encT a ++ encT b := by simp [encT]
theorem row_split {l : List (List UInt8)} {i : Nat} (h : i < l.length) : encT l = encT (l.take i) ++ [str l[i]] :: encT (l.drop (i + 1)) := by
  rw [← encT_cons, ← encT_append, ← List.drop_eq_getElem_cons h, List.take_append_drop]
noncomputable abbrev Cdf : Ctx := mkCtx Tryz.prog [(212, hPure false [] (FS emp)), (266, hPure false [] FIx)]
theorem gooddf : AM.Good Cdf (fun g => ([] : List Nat).contains g) := good_of mixed ⟨alt1_sound, by simp, indexFuncE_sound, by simp, trivial⟩
set_option maxRecDepth 100000 in
theorem deleteFunc_sound : SpecSound Tryz.prog 211 (hRun Cdf Tryz.f211) := hRun_sound (code := _) gooddf ⟨Tryz.func211, by kernel_rfl, rfl, by kernel_rfl⟩
/-- What the slice's block holds afterwards. -/
def DelQ (l : List (List UInt8)) (id : Nat) (hp : Hp) (nx : Nat) (x : PV) (hp' : Hp) (nx' : Nat) : Prop := x = .own id 0 (wordsL l).length ∧ nx' = nx ∧ (∃ pad, hp' id = some ⟨9, 1, true, encT (wordsL l) ++ pad⟩) ∧ ∀ j, j ≠ id → hp' j = hp j
set_option maxRecDepth 8000 in
theorem delete_run (l : List (List UInt8)) (hp0 : Hp) (nx0 id : Nat) (h : smallT l) (hh : hp0 id = some (blkT l)) : ∃ x hp' nx', hRun Cdf Tryz.f211 [.own id 0 l.length, fnE] hp0 nx0 = some (x, hp', nx') ∧ DelQ l id hp0 nx0 x hp' nx' := by
  unfold hRun
  rw [if_pos (by simp [Tryz.f211])]
  refine evalFunc_of rfl ?_
  have hix := ixe_call l hp0 nx0 id h hh
  obtain ⟨hl, hps⟩ := h
  unfold lim at hl
  simp only [fnE] at hix
  have hb0 : hp0 id = some ⟨9, 1, true, encT l⟩ := hh
  rcases idxE_spec l 0 with ⟨e1, e2⟩ | ⟨i, hi, e1, e2, e3⟩
  · rw [e1] at hix
    simp [fnE, hix, DelQ, e2, Tryz.f211]
    exact ⟨[], by simpa using hb0⟩
  · rw [e1] at hix
    have hi1 : ((i : Int) == -1) = false := by simp
    have hwi : IntKind.i64.wrap ((i : Int) + 1) = (i : Int) + 1 := wrap_fit (by omega) (by omega)
    simp [fnE, hix, hi1, hwi]
    refine EvC_for (fun k σ hp nx => σ 0 = .own id 0 l.length ∧ σ 1 = fnE ∧ σ 5 = int (wordsL (l.take (i + 1 + k))).length ∧ σ 6 = int ((i : Int) + 1 + k) ∧ nx = nx0 ∧ (∀ j, j ≠ id → hp j = hp0 j) ∧
        ∃ mid, hp id = some ⟨9, 1, true, encT (wordsL (l.take (i + 1 + k))) ++ mid ++ encT (l.drop (i + 1 + k))⟩ ∧ (wordsL (l.take (i + 1 + k))).length + mid.length = i + 1 + k ∧ 0 < mid.length ∧ ∀ c ∈ mid, c.length = 1) (l.length - (i + 1))
      ⟨by simp, by simp [fnE], by simp [words_take hi, e2, e3]; omega, by simp, rfl, fun _ _ => rfl, [[str l[i]]], by simp [words_take hi, e2, e3, hb0]; exact row_split hi, by simp [words_take hi, e2, e3]; omega, by simp, by simp⟩ ?_
    rintro k σ hp nx hk ⟨h0, h1, h5, h6, rfl, hfr, mid, hb, hml, hm0, hm1⟩
    obtain ⟨j, hj⟩ : ∃ j, i + 1 + k = j := ⟨_, rfl⟩
    have h6' : σ 6 = int j := by rw [h6]; congr 2; omega
    rw [hj] at h5 hb hml
    by_cases hlt : j < l.length
    · have hc := fun hp' nx => FS_call emp l[j] hp' nx (hps _ (List.getElem_mem hlt))
      have hwj : IntKind.i64.wrap ((j : Int) + 1) = (j : Int) + 1 := wrap_fit (by omega) (by omega)
      have hww : IntKind.i64.wrap (((wordsL (l.take j)).length : Int) + 1) = ((wordsL (l.take j)).length : Int) + 1 := wrap_fit (by omega) (by omega)
      have hget : (encT (wordsL (l.take j)) ++ mid ++ encT (l.drop j))[j]? = some [str l[j]] := by
        rw [List.getElem?_append_right (by simp; omega), List.drop_eq_getElem_cons hlt, encT_cons]
        rw [show j - (encT (wordsL (l.take j)) ++ mid).length = 0 by simp; omega]
        rfl
      have hlen : (encT (wordsL (l.take j)) ++ mid ++ encT (l.drop j)).length = l.length := by simp; omega
      obtain ⟨rows, hrows⟩ : ∃ rows, encT (wordsL (l.take j)) ++ mid ++ encT (l.drop j) = rows := ⟨_, rfl⟩
      rw [hrows] at hb hget hlen
      have hget2 : ∀ h : j < rows.length, rows[j] = [str l[j]] := fun h => (List.getElem?_eq_some_iff.1 hget).2
      have hwt := words_take hlt
      have hjj : i + 1 + (k + 1) = j + 1 := by omega
      have hwi : (wordsL (l.take j)).length < l.length := by omega
      cases he : emp l[j]
      · rw [he, if_neg (by simp)] at hwt
        obtain ⟨y, mid', rfl, hmid'⟩ : ∃ y mid', mid = [y] :: mid' ∧ ∀ c ∈ mid', c.length = 1 := by
          cases mid with
          | nil => simp at hm0
          | cons x mid' =>
            have := hm1 x (by simp)
            match x, this with
            | [y], _ => exact ⟨y, mid', rfl, fun c hc => hm1 c (by simp [hc])⟩
        have hg3 : ∀ h : (wordsL (l.take j)).length < rows.length, rows[(wordsL (l.take j)).length] = [y] := fun h => by
          have : rows[(wordsL (l.take j)).length]? = some [y] := by
            rw [← hrows, List.append_assoc, List.getElem?_append_right (by simp)]
            simp
          exact (List.getElem?_eq_some_iff.1 this).2
        have hset : rows.set (wordsL (l.take j)).length [str l[j]] = encT (wordsL (l.take j)) ++ ([str l[j]] :: mid' ++ encT (l.drop j)) := by
          rw [← hrows, List.append_assoc, List.set_append_right _ _ (by simp)]
          simp
        simp only [List.length_cons] at hml
        simp [h0, h1, h5, h6', fnE, hlt, hb, hget2, hc, he, hwj, hww, hwi, hlen, hg3, hset, hjj, hwt]
        refine ⟨by omega, by omega, fun q hq => by rw [upd_miss _ _ _ _ hq]; exact hfr q hq, mid' ++ [[str l[j]]], ?_, by simp; omega, by simp, ?_⟩
        · rw [encT_append]
          simp
          rw [List.drop_eq_getElem_cons hlt, encT_cons]
        · intro c hc
          rcases List.mem_append.1 hc with hc | hc
          · exact hmid' c hc
          · simp at hc; subst hc; rfl
      · rw [he, if_pos rfl] at hwt
        simp [h0, h1, h5, h6', fnE, hlt, hb, hget2, hc, he, hwj, hjj, hwt, hlen]
        refine ⟨by omega, by omega, hfr, mid ++ [[str l[j]]], ?_, by simp; omega, by simp, ?_⟩
        · rw [← hrows]
          simp
          rw [List.drop_eq_getElem_cons hlt, encT_cons]
        · intro c hc
          rcases List.mem_append.1 hc with hc | hc
          · exact hm1 c hc
          · simp at hc; subst hc; rfl
    · obtain rfl : j = l.length := by omega
      rw [List.take_length] at h5 hb hml
      rw [List.drop_length, encT_nil, List.append_nil] at hb
      have hn1 : ¬ (l.length : Int) < l.length := by omega
      have hwle : (wordsL l).length ≤ l.length := by omega
      have hsub : l.length - (wordsL l).length = mid.length := by omega
      have hcl : clearA Tryz.prog hp nx 102 (.own id (wordsL l).length mid.length) = some (.tup [], upd hp id (some ⟨9, 1, true, encT (wordsL l) ++ List.replicate mid.length [str []]⟩), nx) := by
        have ht : (encT (wordsL l) ++ mid).take (wordsL l).length = encT (wordsL l) := by rw [List.take_append_of_le_length (by simp), encT_take]
        have hd : (encT (wordsL l) ++ mid).drop ((wordsL l).length + mid.length) = [] := List.drop_of_length_le (by simp)
        simp [clearA, hb, ht, hd, hm0, str]
      have hs1 : ∀ hp : Hp, hp id = some ⟨9, 1, true, encT (wordsL l) ++ mid⟩ → sliceA Tryz.prog hp 102 (.own id 0 l.length) (some (some (int (wordsL l).length))) none = some (.own id (wordsL l).length mid.length) := fun hp hh => by
        have : ¬ l.length = (wordsL l).length := by omega
        simp [sliceA, hh, boundA, hwle, hsub, this]
        intro e
        rw [e] at hsub ⊢
        simp at hsub
        simp [hsub]
      have hs2 : ∀ (hp : Hp) (r : List (List PV)), hp id = some ⟨9, 1, true, r⟩ → sliceA Tryz.prog hp 102 (.own id 0 l.length) none (some (some (int (wordsL l).length))) = some (.own id 0 (wordsL l).length) := fun hp r hh => by
        simp [sliceA, hh, boundA, hwle]
      have hs1' := hs1 hp hb
      have hs2' := hs2 (upd hp id (some ⟨9, 1, true, encT (wordsL l) ++ List.replicate mid.length [str []]⟩)) _ (by simp; rfl)
      simp [h0, h1, h5, h6', fnE, hb, hs1', hs2', hcl, Tryz.f211]
      exact ⟨rfl, rfl, ⟨_, by simp; rfl⟩, fun q hq => by rw [upd_miss _ _ _ _ hq]; exact hfr q hq⟩
end Go.Proofs.YtfjeckcbnhohmaaGreatDoor
namespace Go.Proofs.YtfjeckcbnhohmaaGreatDoor
open Go.RowKit Go.AM
def cAll : Cpn := ⟨sgAll, part0, part0⟩
def cOf (sg : List UInt8) (p : Part) : Cpn := ⟨sg, p, part0⟩
/-- One comparison, and the words behind it. -/
def altS (w : List UInt8) (l : List (List UInt8)) : Option (Cpn × List (List UInt8)) :=
  if (opW sgs w).1 = [] ∧ openB (opW sgs w).2 = true then some (cAll, l)
  else if (opW sgs w).1 ≠ [] ∧ (opW sgs w).2 = [] ∧ l ≠ [] then (match l with
    | r :: l' => if (rdPart r).2 = true then some (cOf (opW sgs w).1 (rdPart r).1, l') else none
    | [] => none)
  else if (rdPart (opW sgs w).2).2 = true then some (cOf (opW sgs w).1 (rdPart (opW sgs w).2).1, l) else none
def altN : Nat → List (List UInt8) → Option (List Cpn)
  | 0, _ => some []
  | _ + 1, [] => some []
  | n + 1, w :: l => match altS w l with
    | some (c, l') => (altN n l').map (c :: ·)
    | none => none
theorem altS_len {w : List UInt8} {l l' : List (List UInt8)} {c : Cpn} (h : altS w l = some (c, l')) : l'.length ≤ l.length := by
  unfold altS at h
  split at h
  · injection h with h; injection h with _ h; subst h; exact Nat.le_refl _
  · split at h
    · split at h
      · split at h
        · injection h with h; injection h with _ h; subst h; simp
        · cases h
      · cases h
    · split at h
      · injection h with h; injection h with _ h; subst h; exact Nat.le_refl _
      · cases h
def altR (t : List UInt8) : List Cpn × Bool :=
  match wordsL (splitL t [32]) with
  | [a, b, c] => if b = [45] then ([⟨[45], (rdPart a).1, (rdPart c).1⟩], (rdPart a).2 && (rdPart c).2) else (match altN 3 [a, b, c] with
    | some l => (l, !l.isEmpty)
    | none => ([], false))
  | ws => match altN ws.length ws with
    | some l => (l, !l.isEmpty)
    | none => ([], false)
def encM (l : List Cpn) : List (List PV) := l.map Cpn.enc
def altP (t : List UInt8) : PV := .tup [.sl 11 (encM (altR t).1), boo (altR t).2]
theorem opW_len : ∀ (gs : List (List UInt8)) (s : List UInt8), (opW gs s).2.length ≤ s.length
  | [], s => Nat.le_refl _
  | g :: l, s => by
    simp only [opW]
    split
    · simp
    · exact opW_len l s
noncomputable abbrev Calt : Ctx := mkCtx Tryz.prog [(165, hFresh [] FSp), (211, hRun Cdf Tryz.f211), (213, hPure false [] (FSP1 rdPartP)), (214, hPure false [] (FSP opP)), (215, hPure false [] (FS openB))]
theorem goodalt : AM.Good Calt (fun g => [215].contains g) := good_of mixed ⟨split_sound, by simp, deleteFunc_sound, by simp, readPartial_sound, by simp, operator_sound, by simp, open_sound, fun _ => hPure_quiet _ _, trivial⟩
@[simp] theorem quietalt : QuietIn Calt 215 := quietIn_of (by rfl) (hPure_quiet _ _)
def lenO : PV → Nat
  | .own _ _ n => n
  | _ => 0
/-- What stands at the head of the loop. -/
def LoopI (ws : List (List UInt8)) (rows : List (List PV)) (st : St) : Prop := ∃ f rest l xs, rest.length ≤ f ∧ xs.length + rest.length ≤ ws.length ∧ ws.drop (ws.length - rest.length) = rest ∧ (rest = [] ∧ st.σ 4 = .sl 1 [] ∨ st.σ 4 = .own 0 (ws.length - rest.length) rest.length) ∧
  OwnS st.hp st.nx 198 11 (st.σ 9) xs ∧ (∀ n, st.σ 9 ≠ .own 0 0 n) ∧ xs.map (fixC mpat) = encM l ∧ 1 ≤ st.nx ∧ st.hp 0 = some ⟨9, 1, true, rows⟩ ∧ altN ws.length ws = (altN f rest).map (l ++ ·)
theorem sl1 (hp : Hp) (rows : List (List PV)) (o n : Nat) (hh : hp 0 = some ⟨9, 1, true, rows⟩) : sliceA Tryz.prog hp 102 (.own 0 o (n + 1)) (some (some (int 1))) none = some (if n = 0 then .sl 1 [] else .own 0 (o + 1) n) := by
  simp [sliceA, hh, boundA]
theorem loopI_mk {ws rows} {f' : Nat} {l' : List (List UInt8)} {l : List Cpn} {c : Cpn} {xs : List (List PV)} {raw : List PV} {st : St} {v4 : PV} (hf : l'.length ≤ f') (hx : xs.length + 1 + l'.length ≤ ws.length) (hdr : ws.drop (ws.length - l'.length) = l') (h4 : st.σ 4 = v4) (hv4 : l' = [] ∧ v4 = .sl 1 [] ∨ v4 = .own 0 (ws.length - l'.length) l'.length)
    (hO : OwnS st.hp st.nx 198 11 (st.σ 9) (xs ++ [raw])) (hO0 : ∀ n, st.σ 9 ≠ .own 0 0 n) (hfix : fixC mpat raw = c.enc) (hxs : xs.map (fixC mpat) = encM l) (hnx : 1 ≤ st.nx) (b0 : st.hp 0 = some ⟨9, 1, true, rows⟩) (he : altN ws.length ws = (altN f' l').map ((l ++ [c]) ++ ·)) : LoopI ws rows st :=
  ⟨f', l', l ++ [c], xs ++ [raw], hf, by simp; omega, hdr, by rw [h4]; exact hv4, hO, hO0, by simp [hxs, hfix, encM], hnx, b0, he⟩
theorem altN_nil (f : Nat) : altN f [] = some [] := by cases f <;> rfl
set_option maxHeartbeats 4000000 in
set_option maxRecDepth 8000 in
theorem alternative_eval (t : List UInt8) (ht : t.length + 1 ≤ lim) : ∃ r0, evalPure Calt Tryz.f154 [str t] = some r0 ∧ Stands r0 (altP t) := by
  refine evalPureF2_of (sh := .s 11 mpat) rfl ?_
  have hsp := fun hp nx => split_call t [32] hp nx (by omega) (by decide) (by decide)
  have hpl : ∀ p ∈ splitL t [32], p.length + 1 ≤ lim := fun p hp => by have := splitL_mem hp; omega
  have hsm : smallT (splitL t [32]) := ⟨by have := splitL_len (s := t) (sep := [32]) (by simp); omega, fun p hp => by have := hpl p hp; omega⟩
  obtain ⟨x, hp1, nx1, hdel, hx, hnx, ⟨pad, hb⟩, hfr⟩ := delete_run (splitL t [32]) (upd (fun _ => none) 0 (some ⟨9, 1, true, encT (splitL t [32])⟩)) 1 0 hsm (by simp)
  subst hx; subst hnx
  obtain ⟨ws, hws⟩ : ∃ ws, wordsL (splitL t [32]) = ws := ⟨_, rfl⟩
  have hwl : ∀ p ∈ ws, p.length + 1 ≤ lim := fun p hp => hpl p (by rw [← hws] at hp; exact (List.mem_filter.1 hp).1)
  rw [hws] at hdel hb
  simp only [fnE] at hdel
  have hwn : ws.length ≤ lim := by
    have h1 := List.length_filter_le (fun x => !emp x) (splitL t [32])
    have h2 := splitL_len (s := t) (sep := [32]) (by simp)
    have h3 : ws.length = (wordsL (splitL t [32])).length := by rw [hws]
    unfold wordsL at h3
    omega
  have hrd := fun (p : List UInt8) (hp : p.length + 1 ≤ lim) hp' nx => FSP1_call rdPartP p hp' nx hp
  simp [hsp, hdel]
  by_cases hc : ∃ a c, ws = [a, [45], c]
  · obtain ⟨a, c, rfl⟩ := hc
    have ha := fun hp' nx => hrd a (hwl a (by simp)) hp' nx
    have hcc := fun hp' nx => hrd c (hwl c (by simp)) hp' nx
    simp only [rdPartP, Part.enc] at ha hcc
    have hval : altP t = .tup [.sl 11 (encM [⟨[45], (rdPart a).1, (rdPart c).1⟩]), boo ((rdPart a).2 && (rdPart c).2)] := by simp only [altP, altR, hws, if_true]
    rw [hval]
    have hn : ∀ k, 0 < k → hp1 k = none := fun k hk => by rw [hfr k (by omega), upd_miss _ _ _ _ (by omega)]
    simp [hb, ha, hcc, buildA, fillA, buildSliceA, setElems, freezeParts, pureF2, encM, Cpn.enc, Tryz.f154]
  · have hval : altP t = (match altN ws.length ws with
      | some l => .tup [.sl 11 (encM l), boo (!l.isEmpty)]
      | none => .tup [.sl 11 [], boo false]) := by
      have hR : altR t = (match altN ws.length ws with
        | some l => (l, !l.isEmpty)
        | none => ([], false)) := by
        unfold altR
        rw [hws]
        match ws, hc with
        | [], _ => rfl
        | [_], _ => rfl
        | [_, _], _ => rfl
        | [a, b, c], hc =>
          have : ¬ b = [45] := fun e => hc ⟨a, c, by rw [e]⟩
          simp only [if_neg this]
          rfl
        | _ :: _ :: _ :: _ :: _, _ => rfl
      unfold altP
      rw [hR]
      cases altN ws.length ws <;> rfl
    obtain ⟨rows, hrows⟩ : ∃ rows, encT ws ++ pad = rows := ⟨_, rfl⟩
    have hrl : ws.length ≤ rows.length := by rw [← hrows]; simp
    have hat : ∀ k (h : k < ws.length) (h' : k < rows.length), rows[k] = [str ws[k]] := fun k h h' => by
      subst hrows
      rw [List.getElem_append_left (by simpa using h)]
      simp [encT]
    rw [hrows] at hb
    clear hrows
    by_cases h3 : ws.length = 3
    · have h31 := hat 1 (by omega) (by omega)
      have hne : (ws[1] == [45]) = false := by
        match ws, h3, hc with
        | [a, b, c], _, hc => simpa using fun e => hc ⟨a, c, by rw [e]⟩
      have h3l : 1 < rows.length := by omega
      have h33 : ((ws.length : Int) == 3) = true := by simp [h3]
      simp [hb, h33, h3, h31, hne, h3l]
      refine EvC_loop (LoopI ws rows) (fun st => lenO (st.σ 4)) ⟨ws.length, ws, [], [], Nat.le_refl _, by simp, by simp, .inr (by simp; try omega), .inl ⟨by simp, rfl⟩, by simp, rfl, by simp, by simpa using hb, by simp⟩ ?_
      clear hdel hfr hsp
      rintro ⟨σ, hp, nx⟩ ⟨f, rest, l, xs, hf, hxl, hdr, h4, hO, hO0, hxs, hnx, b0, he⟩
      simp only at h4 hO hO0 hnx b0
      cases rest with
      | nil =>
        rw [altN_nil] at he
        simp only [Option.map_some, List.append_nil] at he
        rw [he] at hval
        rw [hval]
        have hxl2 : xs.length = l.length := by have := congrArg List.length hxs; simpa [encM] using this
        have hb1 : (decide ((0 : Int) < (xs.length : Int))) = !l.isEmpty := by
          rw [hxl2]; cases l <;> simp
        have hb2 : (decide (0 < xs.length)) = !l.isEmpty := by
          rw [hxl2]; cases l <;> simp
        have h4' : σ 4 = .sl 1 [] ∨ σ 4 = .own 0 ws.length 0 := by
          rcases h4 with ⟨_, h4⟩ | h4
          · exact .inl h4
          · exact .inr (by simpa using h4)
        rcases hO with ⟨h9, rfl⟩ | ⟨id, hid, h9, hb9⟩
        · simp [encM] at hxs
          subst hxs
          rcases h4' with h4' | h4' <;> simp [h4', h9, pureF2, encM, Tryz.f154]
        · rcases h4' with h4' | h4' <;> simp [h4', h9, hb9, hb1, hb2, hxs, pureF2, Tryz.f154]
      | cons w l' =>
        obtain ⟨f', rfl⟩ : ∃ f', f = f' + 1 := ⟨f - 1, by simp at hf; omega⟩
        simp only [List.length_cons] at hf hxl hdr h4
        obtain ⟨o, ho⟩ : ∃ o, ws.length - (l'.length + 1) = o := ⟨_, rfl⟩
        rw [ho] at hdr h4
        have h4' : σ 4 = .own 0 o (l'.length + 1) := by
          rcases h4 with ⟨h, _⟩ | h
          · cases h
          · exact h
        have hol : o < ws.length := by omega
        have hor : o < rows.length := by omega
        rw [List.drop_eq_getElem_cons hol] at hdr
        injection hdr with hdw hdl
        have hrow : rows[o] = [str w] := by rw [hat o hol hor, hdw]
        have hww : w.length + 1 ≤ lim := hwl w (by rw [← hdw]; exact List.getElem_mem hol)
        have hop := fun hp' nx' => FSP_call opP w hp' nx' (by omega) rfl
        simp only [opP] at hop
        have hrl2 : (opW sgs w).2.length + 1 ≤ lim := by have := opW_len sgs w; omega
        have hopn := fun hp' nx' => FS_call openB (opW sgs w).2 hp' nx' (by omega)
        obtain ⟨v4, hv4⟩ : ∃ v4, (if l'.length = 0 then PV.sl 1 [] else .own 0 (o + 1) l'.length) = v4 := ⟨_, rfl⟩
        have hs1 := fun hp' (hh : hp' 0 = some _) => sl1 hp' rows o l'.length hh
        rw [hv4] at hs1
        have hs1' := hs1 hp b0
        have ho1 : o + 1 = ws.length - l'.length := by omega
        have hv4' : l' = [] ∧ v4 = .sl 1 [] ∨ v4 = .own 0 (ws.length - l'.length) l'.length := by
          rw [← hv4, ← ho1]
          by_cases h : l'.length = 0
          · exact .inl ⟨List.length_eq_zero_iff.1 h, if_pos h⟩
          · exact .inr (if_neg h)
        have hmu : lenO v4 < l'.length + 1 := by rcases hv4' with ⟨_, h⟩ | h <;> rw [h] <;> simp [lenO]
        have hl4 : lenA Tryz.prog 102 v4 = some (int l'.length) := by
          rcases hv4' with ⟨h1, h⟩ | h
          · subst h1; rw [h]; simp
          · rw [h]; simp
        rw [ho1] at hdl
        have hap := fun c hO => OwnS.append1 (hp := hp) (nx := nx) (v := σ 9) (xs := xs) (P := Tryz.prog) (t := 190) (c := c) hO el190 sz198 by198 ze198 rfl (by omega) (by unfold maxLen; unfold lim at hwn; omega) (by unfold lim at hwn; omega)
        by_cases hA : (opW sgs w).1 = [] ∧ openB (opW sgs w).2 = true
        · have hS : altS w l' = some (cAll, l') := by unfold altS; rw [if_pos hA]
          have he' : altN ws.length ws = (altN f' l').map ((l ++ [cAll]) ++ ·) := by
            rw [he]; simp only [altN, hS]; cases altN f' l' <;> simp
          have hap1 := hap [str sgAll, int 0, int 0, int 0, int 0, .nil, int 0, int 0, int 0, int 0, .nil] hO
          obtain ⟨hA1, hA2⟩ := hA
          simp only [sgAll] at hap1
          simp [h4', b0, hor, hrow, hop, hopn, hs1', hA1, hA2, hap1, buildA, fillA, buildSliceA, setElems, freezeParts]
          have n0 : ¬ 0 = nx := by omega
          have n1 : ¬ 0 = nx + 1 := by omega
          have n2 : ¬ 0 = nx + 2 := by omega
          have hk0 := fun hp' => killV_other hO hp' 0 hO0
          exact ⟨loopI_mk (v4 := v4) (c := cAll) (f' := f') (l' := l') (l := l) (xs := xs) (by omega) (by omega) hdl (by simp) hv4' (by simpa using OwnS.after) (by simp <;> omega) rfl hxs (by simp) (by simp [hk0, n0, n1, n2, b0]) he', by simpa [lenO] using hmu⟩
        have n0 : ¬ 0 = nx := by omega
        have n1 : ¬ 0 = nx + 1 := by omega
        have n2 : ¬ 0 = nx + 2 := by omega
        have hk0 := fun hp' => killV_other hO hp' 0 hO0
        by_cases hE : (opW sgs w).1 = []
        · have hE1 : ((opW sgs w).1 == []) = true := by simpa using hE
          have hE2 : (opW sgs w).1.isEmpty = true := by simpa using hE
          have hE3 : ((opW sgs w).1 != []) = false := by simpa using hE
          have hOp : openB (opW sgs w).2 = false := by
            cases h : openB (opW sgs w).2
            · rfl
            · exact absurd ⟨hE, h⟩ hA
          have hrp := fun hp' nx' => hrd (opW sgs w).2 hrl2 hp' nx'
          simp only [rdPartP, Part.enc] at hrp
          cases hok : (rdPart (opW sgs w).2).2
          · have hS : altS w l' = none := by unfold altS; rw [if_neg hA, if_neg (fun h => h.1 hE), if_neg (by rw [hok]; simp)]
            have he' : altN ws.length ws = none := by rw [he]; simp only [altN, hS]; rfl
            rw [he'] at hval
            simp [h4', b0, hor, hrow, hop, hopn, hs1', hE1, hE2, hE3, hOp, hrp, hok, buildA, fillA, hval, encM, pureF2, Tryz.f154]
          · have hS : altS w l' = some (cOf (opW sgs w).1 (rdPart (opW sgs w).2).1, l') := by unfold altS; rw [if_neg hA, if_neg (fun h => h.1 hE), if_pos hok]
            have he' : altN ws.length ws = (altN f' l').map ((l ++ [cOf (opW sgs w).1 (rdPart (opW sgs w).2).1]) ++ ·) := by
              rw [he]; simp only [altN, hS]; cases altN f' l' <;> simp
            have hap2 := OwnS.append1 (P := Tryz.prog) (t := 190) (c := [str (opW sgs w).1, int (rdPart (opW sgs w).2).1.n0, int (rdPart (opW sgs w).2).1.n1, int (rdPart (opW sgs w).2).1.n2, int (rdPart (opW sgs w).2).1.has, .sl 1 (encT (rdPart (opW sgs w).2).1.pre), int 0, int 0, int 0, int 0, .nil]) (hO.more (some ⟨196, 5, false, [(rdPart (opW sgs w).2).1.enc]⟩)) el190 sz198 by198 ze198 rfl (by omega) (by unfold maxLen; unfold lim at hwn; omega) (by unfold lim at hwn; omega)
            simp only [Part.enc] at hap2
            simp [h4', b0, hor, hrow, hop, hopn, hs1', hE1, hE2, hE3, hOp, hrp, hok, hap2, buildA, fillA, buildSliceA, setElems, freezeParts]
            exact ⟨loopI_mk (v4 := v4) (c := cOf (opW sgs w).1 (rdPart (opW sgs w).2).1) (f' := f') (l' := l') (l := l) (xs := xs) (by omega) (by omega) hdl (by simp) hv4' (by simpa using OwnS.after) (by simp <;> omega) rfl hxs (by simp) (by simp [hk0, n0, n1, n2, b0]) he', by simpa [lenO] using hmu⟩
        have hE1 : ((opW sgs w).1 == []) = false := by simpa using hE
        have hE2 : (opW sgs w).1.isEmpty = false := by simpa using hE
        have hE3 : ((opW sgs w).1 != []) = true := by simpa using hE
        by_cases hR : (opW sgs w).2 = []
        · have hR1 : ((opW sgs w).2 == []) = true := by simpa using hR
          have hR2 : (opW sgs w).2.isEmpty = true := by simpa using hR
          by_cases hL : l' = []
          · have hLz : l'.length = 0 := by rw [hL]; rfl
            have hLp : ¬ 0 < l'.length := by omega
            have hLq : ¬ (0 : Int) < (l'.length : Int) := by omega
            have hrp := fun hp' nx' => hrd (opW sgs w).2 hrl2 hp' nx'
            simp only [rdPartP, Part.enc] at hrp
            cases hok : (rdPart (opW sgs w).2).2
            · have hS : altS w l' = none := by unfold altS; rw [if_neg hA, if_neg (fun h => h.2.2 hL), if_neg (by rw [hok]; simp)]
              have he' : altN ws.length ws = none := by rw [he]; simp only [altN, hS]; rfl
              rw [he'] at hval
              simp [h4', b0, hor, hrow, hop, hopn, hs1', hE1, hE2, hE3, hR1, hR2, hl4, hLp, hLq, hrp, hok, buildA, fillA, hval, encM, pureF2, Tryz.f154]
            · have hS : altS w l' = some (cOf (opW sgs w).1 (rdPart (opW sgs w).2).1, l') := by unfold altS; rw [if_neg hA, if_neg (fun h => h.2.2 hL), if_pos hok]
              have he' : altN ws.length ws = (altN f' l').map ((l ++ [cOf (opW sgs w).1 (rdPart (opW sgs w).2).1]) ++ ·) := by
                rw [he]; simp only [altN, hS]; cases altN f' l' <;> simp
              have hap2 := OwnS.append1 (P := Tryz.prog) (t := 190) (c := [str (opW sgs w).1, int (rdPart (opW sgs w).2).1.n0, int (rdPart (opW sgs w).2).1.n1, int (rdPart (opW sgs w).2).1.n2, int (rdPart (opW sgs w).2).1.has, .sl 1 (encT (rdPart (opW sgs w).2).1.pre), int 0, int 0, int 0, int 0, .nil]) (hO.more (some ⟨196, 5, false, [(rdPart (opW sgs w).2).1.enc]⟩)) el190 sz198 by198 ze198 rfl (by omega) (by unfold maxLen; unfold lim at hwn; omega) (by unfold lim at hwn; omega)
              simp only [Part.enc] at hap2
              simp [h4', b0, hor, hrow, hop, hopn, hs1', hE1, hE2, hE3, hR1, hR2, hl4, hLp, hLq, hrp, hok, hap2, buildA, fillA, buildSliceA, setElems, freezeParts]
              exact ⟨loopI_mk (v4 := v4) (c := cOf (opW sgs w).1 (rdPart (opW sgs w).2).1) (f' := f') (l' := l') (l := l) (xs := xs) (by omega) (by omega) hdl (by simp) hv4' (by simpa using OwnS.after) (by simp <;> omega) rfl hxs (by simp) (by simp [hk0, n0, n1, n2, b0]) he', by simpa [lenO] using hmu⟩
          · obtain ⟨r, l2, rfl⟩ : ∃ r l2, l' = r :: l2 := by
              cases l' with
              | nil => exact absurd rfl hL
              | cons r l2 => exact ⟨r, l2, rfl⟩
            have hv : v4 = .own 0 (o + 1) (l2.length + 1) := by
              rcases hv4' with ⟨h, _⟩ | h
              · cases h
              · rw [h, ← ho1]; rfl
            subst hv
            simp only [List.length_cons] at hf hxl ho h4' hs1' ho1 hdl hmu
            have hol2 : o + 1 < ws.length := by omega
            have hor2 : o + 1 < rows.length := by omega
            rw [← ho1, List.drop_eq_getElem_cons hol2] at hdl
            injection hdl with hdw2 hdl2
            have hrow2 : rows[o + 1] = [str r] := by rw [hat (o + 1) hol2 hor2, hdw2]
            have ho2 : o + 1 + 1 = ws.length - l2.length := by omega
            obtain ⟨v5, hv5⟩ : ∃ v5, (if l2.length = 0 then PV.sl 1 [] else .own 0 (o + 1 + 1) l2.length) = v5 := ⟨_, rfl⟩
            have hs2' := sl1 hp rows (o + 1) l2.length b0
            rw [hv5] at hs2'
            have hv5' : l2 = [] ∧ v5 = .sl 1 [] ∨ v5 = .own 0 (ws.length - l2.length) l2.length := by
              rw [← hv5, ← ho2]
              by_cases h : l2.length = 0
              · exact .inl ⟨List.length_eq_zero_iff.1 h, if_pos h⟩
              · exact .inr (if_neg h)
            have hmu5 : lenO v5 < l2.length + 1 + 1 := by rcases hv5' with ⟨_, h⟩ | h <;> rw [h] <;> simp [lenO]; omega
            rw [ho2] at hdl2
            have hpos : (0 : Int) < (l2.length : Int) + 1 := by omega
            have hpos2 : (0 : Int) < (l2.length : Int) + 1 + 1 := by omega
            have hrp := fun hp' nx' => hrd r (hwl r (by rw [← hdw2]; exact List.getElem_mem hol2)) hp' nx'
            simp only [rdPartP, Part.enc] at hrp
            cases hok : (rdPart r).2
            · have hS : altS w (r :: l2) = none := by unfold altS; rw [if_neg hA, if_pos ⟨hE, hR, by simp⟩]; simp only [hok]; rfl
              have he' : altN ws.length ws = none := by rw [he]; simp only [altN, hS]; rfl
              rw [he'] at hval
              simp [h4', b0, hor, hrow, hop, hopn, hs1', hs2', hor2, hrow2, hE1, hE2, hE3, hR1, hR2, hpos, hpos2, hrp, hok, buildA, fillA, hval, encM, pureF2, Tryz.f154]
            · have hS : altS w (r :: l2) = some (cOf (opW sgs w).1 (rdPart r).1, l2) := by unfold altS; rw [if_neg hA, if_pos ⟨hE, hR, by simp⟩]; simp only [hok, if_true]
              have he' : altN ws.length ws = (altN f' l2).map ((l ++ [cOf (opW sgs w).1 (rdPart r).1]) ++ ·) := by
                rw [he]; simp only [altN, hS]; cases altN f' l2 <;> simp
              have hap2 := OwnS.append1 (P := Tryz.prog) (t := 190) (c := [str (opW sgs w).1, int (rdPart r).1.n0, int (rdPart r).1.n1, int (rdPart r).1.n2, int (rdPart r).1.has, .sl 1 (encT (rdPart r).1.pre), int 0, int 0, int 0, int 0, .nil]) (hO.more (some ⟨196, 5, false, [(rdPart r).1.enc]⟩)) el190 sz198 by198 ze198 rfl (by omega) (by unfold maxLen; unfold lim at hwn; omega) (by unfold lim at hwn; omega)
              simp only [Part.enc] at hap2
              simp [h4', b0, hor, hrow, hop, hopn, hs1', hs2', hor2, hrow2, hE1, hE2, hE3, hR1, hR2, hpos, hpos2, hrp, hok, hap2, buildA, fillA, buildSliceA, setElems, freezeParts]
              exact ⟨loopI_mk (v4 := v5) (c := cOf (opW sgs w).1 (rdPart r).1) (f' := f') (l' := l2) (l := l) (xs := xs) (by omega) (by omega) hdl2 (by simp) hv5' (by simpa using OwnS.after) (by simp <;> omega) rfl hxs (by simp) (by simp [hk0, n0, n1, n2, b0]) he', by simpa [lenO] using hmu5⟩
        · have hR1 : ((opW sgs w).2 == []) = false := by simpa using hR
          have hR2 : (opW sgs w).2.isEmpty = false := by simpa using hR
          have hrp := fun hp' nx' => hrd (opW sgs w).2 hrl2 hp' nx'
          simp only [rdPartP, Part.enc] at hrp
          cases hok : (rdPart (opW sgs w).2).2
          · have hS : altS w l' = none := by unfold altS; rw [if_neg hA, if_neg (fun h => hR h.2.1), if_neg (by rw [hok]; simp)]
            have he' : altN ws.length ws = none := by rw [he]; simp only [altN, hS]; rfl
            rw [he'] at hval
            simp [h4', b0, hor, hrow, hop, hopn, hs1', hE1, hE2, hE3, hR1, hR2, hrp, hok, buildA, fillA, hval, encM, pureF2, Tryz.f154]
          · have hS : altS w l' = some (cOf (opW sgs w).1 (rdPart (opW sgs w).2).1, l') := by unfold altS; rw [if_neg hA, if_neg (fun h => hR h.2.1), if_pos hok]
            have he' : altN ws.length ws = (altN f' l').map ((l ++ [cOf (opW sgs w).1 (rdPart (opW sgs w).2).1]) ++ ·) := by
              rw [he]; simp only [altN, hS]; cases altN f' l' <;> simp
            have hap2 := OwnS.append1 (P := Tryz.prog) (t := 190) (c := [str (opW sgs w).1, int (rdPart (opW sgs w).2).1.n0, int (rdPart (opW sgs w).2).1.n1, int (rdPart (opW sgs w).2).1.n2, int (rdPart (opW sgs w).2).1.has, .sl 1 (encT (rdPart (opW sgs w).2).1.pre), int 0, int 0, int 0, int 0, .nil]) (hO.more (some ⟨196, 5, false, [(rdPart (opW sgs w).2).1.enc]⟩)) el190 sz198 by198 ze198 rfl (by omega) (by unfold maxLen; unfold lim at hwn; omega) (by unfold lim at hwn; omega)
            simp only [Part.enc] at hap2
            simp [h4', b0, hor, hrow, hop, hopn, hs1', hE1, hE2, hE3, hR1, hR2, hrp, hok, hap2, buildA, fillA, buildSliceA, setElems, freezeParts]
            exact ⟨loopI_mk (v4 := v4) (c := cOf (opW sgs w).1 (rdPart (opW sgs w).2).1) (f' := f') (l' := l') (l := l) (xs := xs) (by omega) (by omega) hdl (by simp) hv4' (by simpa using OwnS.after) (by simp <;> omega) rfl hxs (by simp) (by simp [hk0, n0, n1, n2, b0]) he', by simpa [lenO] using hmu⟩
    · have h33 : ((ws.length : Int) == 3) = false := by simp; omega
      simp [hb, h33]
      refine EvC_loop (LoopI ws rows) (fun st => lenO (st.σ 4)) ⟨ws.length, ws, [], [], Nat.le_refl _, by simp, by simp, .inr (by simp; try omega), .inl ⟨by simp, rfl⟩, by simp, rfl, by simp, by simpa using hb, by simp⟩ ?_
      clear hdel hfr hsp
      rintro ⟨σ, hp, nx⟩ ⟨f, rest, l, xs, hf, hxl, hdr, h4, hO, hO0, hxs, hnx, b0, he⟩
      simp only at h4 hO hO0 hnx b0
      cases rest with
      | nil =>
        rw [altN_nil] at he
        simp only [Option.map_some, List.append_nil] at he
        rw [he] at hval
        rw [hval]
        have hxl2 : xs.length = l.length := by have := congrArg List.length hxs; simpa [encM] using this
        have hb1 : (decide ((0 : Int) < (xs.length : Int))) = !l.isEmpty := by
          rw [hxl2]; cases l <;> simp
        have hb2 : (decide (0 < xs.length)) = !l.isEmpty := by
          rw [hxl2]; cases l <;> simp
        have h4' : σ 4 = .sl 1 [] ∨ σ 4 = .own 0 ws.length 0 := by
          rcases h4 with ⟨_, h4⟩ | h4
          · exact .inl h4
          · exact .inr (by simpa using h4)
        rcases hO with ⟨h9, rfl⟩ | ⟨id, hid, h9, hb9⟩
        · simp [encM] at hxs
          subst hxs
          rcases h4' with h4' | h4' <;> simp [h4', h9, pureF2, encM, Tryz.f154]
        · rcases h4' with h4' | h4' <;> simp [h4', h9, hb9, hb1, hb2, hxs, pureF2, Tryz.f154]
      | cons w l' =>
        obtain ⟨f', rfl⟩ : ∃ f', f = f' + 1 := ⟨f - 1, by simp at hf; omega⟩
        simp only [List.length_cons] at hf hxl hdr h4
        obtain ⟨o, ho⟩ : ∃ o, ws.length - (l'.length + 1) = o := ⟨_, rfl⟩
        rw [ho] at hdr h4
        have h4' : σ 4 = .own 0 o (l'.length + 1) := by
          rcases h4 with ⟨h, _⟩ | h
          · cases h
          · exact h
        have hol : o < ws.length := by omega
        have hor : o < rows.length := by omega
        rw [List.drop_eq_getElem_cons hol] at hdr
        injection hdr with hdw hdl
        have hrow : rows[o] = [str w] := by rw [hat o hol hor, hdw]
        have hww : w.length + 1 ≤ lim := hwl w (by rw [← hdw]; exact List.getElem_mem hol)
        have hop := fun hp' nx' => FSP_call opP w hp' nx' (by omega) rfl
        simp only [opP] at hop
        have hrl2 : (opW sgs w).2.length + 1 ≤ lim := by have := opW_len sgs w; omega
        have hopn := fun hp' nx' => FS_call openB (opW sgs w).2 hp' nx' (by omega)
        obtain ⟨v4, hv4⟩ : ∃ v4, (if l'.length = 0 then PV.sl 1 [] else .own 0 (o + 1) l'.length) = v4 := ⟨_, rfl⟩
        have hs1 := fun hp' (hh : hp' 0 = some _) => sl1 hp' rows o l'.length hh
        rw [hv4] at hs1
        have hs1' := hs1 hp b0
        have ho1 : o + 1 = ws.length - l'.length := by omega
        have hv4' : l' = [] ∧ v4 = .sl 1 [] ∨ v4 = .own 0 (ws.length - l'.length) l'.length := by
          rw [← hv4, ← ho1]
          by_cases h : l'.length = 0
          · exact .inl ⟨List.length_eq_zero_iff.1 h, if_pos h⟩
          · exact .inr (if_neg h)
        have hmu : lenO v4 < l'.length + 1 := by rcases hv4' with ⟨_, h⟩ | h <;> rw [h] <;> simp [lenO]
        have hl4 : lenA Tryz.prog 102 v4 = some (int l'.length) := by
          rcases hv4' with ⟨h1, h⟩ | h
          · subst h1; rw [h]; simp
          · rw [h]; simp
        rw [ho1] at hdl
        have hap := fun c hO => OwnS.append1 (hp := hp) (nx := nx) (v := σ 9) (xs := xs) (P := Tryz.prog) (t := 190) (c := c) hO el190 sz198 by198 ze198 rfl (by omega) (by unfold maxLen; unfold lim at hwn; omega) (by unfold lim at hwn; omega)
        by_cases hA : (opW sgs w).1 = [] ∧ openB (opW sgs w).2 = true
        · have hS : altS w l' = some (cAll, l') := by unfold altS; rw [if_pos hA]
          have he' : altN ws.length ws = (altN f' l').map ((l ++ [cAll]) ++ ·) := by
            rw [he]; simp only [altN, hS]; cases altN f' l' <;> simp
          have hap1 := hap [str sgAll, int 0, int 0, int 0, int 0, .nil, int 0, int 0, int 0, int 0, .nil] hO
          obtain ⟨hA1, hA2⟩ := hA
          simp only [sgAll] at hap1
          simp [h4', b0, hor, hrow, hop, hopn, hs1', hA1, hA2, hap1, buildA, fillA, buildSliceA, setElems, freezeParts]
          have n0 : ¬ 0 = nx := by omega
          have n1 : ¬ 0 = nx + 1 := by omega
          have n2 : ¬ 0 = nx + 2 := by omega
          have hk0 := fun hp' => killV_other hO hp' 0 hO0
          exact ⟨loopI_mk (v4 := v4) (c := cAll) (f' := f') (l' := l') (l := l) (xs := xs) (by omega) (by omega) hdl (by simp) hv4' (by simpa using OwnS.after) (by simp <;> omega) rfl hxs (by simp) (by simp [hk0, n0, n1, n2, b0]) he', by simpa [lenO] using hmu⟩
        have n0 : ¬ 0 = nx := by omega
        have n1 : ¬ 0 = nx + 1 := by omega
        have n2 : ¬ 0 = nx + 2 := by omega
        have hk0 := fun hp' => killV_other hO hp' 0 hO0
        by_cases hE : (opW sgs w).1 = []
        · have hE1 : ((opW sgs w).1 == []) = true := by simpa using hE
          have hE2 : (opW sgs w).1.isEmpty = true := by simpa using hE
          have hE3 : ((opW sgs w).1 != []) = false := by simpa using hE
          have hOp : openB (opW sgs w).2 = false := by
            cases h : openB (opW sgs w).2
            · rfl
            · exact absurd ⟨hE, h⟩ hA
          have hrp := fun hp' nx' => hrd (opW sgs w).2 hrl2 hp' nx'
          simp only [rdPartP, Part.enc] at hrp
          cases hok : (rdPart (opW sgs w).2).2
          · have hS : altS w l' = none := by unfold altS; rw [if_neg hA, if_neg (fun h => h.1 hE), if_neg (by rw [hok]; simp)]
            have he' : altN ws.length ws = none := by rw [he]; simp only [altN, hS]; rfl
            rw [he'] at hval
            simp [h4', b0, hor, hrow, hop, hopn, hs1', hE1, hE2, hE3, hOp, hrp, hok, buildA, fillA, hval, encM, pureF2, Tryz.f154]
          · have hS : altS w l' = some (cOf (opW sgs w).1 (rdPart (opW sgs w).2).1, l') := by unfold altS; rw [if_neg hA, if_neg (fun h => h.1 hE), if_pos hok]
            have he' : altN ws.length ws = (altN f' l').map ((l ++ [cOf (opW sgs w).1 (rdPart (opW sgs w).2).1]) ++ ·) := by
              rw [he]; simp only [altN, hS]; cases altN f' l' <;> simp
            have hap2 := OwnS.append1 (P := Tryz.prog) (t := 190) (c := [str (opW sgs w).1, int (rdPart (opW sgs w).2).1.n0, int (rdPart (opW sgs w).2).1.n1, int (rdPart (opW sgs w).2).1.n2, int (rdPart (opW sgs w).2).1.has, .sl 1 (encT (rdPart (opW sgs w).2).1.pre), int 0, int 0, int 0, int 0, .nil]) (hO.more (some ⟨196, 5, false, [(rdPart (opW sgs w).2).1.enc]⟩)) el190 sz198 by198 ze198 rfl (by omega) (by unfold maxLen; unfold lim at hwn; omega) (by unfold lim at hwn; omega)
            simp only [Part.enc] at hap2
            simp [h4', b0, hor, hrow, hop, hopn, hs1', hE1, hE2, hE3, hOp, hrp, hok, hap2, buildA, fillA, buildSliceA, setElems, freezeParts]
            exact ⟨loopI_mk (v4 := v4) (c := cOf (opW sgs w).1 (rdPart (opW sgs w).2).1) (f' := f') (l' := l') (l := l) (xs := xs) (by omega) (by omega) hdl (by simp) hv4' (by simpa using OwnS.after) (by simp <;> omega) rfl hxs (by simp) (by simp [hk0, n0, n1, n2, b0]) he', by simpa [lenO] using hmu⟩
        have hE1 : ((opW sgs w).1 == []) = false := by simpa using hE
        have hE2 : (opW sgs w).1.isEmpty = false := by simpa using hE
        have hE3 : ((opW sgs w).1 != []) = true := by simpa using hE
        by_cases hR : (opW sgs w).2 = []
        · have hR1 : ((opW sgs w).2 == []) = true := by simpa using hR
          have hR2 : (opW sgs w).2.isEmpty = true := by simpa using hR
          by_cases hL : l' = []
          · have hLz : l'.length = 0 := by rw [hL]; rfl
            have hLp : ¬ 0 < l'.length := by omega
            have hLq : ¬ (0 : Int) < (l'.length : Int) := by omega
            have hrp := fun hp' nx' => hrd (opW sgs w).2 hrl2 hp' nx'
            simp only [rdPartP, Part.enc] at hrp
            cases hok : (rdPart (opW sgs w).2).2
            · have hS : altS w l' = none := by unfold altS; rw [if_neg hA, if_neg (fun h => h.2.2 hL), if_neg (by rw [hok]; simp)]
              have he' : altN ws.length ws = none := by rw [he]; simp only [altN, hS]; rfl
              rw [he'] at hval
              simp [h4', b0, hor, hrow, hop, hopn, hs1', hE1, hE2, hE3, hR1, hR2, hl4, hLp, hLq, hrp, hok, buildA, fillA, hval, encM, pureF2, Tryz.f154]
            · have hS : altS w l' = some (cOf (opW sgs w).1 (rdPart (opW sgs w).2).1, l') := by unfold altS; rw [if_neg hA, if_neg (fun h => h.2.2 hL), if_pos hok]
              have he' : altN ws.length ws = (altN f' l').map ((l ++ [cOf (opW sgs w).1 (rdPart (opW sgs w).2).1]) ++ ·) := by
                rw [he]; simp only [altN, hS]; cases altN f' l' <;> simp
              have hap2 := OwnS.append1 (P := Tryz.prog) (t := 190) (c := [str (opW sgs w).1, int (rdPart (opW sgs w).2).1.n0, int (rdPart (opW sgs w).2).1.n1, int (rdPart (opW sgs w).2).1.n2, int (rdPart (opW sgs w).2).1.has, .sl 1 (encT (rdPart (opW sgs w).2).1.pre), int 0, int 0, int 0, int 0, .nil]) (hO.more (some ⟨196, 5, false, [(rdPart (opW sgs w).2).1.enc]⟩)) el190 sz198 by198 ze198 rfl (by omega) (by unfold maxLen; unfold lim at hwn; omega) (by unfold lim at hwn; omega)
              simp only [Part.enc] at hap2
              simp [h4', b0, hor, hrow, hop, hopn, hs1', hE1, hE2, hE3, hR1, hR2, hl4, hLp, hLq, hrp, hok, hap2, buildA, fillA, buildSliceA, setElems, freezeParts]
              exact ⟨loopI_mk (v4 := v4) (c := cOf (opW sgs w).1 (rdPart (opW sgs w).2).1) (f' := f') (l' := l') (l := l) (xs := xs) (by omega) (by omega) hdl (by simp) hv4' (by simpa using OwnS.after) (by simp <;> omega) rfl hxs (by simp) (by simp [hk0, n0, n1, n2, b0]) he', by simpa [lenO] using hmu⟩
          · obtain ⟨r, l2, rfl⟩ : ∃ r l2, l' = r :: l2 := by
              cases l' with
              | nil => exact absurd rfl hL
              | cons r l2 => exact ⟨r, l2, rfl⟩
            have hv : v4 = .own 0 (o + 1) (l2.length + 1) := by
              rcases hv4' with ⟨h, _⟩ | h
              · cases h
              · rw [h, ← ho1]; rfl
            subst hv
            simp only [List.length_cons] at hf hxl ho h4' hs1' ho1 hdl hmu
            have hol2 : o + 1 < ws.length := by omega
            have hor2 : o + 1 < rows.length := by omega
            rw [← ho1, List.drop_eq_getElem_cons hol2] at hdl
            injection hdl with hdw2 hdl2
            have hrow2 : rows[o + 1] = [str r] := by rw [hat (o + 1) hol2 hor2, hdw2]
            have ho2 : o + 1 + 1 = ws.length - l2.length := by omega
            obtain ⟨v5, hv5⟩ : ∃ v5, (if l2.length = 0 then PV.sl 1 [] else .own 0 (o + 1 + 1) l2.length) = v5 := ⟨_, rfl⟩
            have hs2' := sl1 hp rows (o + 1) l2.length b0
            rw [hv5] at hs2'
            have hv5' : l2 = [] ∧ v5 = .sl 1 [] ∨ v5 = .own 0 (ws.length - l2.length) l2.length := by
              rw [← hv5, ← ho2]
              by_cases h : l2.length = 0
              · exact .inl ⟨List.length_eq_zero_iff.1 h, if_pos h⟩
              · exact .inr (if_neg h)
            have hmu5 : lenO v5 < l2.length + 1 + 1 := by rcases hv5' with ⟨_, h⟩ | h <;> rw [h] <;> simp [lenO]; omega
            rw [ho2] at hdl2
            have hpos : (0 : Int) < (l2.length : Int) + 1 := by omega
            have hpos2 : (0 : Int) < (l2.length : Int) + 1 + 1 := by omega
            have hrp := fun hp' nx' => hrd r (hwl r (by rw [← hdw2]; exact List.getElem_mem hol2)) hp' nx'
            simp only [rdPartP, Part.enc] at hrp
            cases hok : (rdPart r).2
            · have hS : altS w (r :: l2) = none := by unfold altS; rw [if_neg hA, if_pos ⟨hE, hR, by simp⟩]; simp only [hok]; rfl
              have he' : altN ws.length ws = none := by rw [he]; simp only [altN, hS]; rfl
              rw [he'] at hval
              simp [h4', b0, hor, hrow, hop, hopn, hs1', hs2', hor2, hrow2, hE1, hE2, hE3, hR1, hR2, hpos, hpos2, hrp, hok, buildA, fillA, hval, encM, pureF2, Tryz.f154]
            · have hS : altS w (r :: l2) = some (cOf (opW sgs w).1 (rdPart r).1, l2) := by unfold altS; rw [if_neg hA, if_pos ⟨hE, hR, by simp⟩]; simp only [hok, if_true]
              have he' : altN ws.length ws = (altN f' l2).map ((l ++ [cOf (opW sgs w).1 (rdPart r).1]) ++ ·) := by
                rw [he]; simp only [altN, hS]; cases altN f' l2 <;> simp
              have hap2 := OwnS.append1 (P := Tryz.prog) (t := 190) (c := [str (opW sgs w).1, int (rdPart r).1.n0, int (rdPart r).1.n1, int (rdPart r).1.n2, int (rdPart r).1.has, .sl 1 (encT (rdPart r).1.pre), int 0, int 0, int 0, int 0, .nil]) (hO.more (some ⟨196, 5, false, [(rdPart r).1.enc]⟩)) el190 sz198 by198 ze198 rfl (by omega) (by unfold maxLen; unfold lim at hwn; omega) (by unfold lim at hwn; omega)
              simp only [Part.enc] at hap2
              simp [h4', b0, hor, hrow, hop, hopn, hs1', hs2', hor2, hrow2, hE1, hE2, hE3, hR1, hR2, hpos, hpos2, hrp, hok, hap2, buildA, fillA, buildSliceA, setElems, freezeParts]
              exact ⟨loopI_mk (v4 := v5) (c := cOf (opW sgs w).1 (rdPart r).1) (f' := f') (l' := l2) (l := l) (xs := xs) (by omega) (by omega) hdl2 (by simp) hv5' (by simpa using OwnS.after) (by simp <;> omega) rfl hxs (by simp) (by simp [hk0, n0, n1, n2, b0]) he', by simpa [lenO] using hmu5⟩
        · have hR1 : ((opW sgs w).2 == []) = false := by simpa using hR
          have hR2 : (opW sgs w).2.isEmpty = false := by simpa using hR
          have hrp := fun hp' nx' => hrd (opW sgs w).2 hrl2 hp' nx'
          simp only [rdPartP, Part.enc] at hrp
          cases hok : (rdPart (opW sgs w).2).2
          · have hS : altS w l' = none := by unfold altS; rw [if_neg hA, if_neg (fun h => hR h.2.1), if_neg (by rw [hok]; simp)]
            have he' : altN ws.length ws = none := by rw [he]; simp only [altN, hS]; rfl
            rw [he'] at hval
            simp [h4', b0, hor, hrow, hop, hopn, hs1', hE1, hE2, hE3, hR1, hR2, hrp, hok, buildA, fillA, hval, encM, pureF2, Tryz.f154]
          · have hS : altS w l' = some (cOf (opW sgs w).1 (rdPart (opW sgs w).2).1, l') := by unfold altS; rw [if_neg hA, if_neg (fun h => hR h.2.1), if_pos hok]
            have he' : altN ws.length ws = (altN f' l').map ((l ++ [cOf (opW sgs w).1 (rdPart (opW sgs w).2).1]) ++ ·) := by
              rw [he]; simp only [altN, hS]; cases altN f' l' <;> simp
            have hap2 := OwnS.append1 (P := Tryz.prog) (t := 190) (c := [str (opW sgs w).1, int (rdPart (opW sgs w).2).1.n0, int (rdPart (opW sgs w).2).1.n1, int (rdPart (opW sgs w).2).1.n2, int (rdPart (opW sgs w).2).1.has, .sl 1 (encT (rdPart (opW sgs w).2).1.pre), int 0, int 0, int 0, int 0, .nil]) (hO.more (some ⟨196, 5, false, [(rdPart (opW sgs w).2).1.enc]⟩)) el190 sz198 by198 ze198 rfl (by omega) (by unfold maxLen; unfold lim at hwn; omega) (by unfold lim at hwn; omega)
            simp only [Part.enc] at hap2
            simp [h4', b0, hor, hrow, hop, hopn, hs1', hE1, hE2, hE3, hR1, hR2, hrp, hok, hap2, buildA, fillA, buildSliceA, setElems, freezeParts]
            exact ⟨loopI_mk (v4 := v4) (c := cOf (opW sgs w).1 (rdPart (opW sgs w).2).1) (f' := f') (l' := l') (l := l) (xs := xs) (by omega) (by omega) hdl (by simp) hv4' (by simpa using OwnS.after) (by simp <;> omega) rfl hxs (by simp) (by simp [hk0, n0, n1, n2, b0]) he', by simpa [lenO] using hmu⟩
theorem alternative_sound : SpecSound Tryz.prog 154 (hPure false [] (FSP1 altP)) :=
  pureG (fn := Tryz.f154) goodalt ⟨_, Tryz.func154, by kernel_rfl, rfl, by kernel_rfl⟩ false [] _ fun args r h w S vs hz => by
    obtain ⟨l, rfl, hp, rfl⟩ := specOf_inv h
    obtain ⟨r0, h1, h2⟩ := alternative_eval l hp
    exact ⟨_, r0, hz, by simp [Tryz.f154], h1, h2⟩
end Go.Proofs.YtfjeckcbnhohmaaGreatDoor
namespace Go.Proofs.YtfjeckcbnhohmaaGreatDoor
open Go.RowKit Go.AM
noncomputable def covB (s : Str) (c : Cut) : Bool := decide (cmpC s.lo c ≤ 0) && (s.endless || decide (cmpC c s.hi < 0))
def Str.small (s : Str) : Prop := s.lo.v.small ∧ s.hi.v.small
theorem ccx_call (x y : Cut) (hp : Hp) (nx : Nat) (h1 : x.v.small) (h2 : y.v.small) : hPureN [.g cpat, .g cpat] (FCC fun v w => int (cmpC v w)) [.agg x.enc, .agg y.enc] hp nx = some (int (cmpC x y), hp, nx) := cc_call x y (.agg x.enc) (.agg y.enc) hp nx (cutfix x) (cutfix y) (by simp only [freezeVals, cutfrz]) h1 h2
noncomputable abbrev Ccov1 : Ctx := mkCtx Tryz.prog [(222, hPureN [.g cpat, .g cpat] (FCC fun v w => int (cmpC v w)))]
theorem goodcov1 : AM.Good Ccov1 (fun g => [222].contains g) := good_of mixed ⟨compareCuts_sound, fun _ => hPureN_quiet _ _, trivial⟩
@[simp] theorem quietcov1 : QuietIn Ccov1 222 := quietIn_of (by rfl) (hPureN_quiet _ _)
set_option maxRecDepth 100000 in
theorem cov1_sound : SpecSound Tryz.prog 275 (hRun Ccov1 Tryz.f275) := hRun_sound (code := _) goodcov1 ⟨Tryz.func275, by kernel_rfl, rfl, by kernel_rfl⟩
set_option maxRecDepth 8000 in
theorem cov1_run (s : Str) (c : Cut) (hs : s.small) (hc : c.v.small) (hp : Hp) (nx id : Nat) (hid : id < nx) (hh : hp id = some ⟨206, 5, false, [c.enc]⟩) :
    hRun Ccov1 Tryz.f275 [.agg s.enc, .ref id 0 0] hp nx = some (boo (covB s c), upd hp nx (some ⟨208, 11, false, [s.enc]⟩), nx + 1) := by
  unfold hRun
  rw [if_pos (by simp [Tryz.f275])]
  refine evalFunc_eq rfl ?_
  have h1 := fun hp nx => ccx_call s.lo c hp nx hs.1 hc
  have h2 := fun hp nx => ccx_call c s.hi hp nx hc hs.2
  have e1 : ¬ id = nx := by omega
  simp only [Cut.enc] at h1 h2 hh
  by_cases ha : cmpC s.lo c ≤ 0 <;> cases hb : s.endless <;>
    simp [Str.enc, Cut.enc, h1, h2, hh, e1, ha, hb, covB, Tryz.f275]
/-! ### in a row -/
noncomputable def covI (c : Cut) : Nat → List Str → Int
  | _, [] => -1
  | k, s :: l => if covB s c = true then k else covI c (k + 1) l
theorem covI_any (c : Cut) : ∀ (l : List Str) (k : Nat), decide (0 ≤ covI c k l) = l.any (covB · c)
  | [], k => by simp [covI]
  | s :: l, k => by
    by_cases h : covB s c = true
    · have e : covI c k (s :: l) = k := by simp only [covI, if_pos h]
      rw [e, List.any_cons, h]; simp
    · have e : covI c k (s :: l) = covI c (k + 1) l := by simp only [covI, if_neg h]
      rw [e, covI_any c l (k + 1), List.any_cons, Bool.eq_false_iff.2 h]; rfl
noncomputable abbrev Ccix : Ctx := mkCtx Tryz.prog [(275, hRun Ccov1 Tryz.f275)]
theorem goodcix : AM.Good Ccix (fun g => ([] : List Nat).contains g) := good_of mixed ⟨cov1_sound, by simp, trivial⟩
set_option maxRecDepth 100000 in
theorem cix_sound : SpecSound Tryz.prog 321 (hRun Ccix Tryz.f321) := hRun_sound (code := _) goodcix ⟨Tryz.func321, by kernel_rfl, rfl, by kernel_rfl⟩
def fnC (id : Nat) : PV := .fn (.func 275) [] [.ref id 0 0]
/-- What is left alone. -/
def KeepQ (r : PV) (hp : Hp) (nx : Nat) (x : PV) (hp' : Hp) (nx' : Nat) : Prop := x = r ∧ nx ≤ nx' ∧ ∀ j, j < nx → hp' j = hp j
set_option maxRecDepth 8000 in
theorem cix_run (l : List Str) (c : Cut) (hl : l.length ≤ lim) (hs : ∀ s ∈ l, s.small) (hc : c.v.small) (hp0 : Hp) (nx0 id : Nat) (hid : id < nx0) (hh : hp0 id = some ⟨206, 5, false, [c.enc]⟩) :
    ∃ x hp' nx', hRun Ccix Tryz.f321 [.sl 11 (encR l), fnC id] hp0 nx0 = some (x, hp', nx') ∧ KeepQ (int (covI c 0 l)) hp0 nx0 x hp' nx' := by
  unfold hRun
  rw [if_pos (by simp [Tryz.f321])]
  refine evalFunc_of rfl ?_
  unfold lim at hl
  have hel : (encR l).length = l.length := by simp [encR]
  simp [fnC, hel]
  refine EvC_for (fun k σ hp nx => σ 0 = .sl 11 (encR l) ∧ σ 1 = fnC id ∧ σ 7 = int l.length ∧ σ 8 = int k ∧ nx0 ≤ nx ∧ (∀ j, j < nx0 → hp j = hp0 j) ∧ covI c 0 l = covI c k (l.drop k)) l.length ⟨by simp, by simp [fnC], by simp, by simp, Nat.le_refl _, fun _ _ => rfl, by simp⟩ ?_
  rintro k σ hp nx hk ⟨h0, h1, h7, h8, hnx, hfr, he⟩
  by_cases hlt : k < l.length
  · have hw : IntKind.i64.wrap ((k : Int) + 1) = (k : Int) + 1 := wrap_fit (by omega) (by omega)
    have hrun := cov1_run l[k] c (hs _ (List.getElem_mem hlt)) hc hp nx id (by omega) (by rw [hfr id hid]; exact hh)
    have hke : ∀ h : k < (encR l).length, (encR l)[k] = l[k].enc := fun h => by simp [encR]
    simp only [Str.enc, Cut.enc, List.cons_append, List.nil_append] at hrun hke
    rw [List.drop_eq_getElem_cons hlt] at he
    simp only [covI] at he
    cases hz : covB l[k] c
    · rw [hz, if_neg (by simp)] at he
      rw [hz] at hrun
      simp [h0, h1, h7, h8, fnC, hlt, hel, hke, hrun, hw]
      exact ⟨hlt, by omega, fun j hj => by rw [upd_miss _ _ _ _ (by omega)]; exact hfr j hj, he⟩
    · rw [hz, if_pos rfl] at he
      rw [hz] at hrun
      simp [h0, h1, h7, h8, fnC, hlt, hel, hke, hrun, hw, Tryz.f321]
      exact ⟨by rw [he], by omega, fun j hj => by rw [upd_miss _ _ _ _ (by omega)]; exact hfr j hj⟩
  · obtain rfl : k = l.length := by omega
    rw [List.drop_length] at he
    simp only [covI] at he
    simp [h0, h1, h7, h8, Tryz.f321]
    exact ⟨by rw [he], hnx, hfr⟩
/-! ### covers -/
noncomputable abbrev Cctn : Ctx := mkCtx Tryz.prog [(321, hRun Ccix Tryz.f321)]
theorem goodctn : AM.Good Cctn (fun g => ([] : List Nat).contains g) := good_of mixed ⟨cix_sound, by simp, trivial⟩
set_option maxRecDepth 100000 in
theorem ctn_sound : SpecSound Tryz.prog 274 (hRun Cctn Tryz.f274) := hRun_sound (code := _) goodctn ⟨Tryz.func274, by kernel_rfl, rfl, by kernel_rfl⟩
noncomputable def covA (l : List Str) (c : Cut) : Bool := l.any (covB · c)
set_option maxRecDepth 8000 in
theorem ctn_run (l : List Str) (c : Cut) (hl : l.length ≤ lim) (hs : ∀ s ∈ l, s.small) (hc : c.v.small) (hp0 : Hp) (nx0 id : Nat) (hid : id < nx0) (hh : hp0 id = some ⟨206, 5, false, [c.enc]⟩) :
    ∃ x hp' nx', hRun Cctn Tryz.f274 [.sl 11 (encR l), fnC id] hp0 nx0 = some (x, hp', nx') ∧ KeepQ (boo (covA l c)) hp0 nx0 x hp' nx' := by
  unfold hRun
  rw [if_pos (by simp [Tryz.f274])]
  refine evalFunc_of rfl ?_
  obtain ⟨x, hp', nx', h1, h2, h3, h4⟩ := cix_run l c hl hs hc hp0 nx0 id hid hh
  subst h2
  have ha := covI_any c l 0
  simp only [fnC] at h1
  simp [fnC, h1, ha, KeepQ, covA, h3, Tryz.f274]
  exact h4
noncomputable abbrev Ccov : Ctx := mkCtx Tryz.prog [(274, hRun Cctn Tryz.f274)]
theorem goodcov : AM.Good Ccov (fun g => ([] : List Nat).contains g) := good_of mixed ⟨ctn_sound, by simp, trivial⟩
def smallR (l : List Str) : Prop := l.length ≤ lim ∧ ∀ s ∈ l, s.small
theorem strenc_inj {a b : Str} (h : a.enc = b.enc) : a = b := by
  obtain ⟨⟨⟨a1, a2, a3, a4⟩, a5⟩, ⟨⟨a6, a7, a8, a9⟩, a10⟩, a11⟩ := a
  obtain ⟨⟨⟨b1, b2, b3, b4⟩, b5⟩, ⟨⟨b6, b7, b8, b9⟩, b10⟩, b11⟩ := b
  simp only [Str.enc, Cut.enc, List.cons_append, List.nil_append, List.cons.injEq, and_true] at h
  obtain ⟨h1, h2, h3, h4, h5, h6, h7, h8, h9, h10, h11⟩ := h
  injection h4 with _ h4
  injection h9 with _ h9
  rw [pint_inj h1, pint_inj h2, pint_inj h3, encT_inj h4, pbool_inj h5, pint_inj h6, pint_inj h7, pint_inj h8, encT_inj h9, pbool_inj h10, pbool_inj h11]
theorem encRow_inj {a b : List Str} (h : encR a = encR b) : a = b := map_inj (fun _ _ e => strenc_inj e) h
noncomputable def FRC (f : List Str → Cut → PV) : List PV → Option PV := specOf (α := List Str × Cut) (fun a => [.sl 11 (encR a.1), .agg a.2.enc]) (fun a => smallR a.1 ∧ a.2.v.small) (fun a => f a.1 a.2)
theorem rc_inj : ∀ a b : List Str × Cut, [PV.sl 11 (encR a.1), .agg a.2.enc] = [PV.sl 11 (encR b.1), .agg b.2.enc] → a = b := by
  rintro ⟨a1, a2⟩ ⟨b1, b2⟩ e
  simp only [List.cons.injEq, and_true] at e
  obtain ⟨e1, e2⟩ := e
  injection e1 with _ e1
  injection e2 with e2
  rw [encRow_inj e1, cuenc_inj e2]
set_option maxRecDepth 8000 in
theorem covers_eval (l : List Str) (c : Cut) (hl : smallR l) (hc : c.v.small) : evalPure Ccov Tryz.f223 [.sl 11 (encR l), .agg c.enc] = some (boo (covA l c)) := by
  refine evalPure_of rfl ?_
  obtain ⟨x, hp', nx', h1, h2, h3, h4⟩ := ctn_run l c hl.1 hl.2 hc (upd (fun _ => none) 0 (some ⟨206, 5, false, [c.enc]⟩)) 1 0 (by omega) (by simp)
  subst h2
  simp only [fnC, Cut.enc] at h1
  simp [Cut.enc, h1, pureR, Tryz.f223]
theorem covers_sound : SpecSound Tryz.prog 223 (hPureN [.s 11 spat, .g cpat] (FRC fun l c => boo (covA l c))) :=
  pureN_sound (fn := Tryz.f223) goodcov ⟨_, Tryz.func223, by kernel_rfl, rfl, by kernel_rfl⟩ _ _ fun args r h => by
    obtain ⟨⟨l, c⟩, rfl, ⟨h1, h2⟩, rfl⟩ := specOf_inv h
    exact ⟨by simp [Tryz.f223], _, covers_eval l c h1 h2, Stands.refl _⟩
end Go.Proofs.YtfjeckcbnhohmaaGreatDoor
