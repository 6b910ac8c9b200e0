/-
  Spans: the two laws' evaluation.
  For every book, layer and time (of bulk up to 1048576) the law burgeelaw4.LayerPiecesAreApart answers true: its evaluation.
-/
import Derived.Test.YtfjeckcbnhohmaaGreatDoorG16
import Derived.Test.YtfjeckcbnhohmaaGreatDoorG18
namespace Go.Proofs.YtfjeckcbnhohmaaGreatDoor
open Go.RowKit Go.AM Go.SpanLaw

/-! ### awake -/
theorem Size_own {e id : Nat} {hp : Hp} (nx : Nat) (h : hp id = some ⟨e, 2, true, [[int 3, int 5]]⟩) : hPure false [] (FP (fun l => twoI (sizeR l)) fun _ => True) [.own id 0 1] hp nx = some (.tup [int 2, int 0], hp, nx) := by
  refine hPure_v (show freezeVals hp [.own id 0 1] = some ([.sl 2 (([(3, 5)] : List Sp).map encS)], upd hp id none) by simp [freezeVals, freezeVal, freezeCell, h]) ?_ (.inl rfl)
  exact specOf_eq (enc := fun l : List Sp => [PV.sl 2 (l.map encS)]) (a := [(3, 5)]) (fun a b e => by simp only [List.cons.injEq, and_true] at e; exact spans_inj e) trivial
/-- A function without arguments that says yes. -/
def yesF (args : List PV) : Option PV := if args.isEmpty then some (boo true) else none
noncomputable abbrev Caw : Ctx := mkCtx Tryz.prog [(20, hPure false [] (FP (fun l => twoI (sizeR l)) fun _ => True))]
set_option maxRecDepth 8000 in
theorem awake_eval : evalPure Caw Tryz.f6 [] = some (boo true) := by
  have hbs : ∀ hp nx, buildSliceA Tryz.prog hp nx 32 1 [(0, .agg [int 3, int 5])] = some (.own nx 0 1, upd hp nx (some ⟨36, 2, true, [[int 3, int 5]]⟩), nx + 1) := fun hp nx => by
    simp [buildSliceA, setElems, freezeParts]
  have c1 := fun hp nx => Size_own (e := 36) (id := nx) (hp := upd hp nx (some ⟨36, 2, true, [[int 3, int 5]]⟩)) (nx + 1) (by simp)
  refine evalPure_of rfl ?_
  simp [buildA, fillA, hbs, c1, Tryz.f6]
theorem awake_sound : SpecSound Tryz.prog 6 (hPure false [] yesF) :=
  pureS (fn := Tryz.f6) (good_of (q := []) mixed ⟨Size_sound, by simp, trivial⟩ : AM.Good Caw _) ⟨_, Tryz.func6, by kernel_rfl, rfl, by kernel_rfl⟩ false [] _ fun args r h => by
    cases args with
    | nil =>
      injection h with h
      subst h
      exact ⟨Nat.le_trans (Nat.le_refl 0) (Nat.zero_le _), _, awake_eval, up_of _⟩
    | cons x l => cases h

/-! ### LayerSpansMatchSpec -/
def qspm : List FuncId := [47, 243, 10]
theorem lim_len {l : List Sp} (h : l.length ≤ 100) : l.length ≤ lim := by unfold lim; omega
theorem limR_length (l : List Sp) : (limR l).1.length ≤ 100 := by
  unfold limR
  split
  · simp
  · show l.length ≤ 100; omega
theorem uniR_length (a b : List Sp) : (uniR a b).1.length ≤ 100 := by
  unfold uniR
  split
  · exact limR_length _
  · simp
theorem minR_length (a b : List Sp) : (minR a b).1.length ≤ 100 := by
  unfold minR
  split
  · exact limR_length _
  · simp
theorem firstL_length : ∀ (l : List Sp) (n : Int), (firstL l n).length ≤ l.length
  | [], _ => by simp [firstL]
  | s :: l, n => by
    unfold firstL
    split
    · simp
    · have := firstL_length l (n - min n (s.2 - s.1))
      simpa using this
theorem firstR_length (a : List Sp) (n : Int) : (firstR a n).1.length ≤ 100 := by
  unfold firstR
  split
  · rename_i h
    split
    · have := firstL_length a n
      have := (spFault_right h).2.2.2
      show (firstL a n).length ≤ 100
      omega
    · simp
  · simp
end Go.Proofs.YtfjeckcbnhohmaaGreatDoor
namespace Go.Proofs.YtfjeckcbnhohmaaGreatDoor
open Go.RowKit Go.AM Go.SpanLaw
theorem MinusK_sound : SpecSound Tryz.prog 9 (hPure true [] (FPP (fun a b => spTup (minR a b)) fun _ _ => True)) :=
  pureG (fn := Tryz.f9) (good_of (q := []) mixed ⟨checkBoth_sound, by simp, minus_sound, by simp, limited_sound, by simp, trivial⟩ : AM.Good CMinus _) ⟨_, Tryz.func9, by kernel_rfl, rfl, by kernel_rfl⟩ true [] _ fun args r h w S vs hz => by
    obtain ⟨⟨a, b⟩, rfl, _, rfl⟩ := specOf_inv h
    obtain ⟨r0, h1, h2⟩ := Minus_eval a b
    exact ⟨_, r0, hz, Nat.le_trans (Nat.le_refl 2) (by decide), h1, h2⟩
theorem minusK_call {hp : Hp} {id e : Nat} (nx : Nat) {p : Sp} {f : List Sp} (h : hp id = some ⟨e, 2, true, [encS p]⟩) : hPure true [] (FPP (fun a b => spTup (minR a b)) fun _ _ => True) [.own id 0 1, .sl 2 (f.map encS)] hp nx = some (spTup (minR [p] f), upd hp id none, nx) := by
  have hs : FPP (fun a b => spTup (minR a b)) (fun _ _ => True) [.sl 2 [encS p], .sl 2 (f.map encS)] = some (spTup (minR [p] f)) :=
    specOf_eq (enc := fun a : List Sp × List Sp => [PV.sl 2 (a.1.map encS), .sl 2 (a.2.map encS)]) (a := ([p], f)) (fun a b e => by
      obtain ⟨a1, a2⟩ := a; obtain ⟨b1, b2⟩ := b
      simp only [List.cons.injEq, and_true] at e
      rw [spans_inj e.1, spans_inj e.2]) trivial
  have hf : freezeVals hp [.own id 0 1, .sl 2 (f.map encS)] = some ([.sl 2 [encS p], .sl 2 (f.map encS)], upd hp id none) := by simp [h]
  unfold hPure
  rw [hf]
  simp only
  rw [show normArgs [] [PV.sl 2 [encS p], .sl 2 (f.map encS)] = [.sl 2 [encS p], .sl 2 (f.map encS)] from rfl, hs]
  simp [PV.noOwn, spTup]
theorem eqK_call {hp : Hp} {id e : Nat} (nx : Nat) {p : Sp} {a : List Sp} (h : hp id = some ⟨e, 2, true, [encS p]⟩) (ha : a.length ≤ lim) : hPure false [2, 2] (FPP (fun a b => boo (decide (a = b))) fun a _ => a.length ≤ lim) [.sl 2 (a.map encS), .own id 0 1] hp nx = some (boo (decide (a = [p])), hp, nx) := by
  have hs : FPP (fun a b => boo (decide (a = b))) (fun a _ => a.length ≤ lim) [.sl 2 (a.map encS), .sl 2 [encS p]] = some (boo (decide (a = [p]))) :=
    specOf_eq (enc := fun a : List Sp × List Sp => [PV.sl 2 (a.1.map encS), .sl 2 (a.2.map encS)]) (a := (a, [p])) (fun a b e => by
      obtain ⟨a1, a2⟩ := a; obtain ⟨b1, b2⟩ := b
      simp only [List.cons.injEq, and_true] at e
      rw [spans_inj e.1, spans_inj e.2]) ha
  exact hPure_v (hp1 := upd hp id none) (show freezeVals hp [.sl 2 (a.map encS), .own id 0 1] = some ([.sl 2 (a.map encS), .sl 2 [encS p]], upd hp id none) by simp [h]) hs (.inl rfl)
noncomputable abbrev Cpl : Ctx := mkCtx Tryz.prog [(6, hPure false [] yesF), (7, hPure false [] (FBNI fun b s n => pcTup (busyR b s n))), (8, hPure false [] (FBNI fun b s n => spTup (freeR b s n))), (9, hPure true [] (FPP (fun a b => spTup (minR a b)) fun _ _ => True)), (10, hPure false [2, 2] (FPP (fun a b => boo (decide (a = b))) fun a _ => a.length ≤ lim))]
theorem goodpl : AM.Good Cpl (fun g => ([] : List Nat).contains g) := good_of mixed ⟨awake_sound, by simp, Busy_sound, by simp, Free_sound, by simp, MinusK_sound, by simp, equalS2_sound, by simp, trivial⟩
set_option maxRecDepth 8000 in
set_option maxHeartbeats 4000000 in
theorem pl_eval (b : Bk) (s : List UInt8) (n : Int) (hb : b.cb ≤ lim) : evalPure Cpl Tryz.f3 [.agg b.enc, str s, int n] = some (boo true) := by
  refine evalPure_of rfl ?_
  obtain ⟨law1, law2, law3, law4⟩ := pieces_law b s n hb
  have hbz := fun hp nx => FBNI_call (fun b s n => pcTup (busyR b s n)) b s n hp nx hb
  have hfr := fun hp nx => FBNI_call (fun b s n => spTup (freeR b s n)) b s n hp nx hb
  have haw : ∀ hp nx, hPure false [] yesF [] hp nx = some (boo true, hp, nx) := fun hp nx => hPure_v (hp1 := hp) rfl rfl (.inr rfl)
  obtain ⟨⟨l, e1⟩, hB⟩ : ∃ r, busyR b s n = r := ⟨_, rfl⟩
  obtain ⟨⟨f, e2⟩, hF⟩ : ∃ r, freeR b s n = r := ⟨_, rfl⟩
  rw [hB] at law1 law3 law4
  rw [hF] at law2 law3
  simp only at law1 law2 law3 law4
  have hbz' : ∀ hp nx, hPure false [] (FBNI fun b s n => pcTup (busyR b s n)) [.agg b.enc, str s, int n] hp nx = some (.tup [.sl 3 (l.map encPc), int e1], hp, nx) := fun hp nx => by rw [hbz, hB]; rfl
  have hfr' : ∀ hp nx, hPure false [] (FBNI fun b s n => spTup (freeR b s n)) [.agg b.enc, str s, int n] hp nx = some (.tup [.sl 2 (f.map encS), int e2], hp, nx) := fun hp nx => by rw [hfr, hF]; rfl
  simp only [Bk.enc] at hbz' hfr'
  by_cases c1 : e1 = 0
  case neg =>
    have hl := law1 c1
    subst hl
    have c1' : (e1 != 0) = true := by simpa using c1
    simp [Bk.enc, haw, hbz', hfr', c1', pureR, Tryz.f3]
  by_cases c2 : e2 = 0
  case neg =>
    have hl := law2 c2
    subst hl
    have c2' : (e2 != 0) = true := by simpa using c2
    by_cases hz : l = []
    · subst hz
      simp [Bk.enc, haw, hbz', hfr', c1, c2', pureR, Tryz.f3]
    · have hz' : ((l.length : Int) == 0) = false := by
        rw [beq_eq_false_iff_ne]
        intro e
        exact hz (List.length_eq_zero_iff.1 (by omega))
      simp [Bk.enc, haw, hbz', hfr', c1, c2', hz', pureR, Tryz.f3]
  obtain ⟨hap, hmi⟩ := law3 c1 c2
  simp [Bk.enc, haw, hbz', hfr', c1, c2]
  refine EvC_for (fun k σ hp nx => σ 7 = .sl 3 (l.map encPc) ∧ σ 9 = .sl 2 (f.map encS) ∧ σ 45 = .sl 3 (l.map encPc) ∧ σ 46 = int l.length ∧ σ 47 = int k) l.length
    ⟨by simp, by simp, by simp, by simp, by simp⟩ ?_
  rintro k σ hp nx hk ⟨h7, h9, h45, h46, h47⟩
  by_cases hlt : k < l.length
  · obtain ⟨p, hpd⟩ : ∃ p, l[k] = p := ⟨_, rfl⟩
    have hpm : p ∈ l := by rw [← hpd]; exact List.getElem_mem hlt
    have hm := hmi p hpm
    have hw : IntKind.i64.wrap ((k : Int) + 1) = (k : Int) + 1 := wrap_fit (by omega) (by omega)
    have hbs : ∀ hp nx, buildSliceA Tryz.prog hp nx 32 1 [(0, .agg (encS p.1))] = some (.own nx 0 1, upd hp nx (some ⟨36, 2, true, [encS p.1]⟩), nx + 1) := fun hp nx => by
      simp [buildSliceA, setElems, freezeParts]
    have hmc : ∀ (hp : Hp) (nx id : Nat), hp id = some ⟨36, 2, true, [encS p.1]⟩ → hPure true [] (FPP (fun a b => spTup (minR a b)) fun _ _ => True) [.own id 0 1, .sl 2 (f.map encS)] hp nx = some (.tup [.sl 2 [encS p.1], int 0], upd hp id none, nx) := fun hp nx id h => by
      rw [minusK_call nx h, hm]; rfl
    have hec : ∀ (hp : Hp) (nx id : Nat), hp id = some ⟨36, 2, true, [encS p.1]⟩ → hPure false [2, 2] (FPP (fun a b => boo (decide (a = b))) fun a _ => a.length ≤ lim) [.sl 2 [encS p.1], .own id 0 1] hp nx = some (boo true, hp, nx) := fun hp nx id h => by
      have := eqK_call (a := [p.1]) nx h (by unfold lim; simp)
      rw [decide_eq_true rfl] at this
      exact this
    simp only [encS] at hbs hmc hec
    have hmc1 := hmc (upd (upd hp nx (some ⟨38, 3, false, [encPc p]⟩)) (nx + 1) (some ⟨36, 2, true, [[int p.1.1, int p.1.2]]⟩)) (nx + 1 + 1) (nx + 1) (by simp)
    have hec1 := hec (upd (upd (upd hp nx (some ⟨38, 3, false, [encPc p]⟩)) (nx + 1) none) (nx + 1 + 1) (some ⟨36, 2, true, [[int p.1.1, int p.1.2]]⟩)) (nx + 1 + 1 + 1) (nx + 1 + 1) (by simp)
    simp only [encPc] at hmc1 hec1
    have n1 : ¬ nx = nx + 1 := by omega
    have n2 : ¬ nx = nx + 1 + 1 := by omega
    by_cases k0 : k = 0
    · subst k0
      simp [h7, h9, h45, h46, h47, hlt, hpd, encPc, hbs, hmc1, hec1, n1, n2]
      exact hlt
    · obtain ⟨j, rfl⟩ : ∃ j, k = j + 1 := ⟨k - 1, by omega⟩
      have hj : j < l.length := by omega
      have wj : IntKind.i64.wrap ((j : Int) + 1 - 1) = (j : Int) := by rw [wrap_fit (by omega) (by omega)]; omega
      have wj' : IntKind.i64.wrap (j : Int) = (j : Int) := wrap_fit (by omega) (by omega)
      have wk : IntKind.i64.wrap ((j : Int) + 1 + 1) = (j : Int) + 1 + 1 := wrap_fit (by omega) (by omega)
      have j1 : ((j : Int) + 1).toNat = j + 1 := by omega
      have j2 : 0 < (j : Int) + 1 := by omega
      have j3 : 0 ≤ (j : Int) + 1 := by omega
      have j4 : (j : Int) + 1 < l.length := by omega
      have hle : ¬ p.1.1 < l[j].1.2 := by
        have := List.pairwise_iff_getElem.1 hap j (j + 1) hj hlt (by omega)
        rw [hpd] at this
        omega
      simp [h7, h9, h45, h46, h47, hlt, hj, hpd, encPc, wj, wj', wk, j1, j2, j3, j4, hle, hbs, hmc1, hec1, n1, n2]
      exact hlt
  · obtain rfl : k = l.length := by omega
    simp [h7, h9, h45, h46, h47, pureR, Tryz.f3]
theorem pl_known : KnownF Cpl (fun g => ([] : List Nat).contains g) 3 Tryz.f3 := ⟨_, Tryz.func3, by kernel_rfl, rfl, by kernel_rfl⟩
end Go.Proofs.YtfjeckcbnhohmaaGreatDoor
