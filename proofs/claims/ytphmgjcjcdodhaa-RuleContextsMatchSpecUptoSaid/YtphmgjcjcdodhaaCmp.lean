/-
  Comparisons: cmp.Compare at numbers and texts; a value compared with itself.
-/
import Derived.Test.YtphmgjcjcdodhaaVal4
namespace Go.Proofs.Ytphmgjcjcdodhaa
open Go.RowKit Go.AM

def cmpI (a b : Int) : Int := if a < b then -1 else if b < a then 1 else 0
def cmpS (a b : List UInt8) : Int := if Op.bytesLess a b then -1 else if Op.bytesLess a b || a == b then 0 else 1
def F2I (f : Int → Int → Int) : List PV → Option PV
  | [.v (.int .i64 a), .v (.int .i64 b)] => some (int (f a b))
  | _ => none
theorem F2I_inv {f : Int → Int → Int} {args : List PV} {r : PV} (h : F2I f args = some r) : ∃ a b, args = [int a, int b] ∧ r = int (f a b) := by
  unfold F2I at h
  split at h
  · injection h with h; exact ⟨_, _, rfl, h.symm⟩
  · cases h
@[simp] theorem F2I_call (f : Int → Int → Int) (a b : Int) (hp : Hp) (nx : Nat) : hPure false [] (F2I f) [.v (.int .i64 a), .v (.int .i64 b)] hp nx = some (int (f a b), hp, nx) := hPure_v rfl rfl (.inl rfl)
def isNaNI : List PV → Option PV
  | [.v (.int .i64 _)] => some (boo false)
  | _ => none
def isNaNS : List PV → Option PV
  | [.v (.string _)] => some (boo false)
  | _ => none
@[simp] theorem isNaNI_call (a : Int) (hp : Hp) (nx : Nat) : hPure false [] isNaNI [.v (.int .i64 a)] hp nx = some (boo false, hp, nx) := hPure_v rfl rfl (.inl rfl)
@[simp] theorem isNaNS_call (a : ByteArray) (hp : Hp) (nx : Nat) : hPure false [] isNaNS [.v (.string a)] hp nx = some (boo false, hp, nx) := hPure_v rfl rfl (.inl rfl)
theorem isNaNI_sound : SpecSound Try.prog 110 (hPure false [] isNaNI) :=
  pureS (fn := Try.f110) good0 ⟨_, Try.func110, by kernel_rfl, rfl, by kernel_rfl⟩ false [] _ fun args r h => by
    unfold isNaNI at h
    split at h
    · injection h with h; subst h
      exact ⟨by simp [Try.f110], _, evalPure_of rfl (by simp [Try.f110]), up_of _⟩
    · cases h
theorem isNaNS_sound : SpecSound Try.prog 111 (hPure false [] isNaNS) :=
  pureS (fn := Try.f111) good0 ⟨_, Try.func111, by kernel_rfl, rfl, by kernel_rfl⟩ false [] _ fun args r h => by
    unfold isNaNS at h
    split at h
    · injection h with h; subst h
      exact ⟨by simp [Try.f111], _, evalPure_of rfl (by simp [Try.f111]), up_of _⟩
    · cases h
noncomputable abbrev Cnn : Ctx := mkCtx Try.prog [(110, hPure false [] isNaNI), (111, hPure false [] isNaNS)]
theorem goodnn : AM.Good Cnn (fun g => [110, 111].contains g) := good_of mixed ⟨isNaNI_sound, fun _ => hPure_quiet _ _, isNaNS_sound, fun _ => hPure_quiet _ _, trivial⟩
set_option maxRecDepth 4000 in
theorem cmpI_sound : SpecSound Try.prog 86 (hPure false [] (F2I cmpI)) :=
  pureS (fn := Try.f86) goodnn ⟨_, Try.func86, by kernel_rfl, rfl, by kernel_rfl⟩ false [] _ fun args r h => by
    obtain ⟨a, b, rfl, rfl⟩ := F2I_inv h
    refine ⟨by simp [Try.f86], _, evalPure_of rfl ?_, up_of _⟩
    unfold cmpI
    by_cases h1 : a < b
    · simp [h1, Try.f86]
    · by_cases h2 : b < a
      · simp [h1, h2, Try.f86]
      · simp [h1, h2, Try.f86]
noncomputable def F2S (f : List UInt8 → List UInt8 → Int) : List PV → Option PV := specOf (α := List UInt8 × List UInt8) (fun a => [str a.1, str a.2]) (fun _ => True) (fun a => int (f a.1 a.2))
@[simp] theorem F2S_call (f : List UInt8 → List UInt8 → Int) (a b : List UInt8) (hp : Hp) (nx : Nat) : hPure false [] (F2S f) [str a, str b] hp nx = some (int (f a b), hp, nx) :=
  hPure_v rfl (specOf_eq (enc := fun a : List UInt8 × List UInt8 => [str a.1, str a.2]) (a := (a, b)) (fun a b e => by
    obtain ⟨a1, a2⟩ := a; obtain ⟨b1, b2⟩ := b
    simp only [List.cons.injEq, and_true] at e
    rw [str_inj e.1, str_inj e.2]) trivial) (.inl rfl)
set_option maxRecDepth 4000 in
theorem cmpS_sound : SpecSound Try.prog 87 (hPure false [] (F2S cmpS)) :=
  pureS (fn := Try.f87) goodnn ⟨_, Try.func87, by kernel_rfl, rfl, by kernel_rfl⟩ false [] _ fun args r h => by
    obtain ⟨⟨a, b⟩, rfl, _, rfl⟩ := specOf_inv h
    refine ⟨by simp [Try.f87], _, evalPure_of rfl ?_, up_of _⟩
    simp only [cmpS]
    cases h1 : Op.bytesLess a b
    · cases h2 : (a == b)
      · simp [h1, h2, Try.f87]
      · simp [h1, h2, Try.f87]
    · simp [h1, Try.f87]
theorem bytesLess_self : ∀ a : List UInt8, Op.bytesLess a a = false
  | [] => rfl
  | c :: a => by simp [Op.bytesLess, bytesLess_self a]
@[simp] theorem cmpS_self (a : List UInt8) : cmpS a a = 0 := by simp [cmpS, bytesLess_self]
@[simp] theorem cmpI_self (a : Int) : cmpI a a = 0 := by simp [cmpI]

/-- A value and itself. -/
noncomputable def FVV (out : Val → PV) (n : Nat) : List PV → Option PV := specOf (α := Val) (fun v => [.agg v.enc, .agg v.enc]) (fun v => v.vb ≤ lim ∧ v.vb ≤ n) out
theorem FVV_call (out : Val → PV) (n : Nat) (v : Val) (hp : Hp) (nx : Nat) (h : v.vb ≤ lim ∧ v.vb ≤ n) : hPure false [] (FVV out n) [.agg v.enc, .agg v.enc] hp nx = some (out v, hp, nx) :=
  hPure_v (hp1 := hp) (show freezeVals hp [.agg v.enc, .agg v.enc] = some ([.agg v.enc, .agg v.enc], hp) by simp only [freezeVals, freeze_enc])
    (specOf_eq (enc := fun v : Val => [PV.agg v.enc, PV.agg v.enc]) (a := v) (fun a b e => by simp only [List.cons.injEq, and_true, PV.agg.injEq] at e; exact enc_inj e.1) h) (.inr (by simp only [List.all_cons, noOwn_enc, List.all_nil, Bool.and_self]))
noncomputable abbrev Ccs (n : Nat) : Ctx := mkCtx Try.prog [(45, hPure false [] (FVV (fun _ => int 0) n)), (86, hPure false [] (F2I cmpI)), (87, hPure false [] (F2S cmpS))]
set_option maxRecDepth 8000 in
theorem compare_eval (n : Nat) (v : Val) (h : v.vb ≤ lim ∧ v.vb ≤ n + 1) : evalPure (Ccs n) Try.f45 [.agg v.enc, .agg v.enc] = some (int 0) := by
  have hvb := vb_eq v
  have hl1 := vbs_length v.items
  have hl2 := fbs_length v.fields
  obtain ⟨ha, hb⟩ := h
  unfold lim at ha
  refine evalPure_of rfl ?_
  by_cases k1 : v.kind = 1
  · simp [k1, Try.f45]
  by_cases k2 : v.kind = 2
  · simp [k2, Try.f45]
  by_cases k3 : v.kind = 3
  · simp [k3, Try.f45]
  by_cases k4 : v.kind = 4
  · simp [k4]
    refine EvC_for (fun k σ hp nx => σ 2 = .ref 0 0 0 ∧ σ 3 = .ref 1 0 0 ∧ σ 43 = int v.items.length ∧ σ 44 = int k ∧ hp 0 = some ⟨28, 5, false, [v.enc]⟩ ∧ hp 1 = some ⟨28, 5, false, [v.enc]⟩) v.items.length
      ⟨by simp, by simp, by simp, by simp, by simp, by simp⟩ ?_
    rintro k σ hp nx hk ⟨h2, h3, h43, h44, b0, b1⟩
    by_cases hlt : k < v.items.length
    · have hm := vbs_mem (List.getElem_mem hlt)
      have hw : IntKind.i64.wrap ((k : Int) + 1) = (k : Int) + 1 := wrap_fit (by omega) (by omega)
      have hcall := fun hp nx => FVV_call (fun _ => int 0) n v.items[k] hp nx ⟨by unfold lim; omega, by omega⟩
      simp [h2, h3, h43, h44, b0, b1, hlt, hcall, hw]
      exact hlt
    · obtain rfl : k = v.items.length := by omega
      simp [h2, h3, h43, h44, b0, b1, Try.f45]
  by_cases k5 : v.kind = 5
  · simp [k5]
    refine EvC_for (fun k σ hp nx => σ 2 = .ref 0 0 0 ∧ σ 3 = .ref 1 0 0 ∧ σ 77 = int v.fields.length ∧ σ 78 = int k ∧ hp 0 = some ⟨28, 5, false, [v.enc]⟩ ∧ hp 1 = some ⟨28, 5, false, [v.enc]⟩) v.fields.length
      ⟨by simp, by simp, by simp, by simp, by simp, by simp⟩ ?_
    rintro k σ hp nx hk ⟨h2, h3, h43, h44, b0, b1⟩
    by_cases hlt : k < v.fields.length
    · have hm := fbs_mem (List.getElem_mem hlt)
      have hw : IntKind.i64.wrap ((k : Int) + 1) = (k : Int) + 1 := wrap_fit (by omega) (by omega)
      have hcall := fun hp nx => FVV_call (fun _ => int 0) n v.fields[k].2 hp nx ⟨by unfold lim; omega, by omega⟩
      simp [h2, h3, h43, h44, b0, b1, hlt, hcall, hw]
      exact hlt
    · obtain rfl : k = v.fields.length := by omega
      simp [h2, h3, h43, h44, b0, b1, Try.f45]
  have j1 : (v.kind == 1) = false := by simpa using k1
  have j2 : (v.kind == 2) = false := by simpa using k2
  have j3 : (v.kind == 3) = false := by simpa using k3
  have j4 : (v.kind == 4) = false := by simpa using k4
  have j5 : (v.kind == 5) = false := by simpa using k5
  simp [j1, j2, j3, j4, j5, Try.f45]
theorem FVV_inv {out : Val → PV} {n : Nat} {args : List PV} {r : PV} (h : FVV out n args = some r) : ∃ v : Val, args = [.agg v.enc, .agg v.enc] ∧ (v.vb ≤ lim ∧ v.vb ≤ n) ∧ r = out v := specOf_inv h
set_option maxRecDepth 100000 in
theorem compare_sound : ∀ n, SpecSound Try.prog 45 (hPure false [] (FVV (fun _ => int 0) n)) := by
  intro n
  induction n with
  | zero =>
    refine ⟨⟨_, Try.func45, by kernel_rfl, by kernel_rfl⟩, fun args hp nx r hp' nx' h => ?_⟩
    unfold hPure at h
    split at h
    · split at h
      · rename_i r0 hF
        obtain ⟨v, _, hv, _⟩ := FVV_inv hF
        have := vb_pos v
        omega
      · cases h
    · cases h
  | succ n ih =>
    have hg : AM.Good (Ccs n) (fun g => [45, 86, 87].contains g) := good_of mixed ⟨ih, fun _ => hPure_quiet _ _, cmpI_sound, fun _ => hPure_quiet _ _, cmpS_sound, fun _ => hPure_quiet _ _, trivial⟩
    exact pureS (fn := Try.f45) hg ⟨_, Try.func45, by kernel_rfl, rfl, by kernel_rfl⟩ false [] _ fun args r h => by
      obtain ⟨v, rfl, hv, rfl⟩ := FVV_inv h
      exact ⟨Nat.le_trans (Nat.le_refl 2) (by decide), _, compare_eval n v hv, up_of _⟩
noncomputable abbrev Csv : Ctx := mkCtx Try.prog [(45, hPure false [] (FVV (fun _ => int 0) lim))]
set_option maxRecDepth 4000 in
theorem same_sound : SpecSound Try.prog 13 (hPure false [] (FVV (fun _ => boo true) lim)) :=
  pureS (fn := Try.f13) (good_of (q := []) mixed ⟨compare_sound lim, by simp, trivial⟩ : AM.Good Csv _) ⟨_, Try.func13, by kernel_rfl, rfl, by kernel_rfl⟩ false [] _ fun args r h => by
    obtain ⟨v, rfl, hv, rfl⟩ := FVV_inv h
    have h1 := fun hp nx => FVV_call (fun _ => int 0) lim v hp nx hv
    exact ⟨by simp [Try.f13], _, evalPure_of rfl (by simp [h1, Try.f13]), up_of _⟩
end Go.Proofs.Ytphmgjcjcdodhaa
