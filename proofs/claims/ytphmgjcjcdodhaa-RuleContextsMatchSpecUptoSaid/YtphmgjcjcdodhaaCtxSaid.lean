/-
  For every context and every name (of bulk up to the row's bound) the law burgeelaw2.RuleContextsMatchSpec answers true.
-/
import Derived.Test.YtphmgjcjcdodhaaCtxLaw
import Derived.Test.YtphmgjcjcdodhaaShows
import Derived.Test.YtphmgjcjcdodhaaAm22
import Derived.WalkKit
import Derived.ProofKit
import Derived.OpenShut
import Derived.Deep.DeepHandedRow
import Derived.Lib.LaidTab
import Derived.SizedLaws
namespace Go.Proofs.Ytphmgjcjcdodhaa
open Go.RowKit Go.AM Go.ChangeShapes Go.WideShapes Go.ChangeAt

theorem ctxOwn : ownKnob Try.prog.godebug = none := by kernel_rfl
theorem ctxLaidOut : laidOutB Try.prog = true := by kernel_rfl
def ctxTypes : List TypeId := [24, 9, 22, 69, 28, 3, 25, 26, 99]
theorem ctxTypesOk : typesOk Try.prog ctxTypes = true := by kernel_rfl
theorem ctxParams_ok : ∀ t ∈ Try.f3.params.toList, Try.prog.readableRec t = true ∧ t < Try.prog.types.size := by
  intro t ht
  have ht : t = 24 ∨ t = 9 := by simpa [Try.f3] using ht
  rcases ht with rfl | rfl
  · exact ⟨by kernel_rfl, of_decide_eq_true (by kernel_rfl)⟩
  · exact ⟨by kernel_rfl, of_decide_eq_true (by kernel_rfl)⟩

set_option maxRecDepth 100000 in
theorem ctxContract (H : Type) (enc : TypeId × Value → H) (W : World) (base : Nat) (args : Array Value) (ds gs : List (DataW H)) (before : List MemPlace)
    (hval : ∀ (j : Nat) t v, Try.f3.params[j]? = some t → args[j]? = some v → Value.okWide Try.prog W .any base t v)
    (hW : DataW.Whole enc Try.prog Try.f3.params.toList Rows.ruleContextsMatchSpecSpec.vars false W args.toList ds gs before)
    (hk : Rows.uptoSmall H (ds ++ gs) = true) :
    Calls Try.prog 3 args W fun e W' => ∃ v, e = .returned v ∧ Rows.ruleContextsMatchSpecSpec.post enc Try.prog Try.f3 false true false false W args v W' := by
  have hW' := hW
  obtain ⟨p, q, hA0, hV, rfl, hfz, hnd⟩ := hW
  have hA : DataW.TrodAll enc Try.prog W 0 (fun _ => true) true Try.f3.params.toList args.toList ds p := hA0
  rw [Try.params3] at hA hval
  obtain ⟨v0, vs0, d0, ds0, p0, q0, hargs, rfl, rfl, h0, r0⟩ := trodAll_cons hA
  obtain ⟨v1, vs1, d1, ds1, p1, q1, rfl, rfl, rfl, h1, r1⟩ := trodAll_cons r0
  obtain ⟨rfl, rfl, rfl⟩ := trodAll_nil r1
  obtain rfl : args = #[v0, v1] := by cases args; simp_all
  obtain ⟨rfl, rfl⟩ := trodVars_none hV
  obtain ⟨fs, hu, _⟩ := shape_struct shp24
  have hv0 := hval 0 24 v0 rfl rfl
  obtain ⟨n0, pvs0, s0, rp0⟩ := arg_struct (P := Try.prog) (r := .any) (base := base) (v := v0) (w := W) ctxTypesOk (t := 24) (by decide) hu hv0 h0
  obtain ⟨n1, pv1, s1, rp1⟩ := arg_cell ctxTypesOk (t := 9) (by decide) (fun ⟨fs, hfs⟩ => by rw [un9] at hfs; cases hfs) (hval 1 9 v1 rfl rfl) h1
  obtain ⟨x, rfl, hx⟩ := shows_ctxt s0
  obtain ⟨s, rfl, e1, _⟩ := shows_string un9 s1
  simp only [List.cons.injEq, and_true] at e1
  subst e1
  have hb : Rows.uptoBulkAll [d0, .lit (.string s)] ≤ 1048576 := by
    have := of_decide_eq_true hk
    simpa using this
  simp only [Rows.uptoBulkAll, Rows.uptoBulk] at hb
  have g0 : x.cb + 1 ≤ lim := by unfold lim; omega
  have g1 : s.length ≤ lim := by unfold lim; omega
  obtain ⟨code, hkn⟩ := ctxlaw_known
  refine (law_calls goodlw hkn (ctxlaw_eval x s g0 g1) (Nat.le_trans (Nat.le_refl 2) (by decide)) (w := W) (vs := [v0, v1]) (.cons rp0 (.cons rp1 .nil))).mono fun e W' hh => ?_
  obtain ⟨rfl, hbl⟩ := hh
  exact ⟨_, rfl, law_post ctxLaidOut ctxParams_ok rfl hW' rfl (tb := 4) rfl un4 hbl⟩

noncomputable def ctxWorld (os : Os) : World := World.holding Try.prog os ⟨#[], #[], []⟩
theorem ctxLaid (os : Os) : laidMet Try.prog Rows.ruleContextsMatchSpecUptoRow.laid ((ctxWorld os).forCall (fun _ _ => 0) ⟨#[], #[.agg #[.string ⟨#[]⟩, .slice none 0 0], .string ⟨#[]⟩], []⟩).memory :=
  laidMet_of_run' 8 (by kernel_rfl) (by kernel_rfl)
theorem ctxReads (os : Os) {H : Type} (enc : TypeId × Value → H) : ∃ places, DataW.whole enc Try.prog ((ctxWorld os).forCall (fun _ _ => 0) ⟨#[], #[.agg #[.string ⟨#[]⟩, .slice none 0 0], .string ⟨#[]⟩], []⟩).memory Try.f3.params.toList Rows.ruleContextsMatchSpecSpec.vars false #[Value.agg #[.string ⟨#[]⟩, .slice none 0 0], Value.string ⟨#[]⟩].toList 8 = some ([.agg [.lit (.string []), .nil], .lit (.string [])], [], places) :=
  ⟨[], by kernel_rfl⟩

set_option maxRecDepth 100000 in
theorem ctxLifted (os : Os) (started : os.Started) (H : Type) (enc : TypeId × Value → H) (F : Stop.Interp) :
    ReturnsInHanded {} Try.checked os 3 .any ((Rows.OpenSpec.upto Rows.ruleContextsMatchSpecSpec).preRow enc Try.prog Try.f3 Rows.ruleContextsMatchSpecUptoRow.domain false Rows.ruleContextsMatchSpecUptoRow.laid) (((Rows.OpenSpec.upto Rows.ruleContextsMatchSpecSpec).at F).post enc Try.prog Try.f3 false true false false) := by
  obtain ⟨places, hx⟩ := ctxReads os enc
  refine returnsInHanded_of_row (C := Try.checked) (s := Rows.OpenSpec.upto Rows.ruleContextsMatchSpecSpec) ctxOwn started (by kernel_rfl) Try.func3
    (witness_row_at (enc := enc) (C := Try.checked) false (ctxWorld os) #[.agg #[.string ⟨#[]⟩, .slice none 0 0], .string ⟨#[]⟩] rfl (by kernel_rfl) (by kernel_rfl) (by kernel_rfl)
      (OpenSpec.preRow_of_cond 8 hx (by kernel_rfl) (fun k hk => by cases hk; kernel_rfl) (by kernel_rfl) (ctxLaid os))) ?_
  intro W base args ds gs before hval hW _ hcond _ _ _ _
  exact ctxContract H enc W base args ds gs before hval hW (hcond _ rfl)

theorem ctxUpto : Rows.RuleContextsMatchSpecUptoSaid :=
  OpenClaim.holds_of_cond 3 Try.f3 rfl rfl rfl rfl rfl rfl rfl ⟨rfl, rfl, rfl, rfl, rfl⟩ rfl rfl rfl rfl rfl (by kernel_rfl) Try.func3 (by kernel_rfl)
    (of_decide_eq_true (by kernel_rfl)) (by unfold Func.isWrapper; first | (rw [if_pos (by decide +kernel)]; kernel_rfl) | (rw [if_neg (by decide +kernel)]; exact ⟨rfl, rfl⟩))
    (fun os started H enc _ F => by rw [OpenClaim.pre_eq_preRow]; exact ctxLifted os started H enc F)
end Go.Proofs.Ytphmgjcjcdodhaa
