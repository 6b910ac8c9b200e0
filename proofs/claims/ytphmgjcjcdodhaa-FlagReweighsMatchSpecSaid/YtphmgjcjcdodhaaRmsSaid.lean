/-
  For all arguments the law burgeelaw3.FlagReweighsMatchSpec answers true.
-/
import Derived.Test.YtphmgjcjcdodhaaRngRef7
import Derived.Test.YtphmgjcjcdodhaaSpanShows
import Derived.Test.YtphmgjcjcdodhaaRngShows
import Derived.Test.YtphmgjcjcdodhaaShapes
import Derived.Test.YtphmgjcjcdodhaaRows
import Derived.Test.YtphmgjcjcdodhaaAm21
import Derived.WalkKit
import Derived.ProofKit
import Derived.OpenShut
import Derived.Deep.DeepHandedRow
import Derived.Lib.LaidTab
import Derived.SizedLaws
namespace Go.Proofs.Ytphmgjcjcdodhaa
open Go.RowKit Go.AM Go.ChangeShapes Go.WideShapes Go.ChangeAt

def rmsTypes : List TypeId := spTypes ++ rgTypes
theorem rmsTypesOk : typesOk Try.prog rmsTypes = true := by kernel_rfl
theorem rmsParams_ok : ∀ t ∈ Try.f8.params.toList, Try.prog.readableRec t = true ∧ t < Try.prog.types.size := by
  intro t ht
  have ht : t ∈ [47, 48, 3] := ht
  simp only [List.mem_cons, List.not_mem_nil, or_false] at ht
  rcases ht with rfl | rfl | rfl
  · exact ⟨by kernel_rfl, of_decide_eq_true (by kernel_rfl)⟩
  · exact ⟨by kernel_rfl, of_decide_eq_true (by kernel_rfl)⟩
  · exact ⟨by kernel_rfl, of_decide_eq_true (by kernel_rfl)⟩
set_option maxRecDepth 100000 in
theorem rmsContract (H : Type) (enc : TypeId × Value → H) (W : World) (base : Nat) (args : Array Value) (ds gs : List (DataW H)) (before : List MemPlace)
    (hval : ∀ (j : Nat) t v, Try.f8.params[j]? = some t → args[j]? = some v → Value.okWide Try.prog W .any base t v)
    (hW : DataW.Whole enc Try.prog Try.f8.params.toList Rows.flagReweighsMatchSpecSpec.vars false W args.toList ds gs before) :
    Calls Try.prog 8 args W fun e W' => ∃ v, e = .returned v ∧ Rows.flagReweighsMatchSpecSpec.post enc Try.prog Try.f8 false true false false W args v W' := by
  have hW' := hW
  obtain ⟨p, q, hA0, hV, rfl, hfz, hnd⟩ := hW
  have hA : DataW.TrodAll enc Try.prog W 0 (fun _ => true) true Try.f8.params.toList args.toList ds p := hA0
  rw [Try.params8] at hA hval
  obtain ⟨v0, vs0, d0, ds0, p0, q0, hargs, rfl, rfl, h0, r0⟩ := trodAll_cons hA
  obtain ⟨v1, vs1, d1, ds1, p1, q1, rfl, rfl, rfl, h1, r1⟩ := trodAll_cons r0
  obtain ⟨v2, vs2, d2, ds2, p2, q2, rfl, rfl, rfl, h2, r2⟩ := trodAll_cons r1
  obtain ⟨rfl, rfl, rfl⟩ := trodAll_nil r2
  obtain rfl : args = #[v0, v1, v2] := by cases args; simp_all
  obtain ⟨rfl, rfl⟩ := trodVars_none hV
  obtain ⟨n0, pv0, s0, rp0⟩ := arg_cell rmsTypesOk (t := 47) (by decide) (fun ⟨fs, hfs⟩ => by rw [un47] at hfs; cases hfs) (hval 0 47 v0 rfl rfl) h0
  obtain ⟨a0, rfl⟩ := shows_ranges s0
  obtain ⟨n1, pv1, s1, rp1⟩ := arg_cell rmsTypesOk (t := 48) (by decide) (fun ⟨fs, hfs⟩ => by rw [un48] at hfs; cases hfs) (hval 1 48 v1 rfl rfl) h1
  obtain ⟨a1, rfl⟩ := shows_ints s1
  obtain ⟨n2, pv2, s2, rp2⟩ := arg_cell rmsTypesOk (t := 3) (by decide) (fun ⟨fs, hfs⟩ => by rw [un3] at hfs; cases hfs) (hval 2 3 v2 rfl rfl) h2
  obtain ⟨a2, _, e2, g2⟩ := shows_int un3 s2
  simp only [List.cons.injEq, and_true] at e2
  subst e2
  obtain ⟨code, hkn⟩ := rms_known
  refine (law_calls goodrms hkn (rms_eval a0 a1 a2) (Nat.le_trans (Nat.le_refl 3) (by decide)) (w := W) (vs := [v0, v1, v2]) (.cons rp0 (.cons rp1 (.cons rp2 .nil)))).mono fun e W' hh => ?_
  obtain ⟨rfl, hbl⟩ := hh
  exact ⟨_, rfl, law_post spLaidOut rmsParams_ok rfl hW' rfl (tb := 4) rfl un4 hbl⟩
theorem rmsLaid (os : Os) : laidMet Try.prog Rows.flagReweighsMatchSpecRow.laid ((spWorld os).forCall (fun _ _ => 0) ⟨#[], #[.slice none 0 0, .slice none 0 0, .int .i64 0], []⟩).memory :=
  laidMet_of_run' 8 (by kernel_rfl) (by kernel_rfl)
theorem rmsReads (os : Os) {H : Type} (enc : TypeId × Value → H) : ∃ places, DataW.whole enc Try.prog ((spWorld os).forCall (fun _ _ => 0) ⟨#[], #[.slice none 0 0, .slice none 0 0, .int .i64 0], []⟩).memory Try.f8.params.toList Rows.flagReweighsMatchSpecSpec.vars false #[Value.slice none 0 0, Value.slice none 0 0, Value.int .i64 0].toList 8 = some ([.nil, .nil, .lit (.int .i64 0)], [], places) :=
  ⟨[], by kernel_rfl⟩
set_option maxRecDepth 100000 in
theorem rmsLifted (os : Os) (started : os.Started) (H : Type) (enc : TypeId × Value → H) (F : Stop.Interp) :
    ReturnsInHanded {} Try.checked os 8 .any ((OpenSpec.ofChange Rows.flagReweighsMatchSpecSpec).preRow enc Try.prog Try.f8 Rows.flagReweighsMatchSpecRow.domain false Rows.flagReweighsMatchSpecRow.laid) (((OpenSpec.ofChange Rows.flagReweighsMatchSpecSpec).at F).post enc Try.prog Try.f8 false true false false) := by
  obtain ⟨places, hx⟩ := rmsReads os enc
  refine returnsInHanded_of_row (C := Try.checked) (s := OpenSpec.ofChange Rows.flagReweighsMatchSpecSpec) spOwn started (by kernel_rfl) Try.func8
    (witness_row_at (enc := enc) (C := Try.checked) false (spWorld os) #[.slice none 0 0, .slice none 0 0, .int .i64 0] rfl (by kernel_rfl) (by kernel_rfl) (by kernel_rfl)
      (OpenSpec.preRow_of_cond 8 hx (by kernel_rfl) (fun k hk => by cases hk) (by kernel_rfl) (rmsLaid os))) ?_
  intro W base args ds gs before hval hW _ _ _ _ _ _
  exact rmsContract H enc W base args ds gs before hval hW
theorem rmsSaid : Rows.FlagReweighsMatchSpecSaid :=
  OpenClaim.holds_of_cond 8 Try.f8 rfl rfl rfl rfl rfl rfl rfl ⟨rfl, rfl, rfl, rfl, rfl⟩ rfl rfl rfl rfl rfl (by kernel_rfl) Try.func8 (by kernel_rfl)
    (of_decide_eq_true (by kernel_rfl)) (by unfold Func.isWrapper; first | (rw [if_pos (by decide +kernel)]; kernel_rfl) | (rw [if_neg (by decide +kernel)]; exact ⟨rfl, rfl⟩))
    (fun os started H enc _ F => by rw [OpenClaim.pre_eq_preRow]; exact rmsLifted os started H enc F)
end Go.Proofs.Ytphmgjcjcdodhaa
