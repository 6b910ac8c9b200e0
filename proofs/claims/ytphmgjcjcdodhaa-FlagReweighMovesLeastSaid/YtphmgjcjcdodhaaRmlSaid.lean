/-
  For all arguments the law burgeelaw3.FlagReweighMovesLeast answers true.
-/
import Derived.Test.YtphmgjcjcdodhaaRng8
import Derived.Test.YtphmgjcjcdodhaaSpanShows
import Derived.Test.YtphmgjcjcdodhaaRngShows
import Derived.Test.YtphmgjcjcdodhaaShapes
import Derived.Test.YtphmgjcjcdodhaaRows
import Derived.Test.YtphmgjcjcdodhaaAm21
import Derived.WalkKit
import Derived.ProofKit
import Derived.OpenShut
import Derived.Deep.DeepHandedRow
import Derived.Lib.LaidTab
import Derived.SizedLaws
namespace Go.Proofs.Ytphmgjcjcdodhaa
open Go.RowKit Go.AM Go.ChangeShapes Go.WideShapes Go.ChangeAt

def rmlTypes : List TypeId := spTypes ++ rgTypes
theorem rmlTypesOk : typesOk Try.prog rmlTypes = true := by kernel_rfl
theorem rmlParams_ok : ∀ t ∈ Try.f6.params.toList, Try.prog.readableRec t = true ∧ t < Try.prog.types.size := by
  intro t ht
  have ht : t ∈ [47, 48] := ht
  simp only [List.mem_cons, List.not_mem_nil, or_false] at ht
  rcases ht with rfl | rfl
  · exact ⟨by kernel_rfl, of_decide_eq_true (by kernel_rfl)⟩
  · exact ⟨by kernel_rfl, of_decide_eq_true (by kernel_rfl)⟩
set_option maxRecDepth 100000 in
theorem rmlContract (H : Type) (enc : TypeId × Value → H) (W : World) (base : Nat) (args : Array Value) (ds gs : List (DataW H)) (before : List MemPlace)
    (hval : ∀ (j : Nat) t v, Try.f6.params[j]? = some t → args[j]? = some v → Value.okWide Try.prog W .any base t v)
    (hW : DataW.Whole enc Try.prog Try.f6.params.toList Rows.flagReweighMovesLeastSpec.vars false W args.toList ds gs before) :
    Calls Try.prog 6 args W fun e W' => ∃ v, e = .returned v ∧ Rows.flagReweighMovesLeastSpec.post enc Try.prog Try.f6 false true false false W args v W' := by
  have hW' := hW
  obtain ⟨p, q, hA0, hV, rfl, hfz, hnd⟩ := hW
  have hA : DataW.TrodAll enc Try.prog W 0 (fun _ => true) true Try.f6.params.toList args.toList ds p := hA0
  rw [Try.params6] at hA hval
  obtain ⟨v0, vs0, d0, ds0, p0, q0, hargs, rfl, rfl, h0, r0⟩ := trodAll_cons hA
  obtain ⟨v1, vs1, d1, ds1, p1, q1, rfl, rfl, rfl, h1, r1⟩ := trodAll_cons r0
  obtain ⟨rfl, rfl, rfl⟩ := trodAll_nil r1
  obtain rfl : args = #[v0, v1] := by cases args; simp_all
  obtain ⟨rfl, rfl⟩ := trodVars_none hV
  obtain ⟨n0, pv0, s0, rp0⟩ := arg_cell rmlTypesOk (t := 47) (by decide) (fun ⟨fs, hfs⟩ => by rw [un47] at hfs; cases hfs) (hval 0 47 v0 rfl rfl) h0
  obtain ⟨a0, rfl⟩ := shows_ranges s0
  obtain ⟨n1, pv1, s1, rp1⟩ := arg_cell rmlTypesOk (t := 48) (by decide) (fun ⟨fs, hfs⟩ => by rw [un48] at hfs; cases hfs) (hval 1 48 v1 rfl rfl) h1
  obtain ⟨a1, rfl⟩ := shows_ints s1
  obtain ⟨code, hkn⟩ := rml_known
  refine (law_calls goodrml hkn (rml_eval a0 a1) (Nat.le_trans (Nat.le_refl 2) (by decide)) (w := W) (vs := [v0, v1]) (.cons rp0 (.cons rp1 .nil))).mono fun e W' hh => ?_
  obtain ⟨rfl, hbl⟩ := hh
  exact ⟨_, rfl, law_post spLaidOut rmlParams_ok rfl hW' rfl (tb := 4) rfl un4 hbl⟩
theorem rmlLaid (os : Os) : laidMet Try.prog Rows.flagReweighMovesLeastRow.laid ((spWorld os).forCall (fun _ _ => 0) ⟨#[], #[.slice none 0 0, .slice none 0 0], []⟩).memory :=
  laidMet_of_run' 8 (by kernel_rfl) (by kernel_rfl)
theorem rmlReads (os : Os) {H : Type} (enc : TypeId × Value → H) : ∃ places, DataW.whole enc Try.prog ((spWorld os).forCall (fun _ _ => 0) ⟨#[], #[.slice none 0 0, .slice none 0 0], []⟩).memory Try.f6.params.toList Rows.flagReweighMovesLeastSpec.vars false #[Value.slice none 0 0, Value.slice none 0 0].toList 8 = some ([.nil, .nil], [], places) :=
  ⟨[], by kernel_rfl⟩
set_option maxRecDepth 100000 in
theorem rmlLifted (os : Os) (started : os.Started) (H : Type) (enc : TypeId × Value → H) (F : Stop.Interp) :
    ReturnsInHanded {} Try.checked os 6 .any ((OpenSpec.ofChange Rows.flagReweighMovesLeastSpec).preRow enc Try.prog Try.f6 Rows.flagReweighMovesLeastRow.domain false Rows.flagReweighMovesLeastRow.laid) (((OpenSpec.ofChange Rows.flagReweighMovesLeastSpec).at F).post enc Try.prog Try.f6 false true false false) := by
  obtain ⟨places, hx⟩ := rmlReads os enc
  refine returnsInHanded_of_row (C := Try.checked) (s := OpenSpec.ofChange Rows.flagReweighMovesLeastSpec) spOwn started (by kernel_rfl) Try.func6
    (witness_row_at (enc := enc) (C := Try.checked) false (spWorld os) #[.slice none 0 0, .slice none 0 0] rfl (by kernel_rfl) (by kernel_rfl) (by kernel_rfl)
      (OpenSpec.preRow_of_cond 8 hx (by kernel_rfl) (fun k hk => by cases hk) (by kernel_rfl) (rmlLaid os))) ?_
  intro W base args ds gs before hval hW _ _ _ _ _ _
  exact rmlContract H enc W base args ds gs before hval hW
theorem rmlSaid : Rows.FlagReweighMovesLeastSaid :=
  OpenClaim.holds_of_cond 6 Try.f6 rfl rfl rfl rfl rfl rfl rfl ⟨rfl, rfl, rfl, rfl, rfl⟩ rfl rfl rfl rfl rfl (by kernel_rfl) Try.func6 (by kernel_rfl)
    (of_decide_eq_true (by kernel_rfl)) (by unfold Func.isWrapper; first | (rw [if_pos (by decide +kernel)]; kernel_rfl) | (rw [if_neg (by decide +kernel)]; exact ⟨rfl, rfl⟩))
    (fun os started H enc _ F => by rw [OpenClaim.pre_eq_preRow]; exact rmlLifted os started H enc F)
end Go.Proofs.Ytphmgjcjcdodhaa
