/-
  For every two lists of spans the law burgeelaw4.LayerSpansAreSets answers true.
-/
import Derived.Test.YtphmgjcjcdodhaaSpan16
import Derived.Test.YtphmgjcjcdodhaaSpanShows
import Derived.Test.YtphmgjcjcdodhaaShapes
import Derived.Test.YtphmgjcjcdodhaaRows
import Derived.Test.YtphmgjcjcdodhaaAm22
import Derived.WalkKit
import Derived.ProofKit
import Derived.OpenShut
import Derived.Deep.DeepHandedRow
import Derived.Lib.LaidTab
import Derived.SizedLaws
namespace Go.Proofs.Ytphmgjcjcdodhaa
open Go.RowKit Go.AM Go.SpanLaw Go.ChangeShapes Go.WideShapes Go.ChangeAt

theorem spsParams_ok : ∀ t ∈ Try.f4.params.toList, Try.prog.readableRec t = true ∧ t < Try.prog.types.size := by
  intro t ht
  have ht : t = 35 ∨ t = 3 := by
    have : t ∈ [35, 35] := ht
    simp only [List.mem_cons, List.not_mem_nil, or_false] at this
    rcases this with h | h
    · exact .inl h
    · exact .inl h
  rcases ht with rfl | rfl
  · exact ⟨by kernel_rfl, of_decide_eq_true (by kernel_rfl)⟩
  · exact ⟨by kernel_rfl, of_decide_eq_true (by kernel_rfl)⟩
set_option maxRecDepth 100000 in
theorem spsContract (H : Type) (enc : TypeId × Value → H) (W : World) (base : Nat) (args : Array Value) (ds gs : List (DataW H)) (before : List MemPlace)
    (hval : ∀ (j : Nat) t v, Try.f4.params[j]? = some t → args[j]? = some v → Value.okWide Try.prog W .any base t v)
    (hW : DataW.Whole enc Try.prog Try.f4.params.toList Rows.layerSpansAreSetsSpec.vars false W args.toList ds gs before) :
    Calls Try.prog 4 args W fun e W' => ∃ v, e = .returned v ∧ Rows.layerSpansAreSetsSpec.post enc Try.prog Try.f4 false true false false W args v W' := by
  have hW' := hW
  obtain ⟨p, q, hA0, hV, rfl, hfz, hnd⟩ := hW
  have hA : DataW.TrodAll enc Try.prog W 0 (fun _ => true) true Try.f4.params.toList args.toList ds p := hA0
  rw [Try.params4] at hA hval
  obtain ⟨v0, vs0, d0, ds0, p0, q0, hargs, rfl, rfl, h0, r0⟩ := trodAll_cons hA
  obtain ⟨v1, vs1, d1, ds1, p1, q1, rfl, rfl, rfl, h1, r1⟩ := trodAll_cons r0
  obtain ⟨rfl, rfl, rfl⟩ := trodAll_nil r1
  obtain rfl : args = #[v0, v1] := by cases args; simp_all
  obtain ⟨rfl, rfl⟩ := trodVars_none hV
  obtain ⟨n0, pv0, s0, rp0⟩ := arg_cell spTypesOk (t := 35) (by decide) (fun ⟨fs, hfs⟩ => by rw [un35] at hfs; cases hfs) (hval 0 35 v0 rfl rfl) h0
  obtain ⟨a, rfl⟩ := shows_spans s0
  obtain ⟨n1, pv1, s1, rp1⟩ := arg_cell spTypesOk (t := 35) (by decide) (fun ⟨fs, hfs⟩ => by rw [un35] at hfs; cases hfs) (hval 1 35 v1 rfl rfl) h1
  obtain ⟨b, rfl⟩ := shows_spans s1
  obtain ⟨code, hkn⟩ := sps_known
  refine (law_calls goodsps hkn (sps_eval a b) (Nat.le_trans (Nat.le_refl 2) (by decide)) (w := W) (vs := [v0, v1]) (.cons rp0 (.cons rp1 .nil))).mono fun e W' hh => ?_
  obtain ⟨rfl, hbl⟩ := hh
  exact ⟨_, rfl, law_post spLaidOut spsParams_ok rfl hW' rfl (tb := 4) rfl un4 hbl⟩
theorem spsLaid (os : Os) : laidMet Try.prog Rows.layerSpansAreSetsRow.laid ((spWorld os).forCall (fun _ _ => 0) ⟨#[], #[.slice none 0 0, .slice none 0 0], []⟩).memory :=
  laidMet_of_run' 8 (by kernel_rfl) (by kernel_rfl)
theorem spsReads (os : Os) {H : Type} (enc : TypeId × Value → H) : ∃ places, DataW.whole enc Try.prog ((spWorld os).forCall (fun _ _ => 0) ⟨#[], #[.slice none 0 0, .slice none 0 0], []⟩).memory Try.f4.params.toList Rows.layerSpansAreSetsSpec.vars false #[Value.slice none 0 0, Value.slice none 0 0].toList 8 = some ([.nil, .nil], [], places) :=
  ⟨[], by kernel_rfl⟩
set_option maxRecDepth 100000 in
theorem spsLifted (os : Os) (started : os.Started) (H : Type) (enc : TypeId × Value → H) (F : Stop.Interp) :
    ReturnsInHanded {} Try.checked os 4 .any ((OpenSpec.ofChange Rows.layerSpansAreSetsSpec).preRow enc Try.prog Try.f4 Rows.layerSpansAreSetsRow.domain false Rows.layerSpansAreSetsRow.laid) (((OpenSpec.ofChange Rows.layerSpansAreSetsSpec).at F).post enc Try.prog Try.f4 false true false false) := by
  obtain ⟨places, hx⟩ := spsReads os enc
  refine returnsInHanded_of_row (C := Try.checked) (s := OpenSpec.ofChange Rows.layerSpansAreSetsSpec) spOwn started (by kernel_rfl) Try.func4
    (witness_row_at (enc := enc) (C := Try.checked) false (spWorld os) #[.slice none 0 0, .slice none 0 0] rfl (by kernel_rfl) (by kernel_rfl) (by kernel_rfl)
      (OpenSpec.preRow_of_cond 8 hx (by kernel_rfl) (fun k hk => by cases hk) (by kernel_rfl) (spsLaid os))) ?_
  intro W base args ds gs before hval hW _ _ _ _ _ _
  exact spsContract H enc W base args ds gs before hval hW
theorem spsSaid : Rows.LayerSpansAreSetsSaid :=
  OpenClaim.holds_of_cond 4 Try.f4 rfl rfl rfl rfl rfl rfl rfl ⟨rfl, rfl, rfl, rfl, rfl⟩ rfl rfl rfl rfl rfl (by kernel_rfl) Try.func4 (by kernel_rfl)
    (of_decide_eq_true (by kernel_rfl)) (by unfold Func.isWrapper; first | (rw [if_pos (by decide +kernel)]; kernel_rfl) | (rw [if_neg (by decide +kernel)]; exact ⟨rfl, rfl⟩))
    (fun os started H enc _ F => by rw [OpenClaim.pre_eq_preRow]; exact spsLifted os started H enc F)
end Go.Proofs.Ytphmgjcjcdodhaa
