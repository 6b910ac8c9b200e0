/-
  For every text and every pattern (the tables of Go's library being as its text lays them) the law burgeelaw2.RuleLikesMatchSpec answers true: rule.Like and the reference's Like agree.
-/
import Derived.Test.YtphmgjcjcdodhaaDoorLike3
import Derived.Test.YtphmgjcjcdodhaaDoorAm22
import Derived.Test.YtphmgjcjcdodhaaDoorCards
import Derived.Test.YtphmgjcjcdodhaaDoorTie
import Derived.WalkKit
import Derived.ProofKit
import Derived.OpenShut
import Derived.Deep.DeepHandedRow
import Derived.Lib.LaidTab
import Derived.SizedLaws
namespace Go.Proofs.YtphmgjcjcdodhaaDoor
open Go.RowKit Go.AM Go.LikeLaw Go.ChangeShapes Go.WideShapes Go.ChangeAt

noncomputable def likeS : List PV → Option PV := specOf (α := List UInt8 × List UInt8) (fun a => [str a.1, str a.2]) (fun a => a.1.length ≤ lim ∧ a.2.length ≤ lim) (fun a => .v (.bool (likeB a.1 a.2)))
@[simp] theorem likeS_call (t p : List UInt8) (hp : Hp) (nx : Nat) (h : t.length ≤ lim ∧ p.length ≤ lim) : hPure false [] likeS [str t, str p] hp nx = some (.v (.bool (likeB t p)), hp, nx) :=
  hPure_v rfl (specOf_eq (enc := fun a : List UInt8 × List UInt8 => [str a.1, str a.2]) (a := (t, p)) (fun a b e => by
    obtain ⟨a1, a2⟩ := a; obtain ⟨b1, b2⟩ := b
    simp only [List.cons.injEq, and_true] at e
    rw [str_inj e.1, str_inj e.2]) h) (.inl rfl)
theorem like_sound : SpecSound Tryd.prog 4 (hPure false [] likeS) :=
  pureS (fn := Tryd.f4) good2 ⟨_, Tryd.func4, by kernel_rfl, rfl, by kernel_rfl⟩ false [] _ fun args r h => by
    obtain ⟨⟨t, p⟩, rfl, hp, rfl⟩ := specOf_inv h
    exact ⟨by simp [Tryd.f4], _, like_eval t p hp.1 hp.2, up_of _⟩
theorem refLike_sound : SpecSound Tryd.prog 5 (hPure false [] likeS) :=
  pureS (fn := Tryd.f5) good0 ⟨_, Tryd.func5, by kernel_rfl, rfl, by kernel_rfl⟩ false [] _ fun args r h => by
    obtain ⟨⟨t, p⟩, rfl, hp, rfl⟩ := specOf_inv h
    exact ⟨by simp [Tryd.f5], _, refLike_eval t p hp.1 hp.2, up_of _⟩
noncomputable abbrev C3 : Ctx := mkCtx Tryd.prog [(4, hPure false [] likeS), (5, hPure false [] likeS)]
theorem good3 : AM.Good C3 (fun g => [4, 5].contains g) := good_of mixed ⟨like_sound, fun _ => hPure_quiet _ _, refLike_sound, fun _ => hPure_quiet _ _, trivial⟩

set_option maxRecDepth 4000 in
theorem law_eval (t p : List UInt8) (ht : t.length ≤ lim) (hp : p.length ≤ lim) : evalPure C3 Tryd.f3 [str t, str p] = some (.v (.bool true)) := by
  refine evalPure_of rfl ?_
  simp [likeS_call t p _ _ ⟨ht, hp⟩, Tryd.f3]
theorem law_known : KnownF C3 (fun g => [4, 5].contains g) 3 Tryd.f3 := ⟨_, Tryd.func3, by kernel_rfl, rfl, by kernel_rfl⟩

theorem own : ownKnob Tryd.prog.godebug = none := by kernel_rfl
theorem laidOut : laidOutB Tryd.prog = true := by kernel_rfl
theorem params_ok : ∀ t ∈ Tryd.f3.params.toList, Tryd.prog.readableRec t = true ∧ t < Tryd.prog.types.size := by
  intro t ht
  obtain rfl : t = 9 := by simpa [Tryd.f3] using ht
  exact ⟨by kernel_rfl, by
    have : Tryd.prog.types.size = Tryd.prog.types.size := rfl
    exact of_decide_eq_true (by kernel_rfl)⟩

theorem contract (H : Type) (enc : TypeId × Value → H) (W : World) (base : Nat) (args : Array Value) (ds gs : List (DataW H)) (before : List MemPlace)
    (hval : ∀ (j : Nat) t v, Tryd.f3.params[j]? = some t → args[j]? = some v → Value.okWide Tryd.prog W .any base t v)
    (hW : DataW.Whole enc Tryd.prog Tryd.f3.params.toList Rows.ruleLikesMatchSpecSpec.vars false W args.toList ds gs before)
    (hz : (DataW.weightsEach Tryd.prog (Tryd.f3.params.toList ++ Rows.ruleLikesMatchSpecSpec.plain.varTypes Tryd.prog) (ds ++ gs)).all (· ≤ reachBytes) = true) :
    Calls Tryd.prog 3 args W fun e W' => ∃ v, e = .returned v ∧ Rows.ruleLikesMatchSpecSpec.post enc Tryd.prog Tryd.f3 false true false false W args v W' := by
  have hW' := hW
  obtain ⟨p, q, hA0, hV, rfl, hfz, hnd⟩ := hW
  have hA : DataW.TrodAll enc Tryd.prog W 0 (fun _ => true) true Tryd.f3.params.toList args.toList ds p := hA0
  rw [Tryd.params3] at hA hval
  obtain ⟨v0, vs0, d0, ds0, p0, q0, hargs, rfl, rfl, h0, r0⟩ := trodAll_cons hA
  obtain ⟨v1, vs1, d1, ds1, p1, q1, rfl, rfl, rfl, h1, r1⟩ := trodAll_cons r0
  obtain ⟨rfl, rfl, rfl⟩ := trodAll_nil r1
  obtain rfl : args = #[v0, v1] := by cases args; simp_all
  obtain ⟨rfl, rfl⟩ := trodVars_none hV
  obtain ⟨s0, rfl, rfl, rfl, w0⟩ := ChangeMaps.open_string un9 (hval 0 9 v0 rfl rfl) h0
  obtain ⟨s1, rfl, rfl, rfl, w1⟩ := ChangeMaps.open_string un9 (hval 1 9 v1 rfl rfl) h1
  have z0 : s0.data.toList.length ≤ reachBytes := sized_string hz (j := 0) rfl rfl
  have z1 : s1.data.toList.length ≤ reachBytes := sized_string hz (j := 1) rfl rfl
  have hlim : reachBytes = lim := rfl
  obtain ⟨code, hk⟩ := law_known
  refine (law_calls good3 hk (law_eval s0.data.toList s1.data.toList (hlim ▸ z0) (hlim ▸ z1)) (by simp [Tryd.f3]) (w := W) (vs := [.string s0, .string s1])
    (.cons (by rw [← str_eq]; exact .v rfl) (.cons (by rw [← str_eq]; exact .v rfl) .nil))).mono fun e W' hh => ?_
  obtain ⟨rfl, hb⟩ := hh
  exact ⟨_, rfl, law_post laidOut params_ok rfl hW' rfl (tb := 4) rfl un4 hb⟩

def cellsOfNat (l : List Nat) : Array Value := (l.map fun (n : Nat) => Value.int .u8 (n : Int)).toArray
def layCells (l : List Nat) : Obj → Obj
  | .cells _ t frozen => .cells (cellsOfNat l) t frozen
  | o => o
/-- A world for the witness: the settled one, the tables holding what is laid. -/
noncomputable def laidWorld (os : Os) : World :=
  { World.holding Tryd.prog os ⟨#[], #[], []⟩ with heap := ((World.holding Tryd.prog os ⟨#[], #[], []⟩).heap.modify 0 (layCells Go.Pinned.utf8FirstZ)).modify 1 (layCells [128, 191, 160, 191, 128, 159, 144, 191, 128, 143, 0, 0, 0, 0, 0, 0, 0, 0, 0, 0, 0, 0, 0, 0, 0, 0, 0, 0, 0, 0, 0, 0]) }
theorem laid_met (os : Os) : laidMet Tryd.prog Rows.ruleLikesMatchSpecRow.laid ((laidWorld os).forCall (fun _ _ => 0) ⟨#[], #[.string ⟨#[]⟩, .string ⟨#[]⟩], []⟩).memory :=
  laidMet_of_run' 8 (by kernel_rfl) (by kernel_rfl)
theorem reads (os : Os) {H : Type} (enc : TypeId × Value → H) : ∃ places, DataW.whole enc Tryd.prog ((laidWorld os).forCall (fun _ _ => 0) ⟨#[], #[.string ⟨#[]⟩, .string ⟨#[]⟩], []⟩).memory Tryd.f3.params.toList Rows.ruleLikesMatchSpecSpec.vars false #[Value.string ⟨#[]⟩, Value.string ⟨#[]⟩].toList 8 = some ([.lit (.string []), .lit (.string [])], [], places) :=
  ⟨[], by kernel_rfl⟩

set_option maxRecDepth 100000 in
theorem lifted (os : Os) (started : os.Started) (H : Type) (enc : TypeId × Value → H) (F : Stop.Interp) :
    ReturnsInHanded {} Tryd.checked os 3 .any ((OpenSpec.ofChange Rows.ruleLikesMatchSpecSpec).preRow enc Tryd.prog Tryd.f3 Rows.ruleLikesMatchSpecRow.domain false Rows.ruleLikesMatchSpecRow.laid) (((OpenSpec.ofChange Rows.ruleLikesMatchSpecSpec).at F).post enc Tryd.prog Tryd.f3 false true false false) := by
  obtain ⟨places, hx⟩ := reads os enc
  refine returnsInHanded_of_row (C := Tryd.checked) (s := OpenSpec.ofChange Rows.ruleLikesMatchSpecSpec) own started (by kernel_rfl) Tryd.func3
    (witness_row_at (enc := enc) (C := Tryd.checked) false (laidWorld os) #[.string ⟨#[]⟩, .string ⟨#[]⟩] rfl (by kernel_rfl) (by kernel_rfl) (by kernel_rfl)
      (OpenSpec.preRow_of_cond 8 hx (by kernel_rfl) (fun k hk => by cases hk) (by kernel_rfl) (laid_met os))) ?_
  intro W base args ds gs before hval hW _ _ hz _ _ _
  exact contract H enc W base args ds gs before hval hW hz

theorem said : Rows.RuleLikesMatchSpecSaid :=
  OpenClaim.holds_of_cond 3 Tryd.f3 rfl rfl rfl rfl rfl rfl rfl ⟨rfl, rfl, rfl, rfl, rfl⟩ rfl rfl rfl rfl rfl (by kernel_rfl) Tryd.func3 (by kernel_rfl)
    (of_decide_eq_true (by kernel_rfl)) (by unfold Func.isWrapper; first | (rw [if_pos (by decide +kernel)]; kernel_rfl) | (rw [if_neg (by decide +kernel)]; exact ⟨rfl, rfl⟩))
    (fun os started H enc _ F => by rw [OpenClaim.pre_eq_preRow]; exact lifted os started H enc F)

theorem plain (f : FuncId) (fn : Func) (hf : Tryd.pinned.checked.prog.funcNamed Tryd.f3.name = some f) (hfn : Tryd.pinned.checked.prog.funcs[f]? = some fn) :
    false = Tryd.pinned.checked.prog.looks [] ∧ ∀ (j : Nat) t, fn.params[j]? = some t → Tryd.pinned.checked.prog.wantsStandIn t = false := by
  obtain rfl : f = 3 := Option.some.inj ((show Tryd.prog.funcNamed Tryd.f3.name = some 3 by kernel_rfl).symm.trans hf) |>.symm
  obtain rfl : fn = Tryd.f3 := (Option.some.inj (Tryd.func3.symm.trans hfn)).symm
  refine ⟨by kernel_rfl, fun j t ht => ?_⟩
  rw [Tryd.params3] at ht
  obtain rfl : t = 9 := by simpa using Array.mem_of_getElem? ht
  exact (show Tryd.prog.wantsStandIn 9 = false by kernel_rfl)

theorem card : Rows.RuleLikesMatchSpecCardSaid :=
  Claim7.holds_tied_plain_at .later [] _ _ _ _ said (fun _ h => by cases h) (by kernel_rfl) (fun _ h => by cases h) ruleLikesMatchSpec_row_tie rfl ⟨rfl, rfl⟩ (by kernel_rfl) rfl plain (by kernel_rfl)
end Go.Proofs.YtphmgjcjcdodhaaDoor
