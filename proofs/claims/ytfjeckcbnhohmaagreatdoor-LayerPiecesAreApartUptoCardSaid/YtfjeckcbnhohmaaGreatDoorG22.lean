/-
  The row of LayerPiecesAreApart: its contract, its witness.
-/
import Derived.Test.YtfjeckcbnhohmaaGreatDoorG19
import Derived.Test.YtfjeckcbnhohmaaGreatDoorG21
import Derived.Test.YtfjeckcbnhohmaaGreatDoorRows
import Derived.WalkKit
import Derived.ProofKit
import Derived.OpenShut
import Derived.Deep.DeepHandedRow
import Derived.Deep.DeepLaidRun
import Derived.Lib.LaidTab
import Derived.SizedLaws
namespace Go.Proofs.YtfjeckcbnhohmaaGreatDoor
open Go.RowKit Go.AM Go.SpanLaw Go.ChangeShapes Go.WideShapes Go.ChangeAt

theorem pcOwn : ownKnob Tryz.prog.godebug = none := by kernel_rfl
theorem pcLaidOut : laidOutB Tryz.prog = true := by kernel_rfl
def pcTypes : List TypeId := [26, 22, 23, 24, 82, 216, 58, 45, 43, 42, 146, 144, 180, 55, 278, 56, 92, 32, 36, 102, 9, 3]
theorem pcTypesOk : typesOk Tryz.prog pcTypes = true := by kernel_rfl
theorem pcParams_ok : ∀ t ∈ Tryz.f3.params.toList, Tryz.prog.readableRec t = true ∧ t < Tryz.prog.types.size := by
  intro t ht
  have ht : t = 26 ∨ t = 9 ∨ t = 3 := by simpa [Tryz.f3] using ht
  rcases ht with rfl | rfl | rfl
  · exact ⟨by kernel_rfl, of_decide_eq_true (by kernel_rfl)⟩
  · exact ⟨by kernel_rfl, of_decide_eq_true (by kernel_rfl)⟩
  · exact ⟨by kernel_rfl, of_decide_eq_true (by kernel_rfl)⟩
set_option maxRecDepth 100000 in
theorem pcContract (H : Type) (enc : TypeId × Value → H) (W : World) (base : Nat) (args : Array Value) (ds gs : List (DataW H)) (before : List MemPlace)
    (hval : ∀ (j : Nat) t v, Tryz.f3.params[j]? = some t → args[j]? = some v → Value.okWide Tryz.prog W .any base t v)
    (hW : DataW.Whole enc Tryz.prog Tryz.f3.params.toList Rows.layerPiecesAreApartSpec.vars false W args.toList ds gs before)
    (hk : Rows.uptoSmall H (ds ++ gs) = true) (hsh : W.ShapedOpen Tryz.prog) :
    Calls Tryz.prog 3 args W fun e W' => ∃ v, e = .returned v ∧ Rows.layerPiecesAreApartSpec.post enc Tryz.prog Tryz.f3 false true false false W args v W' := by
  have hW' := hW
  obtain ⟨p, q, hA0, hV, rfl, hfz, hnd⟩ := hW
  have hA : DataW.TrodAll enc Tryz.prog W 0 (fun _ => true) true Tryz.f3.params.toList args.toList ds p := hA0
  rw [Tryz.params3] at hA hval
  obtain ⟨v0, vs0, d0, ds0, p0, q0, hargs, rfl, rfl, h0, r0⟩ := trodAll_cons hA
  obtain ⟨v1, vs1, d1, ds1, p1, q1, rfl, rfl, rfl, h1, r1⟩ := trodAll_cons r0
  obtain ⟨v2, vs2, d2, ds2, p2, q2, rfl, rfl, rfl, h2, r2⟩ := trodAll_cons r1
  obtain ⟨rfl, rfl, rfl⟩ := trodAll_nil r2
  obtain rfl : args = #[v0, v1, v2] := by cases args; simp_all
  obtain ⟨rfl, rfl⟩ := trodVars_none hV
  obtain ⟨fs, hu, _⟩ := shape_struct shp26
  have hv0 := hval 0 26 v0 rfl rfl
  obtain ⟨n0, pvs0, s0, rp0⟩ := arg_struct (P := Tryz.prog) (r := .any) (base := base) (v := v0) (w := W) pcTypesOk (t := 26) (by decide) hu hv0 h0
  obtain ⟨n1, pv1, s1, rp1⟩ := arg_cell pcTypesOk (t := 9) (by decide) (fun ⟨fs, hfs⟩ => by rw [un9] at hfs; cases hfs) (hval 1 9 v1 rfl rfl) h1
  obtain ⟨n2, pv2, s2, rp2⟩ := arg_cell pcTypesOk (t := 3) (by decide) (fun ⟨fs, hfs⟩ => by rw [un3] at hfs; cases hfs) (hval 2 3 v2 rfl rfl) h2
  obtain ⟨x, rfl, hx⟩ := shows_bk s0
  obtain ⟨s, rfl, e1, _⟩ := shows_string un9 s1
  obtain ⟨n, rfl, e2, _⟩ := shows_int un3 s2
  simp only [List.cons.injEq, and_true] at e1 e2
  subst e1; subst e2
  have hb : Rows.uptoBulkAll [d0, .lit (.string s), .lit (.int .i64 n)] ≤ 1048576 := by
    have := of_decide_eq_true hk
    simpa using this
  simp only [Rows.uptoBulkAll, Rows.uptoBulk] at hb
  have g0 : x.cb ≤ lim := by unfold lim; omega
  obtain ⟨code, hkn⟩ := pl_known
  refine (law_calls goodpl hkn (pl_eval x s n g0) (by simp [Tryz.f3]) (w := W) (vs := [v0, v1, v2]) hsh (.cons rp0 (.cons rp1 (.cons rp2 .nil)))).mono fun e W' hh => ?_
  obtain ⟨rfl, hbl⟩ := hh
  exact ⟨_, rfl, law_post pcLaidOut pcParams_ok rfl hW' rfl (tb := 4) rfl un4 hbl⟩
/-! ### the witness -/
def numsOf (k : IntKind) : List (DataW Unit) → List Value
  | .lit (.int _ i) :: l => .int k i :: numsOf k l
  | _ => []
def tabOf (k : IntKind) : DataW Unit → Array Value
  | .agg l => (numsOf k l).toArray
  | _ => #[]
def layOf (vs : Array Value) : Obj → Obj
  | .cells _ t frozen => .cells vs t frozen
  | o => o
noncomputable def pcLow : Nat := (World.holding Tryz.prog default ⟨#[], #[], []⟩).heap.size
def textR : ByteArray := ⟨#[118, 97, 108, 117, 101, 32, 111, 117, 116, 32, 111, 102, 32, 114, 97, 110, 103, 101]⟩
def textS : ByteArray := ⟨#[105, 110, 118, 97, 108, 105, 100, 32, 115, 121, 110, 116, 97, 120]⟩
def acceptCells : Array Value := (([128, 191, 160, 191, 128, 159, 144, 191, 128, 143, 0, 0, 0, 0, 0, 0, 0, 0, 0, 0, 0, 0, 0, 0, 0, 0, 0, 0, 0, 0, 0, 0] : List Nat).map fun (n : Nat) => Value.int .u8 (n : Int)).toArray
def firstCells : Array Value := (Go.Pinned.utf8FirstZ.map fun (n : Nat) => Value.int .u8 (n : Int)).toArray
noncomputable def pcErr (b : Nat) : Array Value := #[.iface 369 (.pointer (some ⟨b, 0, none⟩))]
noncomputable def pcHeap (h : Array Obj) : Array Obj :=
  ((((((h.modify 1 (layOf firstCells)).modify 2 (layOf acceptCells)).modify 3 (layOf (tabOf .u64 Rows.laid_internal_strconv_uint64pow10))).modify 6 (layOf (tabOf .u8 Rows.laid_math_bits_deBruijn32tab))).modify 7 (layOf (tabOf .u8 Rows.laid_math_bits_deBruijn64tab))).modify 5 (layOf (pcErr pcLow))).modify 4 (layOf (pcErr (pcLow + 1)))
noncomputable def pcWorld (os : Os) : World :=
  { World.holding Tryz.prog os ⟨#[.cells #[.string textR] 371, .cells #[.string textS] 371], #[], []⟩ with heap := pcHeap (World.holding Tryz.prog os ⟨#[.cells #[.string textR] 371, .cells #[.string textS] 371], #[], []⟩).heap }
def pcArgs : Array Value := #[.agg #[.slice none 0 0, .slice none 0 0, .slice none 0 0], .string ⟨#[]⟩, .int .i64 0]
theorem pcLaid (os : Os) : laidMet Tryz.prog Rows.layerPiecesAreApartUptoRow.laid ((pcWorld os).forCall (fun _ _ => 0) ⟨#[], pcArgs, []⟩).memory :=
  laidMet_of_run3 8 (by kernel_rfl) (by kernel_rfl) (by kernel_rfl)
theorem pcReads (os : Os) {H : Type} (enc : TypeId × Value → H) : ∃ places, DataW.whole enc Tryz.prog ((pcWorld os).forCall (fun _ _ => 0) ⟨#[], pcArgs, []⟩).memory Tryz.f3.params.toList Rows.layerPiecesAreApartSpec.vars false pcArgs.toList 8 = some ([.agg [.nil, .nil, .nil], .lit (.string []), .lit (.int .i64 0)], [], places) :=
  ⟨[], by kernel_rfl⟩
set_option maxRecDepth 100000 in
theorem pcLifted (os : Os) (started : os.Started) (H : Type) (enc : TypeId × Value → H) (F : Stop.Interp) :
    ReturnsInHanded {} Tryz.checked os 3 .any ((Rows.OpenSpec.upto Rows.layerPiecesAreApartSpec).preRow enc Tryz.prog Tryz.f3 Rows.layerPiecesAreApartUptoRow.domain false Rows.layerPiecesAreApartUptoRow.laid) (((Rows.OpenSpec.upto Rows.layerPiecesAreApartSpec).at F).post enc Tryz.prog Tryz.f3 false true false false) := by
  obtain ⟨places, hx⟩ := pcReads os enc
  refine returnsInHanded_of_row (C := Tryz.checked) (s := Rows.OpenSpec.upto Rows.layerPiecesAreApartSpec) pcOwn started (by kernel_rfl) Tryz.func3
    (witness_row_at (enc := enc) (C := Tryz.checked) false (pcWorld os) pcArgs rfl (by kernel_rfl) (by kernel_rfl) (by kernel_rfl)
      (OpenSpec.preRow_of_cond 8 hx (by kernel_rfl) (fun k hk => by cases hk; kernel_rfl) (by kernel_rfl) (pcLaid os))) ?_
  intro W base args ds gs before hval hW _ hcond _ _ hsh _
  exact pcContract H enc W base args ds gs before hval hW (hcond _ rfl) hsh
end Go.Proofs.YtfjeckcbnhohmaaGreatDoor
