/-
  The abstract machine, part 21: strings as lists of bytes; splitting at tests that are not known; functions that are run in place.
  The abstract machine, part 22: a law's row: its arguments read behind the call as before.
-/
import Derived.Test.YtphmgjcjcdodhaaAm19
import Derived.Lib.Strings
import Derived.Carry
import Derived.ChangeSame
import Derived.OpenShut
namespace Go.AM
open Go.RowKit

abbrev str (l : List UInt8) : PV := .v (.string ⟨l.toArray⟩)
theorem str_eq (s : ByteArray) : PV.v (.string s) = str s.data.toList := by
  obtain ⟨a⟩ := s
  simp
@[simp] theorem bsize (l : List UInt8) : (ByteArray.mk l.toArray).size = l.length := by simp [ByteArray.size]
@[simp] theorem bget (l : List UInt8) (i : Nat) : (ByteArray.mk l.toArray)[i]? = l[i]? := by
  by_cases h : i < l.length
  · rw [getElem?_pos (ByteArray.mk l.toArray) i (by simpa using h), List.getElem?_eq_getElem h]; rfl
  · rw [getElem?_neg (ByteArray.mk l.toArray) i (by simpa using h), List.getElem?_eq_none (by omega)]
@[simp] theorem bextract (l : List UInt8) (a b : Nat) : (ByteArray.mk l.toArray).extract a b = ⟨((l.drop a).take (b - a)).toArray⟩ := by
  have h := Lib.extract_data (ByteArray.mk l.toArray) a b
  rw [ByteArray.ext_iff]
  apply Array.toList_inj.1
  rw [h]
@[simp] theorem bappend (a b : List UInt8) : ByteArray.mk a.toArray ++ ByteArray.mk b.toArray = ⟨(a ++ b).toArray⟩ := by
  rw [ByteArray.ext_iff]
  apply Array.toList_inj.1
  simp [ByteArray.data_append]
@[simp] theorem btoList (l : List UInt8) : (ByteArray.mk l.toArray).toList = l := by rw [Lib.toList_data]
theorem str_inj {a b : List UInt8} (h : str a = str b) : a = b := by
  injection h with h; injection h with h; injection h with h
  simpa using congrArg Array.toList h
@[simp] theorem str_inj_iff (a b : List UInt8) : (str a = str b) = (a = b) := propext ⟨str_inj, fun h => by rw [h]⟩

@[simp] theorem index_str (P : Program) (t : TypeId) (l : List UInt8) (k : IntKind) (i : Int) (h : P.underlying t = some .string) : indexA P t (.v (.string ⟨l.toArray⟩)) (.v (.int k i)) =
    if 0 ≤ i then (l[i.toNat]?).map fun b => .v (.int .u8 b.toNat) else none := by
  simp only [indexA, h, bget]
  split
  · cases l[i.toNat]? <;> rfl
  · rfl
@[simp] theorem slice_str (P : Program) (hp : Hp) (t : TypeId) (l : List UInt8) (lo hi : Option (Option PV)) (h : P.underlying t = some .string) : sliceA P hp t (.v (.string ⟨l.toArray⟩)) lo hi =
    (boundA 0 lo).bind fun a => (boundA l.length hi).bind fun b => if a ≤ b ∧ b ≤ l.length then some (str ((l.drop a).take (b - a))) else none := by
  simp only [sliceA, h, bsize, bextract]
  cases boundA 0 lo <;> (try rfl)
  cases boundA l.length hi <;> rfl
attribute [simp] boundA
@[simp] theorem bin_bool_eql (P : Program) (t : TypeId) (a b : Bool) (h : P.underlying t = some .bool) : binA P .eql t (.v (.bool a)) (.v (.bool b)) = some (.v (.bool (a == b))) := by simp [binA, h]
@[simp] theorem bin_bool_neq (P : Program) (t : TypeId) (a b : Bool) (h : P.underlying t = some .bool) : binA P .neq t (.v (.bool a)) (.v (.bool b)) = some (.v (.bool (!(a == b)))) := by simp [binA, h]
@[simp] theorem conv_int (P : Program) (s d : TypeId) (k : IntKind) (n : Int) : convA P s d (.v (.int k n)) = (P.underlying s).bind fun _ => (P.underlying d).bind fun u => match u with | .int k' => some (.v (.int k' (k'.wrap n))) | _ => none := by
  simp only [convA]
  cases P.underlying s <;> (try rfl)
  cases P.underlying d <;> (try rfl)
  rename_i u
  cases u <;> rfl

theorem wn (n : Nat) (h : n ≤ 9223372036854775807) : IntKind.i64.wrap (n : Int) = n := wrap_fit (by omega) (by omega)
theorem u8_eq (a b : UInt8) : ((a.toNat : Int) == (b.toNat : Int)) = decide (a = b) := by
  rw [Bool.eq_iff_iff]; simp [← UInt8.toNat_inj]; omega

/-- Splitting at a guard that is not known. -/
theorem guard_split {C : Ctx} {d : Option Tmp} {op : Op} {st : St} {y b : Bool} {K : St → Prop} (h1 : y = b → bindK ((evalOp C (get st.σ) st.hp st.nx op).map fun r => (⟨put st.σ d r.1, r.2.1, r.2.2⟩ : St)) K) (h2 : y = !b → K ⟨put st.σ d (.tup []), st.hp, st.nx⟩) :
    bindK (guardA C d op st (some y) b) K := by
  by_cases h : y = b
  · subst h; simpa using h1 rfl
  · have : y = !b := by cases y <;> cases b <;> simp_all
    subst this
    have h2 := h2 rfl
    cases b <;> simpa using h2
theorem pick_split {α : Type} {y : Bool} {a b : Option PV} {f : PV → Option α} {K : α → Prop} (h1 : y = true → bindK ((pickA (some (.v (.bool true))) a b).bind f) K) (h2 : y = false → bindK ((pickA (some (.v (.bool false))) a b).bind f) K) :
    bindK ((pickA (some (.v (.bool y))) a b).bind f) K := by
  cases y
  · exact h2 rfl
  · exact h1 rfl

theorem hPure_v {F : List PV → Option PV} {ns : List Nat} {kill : Bool} {args as : List PV} {hp hp1 : Hp} {nx : Nat} {r : PV} (h1 : freezeVals hp args = some (as, hp1)) (h2 : F (normArgs ns as) = some r) (h3 : r.flat = true ∨ args.all PV.noOwn = true) :
    hPure kill ns F args hp nx = some (r, hp, nx) := by
  unfold hPure
  simp only [h1, h2, h3, if_true]
theorem pint_inj {k : IntKind} {a b : Int} (h : PV.v (.int k a) = .v (.int k b)) : a = b := by
  injection h with h; injection h
theorem pbool_inj {a b : Bool} (h : PV.v (.bool a) = .v (.bool b)) : a = b := by
  injection h with h; injection h
/-- What follows, not looked into before its argument is known. -/
def compK {α β : Type} (f : α → β) (K : β → Prop) (x : α) : Prop := K (f x)
def bindC {α β : Type} (f : α → Option β) (K : β → Prop) (x : α) : Prop := bindK (f x) K
@[simp] theorem compK_app {α β : Type} (f : α → β) (K : β → Prop) (x : α) : compK f K x = K (f x) := rfl
@[simp] theorem bindC_app {α β : Type} (f : α → Option β) (K : β → Prop) (x : α) : bindC f K x = bindK (f x) K := rfl
@[simp] theorem bindK_map {α β : Type} (f : α → β) (o : Option α) (K : β → Prop) : bindK (o.map f) K = bindK o (compK f K) := by
  cases o <;> simp [bindK]
@[simp] theorem bindK_bind {α β : Type} (f : α → Option β) (o : Option α) (K : β → Prop) : bindK (o.bind f) K = bindK o (bindC f K) := by
  cases o <;> simp [bindK]
/-- A function whose text is known. -/
def KnownF (C : Ctx) (pf : FuncId → Bool) (f : FuncId) (fn : Func) : Prop := ∃ code, Known C pf f fn code
theorem pureS {C : Ctx} {pf : FuncId → Bool} {f : FuncId} {fn : Func} (hg : AM.Good C pf) (hk : KnownF C pf f fn) (kill : Bool) (ns : List Nat) (F : List PV → Option PV) (hF : ∀ args r, F args = some r → args.length ≤ fn.ntmps ∧ ∃ r0, evalPure C fn args = some r0 ∧ NilUp r0 r) : SpecSound C.P f (hPure kill ns F) :=
  let ⟨_, hk⟩ := hk
  hPure_sound hg hk kill ns F hF
theorem bindK_show {α : Type} {o : Option α} {K : α → Prop} (x : α) (h : o = some x) (hk : K x) : bindK o K := ⟨x, h, hk⟩

/-- A function that is run in place, on what is live. -/
noncomputable def hRun (C : Ctx) (fn : Func) : AM.Spec := fun args hp nx => if args.length ≤ fn.ntmps then evalFunc C fn args hp nx else none
theorem hRun_sound {C : Ctx} {pf : FuncId → Bool} {f : FuncId} {fn : Func} {code : Code} (hg : Good C pf) (hk : Known C pf f fn code) : SpecSound C.P f (hRun C fn) := by
  refine ⟨⟨fn, hk.func, hk.name, by rw [hk.body]; rfl⟩, ?_⟩
  intro args hp nx r hp' nx' h w S G vs hi hz
  unfold hRun at h
  split at h
  · rename_i hn
    exact func_calls hg.spec hg.quiet hg.box hg.mixed hk.func hk.body hk.ok h hi hz hn
  · cases h
end Go.AM
namespace Go.AM
open Go.RowKit Go.WideShapes Go.ChangeShapes

section
variable {H : Type} {enc : TypeId × Value → H} {P : Program}

theorem trodAll_stays (hl : laidOutB P = true) {W W' : World} (hb : Below W.heap.size W W') {sp : Nat → Bool} : ∀ {ts : List TypeId} {vs : List Value} {ds : List (DataW H)} {ps : List MemPlace}, (∀ t ∈ ts, P.readableRec t = true ∧ t < P.types.size) →
    DataW.TrodAll enc P W 0 (fun _ => true) true ts vs ds ps → (∀ p ∈ ps, p.block < W.heap.size) → (∀ p ∈ ps, sp p.block = true) → DataW.TrodAll enc P W' 0 sp true ts vs ds ps
  | [], vs, ds, ps, _, h, _, _ => by
    obtain ⟨rfl, rfl, rfl⟩ := trodAll_nil h
    exact trodAll_mk0
  | t :: ts, vs, ds, ps, ht, h, hlt, hsp => by
    obtain ⟨v, vs', d, ds', p, q, rfl, rfl, rfl, h0, h1⟩ := trodAll_cons h
    exact trodAll_cons_mk (WideElems.Trod_stays hl (ht t (by simp)).1 (ht t (by simp)).2 h0 (fun x hx => hb.same (hlt x (by simp [hx]))) (fun x hx => hsp x (by simp [hx])))
      (trodAll_stays hl hb (fun u hu => ht u (by simp [hu])) h1 (fun x hx => hlt x (by simp [hx])) (fun x hx => hsp x (by simp [hx])))

/-- A law that answers true and leaves all that was there alone. -/
theorem law_post {f : Func} {s : ChangeSpec} {apart fresh handsOn again : Bool} {W W' : World} {args : Array Value} {ds gs : List (DataW H)} {before : List MemPlace} (hl : laidOutB P = true) (hT : ∀ t ∈ f.params.toList, P.readableRec t = true ∧ t < P.types.size)
    (hv : s.vars = []) (hW : DataW.Whole enc P f.params.toList s.vars apart W args.toList ds gs before) (hfn : s.fn H ds = { results := [.lit (.bool true)], args := ds }) {tb : TypeId} (hr : f.resultTypes = #[tb]) (hub : P.underlying tb = some .bool) (hb : Below W.heap.size W W') :
    s.post enc P f apart fresh handsOn again W args (.bool true) W' := by
  have hlt : ∀ p ∈ before, p.block < W.heap.size := fun p hp => hW.lt p hp
  have hW' := hW
  obtain ⟨p, q, hA, hV, hpq, hz, hn⟩ := hW
  rw [hv] at hV
  obtain ⟨rfl, rfl⟩ := trodVars_none hV
  simp only [List.append_nil] at hpq
  subst hpq
  have hA' : DataW.TrodAll enc P W 0 (fun _ => true) true f.params.toList args.toList ds before := hA
  have hargs : ∀ sp : Nat → Bool, (∀ p ∈ before, sp p.block = true) → DataW.TrodAll enc P W' 0 sp true f.params.toList args.toList ds before := fun sp hsp => trodAll_stays hl hb hT hA' hlt hsp
  have hold : ∀ p ∈ before, (fun b => decide (b < W.heap.size)) p.block = true := fun p hp => by simpa using hlt p hp
  have hres : ∀ (b : Nat) (sp : Nat → Bool) (hd : Bool), DataW.TrodAll enc P W' b sp hd f.resultTypes.toList ((Value.bool true).resultList f.resultTypes.size) [.lit (.bool true)] [] := fun b sp hd => by
    rw [hr]
    exact trodAll_cons_mk (shut_bool hub _) trodAll_mk0
  have hvars : ∀ sp, DataW.TrodVars enc P W' sp s.vars [] [] := fun sp => by rw [hv]; rfl
  refine ⟨ds, [], before, [], before, [], by simpa using hW', ?_, ?_, ?_, World.keptBut_mono (fun p hp => ⟨hp, .inr (.inl hp)⟩) (hb.frame (· ∈ before)), fun _ => ?_⟩
  · rw [List.append_nil, hfn]; exact hres _ _ _
  · rw [List.append_nil, hfn]; exact hargs _ hold
  · rw [List.append_nil, hfn]; exact hvars _
  · refine ⟨ok_one hr rfl (okWide_bool_mk hub _), _, _, ([] ++ before) ++ [], ⟨[] ++ before, [], trodAll_append (hargs _ (fun _ _ => rfl)) (hres _ _ _), hvars _, rfl, ?_, ?_⟩, ?_⟩
    · intro b off hp
      have hin : MemPlace.cell b off ∈ before := by simpa using hp
      rw [hb.frozen (hlt _ hin)]
      exact hz b off (by simpa using hin)
    · intro ha
      have := hn ha
      simpa using this
    · intro p hp _
      simpa using hp
end
end Go.AM
