/-
  slices.SortFunc off the kit's shelf, at this program (written after what the kit's layings print).
  Spans: slices.Clone, Grow, Concat, and the comparison that sorts them.
  Spans: slices.Concat of two; together.
  Spans: together.
  Spans: the reference's union and minus.
  Spans: Union and Minus.
  Spans: slices.Equal, awake, the two laws' evaluation.
  Books as data: their cells, their bulk.
-/
import Derived.Shelf.SlSortCmp.WholeK
import Derived.Shelf.SlSortCmp.NoneTotal
import Derived.Test.YtfjeckcbnhohmaaGreatDoorProg
import Derived.Test.YtfjeckcbnhohmaaGreatDoorG11
import Derived.Test.YtfjeckcbnhohmaaGreatDoorG14
import Derived.Test.YtfjeckcbnhohmaaGreatDoorG8
import Derived.Test.YtfjeckcbnhohmaaGreatDoorG15
import Derived.Test.YtfjeckcbnhohmaaGreatDoorG13
namespace Go.Proofs
open Go.Shelf
def Tryz.sortS_ren : Go.Shelf.Ren := ⟨fun | 6 => 99 | 15 => 53 | 14 => 141 | 28 => 97 | 29 => 98 | 20 => 187 | 21 => 188 | 22 => 189 | 23 => 190 | 24 => 191 | 25 => 192 | 26 => 193 | 27 => 194 | 46 => 250 | 47 => 137 | 48 => 138 | 49 => 251 | 50 => 252 | 57 => 295 | n => n, fun | 22 => 32 | 24 => 36 | 25 => 141 | 3 => 3 | 39 => 95 | 0 => 0 | 53 => 137 | 55 => 139 | 4 => 4 | 46 => 131 | 45 => 130 | 50 => 89 | 5 => 5 | 9 => 9 | 66 => 168 | 70 => 172 | 76 => 226 | 77 => 74 | n => n, fun | n => n⟩
theorem Tryz.sortS : Go.Proofs.SlLaysF0.n6 Tryz.prog Tryz.sortS_ren := {
  mixed := by kernel_rfl
  f6 := ⟨Tryz.f99.name, by decide, Tryz.func99.trans (congrArg some (by kernel_rfl))⟩
  f14 := ⟨Tryz.f141.name, by decide, Tryz.func141.trans (congrArg some (by kernel_rfl))⟩
  f15 := Tryz.func53.trans (congrArg some (by kernel_rfl))
  f20 := ⟨Tryz.f187.name, by decide, Tryz.func187.trans (congrArg some (by kernel_rfl))⟩
  f21 := ⟨Tryz.f188.name, by decide, Tryz.func188.trans (congrArg some (by kernel_rfl))⟩
  f22 := ⟨Tryz.f189.name, by decide, Tryz.func189.trans (congrArg some (by kernel_rfl))⟩
  f23 := ⟨Tryz.f190.name, by decide, Tryz.func190.trans (congrArg some (by kernel_rfl))⟩
  f24 := ⟨Tryz.f191.name, by decide, Tryz.func191.trans (congrArg some (by kernel_rfl))⟩
  f25 := ⟨Tryz.f192.name, by decide, Tryz.func192.trans (congrArg some (by kernel_rfl))⟩
  f26 := ⟨Tryz.f193.name, by decide, Tryz.func193.trans (congrArg some (by kernel_rfl))⟩
  f27 := ⟨Tryz.f194.name, by decide, Tryz.func194.trans (congrArg some (by kernel_rfl))⟩
  f28 := Tryz.func97.trans (congrArg some (by kernel_rfl))
  f29 := Tryz.func98.trans (congrArg some (by kernel_rfl))
  f46 := ⟨Tryz.f250.name, by decide, Tryz.func250.trans (congrArg some (by kernel_rfl))⟩
  f47 := Tryz.func137.trans (congrArg some (by kernel_rfl))
  f48 := Tryz.func138.trans (congrArg some (by kernel_rfl))
  f49 := ⟨Tryz.f251.name, by decide, Tryz.func251.trans (congrArg some (by kernel_rfl))⟩
  f50 := ⟨Tryz.f252.name, by decide, Tryz.func252.trans (congrArg some (by kernel_rfl))⟩
  f57 := ⟨Tryz.f295.name, by decide, Tryz.func295.trans (congrArg some (by kernel_rfl))⟩
  t0 := Tryz.underlying0
  a0 := Tryz.isAgg0
  z0 := Tryz.sizeOf0
  v0 := Tryz.zeroValue0
  t3 := Tryz.underlying3
  a3 := Tryz.isAgg3
  z3 := Tryz.sizeOf3
  v3 := Tryz.zeroValue3
  t4 := Tryz.underlying4
  a4 := Tryz.isAgg4
  z4 := Tryz.sizeOf4
  v4 := Tryz.zeroValue4
  t5 := Tryz.underlying5
  a5 := Tryz.isAgg5
  z5 := Tryz.sizeOf5
  v5 := Tryz.zeroValue5
  t9 := Tryz.underlying9
  a9 := Tryz.isAgg9
  z9 := Tryz.sizeOf9
  v9 := Tryz.zeroValue9
  t22 := Tryz.underlying32
  a22 := Tryz.isAgg32
  z22 := Tryz.sizeOf32
  v22 := Tryz.zeroValue32
  t25 := Tryz.underlying141
  a25 := Tryz.isAgg141
  z25 := Tryz.sizeOf141
  v25 := Tryz.zeroValue141
  t39 := Tryz.underlying95
  a39 := Tryz.isAgg95
  z39 := Tryz.sizeOf95
  v39 := Tryz.zeroValue95
  t45 := Tryz.underlying130
  a45 := Tryz.isAgg130
  z45 := Tryz.sizeOf130
  v45 := Tryz.zeroValue130
  t46 := Tryz.underlying131
  a46 := Tryz.isAgg131
  z46 := Tryz.sizeOf131
  v46 := Tryz.zeroValue131
  t50 := Tryz.underlying89
  a50 := Tryz.isAgg89
  z50 := Tryz.sizeOf89
  v50 := Tryz.zeroValue89
  t53 := Tryz.underlying137
  a53 := Tryz.isAgg137
  z53 := Tryz.sizeOf137
  v53 := Tryz.zeroValue137
  t55 := Tryz.underlying139
  a55 := Tryz.isAgg139
  z55 := Tryz.sizeOf139
  v55 := Tryz.zeroValue139
  t66 := Tryz.underlying168
  a66 := Tryz.isAgg168
  z66 := Tryz.sizeOf168
  v66 := Tryz.zeroValue168
  t70 := Tryz.underlying172
  a70 := Tryz.isAgg172
  z70 := Tryz.sizeOf172
  v70 := Tryz.zeroValue172
  t76 := Tryz.underlying226
  a76 := Tryz.isAgg226
  z76 := Tryz.sizeOf226
  v76 := Tryz.zeroValue226
  t77 := Tryz.underlying74
  a77 := Tryz.isAgg74
  z77 := Tryz.sizeOf74
  v77 := Tryz.zeroValue74 }
open Go.AM
theorem Tryz.sortS_ok : SortOk Tryz.prog 99 2 := ⟨fun _ _ enc hk h1 cf hO g blk off cap d w eg hcmp hH hblk hsz => AnyQ.slices_SortFunc_eq Tryz.sortS 2 Tryz.isAgg36 Tryz.sizeOf36 enc hk h1 cf hO g #[] blk off cap d w eg hcmp hH hblk hsz,
  fun p cap fv w => AnyF.slices_SortFunc_none Tryz.sortS p cap fv w⟩
end Go.Proofs
namespace Go.Proofs
open Go.Shelf
end Go.Proofs
namespace Go.Proofs.YtfjeckcbnhohmaaGreatDoor
open Go.RowKit Go.AM Go.SpanLaw

set_option maxRecDepth 4000 in
theorem cloneS_eval (args : List PV) (r : Option Blk) (h : cloneF 36 2 args = some r) : args.length ≤ Tryz.f38.ntmps ∧ ∃ x hp nx, evalFunc C0 Tryz.f38 args (fun _ => none) 0 = some (x, hp, nx) ∧ OwnR r x hp nx := by
  unfold cloneF at h
  split at h
  · injection h with h; subst h
    exact ⟨by simp [Tryz.f38], evalFunc_of rfl (by simp [binA, isNilA, Tryz.f38, OwnR])⟩
  · injection h with h; subst h
    exact ⟨by simp [Tryz.f38], evalFunc_of rfl (by simp [binA, isNilA, Tryz.f38, OwnR, buildSliceA, appendA, AM.view, maxLen, setElems, freezeParts])⟩
  · rename_i es
    split at h
    · rename_i hc
      obtain ⟨rfl, hne, hl⟩ := hc
      injection h with h; subst h
      cases es with
      | nil => exact absurd rfl hne
      | cons c es =>
        unfold lim at hl
        simp at hl
        have m1 : es.length + 1 ≤ maxLen := by unfold maxLen; omega
        have m2 : (es.length + 1) * 16 ≤ 140737488355328 := by omega
        refine ⟨by simp [Tryz.f38], evalFunc_of rfl ?_⟩
        simp [binA, isNilA, Tryz.f38, OwnR, buildSliceA, appendA, AM.view, setElems, freezeParts, m1, m2]
    · cases h
  · cases h
theorem cloneS_sound : SpecSound Tryz.prog 38 (hFresh [] (cloneF 36 2)) :=
  hFresh_sound (fn := Tryz.f38) (code := _) good0 ⟨Tryz.func38, by kernel_rfl, rfl, by kernel_rfl⟩ [] _ cloneS_eval

/-! ### the comparison -/
noncomputable def FSS (out : Sp → Sp → PV) : List PV → Option PV := specOf (α := Sp × Sp) (fun a => [.agg (encS a.1), .agg (encS a.2)]) (fun _ => True) (fun a => out a.1 a.2)
theorem FSS_call (out : Sp → Sp → PV) (a b : Sp) (hp : Hp) (nx : Nat) : hPure false [] (FSS out) [.agg (encS a), .agg (encS b)] hp nx = some (out a b, hp, nx) :=
  hPure_v rfl (specOf_eq (enc := fun a : Sp × Sp => [PV.agg (encS a.1), .agg (encS a.2)]) (a := (a, b)) (fun a b e => by
    obtain ⟨a1, a2⟩ := a; obtain ⟨b1, b2⟩ := b
    simp only [List.cons.injEq, and_true, PV.agg.injEq] at e
    exact Prod.ext (encS_inj (by simp [e.1])) (encS_inj (by simp [e.2]))) trivial) (.inr rfl)
theorem cmpSp_sound : SpecSound Tryz.prog 100 (hPure false [] (FSS fun a b => int (IntKind.i64.wrap (a.1 - b.1)))) :=
  pureS (fn := Tryz.f100) good0 ⟨_, Tryz.func100, by kernel_rfl, rfl, by kernel_rfl⟩ false [] _ fun args r h => by
    obtain ⟨⟨a, b⟩, rfl, _, rfl⟩ := specOf_inv h
    exact ⟨Nat.le_trans (Nat.le_refl 2) (by decide), _, evalPure_of rfl (by simp [Tryz.f100]), up_of _⟩
def fromOf : List PV → Int
  | .v (.int _ a) :: _ => a
  | _ => 0
def cfS (x y : List PV) : Int := IntKind.i64.wrap (fromOf x - fromOf y)
def domS (x : List PV) : Prop := ∃ s : Sp, x = encS s ∧ 0 ≤ s.1 ∧ s.1 ≤ 100000
theorem cmpS_ok : CmpOk Tryz.prog 100 2 cfS domS :=
  ⟨fun args w => enters_of Tryz.func100 (by kernel_rfl) rfl args w, _, cmpSp_sound, fun x y _ _ hx hy => by
    obtain ⟨a, rfl, _⟩ := hx
    obtain ⟨b, rfl, _⟩ := hy
    exact FSS_call _ a b _ _⟩
theorem sortS_sound : SpecSound Tryz.prog 99 (hSort 2 100 cfS domS) :=
  hSort_sound (by omega) ⟨_, Tryz.func99, by decide, by kernel_rfl⟩ Tryz.sortS_ok cmpS_ok
theorem cfS_eq {a b : Sp} (ha : 0 ≤ a.1 ∧ a.1 ≤ 100000) (hb : 0 ≤ b.1 ∧ b.1 ≤ 100000) : cfS (encS a) (encS b) = a.1 - b.1 := by
  show IntKind.i64.wrap (a.1 - b.1) = _
  exact wrap_fit (by omega) (by omega)
theorem weakS {l : List Sp} (h : ∀ s ∈ l, 0 ≤ s.1 ∧ s.1 ≤ 100000) : WeakOn cfS (l.map encS) where
  irrefl x hx := by
    obtain ⟨s, hs, rfl⟩ := List.mem_map.1 hx
    rw [cfS_eq (h s hs) (h s hs)]; omega
  trans x hx y hy z hz h1 h2 := by
    obtain ⟨a, ha, rfl⟩ := List.mem_map.1 hx
    obtain ⟨b, hb, rfl⟩ := List.mem_map.1 hy
    obtain ⟨c, hc, rfl⟩ := List.mem_map.1 hz
    rw [cfS_eq (h _ ha) (h _ hb)] at h1
    rw [cfS_eq (h _ hb) (h _ hc)] at h2
    rw [cfS_eq (h _ ha) (h _ hc)]
    omega
  ntrans x hx y hy z hz h1 h2 := by
    obtain ⟨a, ha, rfl⟩ := List.mem_map.1 hx
    obtain ⟨b, hb, rfl⟩ := List.mem_map.1 hy
    obtain ⟨c, hc, rfl⟩ := List.mem_map.1 hz
    rw [cfS_eq (h _ ha) (h _ hb)] at h1
    rw [cfS_eq (h _ hb) (h _ hc)] at h2
    rw [cfS_eq (h _ ha) (h _ hc)]
    omega
theorem perm_map_inv {α β : Type} {f : α → β} : ∀ {l : List α} {m : List β}, m.Perm (l.map f) → ∃ l' : List α, l'.Perm l ∧ m = l'.map f := by
  have key : ∀ {m n : List β}, m.Perm n → ∀ l : List α, n = l.map f → ∃ l' : List α, l'.Perm l ∧ m = l'.map f := by
    intro m n h
    induction h with
    | nil => intro l hl; exact ⟨l, .refl _, hl⟩
    | cons x _ ih =>
      intro l hl
      cases l with
      | nil => cases hl
      | cons a l =>
        simp only [List.map_cons, List.cons.injEq] at hl
        obtain ⟨l', h1, h2⟩ := ih l hl.2
        exact ⟨a :: l', h1.cons a, by rw [List.map_cons, hl.1, h2]⟩
    | swap x y r =>
      intro l hl
      match l, hl with
      | a :: b :: l, hl =>
        simp only [List.map_cons, List.cons.injEq] at hl
        exact ⟨b :: a :: l, .swap _ _ _, by rw [List.map_cons, List.map_cons, hl.1, hl.2.1, hl.2.2]⟩
    | trans _ _ ih1 ih2 =>
      intro l hl
      obtain ⟨l1, h1, h2⟩ := ih2 l hl
      obtain ⟨l2, h3, h4⟩ := ih1 l1 h2
      exact ⟨l2, h3.trans h1, h4⟩
  intro l m h
  exact key h l rfl
/-- What the sort makes of spans: the same ones, by their from. -/
theorem sortL_spans {l : List Sp} (h : ∀ s ∈ l, 0 ≤ s.1 ∧ s.1 ≤ 100000) : ∃ m : List Sp, sortL cfS (l.map encS) = m.map encS ∧ m.Perm l ∧ m.Pairwise (fun a b => a.1 ≤ b.1) := by
  obtain ⟨m, h1, h2⟩ := perm_map_inv (sortL_perm (weakS h))
  refine ⟨m, h2, h1, ?_⟩
  have h3 := sortL_sorted (weakS h)
  rw [h2, List.pairwise_map] at h3
  refine h3.imp_of_mem fun {a b} ha hb hab => ?_
  rw [cfS_eq (h _ (h1.mem_iff.1 hb)) (h _ (h1.mem_iff.1 ha))] at hab
  omega
end Go.Proofs.YtfjeckcbnhohmaaGreatDoor
namespace Go.Proofs.YtfjeckcbnhohmaaGreatDoor
open Go.RowKit Go.AM Go.SpanLaw

/-! ### slices.Concat -/
noncomputable def FCat (out : List Sp → List Sp → PV) (pre : List Sp → List Sp → Prop) : List PV → Option PV := specOf (α := List Sp × List Sp) (fun a => [.sl 1 [[.sl 2 (a.1.map encS)], [.sl 2 (a.2.map encS)]]]) (fun a => pre a.1 a.2) (fun a => out a.1 a.2)
noncomputable def catF : List PV → Option PV := FCat (fun a b => .sl 2 ((a ++ b).map encS)) fun a b => a.length ≤ 100 ∧ b.length ≤ 100
end Go.Proofs.YtfjeckcbnhohmaaGreatDoor
namespace Go.Proofs.YtfjeckcbnhohmaaGreatDoor
open Go.RowKit Go.AM Go.SpanLaw

def Small (l : List Sp) : Prop := ∀ s ∈ l, 0 ≤ s.1 ∧ s.1 ≤ 100000
theorem tog_drop {l : List Sp} {k : Nat} (h : k < l.length) (c : Sp) : tog c (l.drop k) = if l[k].1 ≤ c.2 then tog (c.1, max c.2 l[k].2) (l.drop (k + 1)) else c :: tog l[k] (l.drop (k + 1)) := by
  rw [List.drop_eq_getElem_cons h, tog]
theorem togL_first {l : List Sp} (h : 0 < l.length) : togL l = tog l[0] (l.drop 1) := by
  cases l with
  | nil => simp at h
  | cons s l => rfl
/-- How far together is. -/
def TogTo (L : List Sp) (k : Nat) (d : List Sp) : Prop := (k = 0 ∧ d = []) ∨ ∃ d0 c, d = d0 ++ [c] ∧ d0 ++ tog c (L.drop k) = togL L
noncomputable abbrev Ctg : Ctx := mkCtx Tryz.prog [(38, hFresh [] (cloneF 36 2)), (99, hSort 2 100 cfS domS)]
/-- The copy, sorted. -/
theorem sort_call {l m : List Sp} (h : Small l) (hl : l.length ≤ 1048576) (hm : sortL cfS (l.map encS) = m.map encS) {hp : Hp} {nx : Nat} {v : PV} (hO : OwnS hp nx 36 2 v (l.map encS)) :
    ∃ hp', hSort 2 100 cfS domS [v, .fn (.func 100) [] []] hp nx = some (.tup [], hp', nx) ∧ OwnS hp' nx 36 2 v (m.map encS) := by
  rcases hO with ⟨rfl, h0⟩ | ⟨id, hid, rfl, hh⟩
  · refine ⟨hp, rfl, .inl ⟨rfl, ?_⟩⟩
    rw [← hm, h0]
    rfl
  · by_cases hz : l = []
    · subst hz
      have : m = [] := by
        have : (m.map encS) = [] := by rw [← hm]; rfl
        simpa using this
      subst this
      exact ⟨hp, rfl, .inr ⟨id, hid, rfl, hh⟩⟩
    · have hne : ¬ (l.map encS).length = 0 := by simpa using hz
      have hml : (m.map encS).length = (l.map encS).length := by rw [← hm, sortL_length (weakS h)]
      refine ⟨upd hp id (some ⟨36, 2, true, m.map encS⟩), ?_, .inr ⟨id, hid, by rw [hml], by simp⟩⟩
      show (if (l.map encS).length = 0 then _ else _) = _
      rw [if_neg hne, hh]
      simp only
      have e1 : ((l.map encS).drop 0).take (l.map encS).length = l.map encS := by rw [List.drop_zero, List.take_length]
      have e2 : (l.map encS).drop (0 + (l.map encS).length) = [] := by rw [Nat.zero_add, List.drop_length]
      rw [e1, e2, if_pos ⟨rfl, rfl, rfl, by simp, by simp; omega, weakS h, fun x hx => by
        obtain ⟨s, hs, rfl⟩ := List.mem_map.1 hx
        exact ⟨s, rfl, h s hs⟩⟩, hm]
      simp
set_option maxRecDepth 8000 in
theorem together_eval (l L : List Sp) (h : Small l) (hl : l.length ≤ 1048576) (hm : sortL cfS (l.map encS) = L.map encS) (y : PV) (hy : SlOf 2 (l.map encS) y) : ∃ r0, evalPure Ctg Tryz.f56 [y] = some r0 ∧ Stands r0 (.sl 2 ((togL L).map encS)) := by
  have hfin : ∀ {code}, Tryz.f56.body = some code → EvC Ctg code ⟨startσ [y], fun _ => none, 0⟩ (retK Ctg.P Tryz.f56 (pureN (.sl 2 ((togL L).map encS)))) → ∃ r0, evalPure Ctg Tryz.f56 [y] = some r0 ∧ Stands r0 (.sl 2 ((togL L).map encS)) := by
    intro code hb h
    obtain ⟨r0, h1, h2⟩ := evalPureN_of hb h
    exact ⟨r0, h1, fun w S u hr => up_rep hr h2⟩
  refine hfin rfl ?_
  have hLl : L.length = l.length := by
    have := congrArg List.length hm
    rw [sortL_length (weakS h)] at this
    simpa using this.symm
  have hcl := fun hp nx => clone_call (e := 36) hy (by simp; unfold lim; omega) hp nx
  have hown := clone_ownS (e := 36) hy (fun _ => none) 0
  generalize hv : (ownOr 36 2 (l.map encS) y 0) = v0 at hown
  obtain ⟨v, H, n0⟩ := v0
  have hcl0 := hcl (fun _ => none) 0
  rw [hv] at hcl0
  simp only at hown hcl0
  obtain ⟨hp1, hs1, hO1⟩ := sort_call h hl hm hown
  have hlen := hO1.len (P := Tryz.prog) (t := 32) el32
  simp at hlen
  simp [hcl0, hs1, hlen]
  refine EvC_for (fun k σ hp nx => σ 11 = v ∧ σ 12 = int L.length ∧ σ 13 = int k ∧ (0 < L.length → ∃ id0, id0 < nx ∧ v = .own id0 0 L.length ∧ hp id0 = some ⟨36, 2, true, L.map encS⟩ ∧ ∀ m, σ 3 ≠ .own id0 0 m) ∧ ∃ d, OwnS hp nx 36 2 (σ 3) (d.map encS) ∧ TogTo L k d ∧ d.length ≤ k ∧ (k = 0 → σ 3 = .nil)) L.length
    ⟨by simp, by simp, by simp, fun hpos => ?_, [], .inl (by simp), .inl ⟨rfl, rfl⟩, by simp, by simp⟩ ?_
  · obtain ⟨id0, g1, g2, g3⟩ := hO1.at_ (by simpa using hpos)
    exact ⟨id0, g1, by simpa using g2, by simpa using g3, by simp⟩
  rintro k σ hp nx hk ⟨h11, h12, h13, hv0, d, hO, hT, hdk, hk0⟩
  by_cases hlt : k < L.length
  · obtain ⟨id0, g1, rfl, g3, g4⟩ := hv0 (by omega)
    have hw : IntKind.i64.wrap ((k : Int) + 1) = (k : Int) + 1 := wrap_fit (by omega) (by omega)
    have hne0 : ¬ id0 = nx := by omega
    have hne1 : ¬ id0 = nx + 1 := by omega
    have hne2 : ¬ id0 = nx + 2 := by omega
    have hO' := hO.more (some ⟨36, 2, false, [encS L[k]]⟩)
    have hap := hO'.append1 (P := Tryz.prog) (t := 32) (c := encS L[k]) el32 sz36 by36 ze36 rfl (by omega) (by rw [List.length_map]; unfold maxLen; omega) (by rw [List.length_map]; omega)
    have hbs : ∀ hp nx, buildSliceA Tryz.prog hp nx 32 1 [(0, .agg (encS L[k]))] = some (.own nx 0 1, upd hp nx (some ⟨36, 2, true, [encS L[k]]⟩), nx + 1) := fun hp nx => by
      simp [buildSliceA, setElems, freezeParts]
    simp only [encS] at hap hbs
    rcases hT with ⟨rfl, rfl⟩ | ⟨d0, c, rfl, hT⟩
    · have hn : σ 3 = .nil := hk0 rfl
      have w1 : IntKind.i64.wrap 1 = 1 := wrap_fit (by omega) (by omega)
      rw [hn] at hap
      simp at hap
      simp [h11, h12, h13, hlt, g3, hn, hbs, hap, w1, hne0, hne1, hne2, killV]
      refine ⟨hlt, ⟨id0, by omega, rfl, ?_, by omega⟩, [L[0]], .inr ⟨nx + 1 + 1, by omega, by simp, by simp⟩, .inr ⟨[], L[0], rfl, (togL_first hlt).symm⟩, by simp⟩
      simp [g3, hne0, hne1, hne2]
    · obtain ⟨id, hid, h3, hh⟩ : ∃ id, id < nx ∧ σ 3 = .own id 0 (d0.length + 1) ∧ hp id = some ⟨36, 2, true, d0.map encS ++ [encS c]⟩ := by
        obtain ⟨id, q1, q2, q3⟩ := hO.at_ (by simp)
        exact ⟨id, q1, by simpa using q2, by simpa using q3⟩
      have hni : ¬ id = id0 := fun e => g4 _ (e ▸ h3)
      have hni' : ¬ id0 = id := fun e => hni e.symm
      have hi0 : ¬ id = nx := by omega
      have w1 : IntKind.i64.wrap (d0.length : Int) = d0.length := wrap_fit (by simp at hdk; omega) (by simp at hdk; omega)
      have w2 : (d0.length : Int) < d0.length + 1 := by omega
      have w3 : (0 : Int) < (d0.length : Int) + 1 := by omega
      simp at hdk
      rw [tog_drop hlt] at hT
      by_cases hc : L[k].1 ≤ c.2
      · rw [if_pos hc] at hT
        simp [h11, h12, h13, hlt, g3, h3, hh, hne0, hni, hni', hi0, w1, w2, w3, hc, hw]
        have hmx : (if c.2 < L[k].2 then L[k].2 else c.2) = max c.2 L[k].2 := by split <;> omega
        rw [hmx]
        refine ⟨hlt, fun _ => ⟨id0, by omega, rfl, by simp [g3, hne0, hni'], hni⟩, d0 ++ [(c.1, max c.2 L[k].2)], .inr ⟨id, by omega, by simp, by simp⟩, .inr ⟨d0, _, rfl, hT⟩, by simp; omega⟩
      · rw [if_neg hc] at hT
        rw [h3] at hap
        simp at hap
        simp [h11, h12, h13, hlt, g3, h3, hh, hne0, hni, hni', hi0, w1, w2, w3, hc, hw, hbs, hap]
        refine ⟨hlt, fun _ => ⟨id0, by omega, rfl, by simp [g3, hne0, hne1, hne2, hni', killV], by omega⟩, d0 ++ [c] ++ [L[k]], .inr ⟨nx + 1 + 1, by omega, by simp, by simp⟩, .inr ⟨d0 ++ [c], _, rfl, by rw [List.append_assoc]; exact hT⟩, by simp; omega⟩
  · obtain rfl : k = L.length := by omega
    have hd : d = togL L := by
      rcases hT with ⟨h0, rfl⟩ | ⟨d0, c, rfl, hT⟩
      · have : L = [] := List.length_eq_zero_iff.1 h0
        subst this; rfl
      · rw [List.drop_length, tog] at hT; exact hT
    rw [hd] at hO
    have := hO.freeze nx
    simp [h11, h12, h13, Tryz.f56]
    exact this
noncomputable def sorted (l : List Sp) : List Sp := by
  classical exact if h : Small l then (sortL_spans h).choose else []
theorem sorted_spec {l : List Sp} (h : Small l) : sortL cfS (l.map encS) = (sorted l).map encS ∧ (sorted l).Perm l ∧ (sorted l).Pairwise (fun a b => a.1 ≤ b.1) := by
  unfold sorted
  rw [dif_pos h]
  exact (sortL_spans h).choose_spec
theorem together_sound : SpecSound Tryz.prog 56 (hPure false [] (FP (fun l => .sl 2 ((togL (sorted l)).map encS)) fun l => Small l ∧ l.length ≤ 1048576)) :=
  pureG (fn := Tryz.f56) (good_of (q := []) mixed ⟨cloneS_sound, by simp, sortS_sound, by simp, trivial⟩ : AM.Good Ctg _) ⟨_, Tryz.func56, by kernel_rfl, rfl, by kernel_rfl⟩ false [] _ fun args r h w S vs hz => by
    obtain ⟨l, rfl, hx, rfl⟩ := specOf_inv h
    obtain ⟨u, rfl, hr⟩ := zip_one hz
    obtain ⟨y, hy, hr2⟩ := rep_slOf hr
    obtain ⟨r0, h1, h2⟩ := together_eval l (sorted l) hx.1 hx.2 (sorted_spec hx.1).1 y hy
    exact ⟨_, r0, .cons hr2 .nil, Nat.le_trans (Nat.le_refl 1) (by decide), h1, h2⟩
end Go.Proofs.YtfjeckcbnhohmaaGreatDoor
namespace Go.Proofs.YtfjeckcbnhohmaaGreatDoor
open Go.RowKit Go.AM Go.SpanLaw

/-- A list of spans that put makes: nil while there is none. -/
def OwnB (hp : Hp) (nx : Nat) (v : PV) (d : List Sp) : Prop := (v = .nil ∧ d = []) ∨ (d ≠ [] ∧ ∃ id, id < nx ∧ v = .own id 0 d.length ∧ hp id = blkS d)
theorem OwnB.freeze {hp : Hp} {nx : Nat} {v : PV} {d : List Sp} (h : OwnB hp nx v d) (nx' : Nat) : pureN (.sl 2 (d.map encS)) v hp nx' := by
  rcases h with ⟨rfl, rfl⟩ | ⟨hd, id, h1, rfl, h2⟩
  · exact (OwnS.nil hp nx 36 2).freeze nx'
  · have : OwnS hp nx 36 2 (.own id 0 d.length) (d.map encS) := .inr ⟨id, h1, by simp, by rw [h2, blkS, if_neg (by simpa using hd)]⟩
    exact this.freeze nx'
theorem putL_ne (d : List Sp) (f t : Int) : putL d f t ≠ [] := by
  unfold putL
  split
  · split <;> simp
  · simp
theorem putL_length (d : List Sp) (f t : Int) : (putL d f t).length ≤ d.length + 1 := by
  unfold putL
  split
  · split
    · simp
    · simp
  · simp
theorem put_call {hp : Hp} {nx : Nat} {v : PV} {d : List Sp} {f t : Int} (h : OwnB hp nx v d) (hl : d.length ≤ 100000) : ∃ v' hp' nx', hMove [] putM [v, int f, int t] hp nx = some (v', hp', nx') ∧ OwnB hp' nx' v' (putL d f t) := by
  have hne := putL_ne d f t
  have hb : blkS (putL d f t) = some ⟨36, 2, true, (putL d f t).map encS⟩ := by rw [blkS, if_neg (by simpa using hne)]
  have hq := putM_eq d f t hl
  rw [hb] at hq
  have hfz : ∀ hp, freezeVals hp [int f, int t] = some ([int f, int t], hp) := fun hp => by rfl
  rcases h with ⟨rfl, rfl⟩ | ⟨hd, id, h1, rfl, h2⟩
  · refine ⟨.own nx 0 (putL [] f t).length, upd hp nx (some ⟨36, 2, true, (putL [] f t).map encS⟩), nx + 1, ?_, .inr ⟨hne, nx, by omega, rfl, by rw [hb]; simp⟩⟩
    have hq : putM none [int f, int t] = _ := hq
    simp [hMove, hfz, normArgs, hq]
  · have hb0 : blkS d = some ⟨36, 2, true, d.map encS⟩ := by rw [blkS, if_neg (by simpa using hd)]
    rw [hb0] at hq h2
    refine ⟨.own nx 0 (putL d f t).length, upd (upd hp id none) nx (some ⟨36, 2, true, (putL d f t).map encS⟩), nx + 1, ?_, .inr ⟨hne, nx, by omega, rfl, by rw [hb]; simp⟩⟩
    simp [hMove, hfz, normArgs, hq, h2]
noncomputable abbrev Csw : Ctx := mkCtx Tryz.prog [(125, hPure false [] (FPN (fun l x => int (nextF x 100000 l)) fun l _ => l.length ≤ 100)), (126, hPure false [] (FPN (fun l x => boo (hasB l x)) fun l _ => l.length ≤ 100)), (127, hMove [] putM)]

set_option maxRecDepth 8000 in
theorem runion_eval (a b : List Sp) (ha : spFault a = 0) (hb : spFault b = 0) : ∃ d, Swept (fun k => mem a k ∨ mem b k) 100000 d ∧ ∃ r0, evalPure Csw Tryz.f129 [.sl 2 (a.map encS), .sl 2 (b.map encS)] = some r0 ∧ Stands r0 (.sl 2 (d.map encS)) := by
  obtain ⟨_, _, _, hla⟩ := spFault_right ha
  obtain ⟨_, _, _, hlb⟩ := spFault_right hb
  have hfin : ∀ {code}, Tryz.f129.body = some code → EvC Csw code ⟨startσ [.sl 2 (a.map encS), .sl 2 (b.map encS)], fun _ => none, 0⟩ (retK Csw.P Tryz.f129 (fun x hp nx => ∃ d, Swept (fun k => mem a k ∨ mem b k) 100000 d ∧ pureN (.sl 2 (d.map encS)) x hp nx)) → ∃ d, Swept (fun k => mem a k ∨ mem b k) 100000 d ∧ ∃ r0, evalPure Csw Tryz.f129 [.sl 2 (a.map encS), .sl 2 (b.map encS)] = some r0 ∧ Stands r0 (.sl 2 (d.map encS)) := by
    intro code hb h
    obtain ⟨x, hp', nx', h1, d, h2, r0, h3, h4⟩ := evalFunc_of hb h
    exact ⟨d, h2, r0, by unfold evalPure; simp only [h1]; exact h3, fun w S u hr => up_rep hr h4⟩
  refine hfin rfl ?_
  have n1 := fun l x hp nx h => FPN_call (fun l x => int (nextF x 100000 l)) (fun l _ => l.length ≤ 100) l x hp nx h
  have b1 := fun l x hp nx h => FPN_call (fun l x => boo (hasB l x)) (fun l _ => l.length ≤ 100) l x hp nx h
  simp
  refine EvC_loop (fun st => st.σ 0 = .sl 2 (a.map encS) ∧ st.σ 1 = .sl 2 (b.map encS) ∧ ∃ (at_ : Int) (d : List Sp), st.σ 6 = int at_ ∧ 0 ≤ at_ ∧ at_ ≤ 100000 ∧ OwnB st.hp st.nx (st.σ 5) d ∧ Swept (fun k => mem a k ∨ mem b k) at_ d ∧ (d.length : Int) ≤ at_)
    (fun st => (100000 - numAt (st.σ 6)).toNat) ⟨by simp, by simp, 0, [], by simp, by simp, by simp, .inl (by simp), swept_zero _, by simp⟩ ?_
  rintro ⟨σ, hp, nx⟩ ⟨h0, h1, at_, d, h6, hat, hat1, hO, hS, hdl⟩
  simp only at h0 h1 h6 hO
  by_cases hlt : at_ < 100000
  · obtain ⟨to, hto⟩ : ∃ to, (if nextF at_ 100000 b < nextF at_ 100000 a then nextF at_ 100000 b else nextF at_ 100000 a) = to := ⟨_, rfl⟩
    have g1 := nextF_gt (at_ := at_) (l := a) hlt
    have g2 := nextF_gt (at_ := at_) (l := b) hlt
    have g3 := nextF_le at_ a 100000
    have g4 := nextF_le at_ b 100000
    have t1 : at_ < to := by rw [← hto]; split <;> omega
    have t2 : to ≤ 100000 := by rw [← hto]; split <;> omega
    have t3 : to ≤ nextF at_ 100000 a := by rw [← hto]; split <;> omega
    have t4 : to ≤ nextF at_ 100000 b := by rw [← hto]; split <;> omega
    have hsame : ∀ k, at_ ≤ k → k < to → ((mem a k ∨ mem b k) ↔ (fun k => mem a k ∨ mem b k) at_) := fun k h1 h2 => by
      have e1 := nextF_same (l := a) (out := 100000) h1 (by omega)
      have e2 := nextF_same (l := b) (out := 100000) h1 (by omega)
      simp only [e1, e2]
    have hopb : (hasB a at_ || hasB b at_) = true ↔ (fun k => mem a k ∨ mem b k) at_ := by
      simp [hasB_mem, ← hasB_mem]
    by_cases hc : (fun k => mem a k ∨ mem b k) at_
    · obtain ⟨v', hp', nx', p1, p2⟩ := put_call hO (f := at_) (t := to) (by omega)
      have hpl : ((putL d at_ to).length : Int) ≤ to := by have := putL_length d at_ to; omega
      have hS' := swept_put hat hS t1 hsame hc
      have hcb := hopb.2 hc
      cases ca : hasB a at_ <;> cases cb : hasB b at_ <;> simp only [ca, cb] at hcb <;> simp at hcb
      all_goals simp [h0, h1, h6, hlt, n1 _ _ _ _ hla, n1 _ _ _ _ hlb, b1 _ _ _ _ hla, b1 _ _ _ _ hlb, hto, ca, cb, p1]
      all_goals exact ⟨⟨by omega, t2, putL d at_ to, p2, hS', hpl⟩, by omega⟩
    · have hS' := swept_skip hS t1 hsame hc
      have hcb : ¬ (hasB a at_ || hasB b at_) = true := fun h => hc (hopb.1 h)
      cases ca : hasB a at_ <;> cases cb : hasB b at_ <;> simp only [ca, cb] at hcb <;> simp at hcb
      all_goals simp [h0, h1, h6, hlt, n1 _ _ _ _ hla, n1 _ _ _ _ hlb, b1 _ _ _ _ hla, b1 _ _ _ _ hlb, hto, ca, cb]
      all_goals exact ⟨⟨by omega, t2, d, hO, hS', by omega⟩, by omega⟩
  · obtain rfl : at_ = 100000 := by omega
    simp [h0, h1, h6, Tryz.f129]
    exact ⟨d, hS, hO.freeze nx⟩

set_option maxRecDepth 8000 in
theorem rminus_eval (a b : List Sp) (ha : spFault a = 0) (hb : spFault b = 0) : ∃ d, Swept (fun k => mem a k ∧ ¬ mem b k) 100000 d ∧ ∃ r0, evalPure Csw Tryz.f79 [.sl 2 (a.map encS), .sl 2 (b.map encS)] = some r0 ∧ Stands r0 (.sl 2 (d.map encS)) := by
  obtain ⟨_, _, _, hla⟩ := spFault_right ha
  obtain ⟨_, _, _, hlb⟩ := spFault_right hb
  have hfin : ∀ {code}, Tryz.f79.body = some code → EvC Csw code ⟨startσ [.sl 2 (a.map encS), .sl 2 (b.map encS)], fun _ => none, 0⟩ (retK Csw.P Tryz.f79 (fun x hp nx => ∃ d, Swept (fun k => mem a k ∧ ¬ mem b k) 100000 d ∧ pureN (.sl 2 (d.map encS)) x hp nx)) → ∃ d, Swept (fun k => mem a k ∧ ¬ mem b k) 100000 d ∧ ∃ r0, evalPure Csw Tryz.f79 [.sl 2 (a.map encS), .sl 2 (b.map encS)] = some r0 ∧ Stands r0 (.sl 2 (d.map encS)) := by
    intro code hb h
    obtain ⟨x, hp', nx', h1, d, h2, r0, h3, h4⟩ := evalFunc_of hb h
    exact ⟨d, h2, r0, by unfold evalPure; simp only [h1]; exact h3, fun w S u hr => up_rep hr h4⟩
  refine hfin rfl ?_
  have n1 := fun l x hp nx h => FPN_call (fun l x => int (nextF x 100000 l)) (fun l _ => l.length ≤ 100) l x hp nx h
  have b1 := fun l x hp nx h => FPN_call (fun l x => boo (hasB l x)) (fun l _ => l.length ≤ 100) l x hp nx h
  simp
  refine EvC_loop (fun st => st.σ 0 = .sl 2 (a.map encS) ∧ st.σ 1 = .sl 2 (b.map encS) ∧ ∃ (at_ : Int) (d : List Sp), st.σ 6 = int at_ ∧ 0 ≤ at_ ∧ at_ ≤ 100000 ∧ OwnB st.hp st.nx (st.σ 5) d ∧ Swept (fun k => mem a k ∧ ¬ mem b k) at_ d ∧ (d.length : Int) ≤ at_)
    (fun st => (100000 - numAt (st.σ 6)).toNat) ⟨by simp, by simp, 0, [], by simp, by simp, by simp, .inl (by simp), swept_zero _, by simp⟩ ?_
  rintro ⟨σ, hp, nx⟩ ⟨h0, h1, at_, d, h6, hat, hat1, hO, hS, hdl⟩
  simp only at h0 h1 h6 hO
  by_cases hlt : at_ < 100000
  · obtain ⟨to, hto⟩ : ∃ to, (if nextF at_ 100000 b < nextF at_ 100000 a then nextF at_ 100000 b else nextF at_ 100000 a) = to := ⟨_, rfl⟩
    have g1 := nextF_gt (at_ := at_) (l := a) hlt
    have g2 := nextF_gt (at_ := at_) (l := b) hlt
    have g3 := nextF_le at_ a 100000
    have g4 := nextF_le at_ b 100000
    have t1 : at_ < to := by rw [← hto]; split <;> omega
    have t2 : to ≤ 100000 := by rw [← hto]; split <;> omega
    have t3 : to ≤ nextF at_ 100000 a := by rw [← hto]; split <;> omega
    have t4 : to ≤ nextF at_ 100000 b := by rw [← hto]; split <;> omega
    have hsame : ∀ k, at_ ≤ k → k < to → ((mem a k ∧ ¬ mem b k) ↔ (fun k => mem a k ∧ ¬ mem b k) at_) := fun k h1 h2 => by
      have e1 := nextF_same (l := a) (out := 100000) h1 (by omega)
      have e2 := nextF_same (l := b) (out := 100000) h1 (by omega)
      simp only [e1, e2]
    have hopb : (hasB a at_ && !hasB b at_) = true ↔ (fun k => mem a k ∧ ¬ mem b k) at_ := by
      simp [hasB_mem, ← hasB_mem]
    by_cases hc : (fun k => mem a k ∧ ¬ mem b k) at_
    · obtain ⟨v', hp', nx', p1, p2⟩ := put_call hO (f := at_) (t := to) (by omega)
      have hpl : ((putL d at_ to).length : Int) ≤ to := by have := putL_length d at_ to; omega
      have hS' := swept_put hat hS t1 hsame hc
      have hcb := hopb.2 hc
      cases ca : hasB a at_ <;> cases cb : hasB b at_ <;> simp only [ca, cb] at hcb <;> simp at hcb
      all_goals simp [h0, h1, h6, hlt, n1 _ _ _ _ hla, n1 _ _ _ _ hlb, b1 _ _ _ _ hla, b1 _ _ _ _ hlb, hto, ca, cb, p1]
      all_goals exact ⟨⟨by omega, t2, putL d at_ to, p2, hS', hpl⟩, by omega⟩
    · have hS' := swept_skip hS t1 hsame hc
      have hcb : ¬ (hasB a at_ && !hasB b at_) = true := fun h => hc (hopb.1 h)
      cases ca : hasB a at_ <;> cases cb : hasB b at_ <;> simp only [ca, cb] at hcb <;> simp at hcb
      all_goals simp [h0, h1, h6, hlt, n1 _ _ _ _ hla, n1 _ _ _ _ hlb, b1 _ _ _ _ hla, b1 _ _ _ _ hlb, hto, ca, cb]
      all_goals exact ⟨⟨by omega, t2, d, hO, hS', by omega⟩, by omega⟩
  · obtain rfl : at_ = 100000 := by omega
    simp [h0, h1, h6, Tryz.f79]
    exact ⟨d, hS, hO.freeze nx⟩
end Go.Proofs.YtfjeckcbnhohmaaGreatDoor
namespace Go.Proofs.YtfjeckcbnhohmaaGreatDoor
open Go.RowKit Go.AM Go.SpanLaw

theorem mem_perm {l m : List Sp} (h : l.Perm m) (k : Int) : mem l k ↔ mem m k := by
  unfold mem
  constructor
  · rintro ⟨s, hs, g⟩; exact ⟨s, h.mem_iff.1 hs, g⟩
  · rintro ⟨s, hs, g⟩; exact ⟨s, h.mem_iff.2 hs, g⟩
theorem sorted_of : ∀ {lo : Int} {m : List Sp}, (∀ s ∈ m, lo ≤ s.1 ∧ s.1 < s.2) → m.Pairwise (fun a b => a.1 ≤ b.1) → Sorted lo m
  | _, [], _, _ => trivial
  | lo, s :: m, h, hp => by
    rw [List.pairwise_cons] at hp
    exact ⟨(h s (by simp)).1, (h s (by simp)).2, sorted_of (fun x hx => ⟨hp.1 x hx, (h x (by simp [hx])).2⟩) hp.2⟩
noncomputable def uniL (a b : List Sp) : List Sp := togL (sorted (a ++ b))
theorem small_both {a b : List Sp} (ha : spFault a = 0) (hb : spFault b = 0) : Small (a ++ b) ∧ ∀ s ∈ a ++ b, 0 ≤ s.1 ∧ s.1 < s.2 ∧ s.2 ≤ 100000 := by
  obtain ⟨c1, b1, p1, _⟩ := spFault_right ha
  obtain ⟨c2, b2, p2, _⟩ := spFault_right hb
  have key : ∀ s ∈ a ++ b, 0 ≤ s.1 ∧ s.1 < s.2 ∧ s.2 ≤ 100000 := fun s hs => by
    rcases List.mem_append.1 hs with hs | hs
    · exact ⟨p1 s hs, canon_pos c1 s hs, b1 s hs⟩
    · exact ⟨p2 s hs, canon_pos c2 s hs, b2 s hs⟩
  exact ⟨fun s hs => by have := key s hs; omega, key⟩
theorem uniL_spec {a b : List Sp} (ha : spFault a = 0) (hb : spFault b = 0) : Canon (-1) (uniL a b) ∧ ∀ k, mem (uniL a b) k ↔ mem a k ∨ mem b k := by
  obtain ⟨h1, h2⟩ := small_both ha hb
  obtain ⟨_, s2, s3⟩ := sorted_spec h1
  have hs : Sorted 0 (sorted (a ++ b)) := sorted_of (fun s hs => by have := h2 s (s2.mem_iff.1 hs); exact ⟨this.1, this.2.1⟩) s3
  refine ⟨togL_canon (lo := -1) (by simpa using hs), fun k => ?_⟩
  rw [uniL, togL_mem hs, mem_perm s2, mem_append]
theorem mem_in {a : List Sp} (ha : spFault a = 0) {k : Int} (h : mem a k) : 0 ≤ k ∧ k < 100000 := by
  obtain ⟨_, b1, p1, _⟩ := spFault_right ha
  obtain ⟨s, hs, g1, g2⟩ := h
  have := b1 s hs
  have := p1 s hs
  omega
theorem runion_sound : SpecSound Tryz.prog 129 (hPure false [] (FPP (fun a b => .sl 2 ((uniL a b).map encS)) fun a b => spFault a = 0 ∧ spFault b = 0)) :=
  pureG (fn := Tryz.f129) (good_of (q := [126]) mixed ⟨next_sound, by simp, has_sound, fun _ => hPure_quiet _ _, put_sound, by simp, trivial⟩ : AM.Good Csw _) ⟨_, Tryz.func129, by kernel_rfl, rfl, by kernel_rfl⟩ false [] _ fun args r h w S vs hz => by
    obtain ⟨⟨a, b⟩, rfl, ⟨ha, hb⟩, rfl⟩ := specOf_inv h
    obtain ⟨d, hd, r0, h1, h2⟩ := runion_eval a b ha hb
    obtain ⟨u1, u2⟩ := uniL_spec ha hb
    have e : d = uniL a b := canon_eq hd.canon u1 fun k => by
      rw [hd.holds, u2]
      constructor
      · exact fun g => g.2.2
      · intro g
        have : 0 ≤ k ∧ k < 100000 := g.elim (mem_in ha) (mem_in hb)
        exact ⟨this.1, this.2, g⟩
    rw [e] at h2
    exact ⟨_, r0, hz, Nat.le_trans (Nat.le_refl 2) (by decide), h1, h2⟩
theorem rminus_sound : SpecSound Tryz.prog 79 (hPure false [] (FPP (fun a b => .sl 2 ((mins a b).map encS)) fun a b => spFault a = 0 ∧ spFault b = 0)) :=
  pureG (fn := Tryz.f79) (good_of (q := [126]) mixed ⟨next_sound, by simp, has_sound, fun _ => hPure_quiet _ _, put_sound, by simp, trivial⟩ : AM.Good Csw _) ⟨_, Tryz.func79, by kernel_rfl, rfl, by kernel_rfl⟩ false [] _ fun args r h w S vs hz => by
    obtain ⟨⟨a, b⟩, rfl, ⟨ha, hb⟩, rfl⟩ := specOf_inv h
    obtain ⟨d, hd, r0, h1, h2⟩ := rminus_eval a b ha hb
    obtain ⟨c1, _⟩ := spFault_right ha
    obtain ⟨c2, _⟩ := spFault_right hb
    have e : d = mins a b := canon_eq hd.canon (mins_canon c1 c2) fun k => by
      rw [hd.holds, mins_mem c1 c2]
      constructor
      · exact fun g => g.2.2
      · intro g
        have : 0 ≤ k ∧ k < 100000 := mem_in ha g.1
        exact ⟨this.1, this.2, g⟩
    rw [e] at h2
    exact ⟨_, r0, hz, Nat.le_trans (Nat.le_refl 2) (by decide), h1, h2⟩
noncomputable def uniR (a b : List Sp) : List Sp × Int := if bothF a b = 0 then limR (uniL a b) else ([], bothF a b)
def minR (a b : List Sp) : List Sp × Int := if bothF a b = 0 then limR (mins a b) else ([], bothF a b)
theorem bothF_zero {a b : List Sp} (h : bothF a b = 0) : spFault a = 0 ∧ spFault b = 0 := by
  unfold bothF at h
  split at h
  · exact ⟨by assumption, h⟩
  · contradiction
theorem concat_call {a b : List Sp} (ha : a.length ≤ 100) (hb : b.length ≤ 100) {hp : Hp} {nx id e : Nat} (h : hp id = some ⟨e, 1, true, [[.sl 2 (a.map encS)], [.sl 2 (b.map encS)]]⟩) :
    hPure true [] catF [.own id 0 2] hp nx = some (.sl 2 ((a ++ b).map encS), upd hp id none, nx) := by
  have hf : catF [.sl 1 [[.sl 2 (a.map encS)], [.sl 2 (b.map encS)]]] = some (.sl 2 ((a ++ b).map encS)) :=
    by unfold catF FCat; exact specOf_eq (enc := fun a : List Sp × List Sp => [PV.sl 1 [[.sl 2 (a.1.map encS)], [.sl 2 (a.2.map encS)]]]) (a := (a, b)) (fun a b e => by
      obtain ⟨a1, a2⟩ := a; obtain ⟨b1, b2⟩ := b
      simp only [List.cons.injEq, and_true, PV.sl.injEq, true_and] at e
      rw [spans_inj (congrArg (PV.sl 2) e.1), spans_inj (congrArg (PV.sl 2) e.2)]) ⟨ha, hb⟩
  simp [hPure, freezeVals, freezeVal, freezeCell, h, normArgs, hf, PV.flat, PV.noOwn, -List.map_append]

noncomputable abbrev CMinus : Ctx := mkCtx Tryz.prog [(27, hPure false [] (FPP (fun a b => int (bothF a b)) fun _ _ => True)), (28, hPure false [] (FPP (fun a b => .sl 2 ((mins a b).map encS)) fun a b => spFault a = 0 ∧ spFault b = 0)), (25, hPure false [] (FP (fun l => spTup (limR l)) fun _ => True))]
set_option maxRecDepth 8000 in
theorem Minus_eval (a b : List Sp) : ∃ r0, evalPure CMinus Tryz.f9 [.sl 2 (a.map encS), .sl 2 (b.map encS)] = some r0 ∧ Stands r0 (spTup (minR a b)) := by
  have c1 := fun hp nx => FPP_call (fun a b => int (bothF a b)) (fun _ _ => True) a b hp nx trivial
  refine evalPureU_of rfl ?_
  unfold minR
  by_cases hf : bothF a b = 0
  · obtain ⟨ha, hb⟩ := bothF_zero hf
    obtain ⟨_, _, _, hla⟩ := spFault_right ha
    obtain ⟨_, _, _, hlb⟩ := spFault_right hb
    have c3 : ∀ l hp nx, hPure false [] (FP (fun l => spTup (limR l)) (fun _ => True)) [.sl 2 (l.map encS)] hp nx = some (.tup [.sl 2 ((limR l).1.map encS), int (limR l).2], hp, nx) := fun l hp nx => FP_call (fun l => spTup (limR l)) (fun _ => True) l hp nx trivial
    rw [if_pos hf]
    have c2 := fun hp nx => FPP_call (fun a b => .sl 2 ((mins a b).map encS)) (fun a b => spFault a = 0 ∧ spFault b = 0) a b hp nx ⟨ha, hb⟩
    simp [c1, c2, c3, hf, Tryz.f9]
    exact ⟨spTup (limR (mins a b)), by simp [spTup], .refl _⟩
  · have hf' : (bothF a b != 0) = true := by simpa using hf
    rw [if_neg hf]
    simp [c1, hf', Tryz.f9]
    exact ⟨_, by simp, stands_nilS (bothF a b)⟩
theorem Minus_sound : SpecSound Tryz.prog 9 (hPure false [] (FPP (fun a b => spTup (minR a b)) fun _ _ => True)) :=
  pureG (fn := Tryz.f9) (good_of (q := []) mixed ⟨checkBoth_sound, by simp, minus_sound, by simp, limited_sound, by simp, trivial⟩ : AM.Good CMinus _) ⟨_, Tryz.func9, by kernel_rfl, rfl, by kernel_rfl⟩ false [] _ fun args r h w S vs hz => by
    obtain ⟨⟨a, b⟩, rfl, _, rfl⟩ := specOf_inv h
    obtain ⟨r0, h1, h2⟩ := Minus_eval a b
    exact ⟨_, r0, hz, Nat.le_trans (Nat.le_refl 2) (by decide), h1, h2⟩

end Go.Proofs.YtfjeckcbnhohmaaGreatDoor
namespace Go.Proofs.YtfjeckcbnhohmaaGreatDoor
open Go.RowKit Go.AM Go.SpanLaw

/-! ### slices.Equal -/
theorem eqS_drop {a b : List Sp} {k : Nat} (ha : k < a.length) (hb : k < b.length) : decide (a.drop k = b.drop k) = (decide (a[k] = b[k]) && decide (a.drop (k + 1) = b.drop (k + 1))) := by
  rw [List.drop_eq_getElem_cons ha, List.drop_eq_getElem_cons hb, ← Bool.decide_and]
  congr 1
  simp only [List.cons.injEq]
theorem binS (x y u v : Int) : binA Tryz.prog .neq 36 (.agg [int x, int y]) (.agg [int u, int v]) = some (boo (!(decide (x = u) && decide (y = v)))) := by
  simp only [binA, fl36, eqCells, if_true, Option.map_some, Bool.and_true]
  rfl
theorem sp_ext {a b : Sp} : decide (a = b) = (decide (a.1 = b.1) && decide (a.2 = b.2)) := by
  simp [Prod.ext_iff]
set_option maxRecDepth 8000 in
theorem equalS_eval (a b : List Sp) (ha : a.length ≤ lim) : evalPure C0 Tryz.f10 [.sl 2 (a.map encS), .sl 2 (b.map encS)] = some (boo (decide (a = b))) := by
  unfold lim at ha
  refine evalPure_of rfl ?_
  by_cases hl : a.length = b.length
  case neg =>
    have hl' : ((a.length : Int) != (b.length : Int)) = true := by simp; omega
    have hne : ¬ a = b := fun e => hl (by rw [e])
    simp [hl', hne, Tryz.f10]
  have hl' : ((a.length : Int) != (b.length : Int)) = false := by simp [hl]
  simp [hl']
  refine EvC_for (fun k σ hp nx => σ 0 = .sl 2 (a.map encS) ∧ σ 1 = .sl 2 (b.map encS) ∧ σ 12 = int a.length ∧ σ 13 = int k ∧ decide (a = b) = decide (a.drop k = b.drop k)) a.length
    ⟨by simp, by simp, by simp, by simp, by simp⟩ ?_
  rintro k σ hp nx hk ⟨h0, h1, h12, h13, hf⟩
  by_cases hlt : k < a.length
  · have hlt' : k < b.length := by omega
    have hw : IntKind.i64.wrap ((k : Int) + 1) = (k : Int) + 1 := wrap_fit (by omega) (by omega)
    rw [eqS_drop hlt hlt', sp_ext] at hf
    by_cases d1 : a[k].1 = b[k].1 <;> by_cases d2 : a[k].2 = b[k].2 <;> simp only [d1, d2, decide_true, decide_false, Bool.and_true, Bool.true_and, Bool.and_false, Bool.false_and] at hf
    · simp [h0, h1, h12, h13, hlt, hlt', d1, d2, hw, binS]
      exact ⟨hlt, by simpa using hf⟩
    all_goals simp [h0, h1, h12, h13, hlt, hlt', d1, d2, hf, binS, Tryz.f10]
  · obtain rfl : k = a.length := by omega
    rw [List.drop_length, hl, List.drop_length] at hf
    simp [h0, h1, h12, h13, hf, Tryz.f10]
theorem equalS_sound : SpecSound Tryz.prog 10 (hPure false [] (FPP (fun a b => boo (decide (a = b))) fun a _ => a.length ≤ lim)) :=
  pureS (fn := Tryz.f10) good0 ⟨_, Tryz.func10, by kernel_rfl, rfl, by kernel_rfl⟩ false [] _ fun args r h => by
    obtain ⟨⟨a, b⟩, rfl, hx, rfl⟩ := specOf_inv h
    exact ⟨Nat.le_trans (Nat.le_refl 2) (by decide), _, equalS_eval a b hx, up_of _⟩

/-! ### what is right is found so -/
theorem spF_of : ∀ {l : List Sp} {p : Option Int}, -1 ≤ p.getD (-1) → Canon (p.getD (-1)) l → Below 100000 l → spF p l = 0
  | [], _, _, _, _ => rfl
  | s :: l, p, h0, hc, hb => by
    have h1 := hc.1
    have h2 := hc.2.1
    have h3 := hb s (by simp)
    have r1 : spR s = false := by
      simp only [spR, inB, Bool.or_eq_false_iff, Bool.not_eq_false', Bool.and_eq_true, decide_eq_true_eq, decide_eq_false_iff_not]
      omega
    have r2 : spO p s = false := by
      simp only [spO, Bool.or_eq_false_iff, decide_eq_false_iff_not]
      refine ⟨by omega, ?_⟩
      cases p with
      | none => rfl
      | some q => simp at h1; simp; omega
    rw [spF, r1, r2]
    simp only [Bool.false_eq_true, if_false]
    exact spF_of (p := some s.2) (by simp; omega) hc.2.2 (fun x hx => hb x (by simp [hx]))
theorem spFault_of {l : List Sp} (hc : Canon (-1) l) (hb : Below 100000 l) (hl : l.length ≤ 100) : spFault l = 0 := by
  unfold spFault
  rw [if_neg (by omega)]
  exact spF_of (p := none) (by simp) hc hb
theorem below_of : ∀ {lo : Int} {l : List Sp}, Canon lo l → (∀ k, mem l k → k < 100000) → Below 100000 l := fun {lo l} hc h s hs => by
  have := canon_pos hc s hs
  have := h (s.2 - 1) ⟨s, hs, by omega, by omega⟩
  omega
theorem uniL_comm {a b : List Sp} (ha : spFault a = 0) (hb : spFault b = 0) : uniL a b = uniL b a :=
  canon_eq (uniL_spec ha hb).1 (uniL_spec hb ha).1 fun k => by rw [(uniL_spec ha hb).2, (uniL_spec hb ha).2]; exact Or.comm
theorem uniL_below {a b : List Sp} (ha : spFault a = 0) (hb : spFault b = 0) : Below 100000 (uniL a b) :=
  below_of (uniL_spec ha hb).1 fun k hk => (((uniL_spec ha hb).2 k).1 hk).elim (fun h => (mem_in ha h).2) (fun h => (mem_in hb h).2)
theorem mins_below {a b : List Sp} (ha : spFault a = 0) (hb : spFault b = 0) : Below 100000 (mins a b) :=
  below_of (mins_canon (spFault_right ha).1 (spFault_right hb).1) fun k hk => (mem_in ha ((mins_mem (spFault_right ha).1 (spFault_right hb).1).1 hk).1).2
theorem uniR_cases (a b : List Sp) : (uniR a b).2 ≠ 0 ∧ (uniR a b).1 = [] ∨ spFault a = 0 ∧ spFault b = 0 ∧ (uniL a b).length ≤ 100 ∧ uniR a b = (uniL a b, 0) := by
  unfold uniR
  split
  · rename_i h
    obtain ⟨ha, hb⟩ := bothF_zero h
    unfold limR
    split
    · exact .inl ⟨by simp, rfl⟩
    · exact .inr ⟨ha, hb, by omega, rfl⟩
  · rename_i h
    exact .inl ⟨h, rfl⟩
theorem minR_cases (a b : List Sp) (ha : spFault a = 0) (hb : spFault b = 0) : minR a b = ([], 2) ∨ (mins a b).length ≤ 100 ∧ minR a b = (mins a b, 0) := by
  have h : bothF a b = 0 := by unfold bothF; rw [if_pos ha]; exact hb
  unfold minR limR
  rw [if_pos h]
  split
  · exact .inl rfl
  · exact .inr ⟨by omega, rfl⟩
end Go.Proofs.YtfjeckcbnhohmaaGreatDoor
namespace Go.Proofs.YtfjeckcbnhohmaaGreatDoor
open Go.RowKit Go.AM Go.SpanLaw
structure Lyr where
  name : List UInt8
  salt : List UInt8
  rest : Int
def Lyr.enc (x : Lyr) : List PV := [str x.name, str x.salt, int x.rest]
theorem lyr_inj {a b : Lyr} (h : a.enc = b.enc) : a = b := by
  cases a; cases b
  simp only [Lyr.enc, List.cons.injEq, and_true] at h
  rw [str_inj h.1, str_inj h.2.1, pint_inj h.2.2]
structure Hld where
  name : List UInt8
  salt : List UInt8
  buckets : Int
  layers : List (List UInt8)
def Hld.enc (x : Hld) : List PV := [str x.name, str x.salt, int x.buckets, .sl 1 (encT x.layers)]
theorem hld_inj {a b : Hld} (h : a.enc = b.enc) : a = b := by
  cases a; cases b
  simp only [Hld.enc, List.cons.injEq, and_true] at h
  obtain ⟨h1, h2, h3, h4⟩ := h
  injection h4 with _ h4
  rw [str_inj h1, str_inj h2, pint_inj h3, encT_inj h4]
structure Phs where
  at_ : Int
  spans : List Sp
def Phs.enc (x : Phs) : List PV := [int x.at_, .sl 2 (x.spans.map encS)]
theorem phs_inj {a b : Phs} (h : a.enc = b.enc) : a = b := by
  cases a; cases b
  simp only [Phs.enc, List.cons.injEq, and_true] at h
  rw [pint_inj h.1, spans_inj h.2]
structure Xp where
  name : List UInt8
  layer : List UInt8
  flag : List UInt8
  cond : Cnd
  salt : List UInt8
  arms : List Rg
  phases : List Phs
def Xp.enc (x : Xp) : List PV := [str x.name, str x.layer, str x.flag] ++ x.cond.enc ++ [str x.salt, .sl 3 (x.arms.map encG), .sl 2 (x.phases.map Phs.enc)]
theorem xp_enc (x : Xp) : x.enc = [str x.name, str x.layer, str x.flag, int x.cond.kind, str x.cond.attr, int x.cond.op, .sl 5 (x.cond.vals.map Val.enc), str x.cond.pat, str x.cond.name, .sl 7 (x.cond.args.map Cnd.enc), str x.salt, .sl 3 (x.arms.map encG), .sl 2 (x.phases.map Phs.enc)] := by
  unfold Xp.enc
  rw [cenc_eq]
  rfl
theorem xp_inj {a b : Xp} (h : a.enc = b.enc) : a = b := by
  have hc : a.cond.enc = b.cond.enc := by
    rw [xp_enc, xp_enc] at h
    simp only [List.cons.injEq, and_true] at h
    rw [cenc_eq, cenc_eq]
    simp only [List.cons.injEq, and_true]
    exact ⟨h.2.2.2.1, h.2.2.2.2.1, h.2.2.2.2.2.1, h.2.2.2.2.2.2.1, h.2.2.2.2.2.2.2.1, h.2.2.2.2.2.2.2.2.1, h.2.2.2.2.2.2.2.2.2.1⟩
  have hc' := cenc_inj hc
  rw [xp_enc, xp_enc] at h
  simp only [List.cons.injEq, and_true] at h
  obtain ⟨h1, h2, h3, _, _, _, _, _, _, _, h4, h5, h6⟩ := h
  cases a; cases b
  simp only at *
  injection h6 with _ h6
  rw [str_inj h1, str_inj h2, str_inj h3, hc', str_inj h4, ranges_inj h5, map_inj (fun _ _ => phs_inj) h6]
structure Bk where
  layers : List Lyr
  holds : List Hld
  exps : List Xp
def Bk.enc (b : Bk) : List PV := [.sl 3 (b.layers.map Lyr.enc), .sl 4 (b.holds.map Hld.enc), .sl 13 (b.exps.map Xp.enc)]
theorem bk_inj {a b : Bk} (h : a.enc = b.enc) : a = b := by
  cases a; cases b
  simp only [Bk.enc, List.cons.injEq, and_true] at h
  obtain ⟨h1, h2, h3⟩ := h
  injection h1 with _ h1
  injection h2 with _ h2
  injection h3 with _ h3
  rw [map_inj (fun _ _ => lyr_inj) h1, map_inj (fun _ _ => hld_inj) h2, map_inj (fun _ _ => xp_inj) h3]
/-! ### how much they hold -/
def sumB {α : Type} (f : α → Nat) (l : List α) : Nat := (l.map f).sum
theorem sumB_mem {α : Type} {f : α → Nat} : ∀ {l : List α} {x : α}, x ∈ l → f x ≤ sumB f l
  | y :: l, x, h => by
    simp only [sumB, List.map_cons, List.sum_cons]
    rcases List.mem_cons.1 h with rfl | h
    · omega
    · have := sumB_mem (f := f) h; simp only [sumB] at this; omega
theorem sumB_len {α : Type} {f : α → Nat} (hf : ∀ x, 1 ≤ f x) : ∀ l : List α, l.length ≤ sumB f l
  | [] => by simp
  | y :: l => by
    have := sumB_len hf l
    have := hf y
    simp only [sumB, List.map_cons, List.sum_cons, List.length_cons] at *
    omega
def Lyr.cb (x : Lyr) : Nat := 1 + x.name.length + x.salt.length
def Hld.cb (x : Hld) : Nat := 1 + x.name.length + x.salt.length + sumB (fun s => 1 + s.length) x.layers
def Phs.cb (x : Phs) : Nat := 1 + x.spans.length
def Xp.cb (x : Xp) : Nat := x.name.length + x.layer.length + x.flag.length + x.cond.cb + x.salt.length + x.arms.length + sumB Phs.cb x.phases
def Bk.cb (b : Bk) : Nat := sumB Lyr.cb b.layers + sumB Hld.cb b.holds + sumB Xp.cb b.exps
theorem lyr_pos (x : Lyr) : 1 ≤ x.cb := by unfold Lyr.cb; omega
theorem hld_pos (x : Hld) : 1 ≤ x.cb := by unfold Hld.cb; omega
theorem phs_pos (x : Phs) : 1 ≤ x.cb := by unfold Phs.cb; omega
theorem xp_pos (x : Xp) : 1 ≤ x.cb := by have := cb_pos x.cond; unfold Xp.cb; omega
end Go.Proofs.YtfjeckcbnhohmaaGreatDoor
