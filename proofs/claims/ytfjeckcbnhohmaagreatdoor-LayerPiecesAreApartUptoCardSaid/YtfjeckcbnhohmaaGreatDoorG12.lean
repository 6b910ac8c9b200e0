/-
  slices.SortFunc at cuts off the kit's shelf, at this program (turned from the text for spans).
  combine.
  Copies of versions and stretches.
  Plain law: what is read of a range is right, and small.
-/
import Derived.Shelf.SlSortCmp.WholeK
import Derived.Shelf.SlSortCmp.NoneTotal
import Derived.Test.YtfjeckcbnhohmaaGreatDoorProg
import Derived.Test.YtfjeckcbnhohmaaGreatDoorG11
import Derived.Test.YtfjeckcbnhohmaaGreatDoorG6
import Derived.Test.YtfjeckcbnhohmaaGreatDoorG8
namespace Go.Proofs
open Go.Shelf
def Tryz.sortC_ren : Go.Shelf.Ren := ⟨fun | 6 => 221 | 15 => 53 | 14 => 272 | 28 => 97 | 29 => 98 | 20 => 311 | 21 => 312 | 22 => 313 | 23 => 314 | 24 => 315 | 25 => 316 | 26 => 317 | 27 => 318 | 46 => 344 | 47 => 137 | 48 => 138 | 49 => 345 | 50 => 346 | 57 => 359 | n => n, fun | 22 => 255 | 24 => 206 | 25 => 258 | 3 => 3 | 39 => 95 | 0 => 0 | 53 => 137 | 55 => 139 | 4 => 4 | 46 => 131 | 45 => 130 | 50 => 89 | 5 => 5 | 9 => 9 | 66 => 168 | 70 => 172 | 76 => 226 | 77 => 74 | n => n, fun | n => n⟩
theorem Tryz.sortC : Go.Proofs.SlLaysF0.n6 Tryz.prog Tryz.sortC_ren := {
  mixed := by kernel_rfl
  f6 := ⟨Tryz.f221.name, by decide, Tryz.func221.trans (congrArg some (by kernel_rfl))⟩
  f14 := ⟨Tryz.f272.name, by decide, Tryz.func272.trans (congrArg some (by kernel_rfl))⟩
  f15 := Tryz.func53.trans (congrArg some (by kernel_rfl))
  f20 := ⟨Tryz.f311.name, by decide, Tryz.func311.trans (congrArg some (by kernel_rfl))⟩
  f21 := ⟨Tryz.f312.name, by decide, Tryz.func312.trans (congrArg some (by kernel_rfl))⟩
  f22 := ⟨Tryz.f313.name, by decide, Tryz.func313.trans (congrArg some (by kernel_rfl))⟩
  f23 := ⟨Tryz.f314.name, by decide, Tryz.func314.trans (congrArg some (by kernel_rfl))⟩
  f24 := ⟨Tryz.f315.name, by decide, Tryz.func315.trans (congrArg some (by kernel_rfl))⟩
  f25 := ⟨Tryz.f316.name, by decide, Tryz.func316.trans (congrArg some (by kernel_rfl))⟩
  f26 := ⟨Tryz.f317.name, by decide, Tryz.func317.trans (congrArg some (by kernel_rfl))⟩
  f27 := ⟨Tryz.f318.name, by decide, Tryz.func318.trans (congrArg some (by kernel_rfl))⟩
  f28 := Tryz.func97.trans (congrArg some (by kernel_rfl))
  f29 := Tryz.func98.trans (congrArg some (by kernel_rfl))
  f46 := ⟨Tryz.f344.name, by decide, Tryz.func344.trans (congrArg some (by kernel_rfl))⟩
  f47 := Tryz.func137.trans (congrArg some (by kernel_rfl))
  f48 := Tryz.func138.trans (congrArg some (by kernel_rfl))
  f49 := ⟨Tryz.f345.name, by decide, Tryz.func345.trans (congrArg some (by kernel_rfl))⟩
  f50 := ⟨Tryz.f346.name, by decide, Tryz.func346.trans (congrArg some (by kernel_rfl))⟩
  f57 := ⟨Tryz.f359.name, by decide, Tryz.func359.trans (congrArg some (by kernel_rfl))⟩
  t0 := Tryz.underlying0
  a0 := Tryz.isAgg0
  z0 := Tryz.sizeOf0
  v0 := Tryz.zeroValue0
  t3 := Tryz.underlying3
  a3 := Tryz.isAgg3
  z3 := Tryz.sizeOf3
  v3 := Tryz.zeroValue3
  t4 := Tryz.underlying4
  a4 := Tryz.isAgg4
  z4 := Tryz.sizeOf4
  v4 := Tryz.zeroValue4
  t5 := Tryz.underlying5
  a5 := Tryz.isAgg5
  z5 := Tryz.sizeOf5
  v5 := Tryz.zeroValue5
  t9 := Tryz.underlying9
  a9 := Tryz.isAgg9
  z9 := Tryz.sizeOf9
  v9 := Tryz.zeroValue9
  t22 := Tryz.underlying255
  a22 := Tryz.isAgg255
  z22 := Tryz.sizeOf255
  v22 := Tryz.zeroValue255
  t25 := Tryz.underlying258
  a25 := Tryz.isAgg258
  z25 := Tryz.sizeOf258
  v25 := Tryz.zeroValue258
  t39 := Tryz.underlying95
  a39 := Tryz.isAgg95
  z39 := Tryz.sizeOf95
  v39 := Tryz.zeroValue95
  t45 := Tryz.underlying130
  a45 := Tryz.isAgg130
  z45 := Tryz.sizeOf130
  v45 := Tryz.zeroValue130
  t46 := Tryz.underlying131
  a46 := Tryz.isAgg131
  z46 := Tryz.sizeOf131
  v46 := Tryz.zeroValue131
  t50 := Tryz.underlying89
  a50 := Tryz.isAgg89
  z50 := Tryz.sizeOf89
  v50 := Tryz.zeroValue89
  t53 := Tryz.underlying137
  a53 := Tryz.isAgg137
  z53 := Tryz.sizeOf137
  v53 := Tryz.zeroValue137
  t55 := Tryz.underlying139
  a55 := Tryz.isAgg139
  z55 := Tryz.sizeOf139
  v55 := Tryz.zeroValue139
  t66 := Tryz.underlying168
  a66 := Tryz.isAgg168
  z66 := Tryz.sizeOf168
  v66 := Tryz.zeroValue168
  t70 := Tryz.underlying172
  a70 := Tryz.isAgg172
  z70 := Tryz.sizeOf172
  v70 := Tryz.zeroValue172
  t76 := Tryz.underlying226
  a76 := Tryz.isAgg226
  z76 := Tryz.sizeOf226
  v76 := Tryz.zeroValue226
  t77 := Tryz.underlying74
  a77 := Tryz.isAgg74
  z77 := Tryz.sizeOf74
  v77 := Tryz.zeroValue74 }

open Go.AM
theorem Tryz.sortC_ok : SortOk Tryz.prog 221 5 := ⟨fun _ _ enc hk h1 cf hO g blk off cap d w eg hcmp hH hblk hsz => AnyQ.slices_SortFunc_eq Tryz.sortC 5 Tryz.isAgg206 Tryz.sizeOf206 enc hk h1 cf hO g #[] blk off cap d w eg hcmp hH hblk hsz,
  fun p cap fv w => AnyF.slices_SortFunc_none Tryz.sortC p cap fv w⟩
end Go.Proofs
namespace Go.Proofs.YtfjeckcbnhohmaaGreatDoor
open Go.RowKit Go.AM
theorem sortCuts_sound : SpecSound Tryz.prog 221 (hSort 5 222 cfC domC) :=
  hSort_sound (by decide) ⟨_, Tryz.func221, by kernel_rfl, by kernel_rfl⟩ Tryz.sortC_ok cmpOkC
/-- Two bools. -/
noncomputable def FBB (f : Bool → Bool → Bool) : List PV → Option PV := specOf (α := Bool × Bool) (fun a => [boo a.1, boo a.2]) (fun _ => True) (fun a => boo (f a.1 a.2))
theorem FBB_call (f : Bool → Bool → Bool) (a b : Bool) (hp : Hp) (nx : Nat) : hPure false [] (FBB f) [boo a, boo b] hp nx = some (boo (f a b), hp, nx) :=
  hPure_v rfl (specOf_eq (enc := fun a : Bool × Bool => [boo a.1, boo a.2]) (a := (a, b)) (fun x y e => by
    obtain ⟨x1, x2⟩ := x
    obtain ⟨y1, y2⟩ := y
    simp only [List.cons.injEq, and_true] at e
    rw [pbool_inj e.1, pbool_inj e.2]) trivial) (.inl rfl)
set_option maxRecDepth 4000 in
theorem rrAnd_sound : SpecSound Tryz.prog 158 (hPure false [] (FBB and)) :=
  pureS (fn := Tryz.f158) good0 ⟨_, Tryz.func158, by kernel_rfl, rfl, by kernel_rfl⟩ false [] _ fun args r h => by
    obtain ⟨⟨a, b⟩, rfl, _, rfl⟩ := specOf_inv h
    exact ⟨by simp [Tryz.f158], _, evalPure_of rfl (by cases a <;> simp [pureR, Tryz.f158]), up_of _⟩
set_option maxRecDepth 4000 in
theorem rrOr_sound : SpecSound Tryz.prog 159 (hPure false [] (FBB or)) :=
  pureS (fn := Tryz.f159) good0 ⟨_, Tryz.func159, by kernel_rfl, rfl, by kernel_rfl⟩ false [] _ fun args r h => by
    obtain ⟨⟨a, b⟩, rfl, _, rfl⟩ := specOf_inv h
    exact ⟨by simp [Tryz.f159], _, evalPure_of rfl (by cases a <;> simp [pureR, Tryz.f159]), up_of _⟩

/-- The row of cuts, sorted in place. -/
theorem sortCuts_call {hp : Hp} {nx : Nat} {v : PV} {l : List Cut} (h : OwnS hp nx 206 5 v (encCs l)) (hs : ∀ c ∈ l, c.v.small) (hl : l.length < 4611686018427387904) :
    ∃ hp', hSort 5 222 cfC domC [v, .fn (.func 222) [] []] hp nx = some (.tup [], hp', nx) ∧ OwnS hp' nx 206 5 v (encCs (sortCu l)) ∧ ∀ j, (∀ n, v ≠ .own j 0 n) → hp' j = hp j := by
  have hlen : (encCs (sortCu l)).length = (encCs l).length := by
    have := (sortCu_perm l).length_eq
    simpa [encCs] using this
  rcases h with ⟨rfl, he⟩ | ⟨id, h1, rfl, h2⟩
  · refine ⟨hp, rfl, .inl ⟨rfl, ?_⟩, fun _ _ => rfl⟩
    rw [he] at hlen
    exact List.length_eq_zero_iff.1 hlen
  · by_cases h0 : (encCs l).length = 0
    · refine ⟨hp, by simp only [hSort, if_pos h0], ?_, fun _ _ => rfl⟩
      have e1 : encCs l = [] := List.length_eq_zero_iff.1 h0
      rw [e1] at hlen h2
      have e2 := List.length_eq_zero_iff.1 hlen
      rw [e1, e2]
      exact .inr ⟨id, h1, rfl, h2⟩
    · refine ⟨upd hp id (some ⟨206, 5, true, encCs (sortCu l)⟩), ?_, .inr ⟨id, h1, by rw [hlen], by simp⟩, fun j hj => upd_miss _ _ _ _ fun e => hj (encCs l).length (by subst e; rfl)⟩
      unfold hSort
      simp only [if_neg h0, h2]
      rw [if_pos ⟨rfl, rfl, rfl, by simp, by simpa [encCs] using hl, by simpa using weakC l, fun x hx => by
        simp only [List.drop_zero, List.take_length] at hx
        obtain ⟨c, hc, rfl⟩ := List.mem_map.1 hx
        exact ⟨c, rfl, hs c hc⟩⟩]
      simp [sortCu_enc]
/-- A stretch as combine lays it. -/
theorem row_cells {c : List PV} {s : Str} (h : fixC spat c = s.enc) : ∃ x3 x5 x6 x7 x8 x9 x10, c = [int s.lo.v.a, int s.lo.v.b, int s.lo.v.c, x3, boo s.lo.after, x5, x6, x7, x8, x9, x10] ∧ n1 1 x3 = .sl 1 (encT s.lo.v.pre) ∧ x3.isCell = true := by
  have hl := fixC_length spat c
  rw [h] at hl
  simp [Str.enc, Cut.enc] at hl
  match c, hl with
  | [c0, c1, c2, c3, c4, c5, c6, c7, c8, c9, c10], _ =>
    simp [Str.enc, Cut.enc] at h
    obtain ⟨h0, h1, h2, h3, h4, h5, h6, h7, h8, h9, h10⟩ := h
    subst h0; subst h1; subst h2; subst h4
    refine ⟨c3, c5, c6, c7, c8, c9, c10, rfl, h3, ?_⟩
    cases c3 <;> first | rfl | (simp [n1] at h3)
theorem setLast_set {out : List Str} {m : Nat} (hm : m < out.length) (he : out.length = m + 1) (c : Cut) : setLast out c = out.set m ⟨out[m].lo, c, false⟩ := by
  unfold setLast
  have h0 : out ≠ [] := by rintro rfl; simp at hm
  rw [List.getLast?_eq_some_getLast h0]
  have h1 : out.getLast h0 = out[m] := by
    rw [List.getLast_eq_getElem]
    congr 1
    omega
  simp only [h1]
  apply List.ext_getElem
  · simp; omega
  · intro i hi hi'
    rw [List.getElem_set]
    split
    · rename_i e
      subst e
      rw [List.getElem_append_right (by simp; omega)]
      simp
    · rw [List.getElem_append_left (by simp at hi ⊢; omega)]
      simp
theorem swS_open (is : Cut → Bool) (st : Bool × List Str) (c : Cut) (h : st.1 = true → st.2 ≠ []) : (swS is st c).1 = true → (swS is st c).2 ≠ [] := by
  obtain ⟨o, out⟩ := st
  unfold swS
  cases is c <;> cases o <;> simp at h ⊢ <;> assumption
theorem cov_call (l : List Str) (c : Cut) (hp : Hp) (nx : Nat) (hl : smallR l) (hc : c.v.small) : hPureN [.s 11 spat, .g cpat] (FRC fun l c => boo (covA l c)) [.sl 11 (encR l), .agg c.enc] hp nx = some (boo (covA l c), hp, nx) :=
  hPureN_v (show freezeVals hp [.sl 11 (encR l), .agg c.enc] = some ([.sl 11 (encR l), .agg c.enc], hp) by simp [Cut.enc]) (by
    have e1 : (Sh.s 11 spat).fix (.sl 11 (encR l)) = .sl 11 (encR l) := by
      simp only [Sh.fix_s, encR, List.map_map]
      congr 1
    have e2 : (Sh.g cpat).fix (.agg c.enc) = .agg c.enc := by simp [Cut.enc]
    show FRC _ [(Sh.s 11 spat).fix (.sl 11 (encR l)), (Sh.g cpat).fix (.agg c.enc)] = _
    rw [e1, e2]
    exact specOf_eq (enc := fun a : List Str × Cut => [PV.sl 11 (encR a.1), .agg a.2.enc]) (a := (l, c)) rc_inj ⟨hl, hc⟩) (.inl rfl)
noncomputable abbrev Ccmb : Ctx := mkCtx Tryz.prog [(221, hSort 5 222 cfC domC), (223, hPureN [.s 11 spat, .g cpat] (FRC fun l c => boo (covA l c))),
  (158, hPure false [] (FBB and)), (159, hPure false [] (FBB or))]
theorem goodcmb : AM.Good Ccmb (fun g => [223].contains g) := good_of mixed ⟨sortCuts_sound, by simp, covers_sound, fun _ => hPureN_quiet _ _, rrAnd_sound, by simp, rrOr_sound, by simp, trivial⟩
@[simp] theorem quietcmb : QuietIn Ccmb 223 := quietIn_of (by rfl) (hPureN_quiet _ _)
theorem cuts_take {l : List Str} {k : Nat} (h : k < l.length) : cutsOf (l.take (k + 1)) = cutsOf (l.take k) ++ (if l[k].endless = true then [l[k].lo] else [l[k].lo, l[k].hi]) := by
  rw [List.take_succ_eq_append_getElem h, cutsOf_append]
  simp [cutsOf]
theorem swL_take (is : Cut → Bool) {l : List Cut} {k : Nat} (h : k < l.length) (st : Bool × List Str) : swL is (l.take (k + 1)) st = swS is (swL is (l.take k) st) l[k] := by
  unfold swL
  rw [List.take_succ_eq_append_getElem h, List.foldl_append]
  rfl
theorem encCs_app (a b : List Cut) : encCs (a ++ b) = encCs a ++ encCs b := by simp [encCs]
/-- What combine returns. -/
noncomputable def combR (f : Bool → Bool → Bool) (a b : List Str) : Option Blk := if combL f a b = [] then none else some ⟨208, 11, true, encR (combL f a b)⟩
theorem killV_own (i o n : Nat) (hp : Hp) : killV (.own i o n) hp = upd hp i none := rfl
theorem ownS_far {hp : Hp} {nx e s : Nat} {v : PV} {xs : List (List PV)} (h : OwnS hp nx e s v xs) {j : Nat} (hj : nx ≤ j) : ∀ n, v ≠ .own j 0 n := by
  rcases h with ⟨rfl, _⟩ | ⟨id, h1, rfl, _⟩
  · intro n e; cases e
  · intro n e; injection e with e; omega
set_option maxRecDepth 8000 in
set_option maxHeartbeats 4000000 in
theorem combine_eval (f : Bool → Bool → Bool) (hv : PV) (hcall : ∀ x y hp nx, callVal Ccmb hp nx (some hv) [boo x, boo y] = some (boo (f x y), hp, nx)) (a b : List Str) (ha : smallR a) (hb : smallR b) :
    ∃ x hp nx, evalFunc Ccmb Tryz.f157 [.sl 11 (encR a), .sl 11 (encR b), hv] (fun _ => none) 0 = some (x, hp, nx) ∧ OwnRN spat (combR f a b) x hp nx := by
  refine evalFunc_of rfl ?_
  have hsa := ha
  have hsb := hb
  obtain ⟨ha1, ha2⟩ := ha
  obtain ⟨hb1, hb2⟩ := hb
  unfold lim at ha1 hb1
  obtain ⟨ls, hls⟩ : ∃ ls : List (List Str), [a, b] = ls := ⟨_, rfl⟩
  obtain ⟨rows, hrows⟩ : ∃ rows : List (List PV), [[PV.sl 11 (encR a)], [.sl 11 (encR b)]] = rows := ⟨_, rfl⟩
  have hrow : ∀ i, i < 2 → ∃ l : List Str, (cutsOf (ls.take (i + 1)).flatten = cutsOf (ls.take i).flatten ++ cutsOf l) ∧ rows[i]? = some [PV.sl 11 (encR l)] ∧ l.length ≤ 1048576 ∧ (∀ s ∈ l, s.small) ∧ (cutsOf (ls.take i).flatten).length ≤ 2097152 := by
    intro i hi
    rw [← hls, ← hrows]
    rcases (by omega : i = 0 ∨ i = 1) with rfl | rfl
    · exact ⟨a, by simp [cutsOf], rfl, ha1, ha2, by simp [cutsOf]⟩
    · exact ⟨b, by simp [cutsOf_append], rfl, hb1, hb2, by have := cutsOf_len a; simp; omega⟩
  simp [buildSliceA, setElems, freezeParts, hrows]
  refine EvC_for (fun i σ hp nx => σ 0 = .sl 11 (encR a) ∧ σ 1 = .sl 11 (encR b) ∧ σ 2 = hv ∧ σ 19 = .own 0 0 2 ∧ σ 20 = int 2 ∧ σ 21 = int i ∧ 1 ≤ nx ∧ hp 0 = some ⟨152, 1, true, rows⟩ ∧ (∀ n, σ 7 ≠ .own 0 0 n) ∧ OwnS hp nx 206 5 (σ 7) (encCs (cutsOf (ls.take i).flatten))) 2
    ⟨by simp, by simp, by simp, by simp, by simp, by simp, by simp, by simp, by simp, .inl ⟨by simp, by simp [cutsOf, encCs]⟩⟩ ?_
  rintro i σ hp nx hi ⟨h0, h1, h2, h19, h20, h21, hnx, b0, hn7, hO⟩
  by_cases hlt : i < 2
  · obtain ⟨l, hl, hr, hll, hls2, hcl⟩ := hrow i hlt
    obtain ⟨hr1, hr2⟩ := List.getElem?_eq_some_iff.1 hr
    have hw : IntKind.i64.wrap ((i : Int) + 1) = (i : Int) + 1 := wrap_fit (by omega) (by omega)
    have hel : (encR l).length = l.length := by simp [encR]
    have hltI : (i : Int) < 2 := by omega
    simp [h0, h1, h2, h19, h20, h21, hltI, hlt, b0, hr1, hr2, hel]
    refine EvC_for (fun k σ hp nx => σ 0 = .sl 11 (encR a) ∧ σ 1 = .sl 11 (encR b) ∧ σ 2 = hv ∧ σ 19 = .own 0 0 2 ∧ σ 20 = int 2 ∧ σ 21 = int i ∧ 1 ≤ nx ∧ hp 0 = some ⟨152, 1, true, rows⟩ ∧ (∀ n, σ 7 ≠ .own 0 0 n) ∧ OwnS hp nx 206 5 (σ 7) (encCs (cutsOf (ls.take i).flatten ++ cutsOf (l.take k))) ∧
      σ 25 = .sl 11 (encR l) ∧ σ 26 = int l.length ∧ σ 27 = int k) l.length
      ⟨by simp [h0], by simp [h1], by simp [h2], by simp [h19], by simp [h20], by simp [h21], hnx, b0, by simpa using hn7, by simpa [cutsOf] using hO, by simp, by simp, by simp⟩ ?_
    clear h0 h1 h2 h19 h20 h21 hnx b0 hn7 hO hi σ hp nx
    rintro k σ hp nx hk ⟨h0, h1, h2, h19, h20, h21, hnx, b0, hn7, hO, h25, h26, h27⟩
    by_cases hltk : k < l.length
    · have hwk : IntKind.i64.wrap ((k : Int) + 1) = (k : Int) + 1 := wrap_fit (by omega) (by omega)
      have hke : ∀ h : k < (encR l).length, (encR l)[k] = l[k].enc := fun h => by simp [encR]
      have hcn := cutsOf_len (l.take k)
      rw [List.length_take] at hcn
      have hct := cuts_take hltk
      obtain ⟨xs, hxs⟩ : ∃ xs, encCs (cutsOf (ls.take i).flatten ++ cutsOf (l.take k)) = xs := ⟨_, rfl⟩
      have hxl : xs.length ≤ 4194304 + 2 := by rw [← hxs]; simp [encCs]; omega
      rw [hxs] at hO
      have hE : encCs (cutsOf (ls.take i).flatten ++ cutsOf (l.take (k + 1))) = xs ++ (if l[k].endless = true then [l[k].lo] else [l[k].lo, l[k].hi]).map Cut.enc := by
        rw [hct, ← List.append_assoc, encCs_app, hxs]; rfl
      have hkn := fun hp' => killV_other hO hp' nx (ownS_far hO (Nat.le_refl _))
      have hk0 := fun hp' => killV_other hO hp' 0 hn7
      obtain ⟨s, hs⟩ : ∃ s, l[k] = s := ⟨_, rfl⟩
      rw [hs] at hct hke hE
      have hap1 := OwnS.append1 (P := Tryz.prog) (t := 255) (c := s.lo.enc) (hO.more (some ⟨208, 11, false, [s.enc]⟩)) el255 sz206 by206 ze206 rfl (by omega) (by unfold maxLen; omega) (by omega)
      have hO1 := OwnS.after (hp := upd hp nx (some ⟨208, 11, false, [s.enc]⟩)) (nx := nx + 1) (e := 206) (s := 5) (v := σ 7) (xs := xs) (c := s.lo.enc) (tmp := some ⟨206, 5, true, [s.lo.enc]⟩)
      have hap2 := OwnS.append1 (P := Tryz.prog) (t := 255) (c := s.hi.enc) hO1 el255 sz206 by206 ze206 rfl (by omega) (by simp; unfold maxLen; omega) (by simp; omega)
      rw [show (xs ++ [s.lo.enc]).length = xs.length + 1 by simp, List.append_assoc, show [s.lo.enc] ++ [s.hi.enc] = [s.lo.enc, s.hi.enc] from rfl] at hap2
      have hO2 := OwnS.after (hp := upd (killV (σ 7) (upd (upd hp nx (some ⟨208, 11, false, [s.enc]⟩)) (nx + 1) (some ⟨206, 5, true, [s.lo.enc]⟩))) (nx + 1 + 1) (some ⟨206, 5, true, xs ++ [s.lo.enc]⟩)) (nx := nx + 1 + 2) (e := 206) (s := 5) (v := .own (nx + 1 + 1) 0 (xs.length + 1)) (xs := xs ++ [s.lo.enc]) (c := s.hi.enc) (tmp := some ⟨206, 5, true, [s.hi.enc]⟩)
      rw [show (xs ++ [s.lo.enc]).length = xs.length + 1 by simp, List.append_assoc, show [s.lo.enc] ++ [s.hi.enc] = [s.lo.enc, s.hi.enc] from rfl] at hO2
      simp only [Str.enc, Cut.enc, List.cons_append, List.nil_append] at hap1 hap2 hO1 hO2 hke
      have m1 : ¬ nx = nx + 1 + 1 := by omega
      have m2 : ¬ nx = nx + 1 + 2 := by omega
      have m3 : ¬ nx = nx + 1 + 2 + 1 := by omega
      have n1 : ¬ 0 = nx := by omega
      have n2 : ¬ 0 = nx + 1 := by omega
      have n3 : ¬ 0 = nx + 2 := by omega
      have n4 : ¬ 0 = nx + 3 := by omega
      have n5 : ¬ 0 = nx + 4 := by omega
      cases hen : s.endless
      · rw [hen] at hct
        rw [hen] at hap1 hap2 hO1 hO2 hke
        simp [h0, h1, h2, h19, h20, h21, h25, h26, h27, hltk, hel, hke, hap1, hap2, hkn, hwk, m1, m2, m3, buildSliceA, setElems, freezeParts]
        refine ⟨by omega, ?_, ?_⟩
        · simp [killV_own, hk0, b0, n1]
        · rw [hE, hen]
          simp only [Bool.false_eq_true, if_false, List.map_cons, List.map_nil, Cut.enc]
          exact hO2
      · rw [hen] at hct
        rw [hen] at hap1 hap2 hO1 hO2 hke
        simp [h0, h1, h2, h19, h20, h21, h25, h26, h27, hltk, hel, hke, hap1, hkn, hwk, m1, m2, m3, buildSliceA, setElems, freezeParts]
        refine ⟨by omega, ?_, ?_⟩
        · simp [hk0, b0, n1]
        · rw [hE, hen]
          simp only [if_true, List.map_cons, List.map_nil, Cut.enc]
          exact hO1
    · obtain rfl : k = l.length := by omega
      rw [List.take_length, ← hl] at hO
      simp [h0, h1, h2, h19, h20, h21, h25, h26, h27, hw]
      exact ⟨by omega, hnx, b0, hn7, hO⟩
  · obtain rfl : i = 2 := by omega
    have hls3 : (ls.take 2).flatten = a ++ b := by rw [← hls]; simp
    rw [hls3] at hO
    have hsm : ∀ c ∈ cutsOf (a ++ b), c.v.small := cutsOf_all (Q := fun c => c.v.small) fun s hs => by
      rcases List.mem_append.1 hs with h | h
      · exact ha2 s h
      · exact hb2 s h
    have hcl := cutsOf_len (a ++ b)
    rw [List.length_append] at hcl
    obtain ⟨hp', hsort, hO', hfr'⟩ := sortCuts_call hO hsm (by omega)
    obtain ⟨v, hv7⟩ : ∃ v, σ 7 = v := ⟨_, rfl⟩
    obtain ⟨cs, hcs⟩ : ∃ cs, sortCu (cutsOf (a ++ b)) = cs := ⟨_, rfl⟩
    have hcsl : cs.length ≤ 4194304 := by rw [← hcs, (sortCu_perm _).length_eq]; omega
    have hcsm : ∀ c ∈ cs, c.v.small := fun c hc => hsm c ((sortCu_perm _).mem_iff.1 (by rw [hcs]; exact hc))
    have hfin : combL f a b = (swL (fun c => f (covA a c) (covA b c)) cs (false, [])).2 := by rw [← hcs, cutsOf_append]; rfl
    obtain ⟨is, his⟩ : ∃ is : Cut → Bool, (fun c => f (covA a c) (covA b c)) = is := ⟨_, rfl⟩
    have hisc : ∀ c, f (covA a c) (covA b c) = is c := fun c => by rw [← his]
    rw [his] at hfin
    rw [hv7] at hsort hO'
    rw [hcs] at hO'
    clear hO hcs hsm hrow hls3
    have hlen := hO'.len el255
    have hel : (encCs cs).length = cs.length := by simp [encCs]
    rw [hel] at hlen
    simp [h0, h1, h2, h19, h20, h21, hv7, hsort, hlen]
    refine EvC_for (fun k σ hp nx => σ 0 = .sl 11 (encR a) ∧ σ 1 = .sl 11 (encR b) ∧ σ 2 = hv ∧ σ 48 = v ∧ σ 49 = int cs.length ∧ σ 50 = int k ∧ OwnS hp nx 206 5 v (encCs cs) ∧ ∃ xs, OwnS hp nx 208 11 (σ 12) xs ∧ xs.map (fixC spat) = encR (swL is (cs.take k) (false, [])).2 ∧
        σ 13 = boo (swL is (cs.take k) (false, [])).1 ∧ (∀ id n m, v = .own id 0 n → σ 12 ≠ .own id 0 m) ∧ ((swL is (cs.take k) (false, [])).1 = true → (swL is (cs.take k) (false, [])).2 ≠ []) ∧ xs.length ≤ k ∧ (xs = [] → σ 12 = .nil)) cs.length
      ⟨by simp [h0], by simp [h1], by simp [h2], by simp, by simp, by simp, hO', [], .inl ⟨by simp, rfl⟩, by simp [swL, encR], by simp [swL], by simp, by simp [swL], by simp, by simp⟩ ?_
    clear h0 h1 h2 h19 h20 h21 hnx b0 hn7 hO' hi σ hp nx hlt hsort hlen hfr' hv7 hp'
    rintro k σ hp nx hk ⟨h0, h1, h2, h48, h49, h50, hO, xs, hX, hxs, h13, hap, hop, hxk, hxn⟩
    by_cases hltk : k < cs.length
    · have hwk : IntKind.i64.wrap ((k : Int) + 1) = (k : Int) + 1 := wrap_fit (by omega) (by omega)
      obtain ⟨id, hid, rfl, hh⟩ := hO.at_ (by rw [hel]; omega)
      have hst := swL_take is hltk (false, [])
      obtain ⟨st, hst0⟩ : ∃ st, swL is (cs.take k) (false, []) = st := ⟨_, rfl⟩
      obtain ⟨c, hc⟩ : ∃ c, cs[k] = c := ⟨_, rfl⟩
      rw [hc, hst0] at hst
      rw [hst0] at hxs h13 hop
      have hopn := swS_open is st c hop
      have hcsmall : c.v.small := hcsm c (by rw [← hc]; exact List.getElem_mem hltk)
      have hke : ∀ h : k < (encCs cs).length, (encCs cs)[k] = c.enc := fun h => by simp [encCs, hc]
      have hca := fun hp nx => cov_call a c hp nx hsa hcsmall
      have hcb := fun hp nx => cov_call b c hp nx hsb hcsmall
      have hcall' := fun hp nx => hcall (covA a c) (covA b c) hp nx
      rw [hisc c] at hcall'
      simp only [Cut.enc] at hca hcb hke
      have m0 : ¬ id = nx := by omega
      have m1 : ¬ id = nx + 1 := by omega
      have m2 : ¬ id = nx + 1 + 1 := by omega
      rw [hel] at hO
      have hki := fun hp' => killV_other hX hp' id (fun n => hap id _ n rfl)
      have hswS : swS is st c = (is c, if (is c && !st.1) = true then st.2 ++ [fromS c] else if (!is c && st.1) = true then setLast st.2 c else st.2) := rfl
      rw [hswS] at hst
      rw [hswS] at hopn
      simp only at hopn
      obtain ⟨op, out⟩ := st
      simp only at hxs h13 hop hopn
      cases hb : is c <;> cases op
      · rw [hb] at hcall' hst
        simp at hst
        simp [h0, h1, h2, h48, h49, h50, hel, hltk, hh, hke, hca, hcb, hcall', h13, hwk, m0, hst]
        exact ⟨by omega, hO.more _, xs, hX.more _, hxs, fun i n m e _ => hap i _ m (by rw [e]), by omega, hxn⟩
      · rw [hb] at hcall' hst
        simp at hst
        have hne := hop rfl
        obtain ⟨m, hm⟩ : ∃ m, out.length = m + 1 := ⟨out.length - 1, by have := List.length_pos_iff.2 hne; omega⟩
        have hxl : xs.length = m + 1 := by have := congrArg List.length hxs; simp [encR] at this; omega
        obtain ⟨id2, hid2, h12, hh2⟩ := hX.at_ (by omega)
        have hid12 : ¬ id2 = id := fun e => hap id _ _ rfl (by rw [h12, e])
        have hid21 : ¬ id = id2 := fun e => hid12 e.symm
        have p0 : ¬ id2 = nx := by omega
        rw [hxl] at h12
        have hlm : m < xs.length := by omega
        have hlo : m < out.length := by omega
        have hrm : fixC spat xs[m] = out[m].enc := by
          have e1 : (xs.map (fixC spat))[m]? = (encR out)[m]? := by rw [hxs]
          simp only [List.getElem?_map, List.getElem?_eq_getElem hlm, encR, List.getElem?_eq_getElem hlo, Option.map_some, Option.some.injEq] at e1
          exact e1
        obtain ⟨x3, x5, x6, x7, x8, x9, x10, hrow, hn3, hcell⟩ := row_cells hrm
        have wm : IntKind.i64.wrap (m : Int) = (m : Int) := wrap_fit (by omega) (by omega)
        have wm1 : IntKind.i64.wrap ((m : Int) + 1 - 1) = (m : Int) := by rw [wrap_fit (by omega) (by omega)]; omega
        simp [h0, h1, h2, h48, h49, h50, hel, hltk, hh, hke, hca, hcb, hcall', h13, hwk, m0, hst, h12, hh2, p0, wm, wm1, hlm, hrow, hcell, setCells]
        refine ⟨by omega, .inr ⟨id, by omega, by rw [hel], by simp [hid21, m0, hh]⟩, xs.set m [int out[m].lo.v.a, int out[m].lo.v.b, int out[m].lo.v.c, x3, boo out[m].lo.after, int c.v.a, int c.v.b, int c.v.c, .sl 1 (encT c.v.pre), boo c.after, boo false], .inr ⟨id2, by omega, by simp [hxl], by simp⟩, ?_, fun i n k' e _ e2 => absurd (e2.trans e.symm) hid12, by simp; omega, fun e => by have := congrArg List.length e; rw [List.length_set, hxl] at this; cases this⟩
        rw [List.map_set, hxs, setLast_set hlo hm c, encR, encR, List.map_set]
        simp [hn3, Str.enc, Cut.enc]
      · rw [hb] at hcall' hst
        simp at hst
        have hap1 := OwnS.append1 (P := Tryz.prog) (t := 152) (c := [int c.v.a, int c.v.b, int c.v.c, .sl 1 (encT c.v.pre), boo c.after, int 0, int 0, int 0, .nil, boo false, boo true]) (hX.more (some ⟨206, 5, false, [c.enc]⟩)) el152 sz208 by208 ze208 rfl (by omega) (by unfold maxLen; omega) (by omega)
        simp only [Cut.enc] at hap1
        simp [h0, h1, h2, h48, h49, h50, hel, hltk, hh, hke, hca, hcb, hcall', h13, hwk, m0, hst, hap1, buildA, fillA, buildSliceA, setElems, freezeParts]
        refine ⟨by omega, .inr ⟨id, by omega, by rw [hel], by simp [hki, hh, m0, m1, m2]⟩, xs ++ [[int c.v.a, int c.v.b, int c.v.c, .sl 1 (encT c.v.pre), boo c.after, int 0, int 0, int 0, .nil, boo false, boo true]], by simpa using OwnS.after, ?_, fun i n m e _ e2 => by omega, by simp; omega⟩
        rw [List.map_append, hxs]
        simp [encR, fromS, Str.enc, Cut.enc, cut0, encT]
      · rw [hb] at hcall' hst
        simp at hst
        simp [h0, h1, h2, h48, h49, h50, hel, hltk, hh, hke, hca, hcb, hcall', h13, hwk, m0, hst]
        exact ⟨by omega, hO.more _, xs, hX.more _, hxs, fun i n m e _ => hap i _ m (by rw [e]), hop rfl, by omega, hxn⟩
    · obtain rfl : k = cs.length := by omega
      rw [List.take_length] at hxs
      rw [← hfin] at hxs
      have hxl : xs.length = (combL f a b).length := by have := congrArg List.length hxs; simpa [encR] using this
      simp [h0, h1, h2, h48, h49, h50, Tryz.f157]
      unfold combR
      rcases hX with ⟨h12, rfl⟩ | ⟨id2, hid2, h12, hh2⟩
      · rw [if_pos (List.length_eq_zero_iff.1 hxl.symm)]
        exact h12
      · by_cases hz : combL f a b = []
        · rw [if_pos hz]
          rw [hz] at hxl
          exact hxn (List.length_eq_zero_iff.1 hxl)
        · rw [if_neg hz]
          refine ⟨id2, _, h12, hh2, rfl, ?_⟩
          simp only [fixB, hxs]
theorem spat_fix (l : List Str) : (Sh.s 11 spat).fix (.sl 11 (encR l)) = .sl 11 (encR l) := by
  simp only [Sh.fix_s, encR, List.map_map]
  congr 1
/-- Two ranges put together, by either way. -/
noncomputable def FCmb : List PV → Option (Option Blk) := fun args =>
  match specOf (α := List Str × List Str) (fun a => [.sl 11 (encR a.1), .sl 11 (encR a.2), .fn (.func 158) [] []]) (fun a => smallR a.1 ∧ smallR a.2) (fun a => combR and a.1 a.2) args with
  | some r => some r
  | none => specOf (α := List Str × List Str) (fun a => [.sl 11 (encR a.1), .sl 11 (encR a.2), .fn (.func 159) [] []]) (fun a => smallR a.1 ∧ smallR a.2) (fun a => combR or a.1 a.2) args
theorem cmb_inj (g : PV) : ∀ a b : List Str × List Str, [PV.sl 11 (encR a.1), .sl 11 (encR a.2), g] = [.sl 11 (encR b.1), .sl 11 (encR b.2), g] → a = b := by
  rintro ⟨a1, a2⟩ ⟨b1, b2⟩ e
  simp only [List.cons.injEq, and_true] at e
  obtain ⟨e1, e2⟩ := e
  injection e1 with _ e1
  injection e2 with _ e2
  rw [encRow_inj e1, encRow_inj e2]
set_option maxRecDepth 100000 in
theorem combine_sound : SpecSound Tryz.prog 157 (hFreshN [.s 11 spat, .s 11 spat] FCmb) :=
  hFreshN_sound (fn := Tryz.f157) goodcmb ⟨_, Tryz.func157, by kernel_rfl, rfl, by kernel_rfl⟩ _ spat _ fun args r h => by
    unfold FCmb at h
    split at h
    · rename_i r0 h0
      injection h with h; subst h
      obtain ⟨⟨a, b⟩, rfl, ⟨h1, h2⟩, rfl⟩ := specOf_inv h0
      exact ⟨by simp [Tryz.f157], combine_eval and _ (fun x y hp nx => by simp [FBB_call]) a b h1 h2⟩
    · obtain ⟨⟨a, b⟩, rfl, ⟨h1, h2⟩, rfl⟩ := specOf_inv h
      exact ⟨by simp [Tryz.f157], combine_eval or _ (fun x y hp nx => by simp [FBB_call]) a b h1 h2⟩
end Go.Proofs.YtfjeckcbnhohmaaGreatDoor
namespace Go.Proofs.YtfjeckcbnhohmaaGreatDoor
open Go.RowKit Go.AM
set_option maxRecDepth 4000 in
theorem cloneT_eval (args : List PV) (r : Option Blk) (h : cloneF 9 1 args = some r) : args.length ≤ Tryz.f276.ntmps ∧ ∃ x hp nx, evalFunc C0 Tryz.f276 args (fun _ => none) 0 = some (x, hp, nx) ∧ OwnR r x hp nx := by
  unfold cloneF at h
  split at h
  · injection h with h; subst h
    exact ⟨by simp [Tryz.f276], evalFunc_of rfl (by simp [binA, isNilA, Tryz.f276, OwnR])⟩
  · injection h with h; subst h
    exact ⟨by simp [Tryz.f276], evalFunc_of rfl (by simp [binA, isNilA, Tryz.f276, OwnR, buildSliceA, appendA, AM.view, maxLen, setElems, freezeParts])⟩
  · rename_i es
    split at h
    · rename_i hc
      obtain ⟨rfl, hne, hl⟩ := hc
      injection h with h; subst h
      cases es with
      | nil => exact absurd rfl hne
      | cons c es =>
        unfold lim at hl
        simp at hl
        have m1 : es.length + 1 ≤ maxLen := by unfold maxLen; omega
        have m2 : (es.length + 1) * 16 ≤ 140737488355328 := by omega
        refine ⟨by simp [Tryz.f276], evalFunc_of rfl ?_⟩
        simp [binA, isNilA, Tryz.f276, OwnR, buildSliceA, appendA, AM.view, setElems, freezeParts, m1, m2]
    · cases h
  · cases h
theorem cloneT_sound : SpecSound Tryz.prog 276 (hFresh [] (cloneF 9 1)) :=
  hFresh_sound (fn := Tryz.f276) (code := _) good0 ⟨Tryz.func276, by kernel_rfl, rfl, by kernel_rfl⟩ [] _ cloneT_eval
def idV (v : Ver) : PV := .agg v.enc
def idS (s : Str) : PV := .agg s.enc
noncomputable def FVe (f : Ver → PV) : List PV → Option PV := specOf (α := Ver) (fun v => [.agg v.enc]) (fun v => v.pre.length ≤ lim) f
theorem FVe_call (f : Ver → PV) (v : Ver) (hp : Hp) (nx : Nat) (h : v.pre.length ≤ lim) : hPureN [.g vpat] (FVe f) [.agg v.enc] hp nx = some (f v, hp, nx) :=
  hPureN_v (show freezeVals hp [.agg v.enc] = some ([.agg v.enc], hp) by simp [Ver.enc]) (by
    have e1 : (Sh.g vpat).fix (.agg v.enc) = .agg v.enc := by simp [Ver.enc]
    show FVe f [(Sh.g vpat).fix (.agg v.enc)] = _
    rw [e1]
    exact specOf_eq (enc := fun v : Ver => [PV.agg v.enc]) (a := v) (fun a b e => by simp only [List.cons.injEq, and_true] at e; injection e with e; exact venc_inj e) h) (.inr (by simp [Ver.enc]))
noncomputable abbrev Ccpv : Ctx := mkCtx Tryz.prog [(276, hFresh [] (cloneF 9 1))]
theorem goodcpv : AM.Good Ccpv (fun g => ([] : List Nat).contains g) := good_of mixed ⟨cloneT_sound, by simp, trivial⟩
set_option maxRecDepth 8000 in
theorem copyVersion_eval (v : Ver) (y : PV) (hy : SlOf 1 (encT v.pre) y) (hl : v.pre.length ≤ lim) : ∃ r0, evalPure Ccpv Tryz.f224 [.agg [int v.a, int v.b, int v.c, y]] = some r0 ∧ Stands r0 (.agg v.enc) := by
  obtain ⟨a, b, c, p⟩ := v
  refine evalPureF_of (sh := .g vpat) rfl ?_
  simp only at hl hy
  generalize hT : encT p = T at hy
  have hTl : T.length ≤ lim := by rw [← hT]; simpa [encT] using hl
  cases hy with
  | nil => simp [hFresh, normArgs, cloneF, pureF, Ver.enc, hT, Tryz.f224]
  | em => simp [hFresh, normArgs, cloneF, pureF, Ver.enc, hT, Tryz.f224]
  | sl =>
    rename_i c0 es
    simp only [List.length_cons] at hTl
    simp [hFresh, normArgs, cloneF, pureF, Ver.enc, hT, hTl, Tryz.f224]
theorem copyVersion_sound : SpecSound Tryz.prog 224 (hPureN [.g vpat] (FVe idV)) :=
  pureG (fn := Tryz.f224) goodcpv ⟨_, Tryz.func224, by kernel_rfl, rfl, by kernel_rfl⟩ false [] _ fun args r h w S vs hz => by
    obtain ⟨v, e, hv, rfl⟩ := specOf_inv h
    have hz' := fixL_rep (hs := [.g vpat]) hz
    rw [e] at hz'
    obtain ⟨u, hu, hr⟩ := zip_one hz'
    subst hu
    obtain ⟨y, hy, hr2⟩ := rep_agg_set hr (j := 3) (s := 1) (es := encT v.pre) (by simp [Ver.enc])
    obtain ⟨r0, h1, h2⟩ := copyVersion_eval v y hy hv
    exact ⟨_, r0, .cons hr2 .nil, by simp [Tryz.f224], by simpa [Ver.enc] using h1, h2⟩
noncomputable def FSt (f : Str → PV) : List PV → Option PV := specOf (α := Str) (fun s => [.agg s.enc]) Str.small f
theorem FSt_call (f : Str → PV) (s : Str) (u : PV) (hp : Hp) (nx : Nat) (h : s.small) (hu : (Sh.g spat).fix u = .agg s.enc) (hf : freezeVal hp u = some (u, hp)) (hn : u.noOwn = true) : hPureN [.g spat] (FSt f) [u] hp nx = some (f s, hp, nx) :=
  hPureN_v (show freezeVals hp [u] = some ([u], hp) by simp only [freezeVals, hf]) (by
    show FSt f [(Sh.g spat).fix u] = _
    rw [hu]
    exact specOf_eq (enc := fun v : Str => [PV.agg v.enc]) (a := s) (fun a b e => by simp only [List.cons.injEq, and_true] at e; injection e with e; exact strenc_inj e) h) (.inr (by rw [List.all_cons, hn]; rfl))
noncomputable abbrev Ccps : Ctx := mkCtx Tryz.prog [(224, hPureN [.g vpat] (FVe idV))]
theorem goodcps : AM.Good Ccps (fun g => [224].contains g) := good_of mixed ⟨copyVersion_sound, fun _ => hPureN_quiet _ _, trivial⟩
@[simp] theorem quietcps : QuietIn Ccps 224 := quietIn_of (by rfl) (hPureN_quiet _ _)
set_option maxRecDepth 8000 in
theorem copyStretch_eval (s : Str) (hs : s.small) : evalPure Ccps Tryz.f160 [.agg s.enc] = some (.agg s.enc) := by
  refine evalPure_of rfl ?_
  have h1 : ∀ hp nx, hPureN [.g vpat] (FVe idV) [.agg [int s.lo.v.a, int s.lo.v.b, int s.lo.v.c, .sl 1 (encT s.lo.v.pre)]] hp nx = some (.agg [int s.lo.v.a, int s.lo.v.b, int s.lo.v.c, .sl 1 (encT s.lo.v.pre)], hp, nx) := fun hp nx => FVe_call idV s.lo.v hp nx hs.1.1
  have h2 : ∀ hp nx, hPureN [.g vpat] (FVe idV) [.agg [int s.hi.v.a, int s.hi.v.b, int s.hi.v.c, .sl 1 (encT s.hi.v.pre)]] hp nx = some (.agg [int s.hi.v.a, int s.hi.v.b, int s.hi.v.c, .sl 1 (encT s.hi.v.pre)], hp, nx) := fun hp nx => FVe_call idV s.hi.v hp nx hs.2.1
  simp [Str.enc, Cut.enc, h1, h2, pureR, Tryz.f160, setCells]
theorem copyStretch_sound : SpecSound Tryz.prog 160 (hPureN [.g spat] (FSt idS)) :=
  pureN_sound (fn := Tryz.f160) goodcps ⟨_, Tryz.func160, by kernel_rfl, rfl, by kernel_rfl⟩ _ _ fun args r h => by
    obtain ⟨s, rfl, h1, rfl⟩ := specOf_inv h
    exact ⟨by simp [Tryz.f160], _, copyStretch_eval s h1, Stands.refl _⟩
end Go.Proofs.YtfjeckcbnhohmaaGreatDoor
namespace Go.Proofs.YtfjeckcbnhohmaaGreatDoor
open Go.RowKit Go.AM
theorem vnum_range {l : List UInt8} {n : Int} (h : vnum l = some n) : 0 ≤ n ∧ n ≤ 999999 := by
  unfold vnum at h
  split at h
  · rename_i hc
    injection h with h
    obtain ⟨h1, h2⟩ := whole_ne hc.1
    obtain ⟨m, h3, h4⟩ := decFrom_some l 0 h2
    have h5 : Lib.decNat l = some m := by
      unfold Lib.decNat
      rw [if_neg (by simpa using h1)]
      exact h3
    have h6 : m < 10 ^ 6 := Nat.lt_of_lt_of_le (by simpa using h4) (Nat.pow_le_pow_right (by omega) hc.2)
    have h7 : n = (m : Int) := by rw [← h]; unfold numB; rw [h5]; rfl
    omega
  · cases h
/-- A right version: numbers within the range, few and small parts. -/
theorem chkV_zero {v : Ver} (h : chkV v = 0) : (0 ≤ v.a ∧ v.a ≤ 999999) ∧ (0 ≤ v.b ∧ v.b ≤ 999999) ∧ (0 ≤ v.c ∧ v.c ≤ 999999) ∧ v.pre.length ≤ 10 ∧ ∀ p ∈ v.pre, badPre p = false := by
  unfold chkV at h
  split at h
  · rename_i hc
    simp only [inB, Bool.and_eq_true, decide_eq_true_eq] at hc
    split at h
    · cases h
    · rename_i hl
      split at h
      · cases h
      · rename_i hb
        refine ⟨hc.1, hc.2.1, hc.2.2, by omega, fun p hp => ?_⟩
        cases hq : badPre p with
        | false => rfl
        | true => exact absurd (List.any_eq_true.2 ⟨p, hp, hq⟩) hb
  · cases h
theorem rdV_chk {t : List UInt8} {v : Ver} (h : rdV t = some v) : chkV v = 0 := by
  unfold rdV at h
  split at h
  · split at h
    · split at h
      · rename_i hc
        injection h with h
        rw [← h]; exact hc
      · cases h
    · cases h
  · cases h
theorem badPre_len {p : List UInt8} (h : badPre p = false) : p.length ≤ 20 := by
  simp only [badPre, Bool.or_eq_false_iff, decide_eq_false_iff_not] at h
  omega
theorem fold_ok : ∀ (l : List (List UInt8)) (p q : Part) (i : Nat), foldPart p i l = some q → (0 ≤ p.n0 ∧ p.n0 ≤ 999999) ∧ (0 ≤ p.n1 ∧ p.n1 ≤ 999999) ∧ (0 ≤ p.n2 ∧ p.n2 ≤ 999999) ∧ 0 ≤ p.has ∧ p.has ≤ i ∧ (1 ≤ i → 1 ≤ p.has) ∧ p.pre = [] →
    (0 ≤ q.n0 ∧ q.n0 ≤ 999999) ∧ (0 ≤ q.n1 ∧ q.n1 ≤ 999999) ∧ (0 ≤ q.n2 ∧ q.n2 ≤ 999999) ∧ 0 ≤ q.has ∧ q.has ≤ i + l.length ∧ (1 ≤ i + l.length → 1 ≤ q.has) ∧ q.pre = []
  | [], p, q, i, h, hp => by
    simp only [foldPart] at h
    injection h with h
    subst h
    simpa using hp
  | t :: l, p, q, i, h, hp => by
    simp only [foldPart] at h
    split at h
    · rename_i r hs
      obtain ⟨a, b, c, d, e, f, g⟩ := hp
      have hr : (0 ≤ r.n0 ∧ r.n0 ≤ 999999) ∧ (0 ≤ r.n1 ∧ r.n1 ≤ 999999) ∧ (0 ≤ r.n2 ∧ r.n2 ≤ 999999) ∧ 0 ≤ r.has ∧ r.has ≤ (i + 1 : Nat) ∧ (1 ≤ i + 1 → 1 ≤ r.has) ∧ r.pre = [] := by
        unfold stepPart at hs
        split at hs
        · rename_i hv
          injection hs with hs
          obtain ⟨n, hn⟩ := Option.isSome_iff_exists.1 hv.1
          have hb := vnum_range hn
          rw [hn] at hs
          simp only [Option.getD_some] at hs
          subst hs
          have hh := hv.2
          unfold Part.put
          split <;> simp only <;> refine ⟨?_, ?_, ?_, ?_, ?_, ?_, g⟩ <;> first | assumption | omega
        · split at hs
          · rename_i ho
            injection hs with hs
            subst hs
            exact ⟨a, b, c, d, by omega, fun _ => f (by omega), g⟩
          · cases hs
      have := fold_ok l r q (i + 1) h hr
      rw [List.length_cons]
      refine ⟨this.1, this.2.1, this.2.2.1, this.2.2.2.1, ?_, ?_, this.2.2.2.2.2.2⟩
      · have := this.2.2.2.2.1; omega
      · intro _; exact this.2.2.2.2.2.1 (by omega)
    · cases h
/-- Parts of a Pre that can be. -/
def goodPre (l : List (List UInt8)) : Prop := l.length ≤ 10 ∧ ∀ p ∈ l, badPre p = false
theorem goodPre_small {l : List (List UInt8)} (h : goodPre l) : smallT l := ⟨by have := h.1; unfold lim; omega, fun p hp => by have := badPre_len (h.2 p hp); unfold lim; omega⟩
theorem splitL_ne (s sep : List UInt8) : splitL s sep ≠ [] := by
  unfold splitL Lib.split
  intro h
  cases hc : Lib.count s sep with
  | zero => rw [hc] at h; cases h
  | succ n =>
    rw [hc] at h
    simp only [Lib.splitK] at h
    split at h <;> cases h
theorem rdPart_ok {t : List UInt8} (h : (rdPart t).2 = true) : (rdPart t).1.ok ∧ goodPre (rdPart t).1.pre := by
  unfold rdPart at h ⊢
  split at h
  · rename_i hc
    rw [if_pos hc]
    split at h
    · rename_i v hv
      obtain ⟨h1, h2, h3, h4, h5⟩ := chkV_zero (rdV_chk hv)
      exact ⟨⟨h1, h2, h3, ⟨by simp, by simp⟩, goodPre_small ⟨h4, h5⟩⟩, h4, h5⟩
    · cases h
  · rename_i hc
    rw [if_neg hc]
    split at h
    · cases h
    · rename_i hl
      rw [if_neg hl]
      split at h
      · rename_i p hp
        have := fold_ok _ part0 p 0 hp (by simp [part0])
        obtain ⟨h1, h2, h3, h4, h5, h6, h7⟩ := this
        have hn := List.length_pos_iff.2 (splitL_ne t [46])
        have hg : goodPre p.pre := by rw [h7]; exact ⟨by simp, by simp⟩
        exact ⟨⟨h1, h2, h3, ⟨h6 (by omega), by show p.has ≤ 3; omega⟩, goodPre_small hg⟩, hg⟩
      · cases h
/-- A comparison that can be, its parts of a Pre too. -/
def Cpn.good (c : Cpn) : Prop := c.sign.length ≤ 3 ∧ (c.sign = sgAll ∨ ((c.p.ok ∧ goodPre c.p.pre) ∧ (c.sign = [45] → c.to.ok ∧ goodPre c.to.pre)))
theorem Cpn.good.ok {c : Cpn} (h : c.good) : c.ok := ⟨by have := h.1; unfold lim; omega, h.2.imp id fun ⟨h1, h2⟩ => ⟨h1.1, fun e => (h2 e).1⟩⟩
theorem opW_sign : ∀ (gs : List (List UInt8)) (s : List UInt8), (opW gs s).1 = [] ∨ (opW gs s).1 ∈ gs
  | [], s => .inl rfl
  | g :: l, s => by
    simp only [opW]
    split
    · exact .inr (by simp)
    · exact (opW_sign l s).imp id fun h => by simp [h]
theorem sgs_sign {s : List UInt8} (h : s = [] ∨ s ∈ sgs) : s.length ≤ 3 ∧ s ≠ [45] := by
  rcases h with rfl | h
  · simp
  · simp only [sgs, List.mem_cons, List.not_mem_nil, or_false] at h
    rcases h with rfl | rfl | rfl | rfl | rfl | rfl | rfl <;> simp
theorem altS_good {w : List UInt8} {l l' : List (List UInt8)} {c : Cpn} (h : altS w l = some (c, l')) : c.good ∧ l'.length ≤ l.length := by
  refine ⟨?_, altS_len h⟩
  have hsg := sgs_sign (opW_sign sgs w)
  unfold altS at h
  split at h
  · injection h with h; injection h with h _; subst h
    exact ⟨by simp [cAll, sgAll], .inl rfl⟩
  · split at h
    · split at h
      · split at h
        · rename_i hr
          injection h with h; injection h with h _; subst h
          exact ⟨hsg.1, .inr ⟨rdPart_ok hr, fun e => absurd e hsg.2⟩⟩
        · cases h
      · cases h
    · split at h
      · rename_i hr
        injection h with h; injection h with h _; subst h
        exact ⟨hsg.1, .inr ⟨rdPart_ok hr, fun e => absurd e hsg.2⟩⟩
      · cases h
theorem altN_good : ∀ (n : Nat) (ws : List (List UInt8)) (l : List Cpn), altN n ws = some l → (∀ c ∈ l, c.good) ∧ l.length ≤ ws.length
  | 0, ws, l, h => by
    simp only [altN] at h; injection h with h; subst h
    exact ⟨by simp, by simp⟩
  | n + 1, [], l, h => by
    simp only [altN] at h; injection h with h; subst h
    exact ⟨by simp, by simp⟩
  | n + 1, w :: ws, l, h => by
    simp only [altN] at h
    split at h
    · rename_i c l' hs
      obtain ⟨h1, h2⟩ := altS_good hs
      cases ha : altN n l' with
      | none => rw [ha] at h; cases h
      | some r =>
        rw [ha] at h
        simp only [Option.map_some, Option.some.injEq] at h
        subst h
        obtain ⟨h3, h4⟩ := altN_good n l' r ha
        refine ⟨fun x hx => ?_, by simp; omega⟩
        rcases List.mem_cons.1 hx with rfl | hx
        · exact h1
        · exact h3 x hx
    · cases h
theorem altR_good {t : List UInt8} (h : (altR t).2 = true) : (∀ c ∈ (altR t).1, c.good) ∧ (altR t).1.length ≤ t.length + 1 := by
  have hw : (wordsL (splitL t [32])).length ≤ t.length + 1 := Nat.le_trans (List.length_filter_le _ _) (splitL_len (by simp))
  have key : ∀ ws : List (List UInt8), ws = wordsL (splitL t [32]) → ((match altN ws.length ws with
      | some l => (l, !l.isEmpty)
      | none => ([], false)) : List Cpn × Bool).2 = true → (∀ c ∈ ((match altN ws.length ws with
      | some l => (l, !l.isEmpty)
      | none => ([], false)) : List Cpn × Bool).1, c.good) ∧ ((match altN ws.length ws with
      | some l => (l, !l.isEmpty)
      | none => ([], false)) : List Cpn × Bool).1.length ≤ t.length + 1 := by
    intro ws hws hk
    cases ha : altN ws.length ws with
    | none => rw [ha] at hk; cases hk
    | some l =>
      obtain ⟨h1, h2⟩ := altN_good _ _ _ ha
      exact ⟨h1, by rw [hws] at h2; exact Nat.le_trans h2 hw⟩
  unfold altR at h ⊢
  split at h
  · rename_i a b c hws
    split at h
    · rename_i hb
      simp only [Bool.and_eq_true] at h
      rw [if_pos hb]
      refine ⟨fun x hx => ?_, by simp⟩
      simp only [List.mem_singleton] at hx
      subst hx
      exact ⟨by simp, .inr ⟨rdPart_ok h.1, fun _ => rdPart_ok h.2⟩⟩
    · rename_i hb
      rw [if_neg hb]
      have := key [a, b, c] (by rw [hws]) h
      exact this
  · exact key _ rfl h
/-- The parts of a Pre of a cut can be. -/
def Cut.good (c : Cut) : Prop := goodPre c.v.pre
theorem Cut.good.small {c : Cut} (h : c.good) : c.v.small := goodPre_small h
theorem cut0_good : cut0.good := ⟨by simp [cut0], by simp [cut0]⟩
theorem leastC_good : leastC.good := ⟨by simp [leastC], by simp [leastC, badPre, preB, preC, digs, wholeB, digB, pr]⟩
theorem raised_good (p : Part) (i : Nat) : (raisedC p i).good := by
  have h : (raisedC p i).v.pre = [[48]] := by unfold raisedC; split <;> rfl
  have := leastC_good
  unfold Cut.good at this ⊢
  rw [h]
  exact this
theorem low_good {p : Part} (h : goodPre p.pre) : (lowC p).good := h
theorem high_good {p : Part} (h : goodPre p.pre) : (highC p).good := by
  unfold highC
  split
  · exact raised_good _ _
  · exact h
theorem btw_good {a b : Cut} (ha : a.good) (hb : b.good) : (btw a b).length ≤ 1 ∧ ∀ s ∈ btw a b, s.lo.good ∧ s.hi.good := by
  unfold btw
  split
  · exact ⟨by simp, by simp⟩
  · refine ⟨by simp, fun s hs => ?_⟩
    simp only [List.mem_singleton] at hs
    subst hs
    exact ⟨ha, hb⟩
theorem from_good {a : Cut} (ha : a.good) : ([fromS a] : List Str).length ≤ 1 ∧ ∀ s ∈ [fromS a], s.lo.good ∧ s.hi.good := by
  refine ⟨by simp, fun s hs => ?_⟩
  simp only [List.mem_singleton] at hs
  subst hs
  exact ⟨ha, cut0_good⟩
theorem strS_good {c : Cpn} (hc : c.good) : (strS c).1.length ≤ 1 ∧ ∀ s ∈ (strS c).1, s.lo.good ∧ s.hi.good := by
  obtain ⟨_, hc⟩ := hc
  unfold strS
  by_cases h0 : c.sign = sgAll
  · rw [if_pos h0]; exact from_good leastC_good
  rw [if_neg h0]
  obtain ⟨⟨_, hp⟩, ht⟩ := hc.resolve_left h0
  have hl := low_good hp
  have hh := high_good hp
  split
  · exact from_good hl
  split
  · exact btw_good leastC_good hl
  split
  · exact from_good hh
  split
  · exact btw_good leastC_good hh
  split
  · rename_i e; exact btw_good hl (high_good (ht e).2)
  split
  · exact btw_good hl (raised_good _ _)
  split
  · exact btw_good hl (raised_good _ _)
  · exact btw_good hl hh
/-- A range whose cuts can be. -/
def goodR (l : List Str) : Prop := ∀ s ∈ l, s.lo.good ∧ s.hi.good
theorem goodR.small {l : List Str} (h : goodR l) (hl : l.length ≤ lim) : smallR l := ⟨hl, fun s hs => ⟨(h s hs).1.small, (h s hs).2.small⟩⟩
theorem combL_good (f : Bool → Bool → Bool) {a b : List Str} (ha : goodR a) (hb : goodR b) : goodR (combL f a b) := combL_all cut0_good f ha hb
/-! ### ReadRange -/
def rrA : List (List UInt8) → Option (List (List Cpn))
  | [] => some []
  | s :: l => if (altR s).2 = true then (rrA l).map ((altR s).1 :: ·) else none
noncomputable def meetL : List Cpn → List Str → Option (List Str)
  | [], m => some m
  | c :: l, m => if (strS c).2 = true then meetL l (combL and m (strS c).1) else none
noncomputable def joinL : List (List Cpn) → List Str → Option (List Str)
  | [], o => some o
  | l :: ls, o => match meetL l [fromS leastC] with
    | some m => joinL ls (combL or o m)
    | none => none
noncomputable def rdRange (t : List UInt8) : List Str × Int := if (400 : Int) < t.length then ([], 2) else match rrA (splitL t [124, 124]) with
  | none => ([], 10)
  | some ls => match joinL ls [] with
    | none => ([], 1)
    | some o => if (100 : Int) < o.length then ([], 2) else (o, 0)
theorem meetL_good : ∀ (l : List Cpn) (m r : List Str), (∀ c ∈ l, c.good) → goodR m → meetL l m = some r → goodR r ∧ r.length ≤ m.length + l.length
  | [], m, r, _, hm, h => by
    simp only [meetL] at h; injection h with h; subst h
    exact ⟨hm, by simp⟩
  | c :: l, m, r, hl, hm, h => by
    simp only [meetL] at h
    split at h
    · obtain ⟨h1, h2⟩ := strS_good (hl c (by simp))
      obtain ⟨h3, h4⟩ := meetL_good l _ r (fun x hx => hl x (by simp [hx])) (combL_good and hm h2) h
      have := combL_len and m (strS c).1
      exact ⟨h3, by simp only [List.length_cons]; omega⟩
    · cases h
theorem rrA_good : ∀ (l : List (List UInt8)) (ls : List (List Cpn)) (n : Nat), (∀ s ∈ l, s.length ≤ n) → rrA l = some ls → (∀ a ∈ ls, (∀ c ∈ a, c.good) ∧ a.length ≤ n + 1) ∧ ls.length = l.length
  | [], ls, n, _, h => by
    simp only [rrA] at h; injection h with h; subst h
    exact ⟨by simp, rfl⟩
  | s :: l, ls, n, hn, h => by
    simp only [rrA] at h
    split at h
    · rename_i hs
      cases ha : rrA l with
      | none => rw [ha] at h; cases h
      | some r =>
        rw [ha] at h
        simp only [Option.map_some, Option.some.injEq] at h
        subst h
        obtain ⟨h1, h2⟩ := rrA_good l r n (fun x hx => hn x (by simp [hx])) ha
        obtain ⟨h3, h4⟩ := altR_good hs
        have := hn s (by simp)
        refine ⟨fun a ha => ?_, by simp [h2]⟩
        rcases List.mem_cons.1 ha with rfl | ha
        · exact ⟨h3, by omega⟩
        · exact h1 a ha
    · cases h
end Go.Proofs.YtfjeckcbnhohmaaGreatDoor
