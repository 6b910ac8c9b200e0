/-
  slices.SortFunc at pieces off the kit's shelf, at this program (turned from the text for spans).
  What is busy.
  The law: pieces are apart and not free.
-/
import Derived.Shelf.SlSortCmp.WholeK
import Derived.Shelf.SlSortCmp.NoneTotal
import Derived.Test.YtfjeckcbnhohmaaGreatDoorProg
import Derived.Test.YtfjeckcbnhohmaaGreatDoorG11
import Derived.Test.YtfjeckcbnhohmaaGreatDoorG17
namespace Go.Proofs
open Go.Shelf
def Tryz.sortP_ren : Go.Shelf.Ren := ⟨fun | 6 => 23 | 15 => 53 | 14 => 52 | 28 => 97 | 29 => 98 | 20 => 89 | 21 => 90 | 22 => 91 | 23 => 92 | 24 => 93 | 25 => 94 | 26 => 95 | 27 => 96 | 46 => 136 | 47 => 137 | 48 => 138 | 49 => 139 | 50 => 140 | 57 => 186 | n => n, fun | 22 => 28 | 24 => 38 | 25 => 61 | 3 => 3 | 39 => 95 | 0 => 0 | 53 => 137 | 55 => 139 | 4 => 4 | 46 => 131 | 45 => 130 | 50 => 89 | 5 => 5 | 9 => 9 | 66 => 168 | 70 => 172 | 76 => 226 | 77 => 74 | n => n, fun | n => n⟩
theorem Tryz.sortP : Go.Proofs.SlLaysF0.n6 Tryz.prog Tryz.sortP_ren := {
  mixed := by kernel_rfl
  f6 := ⟨Tryz.f23.name, by decide, Tryz.func23.trans (congrArg some (by kernel_rfl))⟩
  f14 := ⟨Tryz.f52.name, by decide, Tryz.func52.trans (congrArg some (by kernel_rfl))⟩
  f15 := Tryz.func53.trans (congrArg some (by kernel_rfl))
  f20 := ⟨Tryz.f89.name, by decide, Tryz.func89.trans (congrArg some (by kernel_rfl))⟩
  f21 := ⟨Tryz.f90.name, by decide, Tryz.func90.trans (congrArg some (by kernel_rfl))⟩
  f22 := ⟨Tryz.f91.name, by decide, Tryz.func91.trans (congrArg some (by kernel_rfl))⟩
  f23 := ⟨Tryz.f92.name, by decide, Tryz.func92.trans (congrArg some (by kernel_rfl))⟩
  f24 := ⟨Tryz.f93.name, by decide, Tryz.func93.trans (congrArg some (by kernel_rfl))⟩
  f25 := ⟨Tryz.f94.name, by decide, Tryz.func94.trans (congrArg some (by kernel_rfl))⟩
  f26 := ⟨Tryz.f95.name, by decide, Tryz.func95.trans (congrArg some (by kernel_rfl))⟩
  f27 := ⟨Tryz.f96.name, by decide, Tryz.func96.trans (congrArg some (by kernel_rfl))⟩
  f28 := Tryz.func97.trans (congrArg some (by kernel_rfl))
  f29 := Tryz.func98.trans (congrArg some (by kernel_rfl))
  f46 := ⟨Tryz.f136.name, by decide, Tryz.func136.trans (congrArg some (by kernel_rfl))⟩
  f47 := Tryz.func137.trans (congrArg some (by kernel_rfl))
  f48 := Tryz.func138.trans (congrArg some (by kernel_rfl))
  f49 := ⟨Tryz.f139.name, by decide, Tryz.func139.trans (congrArg some (by kernel_rfl))⟩
  f50 := ⟨Tryz.f140.name, by decide, Tryz.func140.trans (congrArg some (by kernel_rfl))⟩
  f57 := ⟨Tryz.f186.name, by decide, Tryz.func186.trans (congrArg some (by kernel_rfl))⟩
  t0 := Tryz.underlying0
  a0 := Tryz.isAgg0
  z0 := Tryz.sizeOf0
  v0 := Tryz.zeroValue0
  t3 := Tryz.underlying3
  a3 := Tryz.isAgg3
  z3 := Tryz.sizeOf3
  v3 := Tryz.zeroValue3
  t4 := Tryz.underlying4
  a4 := Tryz.isAgg4
  z4 := Tryz.sizeOf4
  v4 := Tryz.zeroValue4
  t5 := Tryz.underlying5
  a5 := Tryz.isAgg5
  z5 := Tryz.sizeOf5
  v5 := Tryz.zeroValue5
  t9 := Tryz.underlying9
  a9 := Tryz.isAgg9
  z9 := Tryz.sizeOf9
  v9 := Tryz.zeroValue9
  t22 := Tryz.underlying28
  a22 := Tryz.isAgg28
  z22 := Tryz.sizeOf28
  v22 := Tryz.zeroValue28
  t25 := Tryz.underlying61
  a25 := Tryz.isAgg61
  z25 := Tryz.sizeOf61
  v25 := Tryz.zeroValue61
  t39 := Tryz.underlying95
  a39 := Tryz.isAgg95
  z39 := Tryz.sizeOf95
  v39 := Tryz.zeroValue95
  t45 := Tryz.underlying130
  a45 := Tryz.isAgg130
  z45 := Tryz.sizeOf130
  v45 := Tryz.zeroValue130
  t46 := Tryz.underlying131
  a46 := Tryz.isAgg131
  z46 := Tryz.sizeOf131
  v46 := Tryz.zeroValue131
  t50 := Tryz.underlying89
  a50 := Tryz.isAgg89
  z50 := Tryz.sizeOf89
  v50 := Tryz.zeroValue89
  t53 := Tryz.underlying137
  a53 := Tryz.isAgg137
  z53 := Tryz.sizeOf137
  v53 := Tryz.zeroValue137
  t55 := Tryz.underlying139
  a55 := Tryz.isAgg139
  z55 := Tryz.sizeOf139
  v55 := Tryz.zeroValue139
  t66 := Tryz.underlying168
  a66 := Tryz.isAgg168
  z66 := Tryz.sizeOf168
  v66 := Tryz.zeroValue168
  t70 := Tryz.underlying172
  a70 := Tryz.isAgg172
  z70 := Tryz.sizeOf172
  v70 := Tryz.zeroValue172
  t76 := Tryz.underlying226
  a76 := Tryz.isAgg226
  z76 := Tryz.sizeOf226
  v76 := Tryz.zeroValue226
  t77 := Tryz.underlying74
  a77 := Tryz.isAgg74
  z77 := Tryz.sizeOf74
  v77 := Tryz.zeroValue74 }

open Go.AM
theorem Tryz.sortP_ok : SortOk Tryz.prog 23 3 := ⟨fun _ _ enc hk h1 cf hO g blk off cap d w eg hcmp hH hblk hsz => AnyQ.slices_SortFunc_eq Tryz.sortP 3 Tryz.isAgg38 Tryz.sizeOf38 enc hk h1 cf hO g #[] blk off cap d w eg hcmp hH hblk hsz,
  fun p cap fv w => AnyF.slices_SortFunc_none Tryz.sortP p cap fv w⟩
end Go.Proofs
namespace Go.Proofs.YtfjeckcbnhohmaaGreatDoor
open Go.RowKit Go.AM Go.SpanLaw
abbrev Pce := Sp × List UInt8
def encPc (p : Pce) : List PV := [int p.1.1, int p.1.2, str p.2]
theorem encPc_inj {a b : Pce} (h : encPc a = encPc b) : a = b := by
  obtain ⟨⟨a1, a2⟩, a3⟩ := a; obtain ⟨⟨b1, b2⟩, b3⟩ := b
  simp only [encPc, List.cons.injEq, and_true] at h
  rw [pint_inj h.1, pint_inj h.2.1, str_inj h.2.2]
/-! ### the comparison, the sort -/
noncomputable def FPcc (out : Pce → Pce → PV) : List PV → Option PV := specOf (α := Pce × Pce) (fun a => [.agg (encPc a.1), .agg (encPc a.2)]) (fun _ => True) (fun a => out a.1 a.2)
theorem FPcc_call (out : Pce → Pce → PV) (a b : Pce) (hp : Hp) (nx : Nat) : hPure false [] (FPcc out) [.agg (encPc a), .agg (encPc b)] hp nx = some (out a b, hp, nx) :=
  hPure_v (hp1 := hp) (show freezeVals hp [.agg (encPc a), .agg (encPc b)] = some ([.agg (encPc a), .agg (encPc b)], hp) by simp [encPc]) (specOf_eq (enc := fun a : Pce × Pce => [PV.agg (encPc a.1), .agg (encPc a.2)]) (a := (a, b)) (fun a b e => by
    obtain ⟨a1, a2⟩ := a; obtain ⟨b1, b2⟩ := b
    simp only [List.cons.injEq, and_true, PV.agg.injEq] at e
    rw [encPc_inj e.1, encPc_inj e.2]) trivial) (.inr rfl)
theorem cmpPc_sound : SpecSound Tryz.prog 24 (hPure false [] (FPcc fun a b => int (IntKind.i64.wrap (a.1.1 - b.1.1)))) :=
  pureS (fn := Tryz.f24) good0 ⟨_, Tryz.func24, by kernel_rfl, rfl, by kernel_rfl⟩ false [] _ fun args r h => by
    obtain ⟨⟨a, b⟩, rfl, _, rfl⟩ := specOf_inv h
    exact ⟨Nat.le_trans (Nat.le_refl 2) (by decide), _, evalPure_of rfl (by simp [encPc, Tryz.f24]), up_of _⟩
def domP (x : List PV) : Prop := ∃ s : Pce, x = encPc s ∧ 0 ≤ s.1.1 ∧ s.1.1 ≤ 100000
theorem cmpPc_ok : CmpOk Tryz.prog 24 3 cfS domP :=
  ⟨fun args w => enters_of Tryz.func24 (by kernel_rfl) rfl args w, _, cmpPc_sound, fun x y _ _ hx hy => by
    obtain ⟨a, rfl, _⟩ := hx
    obtain ⟨b, rfl, _⟩ := hy
    exact FPcc_call _ a b _ _⟩
theorem sortP_sound : SpecSound Tryz.prog 23 (hSort 3 24 cfS domP) :=
  hSort_sound (by omega) ⟨_, Tryz.func23, by decide, by kernel_rfl⟩ Tryz.sortP_ok cmpPc_ok
def SmallP (l : List Pce) : Prop := ∀ s ∈ l, 0 ≤ s.1.1 ∧ s.1.1 ≤ 100000
theorem cfP_eq {a b : Pce} (ha : 0 ≤ a.1.1 ∧ a.1.1 ≤ 100000) (hb : 0 ≤ b.1.1 ∧ b.1.1 ≤ 100000) : cfS (encPc a) (encPc b) = a.1.1 - b.1.1 := by
  show IntKind.i64.wrap (a.1.1 - b.1.1) = _
  exact wrap_fit (by omega) (by omega)
theorem weakP {l : List Pce} (h : SmallP l) : WeakOn cfS (l.map encPc) where
  irrefl x hx := by
    obtain ⟨s, hs, rfl⟩ := List.mem_map.1 hx
    rw [cfP_eq (h s hs) (h s hs)]; omega
  trans x hx y hy z hz h1 h2 := by
    obtain ⟨a, ha, rfl⟩ := List.mem_map.1 hx
    obtain ⟨b, hb, rfl⟩ := List.mem_map.1 hy
    obtain ⟨c, hc, rfl⟩ := List.mem_map.1 hz
    rw [cfP_eq (h _ ha) (h _ hb)] at h1
    rw [cfP_eq (h _ hb) (h _ hc)] at h2
    rw [cfP_eq (h _ ha) (h _ hc)]
    omega
  ntrans x hx y hy z hz h1 h2 := by
    obtain ⟨a, ha, rfl⟩ := List.mem_map.1 hx
    obtain ⟨b, hb, rfl⟩ := List.mem_map.1 hy
    obtain ⟨c, hc, rfl⟩ := List.mem_map.1 hz
    rw [cfP_eq (h _ ha) (h _ hb)] at h1
    rw [cfP_eq (h _ hb) (h _ hc)] at h2
    rw [cfP_eq (h _ ha) (h _ hc)]
    omega
theorem sortL_pcs {l : List Pce} (h : SmallP l) : ∃ m : List Pce, sortL cfS (l.map encPc) = m.map encPc ∧ m.Perm l ∧ m.Pairwise (fun a b => a.1.1 ≤ b.1.1) := by
  obtain ⟨m, h1, h2⟩ := perm_map_inv (sortL_perm (weakP h))
  refine ⟨m, h2, h1, ?_⟩
  have h3 := sortL_sorted (weakP h)
  rw [h2, List.pairwise_map] at h3
  refine h3.imp_of_mem fun {a b} ha hb hab => ?_
  rw [cfP_eq (h _ (h1.mem_iff.1 hb)) (h _ (h1.mem_iff.1 ha))] at hab
  omega
noncomputable def sortedP (l : List Pce) : List Pce := by
  classical exact if h : SmallP l then (sortL_pcs h).choose else []
theorem sortedP_spec {l : List Pce} (h : SmallP l) : sortL cfS (l.map encPc) = (sortedP l).map encPc ∧ (sortedP l).Perm l ∧ (sortedP l).Pairwise (fun a b => a.1.1 ≤ b.1.1) := by
  unfold sortedP
  rw [dif_pos h]
  exact (sortL_pcs h).choose_spec
theorem sortP_call {l m : List Pce} (h : SmallP l) (hl : l.length ≤ 1048576) (hm : sortL cfS (l.map encPc) = m.map encPc) {hp : Hp} {nx : Nat} {v : PV} (hO : OwnS hp nx 38 3 v (l.map encPc)) :
    ∃ hp', hSort 3 24 cfS domP [v, .fn (.func 24) [] []] hp nx = some (.tup [], hp', nx) ∧ OwnS hp' nx 38 3 v (m.map encPc) := by
  rcases hO with ⟨rfl, h0⟩ | ⟨id, hid, rfl, hh⟩
  · refine ⟨hp, rfl, .inl ⟨rfl, ?_⟩⟩
    rw [← hm, h0]
    rfl
  · by_cases hz : l = []
    · subst hz
      have : m = [] := by
        have : (m.map encPc) = [] := by rw [← hm]; rfl
        simpa using this
      subst this
      exact ⟨hp, rfl, .inr ⟨id, hid, rfl, hh⟩⟩
    · have hne : ¬ (l.map encPc).length = 0 := by simpa using hz
      have hml : (m.map encPc).length = (l.map encPc).length := by rw [← hm, sortL_length (weakP h)]
      refine ⟨upd hp id (some ⟨38, 3, true, m.map encPc⟩), ?_, .inr ⟨id, hid, by rw [hml], by simp⟩⟩
      show (if (l.map encPc).length = 0 then _ else _) = _
      rw [if_neg hne, hh]
      simp only
      have e1 : ((l.map encPc).drop 0).take (l.map encPc).length = l.map encPc := by rw [List.drop_zero, List.take_length]
      have e2 : (l.map encPc).drop (0 + (l.map encPc).length) = [] := by rw [Nat.zero_add, List.drop_length]
      rw [e1, e2, if_pos ⟨rfl, rfl, rfl, by simp, by simp; omega, weakP h, fun x hx => by
        obtain ⟨s, hs, rfl⟩ := List.mem_map.1 hx
        exact ⟨s, rfl, h s hs⟩⟩, hm]
      simp
/-! ### pieces -/
def pcsOf (name : List UInt8) (l : List Sp) : List Pce := l.map fun s => (s, name)
def busL (layer : List UInt8) (n : Int) : List Xp → List Pce
  | [] => []
  | x :: l => (if x.layer = layer then pcsOf x.name (hasG [] n x.phases) else []) ++ busL layer n l
theorem hasG_or (n : Int) : ∀ (l : List Phs) (acc : List Sp), hasG acc n l = acc ∨ ∃ p ∈ l, hasG acc n l = p.spans
  | [], acc => .inl rfl
  | p :: l, acc => by
    simp only [hasG]
    rcases hasG_or n l (if p.at_ ≤ n then p.spans else acc) with h | ⟨q, hq, h⟩
    · split at h
      · rename_i c; rw [if_pos c]; exact .inr ⟨p, by simp, h⟩
      · rename_i c; rw [if_neg c]; exact .inl h
    · exact .inr ⟨q, by simp [hq], h⟩
theorem hasG_len (n : Int) (l : List Phs) : (hasG [] n l).length ≤ sumB Phs.cb l := by
  rcases hasG_or n l [] with h | ⟨p, hp, h⟩
  · rw [h]; simp
  · rw [h]
    have := sumB_mem (f := Phs.cb) hp
    have hpc : p.cb = 1 + p.spans.length := rfl
    omega
theorem busL_len (layer : List UInt8) (n : Int) : ∀ l : List Xp, (busL layer n l).length ≤ sumB Xp.cb l
  | [] => by simp [busL]
  | x :: l => by
    have := busL_len layer n l
    have h2 := hasG_len n x.phases
    have hx : x.cb = x.name.length + x.layer.length + x.flag.length + x.cond.cb + x.salt.length + x.arms.length + sumB Phs.cb x.phases := rfl
    simp only [busL, List.length_append, sumB, List.map_cons, List.sum_cons, pcsOf] at *
    split <;> simp <;> omega
theorem hasG_ok {b : Bk} (h : checkF b = 0) {x : Xp} (hx : x ∈ b.exps) (n : Int) : okU (hasG [] n x.phases) := by
  rcases hasG_or n x.phases [] with e | ⟨p, hp, e⟩
  · rw [e]; intro s hs; simp at hs
  · rw [e]; exact span_ok (phasesF_spans ((chk_ok h).2.1 x hx).1 p hp)
theorem busL_mem (layer : List UInt8) (n : Int) : ∀ (l : List Xp) (s : Pce), s ∈ busL layer n l → ∃ x ∈ l, x.layer = layer ∧ s.1 ∈ hasG [] n x.phases
  | [], s, h => by simp [busL] at h
  | x :: l, s, h => by
    simp only [busL, List.mem_append] at h
    rcases h with h | h
    · split at h
      · rename_i c
        obtain ⟨t, ht, rfl⟩ := List.mem_map.1 h
        exact ⟨x, by simp, c, ht⟩
      · simp at h
    · obtain ⟨q, hq, hs⟩ := busL_mem layer n l s h
      exact ⟨q, by simp [hq], hs⟩
theorem busL_ok {b : Bk} (h : checkF b = 0) (layer : List UInt8) (n : Int) : ∀ s ∈ busL layer n b.exps, 0 ≤ s.1.1 ∧ s.1.1 < s.1.2 ∧ s.1.2 ≤ 100000 := fun s hs => by
  obtain ⟨x, hx, _, hs⟩ := busL_mem layer n b.exps s hs
  exact hasG_ok h hx n s.1 hs
theorem busL_small {b : Bk} (h : checkF b = 0) (layer : List UInt8) (n : Int) : SmallP (busL layer n b.exps) := fun s hs => by
  have := busL_ok h layer n s hs; omega
/-! ### Busy -/
noncomputable def busyR (b : Bk) (s : List UInt8) (n : Int) : List Pce × Int := if chkL b s n = 0 then (if (100 : Int) < (busL s n b.exps).length then ([], 2) else (sortedP (busL s n b.exps), 0)) else ([], chkL b s n)
def pcTup (r : List Pce × Int) : PV := .tup [.sl 3 (r.1.map encPc), int r.2]
theorem stands_nilP (k : Int) : Stands (.tup [.nil, int k]) (pcTup ([], k)) := StandsL.tup (.cons (.nilOr (.inl ⟨rfl, rfl⟩)) (.cons (.refl _) .nil))
noncomputable abbrev Cbz : Ctx := mkCtx Tryz.prog [(21, hPure false [] (FBNI fun b s n => int (chkL b s n))), (22, hPure false [] (FXI (fun x n => .sl 2 ((hasG [] n x.phases).map encS)) fun x _ => x.phases.length ≤ lim)), (23, hSort 3 24 cfS domP)]
theorem goodbz : AM.Good Cbz (fun g => ([] : List Nat).contains g) := good_of mixed ⟨cly_sound, by simp, hasX_sound, by simp, sortP_sound, by simp, trivial⟩
theorem busL_drop {layer : List UInt8} {n : Int} {l : List Xp} {k : Nat} (h : k < l.length) : busL layer n (l.drop k) = (if l[k].layer = layer then pcsOf l[k].name (hasG [] n l[k].phases) else []) ++ busL layer n (l.drop (k + 1)) := by
  rw [List.drop_eq_getElem_cons h, busL]
theorem pcs_drop {name : List UInt8} {l : List Sp} {i : Nat} (h : i < l.length) : pcsOf name (l.drop i) = (l[i], name) :: pcsOf name (l.drop (i + 1)) := by
  rw [List.drop_eq_getElem_cons h]; rfl
set_option maxRecDepth 8000 in
set_option maxHeartbeats 4000000 in
theorem Busy_eval (b : Bk) (s : List UInt8) (n : Int) (hb : b.cb ≤ lim) : ∃ r0, evalPure Cbz Tryz.f7 [.agg b.enc, str s, int n] = some r0 ∧ Stands r0 (pcTup (busyR b s n)) := by
  refine evalPureU_of rfl ?_
  have hlen := sumB_len xp_pos b.exps
  have hbc : b.cb = sumB Lyr.cb b.layers + sumB Hld.cb b.holds + sumB Xp.cb b.exps := rfl
  have hcl := fun hp nx => FBNI_call (fun b s n => int (chkL b s n)) b s n hp nx hb
  simp only [Bk.enc] at hcl
  by_cases c1 : chkL b s n = 0
  case neg =>
    have hv : busyR b s n = ([], chkL b s n) := by unfold busyR; rw [if_neg c1]
    have c1' : (chkL b s n != 0) = true := by simpa using c1
    rw [hv]
    simp [Bk.enc, hcl, c1', Tryz.f7]
    exact ⟨_, by simp, stands_nilP _⟩
  obtain ⟨⟨_, hchk, _⟩, _⟩ := chkL_ok hb c1
  unfold lim at hb
  obtain ⟨T, hT⟩ : ∃ T, busL s n b.exps = T := ⟨_, rfl⟩
  have hTl : T.length ≤ 1048576 := by have := busL_len s n b.exps; rw [hT] at this; omega
  have hTok : SmallP T := by rw [← hT]; exact busL_small hchk s n
  have hv : busyR b s n = if (100 : Int) < T.length then ([], 2) else (sortedP T, 0) := by unfold busyR; rw [if_pos c1, hT]
  rw [hv]
  simp [Bk.enc, hcl, c1]
  refine EvC_for (fun k σ hp nx => σ 1 = str s ∧ σ 2 = int n ∧ σ 22 = .sl 13 (b.exps.map Xp.enc) ∧ σ 23 = int b.exps.length ∧ σ 24 = int k ∧ ∃ d, OwnS hp nx 38 3 (σ 9) (d.map encPc) ∧ d ++ busL s n (b.exps.drop k) = T) b.exps.length
    ⟨by simp, by simp, by simp, by simp, by simp, [], .inl (by simp), by simpa using hT⟩ ?_
  rintro k σ hp nx hk ⟨h1, h2, h22, h23, h24, d, hO, hd⟩
  by_cases hlt : k < b.exps.length
  · obtain ⟨x, hx⟩ : ∃ x, b.exps[k] = x := ⟨_, rfl⟩
    have hxm : x ∈ b.exps := by rw [← hx]; exact List.getElem_mem hlt
    have hmx := sumB_mem (f := Xp.cb) hxm
    have hxc : x.cb = x.name.length + x.layer.length + x.flag.length + x.cond.cb + x.salt.length + x.arms.length + sumB Phs.cb x.phases := rfl
    have hxpl := sumB_len phs_pos x.phases
    rw [busL_drop hlt, hx] at hd
    have hw : IntKind.i64.wrap ((k : Int) + 1) = (k : Int) + 1 := wrap_fit (by omega) (by omega)
    have hO1 := hO.more (some (boxX x))
    by_cases c2 : x.layer = s
    case neg =>
      have c2' : (x.layer == s) = false := by simpa using c2
      rw [if_neg c2, List.nil_append] at hd
      simp [h1, h2, h22, h23, h24, hlt, hx, xp_enc, c2', hw]
      rw [boxX, xp_enc] at hO1
      exact ⟨by omega, d, hO1, hd⟩
    have c2' : (x.layer == s) = true := by simpa using c2
    rw [if_pos c2] at hd
    have hhc := fun hp nx => FXI_call (fun x n => .sl 2 ((hasG [] n x.phases).map encS)) (fun x _ => x.phases.length ≤ lim) x n hp nx (by unfold lim; omega)
    obtain ⟨L, hL⟩ : ∃ L, hasG [] n x.phases = L := ⟨_, rfl⟩
    have hLl : L.length ≤ 1048576 := by have := hasG_len n x.phases; rw [hL] at this; omega
    rw [hL] at hhc hd
    simp only [xp_enc] at hhc
    simp [h1, h2, h22, h23, h24, hlt, hx, xp_enc, c2', hhc]
    obtain ⟨P, hP⟩ : ∃ P, nx = P := ⟨_, rfl⟩
    rw [hP] at hO1 ⊢
    rw [boxX, xp_enc] at hO1
    refine EvC_for (fun i σ hp nx => σ 1 = str s ∧ σ 2 = int n ∧ σ 22 = .sl 13 (b.exps.map Xp.enc) ∧ σ 23 = int b.exps.length ∧ σ 24 = int k ∧ σ 11 = .ref P 0 0 ∧ σ 34 = .sl 2 (L.map encS) ∧ σ 35 = int L.length ∧ σ 36 = int i ∧ P < nx ∧ hp P = some ⟨58, 13, false, [x.enc]⟩ ∧ ∃ d, OwnS hp nx 38 3 (σ 9) (d.map encPc) ∧ d ++ (pcsOf x.name (L.drop i) ++ busL s n (b.exps.drop (k + 1))) = T) L.length
      ⟨by simp [h1], by simp [h2], by simp [h22], by simp [h23], by simp [h24], by simp, by simp, by simp, by simp, (by show P < P + 1; omega), by simp [xp_enc], d, by simpa using hO1, by simpa using hd⟩ ?_
    clear h1 h2 h22 h23 h24 hO hd hO1 hP d hk σ hp nx
    rintro i σ hp nx hi ⟨h1, h2, h22, h23, h24, h11, h34, h35, h36, hPn, hbP, d, hO, hd⟩
    by_cases hlti : i < L.length
    · obtain ⟨p, hpd⟩ : ∃ p, L[i] = p := ⟨_, rfl⟩
      rw [pcs_drop hlti, hpd] at hd
      have hwi : IntKind.i64.wrap ((i : Int) + 1) = (i : Int) + 1 := wrap_fit (by omega) (by omega)
      have nP : ¬ P = nx := by omega
      have hdl : d.length + 1 ≤ 1048576 := by
        have := congrArg List.length hd
        simp only [List.length_append, List.length_cons] at this
        omega
      have hO1 := hO.more (some ⟨36, 2, false, [encS p]⟩)
      have hap := hO1.append1 (P := Tryz.prog) (t := 28) (c := encPc (p, x.name)) el28 sz38 by38 ze38 rfl (by omega) (by rw [List.length_map]; unfold maxLen; omega) (by rw [List.length_map]; omega)
      have hbs : ∀ hp nx, buildSliceA Tryz.prog hp nx 28 1 [(0, .agg (encPc (p, x.name)))] = some (.own nx 0 1, upd hp nx (some ⟨38, 3, true, [encPc (p, x.name)]⟩), nx + 1) := fun hp nx => by
        simp [buildSliceA, setElems, freezeParts, encPc]
      have hke := killV_other hO1 (upd (upd hp nx (some ⟨36, 2, false, [encS p]⟩)) (nx + 1) (some ⟨38, 3, true, [encPc (p, x.name)]⟩)) P (ownS_box hO hbP rfl)
      have hbP' := hbP
      rw [xp_enc] at hbP'
      rw [upd_miss _ _ _ _ (show ¬ P = nx + 1 by omega), upd_miss _ _ _ _ nP, hbP] at hke
      simp only [encPc, encS, List.length_map] at hap hbs hke
      simp [h1, h2, h22, h23, h24, h11, h34, h35, h36, hlti, hpd, encS, hbP', nP, buildA, fillA, hbs, hap, hwi]
      refine ⟨by omega, by omega, ?_, d ++ [(p, x.name)], .inr ⟨nx + 1 + 1, by omega, by simp, by simp [encPc]⟩, by rw [List.append_assoc]; exact hd⟩
      rw [upd_miss _ _ _ _ (by omega)]
      exact hke
    · obtain rfl : i = L.length := by omega
      rw [List.drop_length, show pcsOf x.name [] = [] from rfl, List.nil_append] at hd
      simp [h1, h2, h22, h23, h24, h11, h34, h35, h36, hw]
      exact ⟨by omega, d, hO, hd⟩
  · obtain rfl : k = b.exps.length := by omega
    rw [List.drop_length, busL, List.append_nil] at hd
    subst hd
    obtain ⟨hp', hsc, hO'⟩ := sortP_call hTok hTl (sortedP_spec hTok).1 hO
    have hlen2 := hO'.len (P := Tryz.prog) (t := 28) el28
    have hsl : (sortedP d).length = d.length := (sortedP_spec hTok).2.1.length_eq
    rw [List.length_map, hsl] at hlen2
    by_cases c3 : (100 : Int) < d.length
    · rw [if_pos c3]
      simp [h1, h2, h22, h23, h24, hsc, hlen2, c3, Tryz.f7]
      exact ⟨_, by simp, stands_nilP _⟩
    · rw [if_neg c3]
      simp [h1, h2, h22, h23, h24, hsc, hlen2, c3, Tryz.f7]
      obtain ⟨r0, g1, g2⟩ := hO'.freeze2 (.int .i64 0) nx
      exact ⟨r0, g1, fun w S u hr => up_rep hr g2⟩
set_option maxRecDepth 100000 in
theorem Busy_sound : SpecSound Tryz.prog 7 (hPure false [] (FBNI fun b s n => pcTup (busyR b s n))) :=
  pureG (fn := Tryz.f7) goodbz ⟨_, Tryz.func7, by kernel_rfl, rfl, by kernel_rfl⟩ false [] _ fun args r h w S vs hz => by
    obtain ⟨⟨b, s, n⟩, rfl, hx, rfl⟩ := specOf_inv h
    obtain ⟨r0, h1, h2⟩ := Busy_eval b s n hx
    exact ⟨_, r0, hz, by simp [Tryz.f7], h1, h2⟩
end Go.Proofs.YtfjeckcbnhohmaaGreatDoor
namespace Go.Proofs.YtfjeckcbnhohmaaGreatDoor
open Go.RowKit Go.AM Go.SpanLaw
/-! ### the phase that runs -/
theorem hasG_at (n : Int) : ∀ (l : List Phs) (acc : List Sp), (hasG acc n l = acc ∧ ∀ p ∈ l, n < p.at_) ∨ ∃ (k : Nat) (p : Phs), l[k]? = some p ∧ p.at_ ≤ n ∧ hasG acc n l = p.spans ∧ ∀ q, l[k + 1]? = some q → n < q.at_
  | [], acc => .inl ⟨rfl, fun p hp => by simp at hp⟩
  | p0 :: l, acc => by
    simp only [hasG]
    rcases hasG_at n l (if p0.at_ ≤ n then p0.spans else acc) with ⟨h1, h2⟩ | ⟨k, p, h1, h2, h3, h4⟩
    · by_cases hc : p0.at_ ≤ n
      · rw [if_pos hc] at h1 ⊢
        refine .inr ⟨0, p0, rfl, hc, h1, fun q hq => ?_⟩
        exact h2 q (List.mem_of_getElem? (by simpa using hq))
      · rw [if_neg hc] at h1 ⊢
        refine .inl ⟨h1, fun p hp => ?_⟩
        rcases List.mem_cons.1 hp with rfl | hp
        · omega
        · exact h2 p hp
    · exact .inr ⟨k + 1, p, by simpa using h1, h2, h3, fun q hq => h4 q (by simpa using hq)⟩
/-- The phase that runs, where one does. -/
theorem hasG_run {n : Int} {l : List Phs} (hn : n ≤ 4000000000) : hasG [] n l = [] ∨ ∃ (k : Nat) (p : Phs), l[k]? = some p ∧ p.at_ ≤ n ∧ hasG [] n l = p.spans ∧ n < endF l k := by
  rcases hasG_at n l [] with ⟨h, _⟩ | ⟨k, p, h1, h2, h3, h4⟩
  · exact .inl h
  · refine .inr ⟨k, p, h1, h2, h3, ?_⟩
    unfold endF
    split
    · rename_i q hq; exact h4 q hq
    · omega
theorem unfG_in (rest n : Int) (all : List Phs) : ∀ (l : List Phs) (k0 i : Nat) (p : Phs), l[i]? = some p → n < endF all (k0 + i) + rest → ∀ s ∈ p.spans, s ∈ unfG rest n all k0 l
  | [], k0, i, p, h, _, s, hs => by simp at h
  | p0 :: l, k0, 0, p, h, hc, s, hs => by
    simp at h
    subst h
    simp only [unfG, List.mem_append]
    left
    rw [if_pos (by simpa using hc)]
    exact hs
  | p0 :: l, k0, i + 1, p, h, hc, s, hs => by
    simp only [unfG, List.mem_append]
    right
    exact unfG_in rest n all l (k0 + 1) i p (by simpa using h) (by rw [show k0 + 1 + i = k0 + (i + 1) by omega]; exact hc) s hs
theorem unf_in (layer but : List UInt8) (rest n : Int) : ∀ (l : List Xp) (x : Xp), x ∈ l → x.layer = layer → x.name ≠ but → ∀ s ∈ unfG rest n x.phases 0 x.phases, s ∈ unf layer but rest n l
  | [], x, h, _, _, s, hs => by simp at h
  | y :: l, x, h, hl, hb, s, hs => by
    simp only [unf, List.mem_append]
    rcases List.mem_cons.1 h with rfl | h
    · left
      rw [if_pos hl, if_neg hb]
      exact hs
    · right
      exact unf_in layer but rest n l x h hl hb s hs
theorem exps_names {L : List Lyr} : ∀ {xs : List Xp} {before : List UInt8} {l : List (List UInt8)}, (expsF L before l xs).1 = 0 → ∀ y ∈ xs, isNameB y.name = true
  | [], _, _, _, y, hy => by simp at hy
  | x :: xs, before, l, h, y, hy => by
    simp only [expsF] at h
    split at h
    · rename_i c
      rcases List.mem_cons.1 hy with rfl | hy
      · have := (expF_ok c).2.2.2.2
        unfold nameF at this
        split at this
        · assumption
        · exact absurd this (by simp)
      · exact exps_names h y hy
    · rename_i c; exact absurd h c
theorem chk_names {b : Bk} (h : checkF b = 0) : ∀ y ∈ b.exps, isNameB y.name = true := by
  unfold checkF at h
  split at h
  · exact absurd h (by simp)
  split at h
  · split at h
    · split at h
      · rename_i c3; exact exps_names c3
      · rename_i c; exact absurd h c
    · rename_i c; exact absurd h c
  · rename_i c; exact absurd h c
theorem name_ne {s : List UInt8} (h : isNameB s = true) : s ≠ [] := fun e => by
  rw [e] at h
  exact absurd h (by decide)
/-! ### what is busy is not free -/
theorem mem_of_in {l : List Sp} {s : Sp} (h : s ∈ l) {k : Int} (hk : s.1 ≤ k ∧ k < s.2) : mem l k := ⟨s, h, hk⟩
theorem restOf_pos {b : Bk} (h : checkF b = 0) (s : List UInt8) : 0 ≤ restOf b.layers s ∧ restOf b.layers s ≤ 100000000 := by
  unfold restOf
  split
  · rename_i y hy; exact (chk_ok h).1 y (List.mem_of_getElem? hy)
  · omega
theorem free_right {b : Bk} (h : checkF b = 0) (s t : List UInt8) (n : Int) : Canon (-1) (freeB b s t n) ∧ Below 100000 (freeB b s t n) ∧ (∀ x ∈ freeB b s t n, 0 ≤ x.1) ∧ ∀ k, mem (freeB b s t n) k ↔ mem [(0, 100000)] k ∧ ¬ mem (unf s t (restOf b.layers s) n b.exps) k := by
  obtain ⟨⟨c1, _⟩, hm⟩ := tog_okS (unf_ok h s t (restOf b.layers s) n)
  have c0 : Canon (-1) [((0 : Int), (100000 : Int))] := ⟨by omega, by omega, trivial⟩
  have hc : Canon (-1) (freeB b s t n) := mins_canon c0 c1
  have hmm : ∀ k, mem (freeB b s t n) k ↔ mem [(0, 100000)] k ∧ ¬ mem (unf s t (restOf b.layers s) n b.exps) k := fun k => by
    unfold freeB
    rw [mins_mem c0 c1, hm]
  refine ⟨hc, fun x hx => ?_, fun x hx => ?_, hmm⟩
  · have := canon_pos hc x hx
    have := ((hmm (x.2 - 1)).1 ⟨x, hx, by omega, by omega⟩).1
    rw [mem_one] at this
    omega
  · have := canon_pos hc x hx
    have := ((hmm x.1).1 ⟨x, hx, by omega, by omega⟩).1
    rw [mem_one] at this
    omega
theorem busy_not_free {b : Bk} (h : checkF b = 0) (s : List UInt8) {n : Int} (hn : n ≤ 4000000000) {p : Pce} (hp : p ∈ busL s n b.exps) {k : Int} (hk : p.1.1 ≤ k ∧ k < p.1.2) : ¬ mem (freeB b s [] n) k := fun hm => by
  obtain ⟨x, hx, hl, hs⟩ := busL_mem s n b.exps p hp
  have hu := (((free_right h s [] n).2.2.2 k).1 hm).2
  rcases hasG_run (l := x.phases) hn with e | ⟨i, q, h1, h2, h3, h4⟩
  · rw [e] at hs; simp at hs
  · rw [h3] at hs
    have hr := restOf_pos h s
    refine hu (mem_of_in (unf_in s [] _ n b.exps x hx hl (name_ne (chk_names h x hx)) p.1 (unfG_in _ n x.phases x.phases 0 i q h1 ?_ p.1 hs)) hk)
    rw [Nat.zero_add]
    omega
/-! ### apart -/
def DisjS (a b : Sp) : Prop := a.2 ≤ b.1 ∨ b.2 ≤ a.1
theorem canon_ge : ∀ {lo : Int} {l : List Sp}, Canon lo l → ∀ s ∈ l, lo < s.1
  | _, [], _, s, h => by simp at h
  | lo, x :: l, hc, s, h => by
    rcases List.mem_cons.1 h with rfl | h
    · exact hc.1
    · have := canon_ge hc.2.2 s h
      have := hc.1; have := hc.2.1
      omega
theorem meets_disj : ∀ (l m : List Sp) {lo lo' : Int}, Canon lo l → Canon lo' m → meetsB l m = false → ∀ a ∈ l, ∀ c ∈ m, DisjS a c
  | [], m, _, _, _, _, _, a, ha, c, hc => by simp at ha
  | x :: l, [], _, _, _, _, _, a, ha, c, hc => by simp at hc
  | x :: l, y :: m, lo, lo', h1, h2, h, a, ha, c, hc => by
    rw [meetsB] at h
    split at h
    · rename_i g
      have ih := meets_disj l (y :: m) h1.2.2 h2 h
      rcases List.mem_cons.1 ha with rfl | ha
      · left
        rcases List.mem_cons.1 hc with rfl | hc
        · exact g
        · have := canon_ge h2.2.2 c hc
          have := h2.2.1
          omega
      · exact ih a ha c hc
    · split at h
      · rename_i g
        have ih := meets_disj (x :: l) m h1 h2.2.2 h
        rcases List.mem_cons.1 hc with rfl | hc
        · right
          rcases List.mem_cons.1 ha with rfl | ha
          · exact g
          · have := canon_ge h1.2.2 a ha
            have := h1.2.1
            omega
        · exact ih a ha c hc
      · exact absurd h (by simp)
termination_by l m => l.length + m.length
theorem clash2_false {a b : List Phs} {i : Nat} {p : Phs} {rest : Int} : ∀ {l : List Phs} {k : Nat}, clash2 a b i p rest k l = false → ∀ (m : Nat) (q : Phs), l[m]? = some q → hitB a b i (k + m) p q rest = false
  | [], k, _, m, q, hq => by simp at hq
  | y :: l, k, h, m, q, hq => by
    simp only [clash2, Bool.or_eq_false_iff] at h
    cases m with
    | zero => simp at hq; subst hq; exact h.1
    | succ m =>
      have := clash2_false h.2 m q (by simpa using hq)
      rw [show k + 1 + m = k + (m + 1) by omega] at this
      exact this
theorem clash1_false {a b : List Phs} {rest : Int} : ∀ {l : List Phs} {i : Nat}, clash1 a b rest i l = false → ∀ (m : Nat) (p : Phs), l[m]? = some p → clash2 a b (i + m) p rest 0 b = false
  | [], i, _, m, q, hq => by simp at hq
  | y :: l, i, h, m, q, hq => by
    simp only [clash1, Bool.or_eq_false_iff] at h
    cases m with
    | zero => simp at hq; subst hq; exact h.1
    | succ m =>
      have := clash1_false h.2 m q (by simpa using hq)
      rw [show i + 1 + m = i + (m + 1) by omega] at this
      exact this
/-- What two experiments of a layer have at one time is disjoint. -/
theorem clash_disj {x y : Xp} {rest n : Int} (hr : 0 ≤ rest) (hn : n ≤ 4000000000) (h : clashB x y rest = false) (hx : ∀ p ∈ x.phases, spFault p.spans = 0) (hy : ∀ p ∈ y.phases, spFault p.spans = 0) : ∀ a ∈ hasG [] n x.phases, ∀ c ∈ hasG [] n y.phases, DisjS a c := by
  rcases hasG_run (l := x.phases) hn with e | ⟨i, p, h1, h2, h3, h4⟩
  · rw [e]; intro a ha; simp at ha
  rcases hasG_run (l := y.phases) hn with e | ⟨k, q, g1, g2, g3, g4⟩
  · rw [e]; intro a ha c hc; simp at hc
  rw [h3, g3]
  have hh := clash2_false (clash1_false h i p h1) k q g1
  rw [Nat.zero_add, Nat.zero_add] at hh
  have hnear : nearB x.phases y.phases i k p q rest = true := by
    unfold nearB
    rcases Int.le_total p.at_ q.at_ with hle | hle
    · rw [decide_eq_true hle, decide_eq_true (show q.at_ < endF x.phases i + rest by omega)]; rfl
    · rw [decide_eq_true hle, decide_eq_true (show p.at_ < endF y.phases k + rest by omega)]; simp
  unfold hitB at hh
  rw [hnear, Bool.true_and] at hh
  exact meets_disj p.spans q.spans (spFault_right (hx p (List.mem_of_getElem? h1))).1 (spFault_right (hy q (List.mem_of_getElem? g1))).1 hh
theorem cls_pair {L : List Lyr} {all : List Xp} : ∀ {l : List Xp} {k : Nat}, l = all.drop k → clsF L all k l = false → ∀ j (hj : j < all.length), k ≤ j → (all.take j).any (cls1 all[j] (restOf L all[j].layer)) = false
  | [], k, hl, _, j, hj, hkj => by
    have := congrArg List.length hl
    simp at this
    omega
  | x :: l, k, hl, h, j, hj, hkj => by
    simp only [clsF, Bool.or_eq_false_iff] at h
    have hk : k < all.length := by omega
    rw [List.drop_eq_getElem_cons hk] at hl
    injection hl with e1 e2
    rcases Nat.eq_or_lt_of_le hkj with rfl | hlt
    · rw [← e1]; exact h.1
    · exact cls_pair e2 h.2 j hj hlt
def Apart (s : List UInt8) (n : Int) (x y : Xp) : Prop := x.layer = s → y.layer = s → ∀ a ∈ hasG [] n x.phases, ∀ c ∈ hasG [] n y.phases, DisjS a c
theorem exps_apart {b : Bk} (h : checkF b = 0) (s : List UInt8) {n : Int} (hn : n ≤ 4000000000) : b.exps.Pairwise (Apart s n) := by
  rw [List.pairwise_iff_getElem]
  intro i j hi hj hij hx hy
  obtain ⟨_, hex, hcl⟩ := chk_ok h
  have hc := cls_pair (all := b.exps) (k := 0) rfl hcl j hj (Nat.zero_le _)
  rw [List.any_eq_false] at hc
  have hm : b.exps[i] ∈ b.exps.take j := by rw [List.mem_take_iff_getElem]; exact ⟨i, by omega, rfl⟩
  have hc := hc _ hm
  have hcl : clashB b.exps[j] b.exps[i] (restOf b.layers b.exps[j].layer) = false := by
    simpa [cls1, hx, hy] using hc
  have := clash_disj (restOf_pos h _).1 hn hcl (phasesF_spans (hex _ (List.getElem_mem hj)).1) (phasesF_spans (hex _ (List.getElem_mem hi)).1)
  exact fun a ha c hc => (this c hc a ha).elim .inr .inl
def DisjP (a b : Pce) : Prop := DisjS a.1 b.1
theorem canon_pair : ∀ {lo : Int} {l : List Sp}, Canon lo l → l.Pairwise DisjS
  | _, [], _ => .nil
  | lo, x :: l, hc => by
    refine .cons (fun y hy => .inl ?_) (canon_pair hc.2.2)
    have := canon_ge hc.2.2 y hy
    omega
theorem busL_pair (s : List UInt8) (n : Int) : ∀ {l : List Xp}, l.Pairwise (Apart s n) → (∀ x ∈ l, ∃ lo, Canon lo (hasG [] n x.phases)) → (busL s n l).Pairwise DisjP
  | [], _, _ => .nil
  | x :: l, hp, hc => by
    rw [List.pairwise_cons] at hp
    simp only [busL]
    rw [List.pairwise_append]
    refine ⟨?_, busL_pair s n hp.2 (fun y hy => hc y (by simp [hy])), fun a ha c hcm => ?_⟩
    · split
      · obtain ⟨lo, hlo⟩ := hc x (by simp)
        unfold pcsOf
        rw [List.pairwise_map]
        exact canon_pair hlo
      · exact .nil
    · split at ha
      · rename_i g
        obtain ⟨t, ht, rfl⟩ := List.mem_map.1 ha
        obtain ⟨y, hy, hl, hs⟩ := busL_mem s n l c hcm
        exact hp.1 y hy g hl t ht c.1 hs
      · simp at ha
/-! ### the law -/
theorem busy_apart {b : Bk} (h : checkF b = 0) (s : List UInt8) {n : Int} (hn : n ≤ 4000000000) : (sortedP (busL s n b.exps)).Pairwise fun a c => a.1.2 ≤ c.1.1 := by
  obtain ⟨_, hperm, hsort⟩ := sortedP_spec (busL_small h s n)
  have hcan : ∀ x ∈ b.exps, ∃ lo, Canon lo (hasG [] n x.phases) := fun x hx => by
    rcases hasG_or n x.phases [] with e | ⟨p, hp, e⟩
    · exact ⟨0, by rw [e]; trivial⟩
    · exact ⟨-1, by rw [e]; exact (spFault_right (phasesF_spans ((chk_ok h).2.1 x hx).1 p hp)).1⟩
  have hd := (hperm.pairwise_iff (R := DisjP) (fun h => h.elim .inr .inl)).2 (busL_pair s n (exps_apart h s hn) hcan)
  rw [List.pairwise_iff_getElem] at hd hsort ⊢
  intro i j hi hj hij
  have h1 := hd i j hi hj hij
  have h2 := hsort i j hi hj hij
  have h3 := busL_ok h s n _ (hperm.mem_iff.1 (List.getElem_mem hj))
  rcases h1 with h1 | h1
  · exact h1
  · omega
theorem minR_self {f : List Sp} {p : Sp} (hp : 0 ≤ p.1 ∧ p.1 < p.2 ∧ p.2 ≤ 100000) (hf : spFault f = 0) (hd : ∀ k, p.1 ≤ k ∧ k < p.2 → ¬ mem f k) : minR [p] f = ([p], 0) := by
  have hc : Canon (-1) [p] := ⟨by omega, hp.2.1, trivial⟩
  have hs : spFault [p] = 0 := spFault_of hc (fun x hx => by simp at hx; subst hx; exact hp.2.2) (by simp)
  have hb : bothF [p] f = 0 := by unfold bothF; simp [hs, hf]
  have hm : mins [p] f = [p] := canon_eq (mins_canon hc (spFault_right hf).1) hc fun k => by
    rw [mins_mem hc (spFault_right hf).1]
    constructor
    · exact fun g => g.1
    · intro g
      refine ⟨g, hd k ?_⟩
      have := (mem_one p.1 p.2 k).1 g
      exact this
  unfold minR
  rw [if_pos hb, hm]
  rfl
theorem pieces_law (b : Bk) (s : List UInt8) (n : Int) (hb : b.cb ≤ lim) : ((busyR b s n).2 ≠ 0 → (busyR b s n).1 = []) ∧ ((freeR b s n).2 ≠ 0 → (freeR b s n).1 = []) ∧ ((busyR b s n).2 = 0 → (freeR b s n).2 = 0 → (busyR b s n).1.Pairwise (fun a c => a.1.2 ≤ c.1.1) ∧ ∀ p ∈ (busyR b s n).1, minR [p.1] (freeR b s n).1 = ([p.1], 0)) ∧ (busyR b s n).1.length ≤ 100 := by
  by_cases c1 : chkL b s n = 0
  case neg =>
    have hv : busyR b s n = ([], chkL b s n) := by unfold busyR; rw [if_neg c1]
    have hw : freeR b s n = ([], chkL b s n) := by unfold freeR; rw [if_neg c1]
    rw [hv, hw]
    exact ⟨fun _ => rfl, fun _ => rfl, fun h => absurd h c1, by simp⟩
  obtain ⟨⟨_, hchk, _⟩, ht⟩ := chkL_ok hb c1
  have hn : n ≤ 4000000000 := ((inB_iff _ _ _).1 ht).2
  have hw : freeR b s n = limR (freeB b s [] n) := by unfold freeR; rw [if_pos c1]
  have hv : busyR b s n = if (100 : Int) < (busL s n b.exps).length then ([], 2) else (sortedP (busL s n b.exps), 0) := by unfold busyR; rw [if_pos c1]
  obtain ⟨_, hperm, _⟩ := sortedP_spec (busL_small hchk s n)
  refine ⟨?_, ?_, ?_, ?_⟩
  · rw [hv]; split <;> simp
  · rw [hw]; unfold limR; split <;> simp
  · intro g1 g2
    rw [hv] at g1 ⊢
    rw [hw] at g2 ⊢
    unfold limR at g2 ⊢
    split at g1
    · exact absurd g1 (by simp)
    rename_i d1
    split at g2
    · exact absurd g2 (by simp)
    rename_i d2
    rw [if_neg d1, if_neg d2]
    refine ⟨busy_apart hchk s hn, fun p hp => ?_⟩
    have hpm := hperm.mem_iff.1 hp
    obtain ⟨f1, f2, f3, _⟩ := free_right hchk s [] n
    exact minR_self (busL_ok hchk s n p hpm) (spFault_of (l := freeB b s [] n) f1 f2 (by omega)) fun k hk => busy_not_free hchk s hn hpm hk
  · rw [hv]
    split
    · simp
    · rename_i d; have := hperm.length_eq; simp only; omega
end Go.Proofs.YtfjeckcbnhohmaaGreatDoor
