/-
  Attributes: the binary search of the program, the reference's search.
-/
import Derived.Test.YtphmgjcjcdodhaaCtxt
namespace Go.Proofs.Ytphmgjcjcdodhaa
open Go.RowKit Go.AM

/-! ### strings.Compare -/
noncomputable abbrev cmpB := Lib.compareBytes
theorem cmpString_sound : SpecSound Try.prog 101 (hPure false [] (F2S cmpB)) :=
  sound_scalar ⟨_, Try.func101, by kernel_rfl, by kernel_rfl⟩ fun args r h => by
    obtain ⟨⟨a, b⟩, rfl, _, rfl⟩ := specOf_inv h
    exact ⟨[.string ⟨a.toArray⟩, .string ⟨b.toArray⟩], rfl, by simp [lit], _, rfl, rfl, fun w => by simpa using Try.bytealg_CompareString ⟨a.toArray⟩ ⟨b.toArray⟩ w⟩
noncomputable abbrev Cst : Ctx := mkCtx Try.prog [(101, hPure false [] (F2S cmpB))]
theorem strCompare_sound : SpecSound Try.prog 77 (hPure false [] (F2S cmpB)) :=
  pureS (fn := Try.f77) (good_of (q := []) mixed ⟨cmpString_sound, by simp, trivial⟩ : AM.Good Cst _) ⟨_, Try.func77, by kernel_rfl, rfl, by kernel_rfl⟩ false [] _ fun args r h => by
    obtain ⟨⟨a, b⟩, rfl, _, rfl⟩ := specOf_inv h
    exact ⟨by simp [Try.f77], _, evalPure_of rfl (by simp [Try.f77]), up_of _⟩
/-- A field or an attribute, and a name. -/
noncomputable def FFS (f : List UInt8 × Val → List UInt8 → PV) : List PV → Option PV := specOf (α := (List UInt8 × Val) × List UInt8) (fun a => [.agg (encF a.1), str a.2]) (fun _ => True) (fun a => f a.1 a.2)
theorem freeze_encF (hp : Hp) (x : List UInt8 × Val) : freezeVal hp (.agg (encF x)) = some (.agg (encF x), hp) := by simp [encF]
theorem noOwn_encF (x : List UInt8 × Val) : PV.noOwn (.agg (encF x)) = true := by
  have := noOwn_enc x.2
  simp only [PV.noOwn, Bool.not_eq_true', encF, List.any_cons] at this ⊢
  simpa using this
theorem FFS_call (f : List UInt8 × Val → List UInt8 → PV) (x : List UInt8 × Val) (s : List UInt8) (hp : Hp) (nx : Nat) : hPure false [] (FFS f) [.agg (encF x), str s] hp nx = some (f x s, hp, nx) :=
  hPure_v (hp1 := hp) (show freezeVals hp [.agg (encF x), str s] = some ([.agg (encF x), str s], hp) by simp only [freezeVals, freeze_encF]; simp)
    (specOf_eq (enc := fun a : (List UInt8 × Val) × List UInt8 => [PV.agg (encF a.1), str a.2]) (a := (x, s)) (fun a b e => by
      obtain ⟨a1, a2⟩ := a; obtain ⟨b1, b2⟩ := b
      simp only [List.cons.injEq, and_true, PV.agg.injEq] at e
      obtain ⟨e1, e2⟩ := e
      have e1 : encF a1 = encF b1 := by simpa only [encF, List.cons.injEq] using e1
      rw [encF_inj e1, str_inj e2]) trivial) (.inr (by simp only [List.all_cons, noOwn_encF, List.all_nil]; rfl))
noncomputable abbrev Cac : Ctx := mkCtx Try.prog [(77, hPure false [] (F2S cmpB))]
theorem attrCmp_sound : SpecSound Try.prog 76 (hPure false [] (FFS fun x s => int (cmpB x.1 s))) :=
  pureS (fn := Try.f76) (good_of (q := []) mixed ⟨strCompare_sound, by simp, trivial⟩ : AM.Good Cac _) ⟨_, Try.func76, by kernel_rfl, rfl, by kernel_rfl⟩ false [] _ fun args r h => by
    obtain ⟨⟨x, s⟩, rfl, _, rfl⟩ := specOf_inv h
    exact ⟨by simp [Try.f76], _, evalPure_of rfl (by simp [Try.f76, encF]), up_of _⟩

/-! ### slices.BinarySearchFunc -/
/-- The search: where lo meets hi. f: what comes before. -/
def bsGo (f : Nat → Bool) (lo hi : Nat) : Nat := if h : lo < hi then (if f ((lo + hi) / 2) then bsGo f ((lo + hi) / 2 + 1) hi else bsGo f lo ((lo + hi) / 2)) else lo
termination_by hi - lo
decreasing_by all_goals omega
theorem bsGo_step {f : Nat → Bool} {lo hi : Nat} (h : lo < hi) : bsGo f lo hi = if f ((lo + hi) / 2) then bsGo f ((lo + hi) / 2 + 1) hi else bsGo f lo ((lo + hi) / 2) := by rw [bsGo, dif_pos h]
theorem bsGo_end {f : Nat → Bool} {lo hi : Nat} (h : ¬ lo < hi) : bsGo f lo hi = lo := by rw [bsGo, dif_neg h]
theorem bsGo_le (f : Nat → Bool) (lo hi : Nat) (h : lo ≤ hi) : lo ≤ bsGo f lo hi ∧ bsGo f lo hi ≤ hi := by
  induction lo, hi using bsGo.induct (f := f) with
  | case1 lo hi hlt hf ih => rw [bsGo, dif_pos hlt, if_pos hf]; have := ih (by omega); omega
  | case2 lo hi hlt hf ih => rw [bsGo, dif_pos hlt, if_neg hf]; have := ih (by omega); omega
  | case3 lo hi hlt => rw [bsGo, dif_neg hlt]; omega
/-- What slices.BinarySearchFunc returns. -/
noncomputable def lessAt (l : List (List UInt8 × Val)) (s : List UInt8) (k : Nat) : Bool := match l[k]? with
  | some x => decide (cmpB x.1 s < 0)
  | none => false
noncomputable def bsOut (l : List (List UInt8 × Val)) (s : List UInt8) : Nat × Bool := (bsGo (lessAt l s) 0 l.length, match l[bsGo (lessAt l s) 0 l.length]? with
  | some x => cmpB x.1 s == 0
  | none => false)
noncomputable def FBS (g : Nat) : List PV → Option PV := specOf (α := List (List UInt8 × Val) × List UInt8) (fun a => [.sl 6 (a.1.map encF), str a.2, .fn (.func g) [] []]) (fun a => a.1.length ≤ lim) (fun a => .tup [int (bsOut a.1 a.2).1, boo (bsOut a.1 a.2).2])
theorem FBS_call (g : Nat) (l : List (List UInt8 × Val)) (s : List UInt8) (hp : Hp) (nx : Nat) (h : l.length ≤ lim) : hPure false [] (FBS g) [.sl 6 (l.map encF), str s, .fn (.func g) [] []] hp nx = some (.tup [int (bsOut l s).1, boo (bsOut l s).2], hp, nx) :=
  hPure_v rfl (specOf_eq (enc := fun a : List (List UInt8 × Val) × List UInt8 => [PV.sl 6 (a.1.map encF), str a.2, .fn (.func g) [] []]) (a := (l, s)) (fun a b e => by
    obtain ⟨a1, a2⟩ := a; obtain ⟨b1, b2⟩ := b
    simp only [List.cons.injEq, and_true] at e
    obtain ⟨e1, e2⟩ := e
    injection e1 with _ e1
    rw [map_inj (fun _ _ => encF_inj) e1, str_inj e2]) h) (.inl rfl)
noncomputable abbrev Cbs : Ctx := mkCtx Try.prog [(76, hPure false [] (FFS fun x s => int (cmpB x.1 s)))]
set_option maxRecDepth 8000 in
theorem bs_eval (l : List (List UInt8 × Val)) (s : List UInt8) (hl : l.length ≤ lim) : evalPure Cbs Try.f75 [.sl 6 (l.map encF), str s, .fn (.func 76) [] []] = some (.tup [int (bsOut l s).1, boo (bsOut l s).2]) := by
  refine evalPure_of rfl ?_
  unfold lim at hl
  simp
  refine EvC_loop (fun st => st.σ 0 = .sl 6 (l.map encF) ∧ st.σ 1 = str s ∧ st.σ 2 = .fn (.func 76) [] [] ∧ st.σ 8 = int l.length ∧ ∃ lo hi : Nat, lo ≤ hi ∧ hi ≤ l.length ∧ st.σ 9 = int lo ∧ st.σ 10 = int hi ∧ bsGo (lessAt l s) 0 l.length = bsGo (lessAt l s) lo hi)
    (fun st => (numAt (st.σ 10)).toNat - (numAt (st.σ 9)).toNat) ⟨by simp, by simp, by simp, by simp, 0, l.length, by simp, by simp, by simp, by simp, rfl⟩ ?_
  rintro ⟨σ, hp, nx⟩ ⟨h0, h1, h2, h8, lo, hi, hlh, hhi, h9, h10, he⟩
  simp only at h0 h1 h2 h8 h9 h10
  by_cases hlt : lo < hi
  · have hcall := fun x hp nx => FFS_call (fun x s => int (cmpB x.1 s)) x s hp nx
    have w1 : IntKind.i64.wrap ((lo : Int) + hi) = (lo : Int) + hi := wrap_fit (by omega) (by omega)
    have hml : (lo + hi) / 2 < l.length := by omega
    obtain ⟨m, hm⟩ : ∃ m, m = (lo + hi) / 2 := ⟨_, rfl⟩
    have hmid : IntKind.i64.wrap ((IntKind.u64.wrap ((lo : Int) + hi)).fdiv (2 ^ min 1 IntKind.u64.bits)) = (m : Int) := by
      have e1 : IntKind.u64.wrap ((lo : Int) + hi) = (lo : Int) + hi := by rw [IntKind.wrap_u64]; omega
      have e2 : (2 ^ min 1 IntKind.u64.bits : Int) = 2 := by decide
      rw [e1, e2, Int.fdiv_eq_ediv_of_nonneg _ (by omega), wrap_fit (by omega) (by omega)]
      omega
    have hml' : m < l.length := by omega
    have wm : IntKind.i64.wrap ((m : Int) + 1) = (m : Int) + 1 := wrap_fit (by omega) (by omega)
    have hla : lessAt l s m = decide (cmpB l[m].1 s < 0) := by simp [lessAt, hml']
    rw [bsGo_step (lo := lo) hlt, ← hm, hla] at he
    have hcm := hcall l[m]
    simp only [encF] at hcm
    by_cases hc : cmpB l[m].1 s < 0
    · simp only [hc, decide_true, if_true] at he
      simp [h0, h1, h2, h8, h9, h10, hlt, w1, hmid, hml', hcm, hc, wm]
      exact ⟨⟨m + 1, hi, by omega, hhi, by omega, rfl, he⟩, by omega⟩
    · simp only [hc, decide_false, Bool.false_eq_true, if_false] at he
      simp [h0, h1, h2, h8, h9, h10, hlt, w1, hmid, hml', hcm, hc]
      exact ⟨⟨lo, m, by omega, by omega, rfl, rfl, he⟩, by omega⟩
  · have he : bsGo (lessAt l s) 0 l.length = lo := by rw [he, bsGo_end (lo := lo) hlt]
    have hcall := fun x hp nx => FFS_call (fun x s => int (cmpB x.1 s)) x s hp nx
    unfold bsOut
    rw [he]
    by_cases hlo : lo < l.length
    · have hcm := hcall l[lo]
      simp only [encF] at hcm
      simp [h0, h1, h2, h8, h9, h10, hlt, hlo, hcm, Try.f75, pureR]
    · have hlo' : l[lo]? = none := List.getElem?_eq_none (by omega)
      simp [h0, h1, h2, h8, h9, h10, hlt, hlo, hlo', Try.f75, pureR]
theorem bs_sound : SpecSound Try.prog 75 (hPure false [] (FBS 76)) :=
  pureS (fn := Try.f75) (good_of (q := [76]) mixed ⟨attrCmp_sound, fun _ => hPure_quiet _ _, trivial⟩ : AM.Good Cbs _) ⟨_, Try.func75, by kernel_rfl, rfl, by kernel_rfl⟩ false [] _ fun args r h => by
    obtain ⟨⟨l, s⟩, rfl, hl, rfl⟩ := specOf_inv h
    exact ⟨Nat.le_trans (Nat.le_refl 3) (by decide), _, bs_eval l s hl, up_of _⟩

/-! ### XattrOf and AttrOf -/
def noVal : Val := .mk 0 0 [] [] []
def textVal (s : List UInt8) : Val := .mk 3 0 s [] []
def keyW : List UInt8 := [107, 101, 121]
/-- What the program finds. -/
noncomputable def Ctxt.find (x : Ctxt) (s : List UInt8) : Val × Bool :=
  if s == keyW then (textVal x.key, true) else match x.attrs[(bsOut x.attrs s).1]? with
    | some a => if (bsOut x.attrs s).2 then (a.2, true) else (noVal, false)
    | none => (noVal, false)
/-- A context and a name. -/
noncomputable def FXS (out : Ctxt → List UInt8 → PV) (pre : Ctxt → List UInt8 → Prop) : List PV → Option PV := specOf (α := Ctxt × List UInt8) (fun a => [.agg a.1.enc, str a.2]) (fun a => a.1.cb ≤ lim ∧ a.2.length ≤ lim ∧ pre a.1 a.2) (fun a => out a.1 a.2)
theorem FXS_call (out : Ctxt → List UInt8 → PV) (pre : Ctxt → List UInt8 → Prop) (x : Ctxt) (s : List UInt8) (hp : Hp) (nx : Nat) (h : x.cb ≤ lim ∧ s.length ≤ lim ∧ pre x s) : hPure false [] (FXS out pre) [.agg x.enc, str s] hp nx = some (out x s, hp, nx) :=
  hPure_v (hp1 := hp) (show freezeVals hp [.agg x.enc, str s] = some ([.agg x.enc, str s], hp) by simp only [freezeVals, freeze_ctxt]; simp)
    (specOf_eq (enc := fun a : Ctxt × List UInt8 => [PV.agg a.1.enc, str a.2]) (a := (x, s)) (fun a b e => by
      obtain ⟨a1, a2⟩ := a; obtain ⟨b1, b2⟩ := b
      simp only [List.cons.injEq, and_true, PV.agg.injEq] at e
      rw [ctxt_inj e.1, str_inj e.2]) h) (.inr (by simp only [List.all_cons, noOwn_ctxt, List.all_nil]; rfl))
theorem bsOut_le (l : List (List UInt8 × Val)) (s : List UInt8) : (bsOut l s).1 ≤ l.length := (bsGo_le _ 0 l.length (Nat.zero_le _)).2
theorem bsOut_lt {l : List (List UInt8 × Val)} {s : List UInt8} (h : (bsOut l s).2 = true) : (bsOut l s).1 < l.length := by
  unfold bsOut at h ⊢
  simp only at h ⊢
  split at h
  · rename_i x hx; exact (List.getElem?_eq_some_iff.1 hx).1
  · cases h
def valTup (r : Val × Bool) : PV := .tup [.agg r.1.enc, boo r.2]
noncomputable abbrev Cxa : Ctx := mkCtx Try.prog [(75, hPure false [] (FBS 76))]
theorem stands0 (k n : Int) (s : List UInt8) : Stands (.agg [int k, int n, str s, .nil, .nil]) (.agg (Val.mk k n s [] []).enc) := by
  rw [enc_eq]
  exact StandsL.agg (.cons (.refl _) (.cons (.refl _) (.cons (.refl _) (.cons (.nilOr (.inl ⟨rfl, rfl⟩)) (.cons (.nilOr (.inl ⟨rfl, rfl⟩)) .nil)))))
set_option maxRecDepth 8000 in
theorem attrOf_eval (x : Ctxt) (s : List UInt8) (h : x.cb ≤ lim) : ∃ r0, evalPure Cxa Try.f37 [.agg x.enc, str s] = some r0 ∧ Stands r0 (valTup (x.find s)) := by
  have hcb := cb_eq x
  have hl2 := fbs_length x.attrs
  have hbs := fun hp nx => FBS_call 76 x.attrs s hp nx (by omega)
  refine evalPureU_of rfl ?_
  have hne : (s == keyW) = false → (bsOut x.attrs s).2 = false → x.find s = (noVal, false) := fun h1 h2 => by
    unfold Ctxt.find
    rw [h1, h2]
    simp only [Bool.false_eq_true, if_false]
    split <;> rfl
  cases hk : (s == keyW)
  · have hk' : (s == [107, 101, 121]) = false := hk
    cases hb : (bsOut x.attrs s).2
    · rw [hne hk hb]
      simp [Ctxt.enc, hk', hbs, hb, buildA, fillA, Try.f37]
      refine ⟨.tup [.agg [int 0, int 0, str [], .nil, .nil], boo false], by simp, ?_⟩
      exact StandsL.tup (.cons (stands0 0 0 []) (.cons (.refl _) .nil))
    · have hlt := bsOut_lt hb
      have hf : x.find s = (x.attrs[(bsOut x.attrs s).1].2, true) := by
        unfold Ctxt.find
        rw [hk, hb]
        simp [hlt]
      rw [hf]
      simp [Ctxt.enc, hk', hbs, hb, hlt, Try.f37]
      refine ⟨valTup (x.attrs[(bsOut x.attrs s).1].2, true), by simp [valTup], .refl _⟩
  · have hk' : (s == [107, 101, 121]) = true := hk
    have hf : x.find s = (textVal x.key, true) := by unfold Ctxt.find; rw [hk]; rfl
    rw [hf]
    simp [Ctxt.enc, hk', buildA, fillA, Try.f37]
    refine ⟨.tup [.agg [int 3, int 0, str x.key, .nil, .nil], boo true], by simp, ?_⟩
    exact StandsL.tup (.cons (stands0 3 0 x.key) (.cons (.refl _) .nil))
theorem attrOf_sound : SpecSound Try.prog 37 (hPure false [] (FXS (fun x s => valTup (x.find s)) fun _ _ => True)) :=
  pureG (fn := Try.f37) (good_of (q := []) mixed ⟨bs_sound, by simp, trivial⟩ : AM.Good Cxa _) ⟨_, Try.func37, by kernel_rfl, rfl, by kernel_rfl⟩ false [] _ fun args r h w S vs hz => by
    obtain ⟨⟨x, s⟩, rfl, hx, rfl⟩ := specOf_inv h
    obtain ⟨r0, h1, h2⟩ := attrOf_eval x s hx.1
    exact ⟨_, r0, hz, Nat.le_trans (Nat.le_refl 2) (by decide), h1, h2⟩

/-- What the reference finds. -/
def findL (s : List UInt8) : List (List UInt8 × Val) → Val × Bool
  | [] => (noVal, false)
  | a :: l => if a.1 == s then (a.2, true) else findL s l
def Ctxt.rfind (x : Ctxt) (s : List UInt8) : Val × Bool := if s == keyW then (textVal x.key, true) else findL s x.attrs
theorem findL_drop {l : List (List UInt8 × Val)} {k : Nat} (h : k < l.length) (s : List UInt8) : findL s (l.drop k) = if l[k].1 == s then (l[k].2, true) else findL s (l.drop (k + 1)) := by
  rw [List.drop_eq_getElem_cons h, findL]
set_option maxRecDepth 8000 in
theorem rattrOf_eval (x : Ctxt) (s : List UInt8) (h : x.cb ≤ lim) : ∃ r0, evalPure C0 Try.f40 [.agg x.enc, str s] = some r0 ∧ Stands r0 (valTup (x.rfind s)) := by
  have hcb := cb_eq x
  have hl2 := fbs_length x.attrs
  unfold lim at h
  refine evalPureU_of rfl ?_
  unfold Ctxt.rfind
  cases hk : (s == keyW)
  · have hk' : (s == [107, 101, 121]) = false := hk
    simp [Ctxt.enc, hk']
    refine EvC_for (fun k σ hp nx => σ 1 = str s ∧ σ 2 = .ref 0 0 0 ∧ σ 4 = .ref 1 0 0 ∧ σ 14 = .sl 6 (x.attrs.map encF) ∧ σ 15 = int x.attrs.length ∧ σ 16 = int k ∧ 2 ≤ nx ∧ hp 1 = some ⟨28, 5, false, [[int 0, int 0, str [], .nil, .nil]]⟩ ∧ findL s x.attrs = findL s (x.attrs.drop k)) x.attrs.length
      ⟨by simp, by simp, by simp, by simp, by simp, by simp, by simp, by simp [buildA, fillA], by simp⟩ ?_
    rintro k σ hp nx hk ⟨h1, h2, h4, h14, h15, h16, hnx, b1, hf⟩
    have n1 : ¬ 1 = nx := by omega
    by_cases hlt : k < x.attrs.length
    · have hw : IntKind.i64.wrap ((k : Int) + 1) = (k : Int) + 1 := wrap_fit (by omega) (by omega)
      rw [findL_drop hlt] at hf
      cases d : (x.attrs[k].1 == s)
      · simp only [d, Bool.false_eq_true, if_false] at hf
        simp [h1, h2, h4, h14, h15, h16, hlt, d, hw]
        and_intros <;> first | omega | exact hf | simp [n1, b1]
      · simp only [d, if_true] at hf
        rw [hf]
        simp [h1, h2, h4, h14, h15, h16, hlt, d, n1, b1, Try.f40]
        exact ⟨valTup (x.attrs[k].2, true), by simp [valTup], .refl _⟩
    · obtain rfl : k = x.attrs.length := by omega
      rw [List.drop_length] at hf
      rw [hf]
      simp [h1, h2, h4, h14, h15, h16, findL, b1, buildA, fillA, Try.f40]
      refine ⟨.tup [.agg [int 0, int 0, str [], .nil, .nil], boo false], by simp, ?_⟩
      exact StandsL.tup (.cons (stands0 0 0 []) (.cons (.refl _) .nil))
  · have hk' : (s == [107, 101, 121]) = true := hk
    simp [Ctxt.enc, hk', buildA, fillA, Try.f40]
    refine ⟨.tup [.agg [int 3, int 0, str x.key, .nil, .nil], boo true], by simp, ?_⟩
    exact StandsL.tup (.cons (stands0 3 0 x.key) (.cons (.refl _) .nil))
theorem rattrOf_sound : SpecSound Try.prog 40 (hPure false [] (FXS (fun x s => valTup (x.rfind s)) fun _ _ => True)) :=
  pureG (fn := Try.f40) (good_of (q := []) mixed trivial : AM.Good C0 _) ⟨_, Try.func40, by kernel_rfl, rfl, by kernel_rfl⟩ false [] _ fun args r h w S vs hz => by
    obtain ⟨⟨x, s⟩, rfl, hx, rfl⟩ := specOf_inv h
    obtain ⟨r0, h1, h2⟩ := rattrOf_eval x s hx.1
    exact ⟨_, r0, hz, Nat.le_trans (Nat.le_refl 2) (by decide), h1, h2⟩
end Go.Proofs.Ytphmgjcjcdodhaa
