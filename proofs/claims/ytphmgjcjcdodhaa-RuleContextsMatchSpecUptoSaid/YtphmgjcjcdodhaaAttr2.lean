/-
  rule.Attr, the reference's Attr, the law of contexts.
-/
import Derived.Test.YtphmgjcjcdodhaaAttrLaw
namespace Go.Proofs.Ytphmgjcjcdodhaa
open Go.RowKit Go.AM

/-- What Attr returns. -/
def Ctxt.attr (f : Ctxt → List UInt8 → Val × Bool) (x : Ctxt) (s : List UInt8) : Val × Bool × Int :=
  if isNameB s then (if x.fault = 0 then ((f x s).1, (f x s).2, 0) else (noVal, false, x.fault)) else (noVal, false, 5)
def attrTup (r : Val × Bool × Int) : PV := .tup [.agg r.1.enc, boo r.2.1, int r.2.2]
theorem find_vb (x : Ctxt) (s : List UInt8) (h : x.cb + 1 ≤ lim) : (x.find s).1.vb ≤ lim := by
  have hcb := cb_eq x
  unfold Ctxt.find
  split
  · simp [textVal, Val.vb, vbs, fbs]; omega
  · split
    · rename_i a ha
      have := fbs_mem (List.mem_of_getElem? ha)
      split
      · show a.2.vb ≤ lim; omega
      · simp [noVal, Val.vb, vbs, fbs, lim]
    · simp [noVal, Val.vb, vbs, fbs, lim]
noncomputable abbrev Cat : Ctx := mkCtx Try.prog [(36, hPure false [] (FS isNameB)), (11, hPure false [] (FX fun x => int x.fault)), (37, hPure false [] (FXS (fun x s => valTup (x.find s)) fun _ _ => True)), (38, hPure false [] (FV (fun v => .agg v.enc) lim))]
noncomputable abbrev Crt : Ctx := mkCtx Try.prog [(39, hPure false [] (FS isNameB)), (12, hPure false [] (FX fun x => int x.fault)), (40, hPure false [] (FXS (fun x s => valTup (x.rfind s)) fun _ _ => True))]
theorem standsT (b : Bool) (k : Int) : Stands (.tup [.agg [int 0, int 0, str [], .nil, .nil], boo b, int k]) (attrTup (noVal, b, k)) :=
  StandsL.tup (.cons (stands0 0 0 []) (.cons (.refl _) (.cons (.refl _) .nil)))
set_option maxRecDepth 8000 in
theorem attr_eval (x : Ctxt) (s : List UInt8) (h : x.cb + 1 ≤ lim) (hs : s.length ≤ lim) : ∃ r0, evalPure Cat Try.f9 [.agg x.enc, str s] = some r0 ∧ Stands r0 (attrTup (x.attr Ctxt.find s)) := by
  have c1 := fun hp nx => FX_call (fun x => int x.fault) x hp nx (by omega)
  have c2 : ∀ hp nx, hPure false [] (FXS (fun x s => valTup (x.find s)) fun _ _ => True) [.agg x.enc, str s] hp nx = some (.tup [.agg (x.find s).1.enc, boo (x.find s).2], hp, nx) := fun hp nx => FXS_call (fun x s => valTup (x.find s)) (fun _ _ => True) x s hp nx ⟨by omega, hs, trivial⟩
  have c3 := fun hp nx => FV_call (fun v => .agg v.enc) lim (x.find s).1 hp nx ⟨find_vb x s h, find_vb x s h⟩
  refine evalPureU_of rfl ?_
  unfold Ctxt.attr
  simp only [Ctxt.enc] at c1 c2
  cases hn : isNameB s
  · simp [Ctxt.enc, hs, hn, buildA, fillA, Try.f9]
    exact ⟨_, by simp, standsT false 5⟩
  · by_cases hf : x.fault = 0
    · simp [Ctxt.enc, hs, hn, c1, c2, c3, hf, Try.f9]
      exact ⟨attrTup ((x.find s).1, (x.find s).2, 0), by simp [attrTup], .refl _⟩
    · have hf' : (x.fault != 0) = true := by simpa using hf
      simp [Ctxt.enc, hs, hn, c1, hf, hf', buildA, fillA, Try.f9]
      exact ⟨_, by simp, standsT false x.fault⟩
set_option maxRecDepth 8000 in
theorem rattr_eval (x : Ctxt) (s : List UInt8) (h : x.cb + 1 ≤ lim) (hs : s.length ≤ lim) : ∃ r0, evalPure Crt Try.f10 [.agg x.enc, str s] = some r0 ∧ Stands r0 (attrTup (x.attr Ctxt.rfind s)) := by
  have c1 := fun hp nx => FX_call (fun x => int x.fault) x hp nx (by omega)
  have c2 : ∀ hp nx, hPure false [] (FXS (fun x s => valTup (x.rfind s)) fun _ _ => True) [.agg x.enc, str s] hp nx = some (.tup [.agg (x.rfind s).1.enc, boo (x.rfind s).2], hp, nx) := fun hp nx => FXS_call (fun x s => valTup (x.rfind s)) (fun _ _ => True) x s hp nx ⟨by omega, hs, trivial⟩
  refine evalPureU_of rfl ?_
  unfold Ctxt.attr
  simp only [Ctxt.enc] at c1 c2
  cases hn : isNameB s
  · simp [Ctxt.enc, hs, hn, buildA, fillA, Try.f10]
    exact ⟨_, by simp, standsT false 5⟩
  · by_cases hf : x.fault = 0
    · simp [Ctxt.enc, hs, hn, c1, c2, hf, Try.f10]
      exact ⟨attrTup ((x.rfind s).1, (x.rfind s).2, 0), by simp [attrTup], .refl _⟩
    · have hf' : (x.fault != 0) = true := by simpa using hf
      simp [Ctxt.enc, hs, hn, c1, hf, hf', buildA, fillA, Try.f10]
      exact ⟨_, by simp, standsT false x.fault⟩
theorem attr_sound : SpecSound Try.prog 9 (hPure false [] (FXS (fun x s => attrTup (x.attr Ctxt.find s)) fun x _ => x.cb + 1 ≤ lim)) :=
  pureG (fn := Try.f9) (good_of (q := []) mixed ⟨isName_sound, by simp, checkCtx_sound, by simp, attrOf_sound, by simp, xcopy_sound lim, by simp, trivial⟩ : AM.Good Cat _) ⟨_, Try.func9, by kernel_rfl, rfl, by kernel_rfl⟩ false [] _ fun args r h w S vs hz => by
    obtain ⟨⟨x, s⟩, rfl, hx, rfl⟩ := specOf_inv h
    obtain ⟨r0, h1, h2⟩ := attr_eval x s hx.2.2 hx.2.1
    exact ⟨_, r0, hz, Nat.le_trans (Nat.le_refl 2) (by decide), h1, h2⟩
theorem rattr_sound : SpecSound Try.prog 10 (hPure false [] (FXS (fun x s => attrTup (x.attr Ctxt.rfind s)) fun x _ => x.cb + 1 ≤ lim)) :=
  pureG (fn := Try.f10) (good_of (q := []) mixed ⟨rIsName_sound, by simp, rcheckCtx_sound, by simp, rattrOf_sound, by simp, trivial⟩ : AM.Good Crt _) ⟨_, Try.func10, by kernel_rfl, rfl, by kernel_rfl⟩ false [] _ fun args r h w S vs hz => by
    obtain ⟨⟨x, s⟩, rfl, hx, rfl⟩ := specOf_inv h
    obtain ⟨r0, h1, h2⟩ := rattr_eval x s hx.2.2 hx.2.1
    exact ⟨_, r0, hz, Nat.le_trans (Nat.le_refl 2) (by decide), h1, h2⟩
theorem attr_eq (x : Ctxt) (s : List UInt8) : x.attr Ctxt.rfind s = x.attr Ctxt.find s := by
  unfold Ctxt.attr
  split
  · split
    · rename_i h; rw [find_eq x s h]
    · rfl
  · rfl
theorem attr_vb (x : Ctxt) (s : List UInt8) (h : x.cb + 1 ≤ lim) : (x.attr Ctxt.find s).1.vb ≤ lim := by
  unfold Ctxt.attr
  split
  · split
    · exact find_vb x s h
    · simp [noVal, Val.vb, vbs, fbs, lim]
  · simp [noVal, Val.vb, vbs, fbs, lim]
end Go.Proofs.Ytphmgjcjcdodhaa
