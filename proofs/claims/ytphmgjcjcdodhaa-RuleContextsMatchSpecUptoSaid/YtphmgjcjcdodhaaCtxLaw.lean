/-
  The law of contexts.
-/
import Derived.Test.YtphmgjcjcdodhaaAttr2
namespace Go.Proofs.Ytphmgjcjcdodhaa
open Go.RowKit Go.AM

theorem rattr_sound' : SpecSound Try.prog 10 (hPure false [] (FXS (fun x s => attrTup (x.attr Ctxt.find s)) fun x _ => x.cb + 1 ≤ lim)) := by
  have h := rattr_sound
  simp only [attr_eq] at h
  exact h
def qlaw : List FuncId := [11, 12, 13]
noncomputable abbrev Clw : Ctx := mkCtx Try.prog [(9, hPure false [] (FXS (fun x s => attrTup (x.attr Ctxt.find s)) fun x _ => x.cb + 1 ≤ lim)), (10, hPure false [] (FXS (fun x s => attrTup (x.attr Ctxt.find s)) fun x _ => x.cb + 1 ≤ lim)), (11, hPure false [] (FX fun x => int x.fault)), (12, hPure false [] (FX fun x => int x.fault)), (13, hPure false [] (FVV (fun _ => boo true) lim))]
theorem goodlw : AM.Good Clw (fun g => qlaw.contains g) := good_of mixed ⟨attr_sound, fun _ => hPure_quiet _ _, rattr_sound', fun _ => hPure_quiet _ _, checkCtx_sound, fun _ => hPure_quiet _ _, rcheckCtx_sound, fun _ => hPure_quiet _ _, same_sound, fun _ => hPure_quiet _ _, trivial⟩
@[simp] theorem quietlw_0 : QuietIn Clw 11 := quietIn_of (by rfl) (hPure_quiet _ _)
@[simp] theorem quietlw_1 : QuietIn Clw 12 := quietIn_of (by rfl) (hPure_quiet _ _)
@[simp] theorem quietlw_2 : QuietIn Clw 13 := quietIn_of (by rfl) (hPure_quiet _ _)
set_option maxRecDepth 8000 in
theorem ctxlaw_eval (x : Ctxt) (s : List UInt8) (h : x.cb + 1 ≤ lim) (hs : s.length ≤ lim) : evalPure Clw Try.f3 [.agg x.enc, str s] = some (boo true) := by
  have c1 := fun hp nx => FX_call (fun x => int x.fault) x hp nx (by omega)
  obtain ⟨r, hr⟩ : ∃ r, r = x.attr Ctxt.find s := ⟨_, rfl⟩
  have c2 : ∀ hp nx, hPure false [] (FXS (fun x s => attrTup (x.attr Ctxt.find s)) fun x _ => x.cb + 1 ≤ lim) [.agg x.enc, str s] hp nx = some (.tup [.agg r.1.enc, boo r.2.1, int r.2.2], hp, nx) := fun hp nx => by
    rw [hr]
    exact FXS_call (fun x s => attrTup (x.attr Ctxt.find s)) (fun x _ => x.cb + 1 ≤ lim) x s hp nx ⟨by omega, hs, h⟩
  have hv : r.1.vb ≤ lim := by rw [hr]; exact attr_vb x s h
  have c3 := fun hp nx => FVV_call (fun _ => boo true) lim r.1 hp nx ⟨hv, hv⟩
  refine evalPure_of rfl ?_
  simp only [Ctxt.enc] at c1 c2
  simp [Ctxt.enc, c1, c2, c3, Try.f3]
theorem ctxlaw_known : KnownF Clw (fun g => qlaw.contains g) 3 Try.f3 := ⟨_, Try.func3, by kernel_rfl, rfl, by kernel_rfl⟩
end Go.Proofs.Ytphmgjcjcdodhaa
