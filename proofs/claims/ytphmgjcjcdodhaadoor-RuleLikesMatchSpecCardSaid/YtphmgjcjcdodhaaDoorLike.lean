/-
  Like: what the program's and the reference's functions compute.
-/
import Derived.Test.YtphmgjcjcdodhaaDoorAm21
import Derived.Test.YtphmgjcjcdodhaaDoorFacts
import Derived.Test.YtphmgjcjcdodhaaDoorLikeLaw
namespace Go.Proofs.YtphmgjcjcdodhaaDoor
open Go.RowKit Go.AM Go.LikeLaw

abbrev int (n : Int) : PV := .v (.int .i64 n)
abbrev byte (c : UInt8) : PV := .v (.int .u8 c.toNat)

def trimL (c : UInt8) : List UInt8 → List UInt8
  | [] => []
  | x :: l => if x = c then trimL c l else x :: l
def trimR (c : UInt8) (l : List UInt8) : List UInt8 := (trimL c l.reverse).reverse
noncomputable abbrev C0 : Ctx := mkCtx Tryd.prog []

set_option maxRecDepth 4000 in
theorem trimL_eval (l : List UInt8) (c : UInt8) (hl : l.length ≤ 140737488351232) : evalPure C0 Tryd.f7 [str l, byte c] = some (str (trimL c l)) := by
  refine evalPure_of rfl ?_
  simp
  refine EvC_loop (fun st => st.σ 1 = byte c ∧ ∃ r : List UInt8, r.length ≤ l.length ∧ st.σ 0 = str r ∧ trimL c l = trimL c r) (fun st => match st.σ 0 with | .v (.string s) => s.size | _ => 0) ⟨by simp, l, by simp, by simp, rfl⟩ ?_
  rintro ⟨σ, hp, nx⟩ ⟨h1, r, hr, h0, he⟩
  simp only at h1 h0
  cases r with
  | nil => simp [h1, h0, he, trimL, Tryd.f7, pureR]
  | cons x r =>
    by_cases hx : x = c
    · have hd : ((x.toNat : Int) == (c.toNat : Int)) = true := by rw [u8_eq]; simp [hx]
      simp [h1, h0, hd]
      exact ⟨r, by simp at hr; omega, rfl, by rw [he]; simp [trimL, hx]⟩
    · have hd : ((x.toNat : Int) == (c.toNat : Int)) = false := by rw [u8_eq]; simp [hx]
      simp [h1, h0, hd, he, trimL, hx, Tryd.f7, pureR]

theorem trimR_snoc (c x : UInt8) (l : List UInt8) : trimR c (l ++ [x]) = if x = c then trimR c l else l ++ [x] := by
  unfold trimR
  simp [trimL]
  split <;> simp

set_option maxRecDepth 4000 in
theorem trimR_eval (l : List UInt8) (c : UInt8) (hl : l.length ≤ 140737488351232) : evalPure C0 Tryd.f8 [str l, byte c] = some (str (trimR c l)) := by
  refine evalPure_of rfl ?_
  simp
  refine EvC_loop (fun st => st.σ 1 = byte c ∧ ∃ r : List UInt8, r.length ≤ l.length ∧ st.σ 0 = str r ∧ trimR c l = trimR c r) (fun st => match st.σ 0 with | .v (.string s) => s.size | _ => 0) ⟨by simp, l, by simp, by simp, rfl⟩ ?_
  rintro ⟨σ, hp, nx⟩ ⟨h1, r, hr, h0, he⟩
  simp only at h1 h0
  rcases List.eq_nil_or_concat r with rfl | ⟨r, x, rfl⟩
  · have e : trimR c [] = [] := by simp [trimR, trimL]
    simp [h1, h0, he, e, Tryd.f8, pureR]
  · rw [List.concat_eq_append] at *
    have hr' : r.length + 1 ≤ l.length := by simpa using hr
    by_cases hx : x = c
    · have hd : ((x.toNat : Int) == (c.toNat : Int)) = true := by rw [u8_eq]; simp [hx]
      simp [h1, h0, hd, wn r.length (by omega)]
      exact ⟨r, by simp at hr; omega, rfl, by rw [he, trimR_snoc]; simp [hx]⟩
    · have hd : ((x.toNat : Int) == (c.toNat : Int)) = false := by rw [u8_eq]; simp [hx]
      simp [h1, h0, hd, wn r.length (by omega), he, trimR_snoc, hx, Tryd.f8, pureR]

theorem byte_inj {a b : UInt8} (h : byte a = byte b) : a = b := UInt8.toNat_inj.1 (by have := pint_inj h; omega)
abbrev lim : Nat := 140737488351232
noncomputable def trimS (F : UInt8 → List UInt8 → List UInt8) : List PV → Option PV := specOf (α := List UInt8 × UInt8) (fun a => [str a.1, byte a.2]) (fun a => a.1.length ≤ lim) (fun a => str (F a.2 a.1))
theorem trimS_eq (F : UInt8 → List UInt8 → List UInt8) (l : List UInt8) (c : UInt8) (h : l.length ≤ lim) : trimS F [str l, byte c] = some (str (F c l)) :=
  specOf_eq (enc := fun a : List UInt8 × UInt8 => [str a.1, byte a.2]) (a := (l, c)) (fun a b e => by
    obtain ⟨a1, a2⟩ := a; obtain ⟨b1, b2⟩ := b
    simp only [List.cons.injEq, and_true] at e
    rw [str_inj e.1, byte_inj e.2]) h
@[simp] theorem trimS_call (F : UInt8 → List UInt8 → List UInt8) (l : List UInt8) (c : UInt8) (hp : Hp) (nx : Nat) (h : l.length ≤ lim) : hPure false [] (trimS F) [str l, byte c] hp nx = some (str (F c l), hp, nx) :=
  hPure_v rfl (trimS_eq F l c h) (.inl rfl)

theorem mixed : Tryd.prog.follows .mixedOrders = true := by kernel_rfl
theorem good0 : AM.Good C0 (fun g => ([] : List Nat).contains g) := good_of mixed trivial
theorem trimL_sound : SpecSound Tryd.prog 7 (hPure false [] (trimS trimL)) :=
  pureS (fn := Tryd.f7) good0 ⟨_, Tryd.func7, by kernel_rfl, rfl, by kernel_rfl⟩ false [] _ fun args r h => by
    obtain ⟨⟨l, c⟩, rfl, hp, rfl⟩ := specOf_inv h
    exact ⟨by simp [Tryd.f7], _, trimL_eval l c hp, up_of _⟩
theorem trimR_sound : SpecSound Tryd.prog 8 (hPure false [] (trimS trimR)) :=
  pureS (fn := Tryd.f8) good0 ⟨_, Tryd.func8, by kernel_rfl, rfl, by kernel_rfl⟩ false [] _ fun args r h => by
    obtain ⟨⟨l, c⟩, rfl, hp, rfl⟩ := specOf_inv h
    exact ⟨by simp [Tryd.f8], _, trimR_eval l c hp, up_of _⟩

noncomputable abbrev C1 : Ctx := mkCtx Tryd.prog [(7, hPure false [] (trimS trimL)), (8, hPure false [] (trimS trimR))]
theorem good1 : AM.Good C1 (fun g => [7, 8].contains g) := good_of mixed ⟨trimL_sound, fun _ => hPure_quiet _ _, trimR_sound, fun _ => hPure_quiet _ _, trivial⟩

theorem trimL_length (c : UInt8) (l : List UInt8) : (trimL c l).length ≤ l.length := by
  induction l with
  | nil => simp [trimL]
  | cons x l ih => simp only [trimL]; split <;> simp <;> omega
theorem trimR_length (c : UInt8) (l : List UInt8) : (trimR c l).length ≤ l.length := by
  have := trimL_length c l.reverse
  simpa [trimR] using this
set_option maxRecDepth 4000 in
theorem trim_eval (l : List UInt8) (hl : l.length ≤ lim) : evalPure C1 Tryd.f6 [str l, str [42]] = some (str (trimL 42 (trimR 42 l))) := by
  refine evalPure_of rfl ?_
  by_cases h : l = []
  · subst h
    simp [Tryd.f6, pureR, trimL, trimR]
  · have hb : (l == []) = false := by simpa using h
    have e42 : (PV.v (.int .u8 42)) = byte 42 := rfl
    simp [hb, e42]
    simp [hl, Nat.le_trans (trimR_length 42 l) hl, Tryd.f6, pureR]
end Go.Proofs.YtphmgjcjcdodhaaDoor
