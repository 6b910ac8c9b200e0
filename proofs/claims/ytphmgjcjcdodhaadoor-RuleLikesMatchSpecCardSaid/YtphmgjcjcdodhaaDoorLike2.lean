/-
  Like: the program's search.
-/
import Derived.Test.YtphmgjcjcdodhaaDoorLike
namespace Go.Proofs.YtphmgjcjcdodhaaDoor
open Go.RowKit Go.AM Go.LikeLaw

noncomputable def trimSt : List PV → Option PV := specOf (α := List UInt8) (fun l => [str l, str [42]]) (fun l => l.length ≤ lim) (fun l => str (trimL 42 (trimR 42 l)))
@[simp] theorem trimSt_call (l : List UInt8) (hp : Hp) (nx : Nat) (h : l.length ≤ lim) : hPure false [] trimSt [str l, str [42]] hp nx = some (str (trimL 42 (trimR 42 l)), hp, nx) :=
  hPure_v rfl (specOf_eq (enc := fun l : List UInt8 => [str l, str [42]]) (a := l) (fun a b e => by
    simp only [List.cons.injEq, and_true] at e
    exact str_inj e) h) (.inl rfl)
theorem trim_sound : SpecSound Tryd.prog 6 (hPure false [] trimSt) :=
  pureS (fn := Tryd.f6) good1 ⟨_, Tryd.func6, by kernel_rfl, rfl, by kernel_rfl⟩ false [] _ fun args r h => by
    obtain ⟨l, rfl, hp, rfl⟩ := specOf_inv h
    exact ⟨by simp [Tryd.f6], _, trim_eval l hp, up_of _⟩
noncomputable abbrev C2 : Ctx := mkCtx Tryd.prog [(6, hPure false [] trimSt)]
theorem good2 : AM.Good C2 (fun g => [6].contains g) := good_of mixed ⟨trim_sound, fun _ => hPure_quiet _ _, trivial⟩

theorem trimL_nil (c : UInt8) (l : List UInt8) : trimL c l = [] ↔ ∀ q ∈ l, q = c := by
  induction l with
  | nil => simp [trimL]
  | cons x l ih =>
    simp only [trimL]
    by_cases h : x = c
    · simp [h, ih]
    · simp [h]
theorem trim_nil (l : List UInt8) : trimL 42 (trimR 42 l) = [] ↔ ∀ q ∈ l, q = 42 := by
  rw [trimL_nil]
  constructor
  · intro h
    have h2 : ∀ q ∈ trimL 42 l.reverse, q = 42 := fun q hq => h q (by simpa [trimR] using hq)
    have key : ∀ m : List UInt8, (∀ q ∈ trimL 42 m, q = 42) → ∀ q ∈ m, q = 42 := by
      intro m
      induction m with
      | nil => simp
      | cons x m ih =>
        simp only [trimL]
        by_cases hx : x = 42
        · simp only [hx, if_true]
          intro hm q hq
          rcases List.mem_cons.1 hq with rfl | hq
          · rfl
          · exact ih hm q hq
        · simp only [hx, if_false]
          intro hm
          exact absurd (hm x (by simp)) hx
    intro q hq
    exact key _ h2 q (by simpa using hq)
  · intro h
    have : trimR 42 l = [] := by
      unfold trimR
      rw [List.reverse_eq_nil_iff, trimL_nil]
      intro q hq
      exact h q (by simpa using hq)
    rw [this]
    simp

theorem meas_star {n m : Nat} {star : Int} {fr i k : Nat} (h1 : star < k) (h2 : k < m) : meas n m k i i < meas n m star fr i := by
  unfold meas
  obtain ⟨d, hd⟩ : ∃ d : Nat, ((m : Int) - star).toNat = ((m : Int) - (k : Int)).toNat + 1 + d := ⟨((m : Int) - star).toNat - ((m : Int) - (k : Int)).toNat - 1, by omega⟩
  have e1 : (((m : Int) - (k : Int)).toNat + 1 + d) * ((n + 2) * (n + 2)) = ((m : Int) - (k : Int)).toNat * ((n + 2) * (n + 2)) + (n + 2) * (n + 2) + d * ((n + 2) * (n + 2)) := by rw [Nat.add_mul (_ + 1) d, Nat.add_mul _ 1, Nat.one_mul]
  rw [hd, e1]
  have h3 : (n - i) * (n + 2) ≤ n * (n + 2) := Nat.mul_le_mul_right _ (by omega)
  have h4 : (n + 2) * (n + 2) = n * (n + 2) + 2 * (n + 2) := by rw [Nat.add_mul]
  omega
theorem meas_back {n m : Nat} {star : Int} {fr i : Nat} (h1 : fr ≤ i) (h2 : i < n) : meas n m star (fr + 1) (fr + 1) < meas n m star fr i := by
  unfold meas
  have : n - fr = (n - (fr + 1)) + 1 := by omega
  have e1 : (n - (fr + 1) + 1) * (n + 2) = (n - (fr + 1)) * (n + 2) + (n + 2) := by rw [Nat.add_mul _ 1, Nat.one_mul]
  rw [this, e1]
  omega
theorem meas_fit {n m : Nat} {star : Int} {fr i : Nat} (h2 : i < n) : meas n m star fr (i + 1) < meas n m star fr i := by
  unfold meas
  omega

open Classical in
noncomputable def likeB (t p : List UInt8) : Bool := decide (Lk t p)
theorem likeB_true {t p : List UInt8} (h : Lk t p) : likeB t p = true := by simp [likeB, h]
theorem likeB_false {t p : List UInt8} (h : ¬ Lk t p) : likeB t p = false := by simp [likeB, h]

structure LInv (t p : List UInt8) (star : Int) (fr i k : Nat) : Prop extends LikeLaw.Inv t p star fr i k where
  s0 : -1 ≤ star
  s1 : star < k
  f1 : fr ≤ i

set_option maxRecDepth 8000 in
theorem like_eval (t p : List UInt8) (ht : t.length ≤ lim) (hp : p.length ≤ lim) : evalPure C2 Tryd.f4 [str t, str p] = some (.v (.bool (likeB t p))) := by
  refine evalPure_of rfl ?_
  simp
  refine EvC_loop (fun st => ∃ (star : Int) (fr i k : Nat), st.σ 0 = str t ∧ st.σ 1 = str p ∧ st.σ 5 = int star ∧ st.σ 6 = int fr ∧ st.σ 7 = int i ∧ st.σ 8 = int k ∧ LInv t p star fr i k)
    (fun st => meas t.length p.length (numAt (st.σ 5)) (numAt (st.σ 6)).toNat (numAt (st.σ 7)).toNat) ⟨-1, 0, 0, 0, by simp, by simp, by simp, by simp, by simp, by simp, LikeLaw.Inv.start t p, by omega, by omega, by omega⟩ ?_
  rintro ⟨σ, hp, nx⟩ ⟨star, fr, i, k, h0, h1, h5, h6, h7, h8, hI⟩
  simp only at h0 h1 h5 h6 h7 h8
  have hk := hI.hk
  have hil := hI.hi
  have s0 := hI.s0
  have s1 := hI.s1
  have f1 := hI.f1
  unfold lim at *
  by_cases hi : i < t.length
  · have hnf : (∀ hk : k < p.length, p[k] ≠ 42 ∧ ¬ (p[k] = 63 ∨ p[k] = t[i])) → ¬ Lk (t.drop i) (p.drop k) := fun h => noFit hi fun _ => h
    have bad : (∀ hk : k < p.length, p[k] ≠ 42 ∧ ¬ (p[k] = 63 ∨ p[k] = t[i])) → (star < 0 → likeB t p = false) ∧ (0 ≤ star → LInv t p star (fr + 1) (fr + 1) (star.toNat + 1)) := fun h =>
      ⟨fun hs => likeB_false (hI.none hs (hnf h)), fun hs => ⟨hI.back hi hs (hnf h), by omega, by omega, by omega⟩⟩
    have wf : IntKind.i64.wrap ((fr : Int) + 1) = ((fr + 1 : Nat) : Int) := by rw [wrap_fit (by omega) (by omega)]; omega
    have wi : IntKind.i64.wrap ((i : Int) + 1) = ((i + 1 : Nat) : Int) := by rw [wrap_fit (by omega) (by omega)]; omega
    have wk : IntKind.i64.wrap ((k : Int) + 1) = ((k + 1 : Nat) : Int) := by rw [wrap_fit (by omega) (by omega)]; omega
    by_cases hk1 : k < p.length
    · by_cases hs : p[k] = 42
      · simp [h0, h1, h5, h6, h7, h8, hi, hk1, hs]
        exact ⟨⟨i, rfl, i, rfl, k + 1, wk, hI.atStar hk1 hs, by omega, by omega, by omega⟩, meas_star hI.s1 hk1⟩
      · have hsb : ((p[k].toNat : Int) == 42) = false := by rw [show (42 : Int) = ((42 : UInt8).toNat : Int) from rfl, u8_eq]; simpa using hs
        by_cases hq : p[k] = 63
        · simp [h0, h1, h5, h6, h7, h8, hi, hk1, hq]
          exact ⟨⟨fr, rfl, i + 1, wi, k + 1, wk, hI.fit hi hk1 hs (.inl hq), by omega, by omega, by omega⟩, by rw [wi]; exact meas_fit hi⟩
        · have hqb : ((p[k].toNat : Int) == 63) = false := by rw [show (63 : Int) = ((63 : UInt8).toNat : Int) from rfl, u8_eq]; simpa using hq
          by_cases hc : p[k] = t[i]
          · have hcb : ((p[k].toNat : Int) == (t[i].toNat : Int)) = true := by rw [u8_eq]; simp [hc]
            simp [h0, h1, h5, h6, h7, h8, hi, hk1, hsb, hqb, hcb]
            exact ⟨⟨fr, rfl, i + 1, wi, k + 1, wk, hI.fit hi hk1 hs (.inr hc), by omega, by omega, by omega⟩, by rw [wi]; exact meas_fit hi⟩
          · have hcb : ((p[k].toNat : Int) == (t[i].toNat : Int)) = false := by rw [u8_eq]; simp [hc]
            obtain ⟨b1, b2⟩ := bad fun _ => ⟨hs, by simp [hq, hc]⟩
            by_cases hst : 0 ≤ star
            · have ws : IntKind.i64.wrap (star + 1) = ((star.toNat + 1 : Nat) : Int) := by rw [wrap_fit (by omega) (by omega)]; omega
              simp [h0, h1, h5, h6, h7, h8, hi, hk1, hsb, hqb, hcb, hst]
              exact ⟨⟨fr + 1, wf, fr + 1, wf, star.toNat + 1, ws, b2 hst⟩, by rw [wf]; exact meas_back f1 hi⟩
            · simp [h0, h1, h5, h6, h7, h8, hi, hk1, hsb, hqb, hcb, hst, Tryd.f4, b1 (by omega)]
    · obtain ⟨b1, b2⟩ := bad fun h => absurd h hk1
      by_cases hst : 0 ≤ star
      · have ws : IntKind.i64.wrap (star + 1) = ((star.toNat + 1 : Nat) : Int) := by rw [wrap_fit (by omega) (by omega)]; omega
        simp [h0, h1, h5, h6, h7, h8, hi, hk1, hst]
        exact ⟨⟨fr + 1, wf, fr + 1, wf, star.toNat + 1, ws, b2 hst⟩, by rw [wf]; exact meas_back f1 hi⟩
      · simp [h0, h1, h5, h6, h7, h8, hi, hk1, hst, Tryd.f4, b1 (by omega)]
  · have hd := hI.done (by omega)
    have hl : (p.drop k).length ≤ 140737488351232 := by simp; omega
    have hb : (trimL 42 (trimR 42 (p.drop k)) == []) = likeB t p := by
      rw [Bool.eq_iff_iff]
      simp only [beq_iff_eq, trim_nil, likeB, decide_eq_true_eq, hd]
    have hl2 : ((p.drop k).take (p.length - k)) = p.drop k := List.take_of_length_le (by simp)
    simp [h0, h1, h5, h6, h7, h8, hi, hk, hl2, hb, trimSt_call (p.drop k) hp nx hl, Tryd.f4]
end Go.Proofs.YtphmgjcjcdodhaaDoor
