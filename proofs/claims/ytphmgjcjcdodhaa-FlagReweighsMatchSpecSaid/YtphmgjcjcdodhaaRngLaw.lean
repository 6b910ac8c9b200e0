/-
  Ranges: the plain law.
-/
import Derived.Test.YtphmgjcjcdodhaaRng3
namespace Go.Proofs.Ytphmgjcjcdodhaa
open Go.RowKit Go.AM

/-! ### counting buckets -/
def cntN (P : Int → Bool) (lo : Int) : Nat → Int
  | 0 => 0
  | k + 1 => (if P lo then 1 else 0) + cntN P (lo + 1) k
def cnt (P : Int → Bool) (lo hi : Int) : Int := cntN P lo (hi - lo).toNat
theorem cntN_add (P : Int → Bool) : ∀ (a b : Nat) (lo : Int), cntN P lo (a + b) = cntN P lo a + cntN P (lo + a) b
  | 0, b, lo => by simp [cntN]
  | a + 1, b, lo => by
    have e : a + 1 + b = (a + b) + 1 := by omega
    rw [e, cntN, cntN, cntN_add P a b (lo + 1)]
    have : lo + 1 + (a : Int) = lo + ((a + 1 : Nat) : Int) := by omega
    rw [this]
    omega
theorem cnt_split (P : Int → Bool) {lo m hi : Int} (h1 : lo ≤ m) (h2 : m ≤ hi) : cnt P lo hi = cnt P lo m + cnt P m hi := by
  unfold cnt
  have e : (hi - lo).toNat = (m - lo).toNat + (hi - m).toNat := by omega
  have e2 : lo + ((m - lo).toNat : Int) = m := by omega
  rw [e, cntN_add, e2]
theorem cntN_congr {P Q : Int → Bool} : ∀ (k : Nat) (lo : Int), (∀ x, lo ≤ x → x < lo + k → P x = Q x) → cntN P lo k = cntN Q lo k
  | 0, _, _ => rfl
  | k + 1, lo, h => by
    rw [cntN, cntN, h lo (by omega) (by omega), cntN_congr k (lo + 1) fun x h1 h2 => h x (by omega) (by omega)]
theorem cnt_congr {P Q : Int → Bool} {lo hi : Int} (h : ∀ x, lo ≤ x → x < hi → P x = Q x) : cnt P lo hi = cnt Q lo hi :=
  cntN_congr _ _ fun x h1 h2 => h x h1 (by omega)
theorem cntN_true : ∀ (k : Nat) (lo : Int), cntN (fun _ => true) lo k = k
  | 0, _ => rfl
  | k + 1, lo => by rw [cntN, cntN_true k]; simp; omega
theorem cntN_false : ∀ (k : Nat) (lo : Int), cntN (fun _ => false) lo k = 0
  | 0, _ => rfl
  | k + 1, lo => by rw [cntN, cntN_false k]; simp
theorem cnt_all {P : Int → Bool} {lo hi : Int} (hl : lo ≤ hi) (h : ∀ x, lo ≤ x → x < hi → P x = true) : cnt P lo hi = hi - lo := by
  rw [cnt_congr (Q := fun _ => true) h, cnt, cntN_true]
  omega
theorem cnt_none {P : Int → Bool} {lo hi : Int} (h : ∀ x, lo ≤ x → x < hi → P x = false) : cnt P lo hi = 0 := by
  rw [cnt_congr (Q := fun _ => false) h, cnt, cntN_false]

/-! ### sums over ranges -/
def tot (f : Rg → Int) : List Rg → Int
  | [] => 0
  | r :: l => f r + tot f l
theorem tot_append (f : Rg → Int) : ∀ (a b : List Rg), tot f (a ++ b) = tot f a + tot f b
  | [], b => by simp [tot]
  | r :: a, b => by rw [List.cons_append, tot, tot, tot_append f a b]; omega
theorem tot_perm (f : Rg → Int) {a b : List Rg} (h : a.Perm b) : tot f a = tot f b := by
  induction h with
  | nil => rfl
  | cons x _ ih => rw [tot, tot, ih]
  | swap x y l => simp only [tot]; omega
  | trans _ _ h1 h2 => rw [h1, h2]
theorem tot_congr {f g : Rg → Int} : ∀ {l : List Rg}, (∀ r ∈ l, f r = g r) → tot f l = tot g l
  | [], _ => rfl
  | r :: l, h => by rw [tot, tot, h r (by simp), tot_congr fun r hr => h r (by simp [hr])]
theorem rsz_tot : ∀ l : List Rg, rsz l = tot (fun r => r.2.1 - r.1) l
  | [] => rfl
  | r :: l => by rw [rsz, tot, rsz_tot l]
theorem rsz_append (a b : List Rg) : rsz (a ++ b) = rsz a + rsz b := by rw [rsz_tot, rsz_tot, rsz_tot, tot_append]
def szf (v : Nat) (r : Rg) : Int := if r.2.2 = (v : Int) then r.2.1 - r.1 else 0
def sz (v : Nat) (l : List Rg) : Int := tot (szf v) l
def sumN (f : Nat → Int) : Nat → Int
  | 0 => 0
  | n + 1 => sumN f n + f n
theorem sumN_add (f g : Nat → Int) : ∀ n, sumN (fun v => f v + g v) n = sumN f n + sumN g n
  | 0 => rfl
  | n + 1 => by simp only [sumN, sumN_add f g n]; omega
theorem sumN_congr {f g : Nat → Int} : ∀ {n : Nat}, (∀ v, v < n → f v = g v) → sumN f n = sumN g n
  | 0, _ => rfl
  | n + 1, h => by rw [sumN, sumN, h n (by omega), sumN_congr fun v hv => h v (by omega)]
theorem sumN_zero : ∀ n, sumN (fun _ => 0) n = 0
  | 0 => rfl
  | n + 1 => by rw [sumN, sumN_zero n]; rfl
theorem sumN_one (r : Rg) : ∀ n : Nat, 0 ≤ r.2.2 → sumN (fun v => szf v r) n = if r.2.2 < n then r.2.1 - r.1 else 0
  | 0, h => by rw [if_neg (by omega)]; rfl
  | n + 1, h => by
    rw [sumN, sumN_one r n h, szf]
    split <;> split <;> split <;> omega
theorem sumN_sz {n : Nat} : ∀ {l : List Rg}, (∀ r ∈ l, 0 ≤ r.2.2 ∧ r.2.2 < n) → sumN (fun v => sz v l) n = rsz l
  | [], _ => sumN_zero n
  | r :: l, h => by
    have e := sumN_add (fun v => szf v r) (fun v => sz v l) n
    have h1 := h r (by simp)
    rw [sumN_one r n h1.1, if_pos h1.2, sumN_sz fun r hr => h r (by simp [hr])] at e
    exact e
theorem sz_append (v : Nat) (a b : List Rg) : sz v (a ++ b) = sz v a + sz v b := tot_append _ _ _

/-! ### ranges in line -/
def atv : List Rg → Int → Int
  | [], _ => -1
  | r :: l, x => if x < r.2.1 then r.2.2 else atv l x
def Line : Int → Int → List Rg → Prop
  | lo, hi, [] => lo = hi
  | lo, hi, r :: l => r.1 = lo ∧ r.1 < r.2.1 ∧ Line r.2.1 hi l
theorem Line.le : ∀ {lo hi : Int} {l : List Rg}, Line lo hi l → lo ≤ hi
  | lo, hi, [], h => by have h : lo = hi := h; omega
  | lo, hi, r :: l, h => by obtain ⟨h1, h2, h3⟩ := h; have := h3.le; omega
theorem line_append : ∀ {lo hi : Int} {a b : List Rg}, Line lo hi (a ++ b) ↔ ∃ m, Line lo m a ∧ Line m hi b
  | lo, hi, [], b => ⟨fun h => ⟨lo, rfl, h⟩, fun ⟨m, h1, h2⟩ => by have h1 : lo = m := h1; rw [h1]; exact h2⟩
  | lo, hi, r :: a, b => by
    constructor
    · rintro ⟨h1, h2, h3⟩
      obtain ⟨m, h4, h5⟩ := line_append.1 h3
      exact ⟨m, ⟨h1, h2, h4⟩, h5⟩
    · rintro ⟨m, ⟨h1, h2, h4⟩, h5⟩
      exact ⟨h1, h2, line_append.2 ⟨m, h4, h5⟩⟩
theorem Line.mem : ∀ {lo hi : Int} {l : List Rg}, Line lo hi l → ∀ r ∈ l, lo ≤ r.1 ∧ r.1 < r.2.1 ∧ r.2.1 ≤ hi
  | _, _, [], _, r, hr => absurd hr (by simp)
  | lo, hi, s :: l, h, r, hr => by
    obtain ⟨h1, h2, h3⟩ := h
    rcases List.mem_cons.1 hr with rfl | hr
    · have := h3.le; exact ⟨by omega, h2, by omega⟩
    · have := h3.mem r hr; omega
theorem Line.atv : ∀ {lo hi : Int} {l : List Rg}, Line lo hi l → ∀ r ∈ l, ∀ x, r.1 ≤ x → x < r.2.1 → atv l x = r.2.2
  | _, _, [], _, r, hr, _, _, _ => absurd hr (by simp)
  | lo, hi, s :: l, h, r, hr, x, hx1, hx2 => by
    obtain ⟨h1, h2, h3⟩ := h
    rcases List.mem_cons.1 hr with rfl | hr
    · rw [Go.Proofs.Ytphmgjcjcdodhaa.atv, if_pos hx2]
    · have := h3.mem r hr
      rw [Go.Proofs.Ytphmgjcjcdodhaa.atv, if_neg (by omega)]
      exact h3.atv r hr x hx1 hx2
theorem Line.sorted : ∀ {lo hi : Int} {l : List Rg}, Line lo hi l → l.Pairwise (fun a b => a.1 < b.1)
  | _, _, [], _ => .nil
  | lo, hi, s :: l, h => by
    obtain ⟨h1, h2, h3⟩ := h
    exact .cons (fun r hr => by have := h3.mem r hr; omega) h3.sorted
theorem Line.cnt {P : Int → Bool} : ∀ {lo hi : Int} {l : List Rg}, Line lo hi l → cnt P lo hi = tot (fun r => Go.Proofs.Ytphmgjcjcdodhaa.cnt P r.1 r.2.1) l
  | lo, hi, [], h => by have h : lo = hi := h; subst h; exact cnt_none fun x _ _ => by omega
  | lo, hi, r :: l, h => by
    obtain ⟨h1, h2, h3⟩ := h
    rw [tot, ← h3.cnt, ← h1]
    exact cnt_split P (by omega) h3.le
theorem Line.rsz : ∀ {lo hi : Int} {l : List Rg}, Line lo hi l → rsz l = hi - lo
  | lo, hi, [], h => by have h : lo = hi := h; rw [Go.Proofs.Ytphmgjcjcdodhaa.rsz]; omega
  | lo, hi, r :: l, h => by
    obtain ⟨h1, h2, h3⟩ := h
    rw [Go.Proofs.Ytphmgjcjcdodhaa.rsz, h3.rsz]; omega
theorem Line.cut {lo hi f t m x y : Int} {a b : List Rg} (h : Line lo hi (a ++ (f, t, x) :: b)) (h1 : f < m) (h2 : m < t) : Line lo hi (a ++ (f, m, y) :: (m, t, x) :: b) := by
  obtain ⟨k, h3, h4, h5, h6⟩ := line_append.1 h
  exact line_append.2 ⟨k, h3, h4, h1, rfl, h2, h6⟩
theorem Line.again {lo hi f t x y : Int} {a b : List Rg} (h : Line lo hi (a ++ (f, t, x) :: b)) : Line lo hi (a ++ (f, t, y) :: b) := by
  obtain ⟨k, h3, h4, h5, h6⟩ := line_append.1 h
  exact line_append.2 ⟨k, h3, h4, h5, h6⟩
theorem chain_line : ∀ {n lo hi : Int} {p : Option Int} {l : List Rg}, Chain n lo hi p l → Line lo hi l
  | _, _, _, _, [], h => h
  | _, _, _, _, r :: l, h => ⟨h.1, h.2.1, chain_line h.2.2.2.2.2.2⟩
theorem chain_vars : ∀ {n lo hi : Int} {p : Option Int} {l : List Rg}, Chain n lo hi p l → ∀ r ∈ l, 0 ≤ r.2.2 ∧ r.2.2 < n
  | _, _, _, _, [], _, r, hr => absurd hr (by simp)
  | _, _, _, _, s :: l, h, r, hr => by
    obtain ⟨_, _, _, h4, h5, _, h7⟩ := h
    rcases List.mem_cons.1 hr with rfl | hr
    · exact ⟨h4, h5⟩
    · exact chain_vars h7 r hr
/-! ### put -/
theorem putR_skip {d : List Rg} {f t v : Int} (h : t ≤ f) : putR d f t v = d := by unfold putR; rw [if_pos h]
theorem putR_one {f t v : Int} (h : f < t) : putR [] f t v = [(f, t, v)] := by unfold putR; rw [if_neg (by omega)]; rfl
theorem putR_end {d : List Rg} {s : Rg} {f t v : Int} (h : f < t) : putR (d ++ [s]) f t v = if s.2.1 = f ∧ s.2.2 = v then d ++ [(s.1, t, v)] else d ++ [s] ++ [(f, t, v)] := by
  unfold putR
  rw [if_neg (by omega)]
  simp
theorem snoc_cases (d : List Rg) : d = [] ∨ ∃ e s, d = e ++ [s] := by
  rcases List.eq_nil_or_concat d with h | ⟨e, s, h⟩
  · exact .inl h
  · exact .inr ⟨e, s, by rw [h, List.concat_eq_append]⟩
theorem putR_rsz {d : List Rg} {f t v : Int} (h : f ≤ t) : rsz (putR d f t v) = rsz d + (t - f) := by
  by_cases hc : f < t
  · rcases snoc_cases d with rfl | ⟨e, s, rfl⟩
    · rw [putR_one hc]; simp [rsz]
    · rw [putR_end hc]
      split
      · rename_i hs
        simp only [rsz_append, rsz]; omega
      · simp only [rsz_append, rsz]; omega
  · rw [putR_skip (by omega)]; omega
theorem putR_sz {d : List Rg} {f t v : Int} (u : Nat) (h : f ≤ t) : sz u (putR d f t v) = sz u d + szf u (f, t, v) := by
  by_cases hc : f < t
  · rcases snoc_cases d with rfl | ⟨e, s, rfl⟩
    · rw [putR_one hc]; simp [sz, tot]
    · rw [putR_end hc]
      split
      · rename_i hs
        simp only [sz, tot_append, tot, szf, hs.2]
        split <;> omega
      · simp only [sz, tot_append, tot]; omega
  · rw [putR_skip (by omega)]
    simp only [szf]
    split <;> omega
theorem putR_all {Q : Int → Int → Int → Prop} {d : List Rg} {f t v : Int} (h : ∀ r ∈ d, Q r.1 r.2.1 r.2.2) (h1 : f < t → Q f t v) (h2 : ∀ a, f < t → Q a f v → Q a t v) : ∀ r ∈ putR d f t v, Q r.1 r.2.1 r.2.2 := by
  by_cases hc : f < t
  · rcases snoc_cases d with rfl | ⟨e, s, rfl⟩
    · rw [putR_one hc]; simpa using h1 hc
    · rw [putR_end hc]
      split
      · rename_i hs
        intro r hr
        rcases List.mem_append.1 hr with hr | hr
        · exact h r (by simp [hr])
        · obtain rfl : r = (s.1, t, v) := by simpa using hr
          have := h s (by simp)
          rw [hs.1, hs.2] at this
          exact h2 _ hc this
      · intro r hr
        rcases List.mem_append.1 hr with hr | hr
        · exact h r hr
        · obtain rfl : r = (f, t, v) := by simpa using hr
          exact h1 hc
  · rw [putR_skip (by omega)]; exact h
theorem chain_end : ∀ {n lo hi : Int} {p : Option Int} {d : List Rg} {s : Rg}, Chain n lo hi p (d ++ [s]) → s.2.1 = hi
  | _, _, _, _, [], s, h => h.2.2.2.2.2.2
  | _, _, _, _, r :: d, s, h => chain_end (d := d) h.2.2.2.2.2.2
theorem chain_mono : ∀ {n lo hi hi' : Int} {p : Option Int} {d : List Rg} {s : Rg}, Chain n lo hi p (d ++ [s]) → hi ≤ hi' → ∀ {e : List Rg}, (∀ q, Chain n hi hi' (some q) e ∨ q ≠ s.2.2) → Chain n lo hi' p (d ++ [s] ++ e)
  | n, lo, hi, hi', p, [], s, h, hh, e, he => by
    obtain ⟨h1, h2, h3, h4, h5, h6, h7⟩ := h
    have h7 : s.2.1 = hi := h7
    have := (he s.2.2).resolve_right (by simp)
    rw [← h7] at this
    exact ⟨h1, h2, by omega, h4, h5, h6, this⟩
  | n, lo, hi, hi', p, r :: d, s, h, hh, e, he => by
    obtain ⟨h1, h2, h3, h4, h5, h6, h7⟩ := h
    exact ⟨h1, h2, by omega, h4, h5, h6, chain_mono h7 hh he⟩
theorem chain_long : ∀ {n lo hi t : Int} {p : Option Int} {d : List Rg} {s : Rg}, Chain n lo hi p (d ++ [s]) → hi < t → Chain n lo t p (d ++ [(s.1, t, s.2.2)])
  | n, lo, hi, t, p, [], s, h, hh => by
    obtain ⟨h1, h2, h3, h4, h5, h6, h7⟩ := h
    refine ⟨h1, ?_, ?_, h4, h5, h6, rfl⟩
    · show s.1 < t; omega
    · show t ≤ t; omega
  | n, lo, hi, t, p, r :: d, s, h, hh => by
    obtain ⟨h1, h2, h3, h4, h5, h6, h7⟩ := h
    exact ⟨h1, h2, by omega, h4, h5, h6, chain_long h7 hh⟩
theorem putR_chain {n lo f t v : Int} {d : List Rg} (h : Chain n lo f none d) (hv : 0 ≤ v ∧ v < n) (hc : f ≤ t) : Chain n lo t none (putR d f t v) := by
  by_cases hc : f < t
  · rcases snoc_cases d with rfl | ⟨e, s, rfl⟩
    · have h : lo = f := h
      rw [putR_one hc]
      exact ⟨h.symm, hc, Int.le_refl _, hv.1, hv.2, by simp, rfl⟩
    · rw [putR_end hc]
      split
      · rename_i hs
        rw [← hs.2]
        exact chain_long h hc
      · rename_i hs
        have he := chain_end h
        refine chain_mono h (by omega) fun q => ?_
        by_cases hq : q = s.2.2
        · refine .inl ⟨rfl, hc, Int.le_refl _, hv.1, hv.2, ?_, rfl⟩
          rw [hq]
          exact fun e => hs ⟨he, by injection e⟩
        · exact .inr hq
  · rw [putR_skip (by omega)]
    have : f = t := by omega
    rw [← this]; exact h
theorem atv_append : ∀ {lo m : Int} {a b : List Rg} {x : Int}, Line lo m a → atv (a ++ b) x = if x < m ∧ a ≠ [] then atv a x else atv b x
  | lo, m, [], b, x, _ => by simp
  | lo, m, r :: a, b, x, h => by
    obtain ⟨h1, h2, h3⟩ := h
    have := h3.le
    rw [List.cons_append, atv, atv, atv_append h3]
    by_cases c1 : x < r.2.1
    · rw [if_pos c1, if_pos c1, if_pos ⟨by omega, by simp⟩]
    · rw [if_neg c1, if_neg c1]
      by_cases c2 : x < m
      · have c3 : a ≠ [] := by
          rintro rfl
          have h3 : r.2.1 = m := h3
          omega
        rw [if_pos ⟨c2, c3⟩, if_pos ⟨c2, by simp⟩]
      · rw [if_neg (by omega), if_neg (by omega)]
theorem putR_at {lo f t v x : Int} {d : List Rg} (h : Line lo f d) (h0 : lo ≤ x) (hx : x < t) : atv (putR d f t v) x = if x < f then atv d x else v := by
  by_cases hc : f < t
  · rcases snoc_cases d with rfl | ⟨e, s, rfl⟩
    · have h : lo = f := h
      rw [putR_one hc, show atv [(f, t, v)] x = if x < t then v else -1 from rfl, if_pos hx, if_neg (by omega)]
    · rw [putR_end hc]
      obtain ⟨m, h1, h2, h3, h4⟩ := line_append.1 h
      have h4 : s.2.1 = f := h4
      split
      · rename_i hs
        rw [atv_append h1, atv_append h1]
        by_cases c1 : x < m ∧ e ≠ []
        · rw [if_pos c1, if_pos c1, if_pos (by omega)]
        · rw [if_neg c1, if_neg c1]
          simp only [atv, if_pos hx, hs.1, hs.2]
          split <;> rfl
      · rw [atv_append h]
        by_cases c1 : x < f
        · rw [if_pos ⟨c1, by simp⟩, if_pos c1]
        · rw [if_neg (by omega), if_neg c1, atv, if_pos hx]
  · rw [putR_skip (by omega), if_pos (by omega)]
/-- All of a list, put one by one. -/
def putsL (d : List Rg) (l : List Rg) : List Rg := l.foldl (fun d r => putR d r.1 r.2.1 r.2.2) d
theorem puts_ok {n lo : Int} : ∀ {m hi : Int} {l d : List Rg}, Chain n lo m none d → Line m hi l → (∀ r ∈ l, 0 ≤ r.2.2 ∧ r.2.2 < n) → Chain n lo hi none (putsL d l) ∧ (∀ x, lo ≤ x → x < hi → atv (putsL d l) x = if x < m then atv d x else atv l x) ∧ ∀ v, sz v (putsL d l) = sz v d + sz v l
  | m, hi, [], d, h, hl, _ => by
    have hl : m = hi := hl
    subst hl
    exact ⟨h, fun x _ h2 => by rw [if_pos h2]; rfl, fun v => by simp [putsL, sz, tot]⟩
  | m, hi, r :: l, d, h, hl, hv => by
    obtain ⟨h1, h2, h3⟩ := hl
    have hr := hv r (by simp)
    rw [← h1] at h ⊢
    have h4 := putR_chain h hr (by omega : r.1 ≤ r.2.1)
    obtain ⟨g1, g2, g3⟩ := puts_ok h4 h3 fun r hr => hv r (by simp [hr])
    refine ⟨g1, fun x hx1 hx2 => ?_, fun v => ?_⟩
    · have := g2 x hx1 hx2
      rw [show putsL d (r :: l) = putsL (putR d r.1 r.2.1 r.2.2) l from rfl, this, atv]
      by_cases c1 : x < r.2.1
      · rw [if_pos c1, if_pos c1, putR_at (chain_line h) hx1 c1]
      · rw [if_neg c1, if_neg c1, if_neg (by omega)]
    · have := g3 v
      rw [show putsL d (r :: l) = putsL (putR d r.1 r.2.1 r.2.2) l from rfl, this, putR_sz v (by omega)]
      simp only [sz, tot]
      have : szf v (r.1, r.2.1, r.2.2) = szf v r := rfl
      omega
theorem putsL_length (l d : List Rg) : (putsL d l).length ≤ d.length + l.length := by
  induction l generalizing d with
  | nil => exact Nat.le_refl _
  | cons r l ih =>
    have := ih (putR d r.1 r.2.1 r.2.2)
    have h2 : (putR d r.1 r.2.1 r.2.2).length ≤ d.length + 1 := by
      unfold putR
      split
      · omega
      split
      · split
        · simp
        · simp
      · simp
    show (putsL (putR d r.1 r.2.1 r.2.2) l).length ≤ _
    simp only [List.length_cons]
    omega
/-! ### what variations still need -/
def nd (w : List Int) (v : Nat) : Int := w.getD v 0
theorem nd_at {w : List Int} {v : Nat} (h : v < w.length) : nd w v = w[v] := by simp [nd, h]
theorem nd_out {w : List Int} {v : Nat} (h : w.length ≤ v) : nd w v = 0 := by
  unfold nd
  rw [List.getD_eq_getElem?_getD, List.getElem?_eq_none h]
  rfl
theorem nd_set {w : List Int} {v : Nat} (h : v < w.length) (x : Int) (u : Nat) : nd (w.set v x) u = if u = v then x else nd w u := by
  unfold nd
  rw [List.getD_eq_getElem?_getD, List.getElem?_set]
  by_cases c : v = u
  · subst c; simp [h]
  · rw [if_neg c, if_neg (Ne.symm c), List.getD_eq_getElem?_getD]
theorem sum_set : ∀ {w : List Int} {v : Nat}, v < w.length → ∀ x : Int, (w.set v x).sum = w.sum - nd w v + x
  | [], _, h, _ => absurd h (by simp)
  | a :: w, 0, _, x => by simp [nd]; omega
  | a :: w, v + 1, h, x => by
    have := sum_set (w := w) (v := v) (by simpa using h) x
    rw [List.set_cons_succ, List.sum_cons, this, List.sum_cons]
    have e : nd (a :: w) (v + 1) = nd w v := by simp [nd]
    rw [e]; omega
theorem sum_nd : ∀ (w : List Int), w.sum = sumN (nd w) w.length
  | [] => rfl
  | a :: w => by
    have h : ∀ n, sumN (nd (a :: w)) (n + 1) = a + sumN (nd w) n := by
      intro n
      induction n with
      | zero => simp [sumN, nd]
      | succ n ih =>
        rw [sumN, ih, sumN]
        have : nd (a :: w) (n + 1) = nd w n := by simp [nd]
        omega
    rw [List.sum_cons, sum_nd w, List.length_cons, h]
theorem sumN_none {f : Nat → Int} : ∀ {n : Nat}, (∀ v, 0 ≤ f v) → sumN f n = 0 → ∀ v, v < n → f v = 0
  | 0, _, _, v, h => absurd h (by omega)
  | n + 1, h0, h, v, hv => by
    have hp : ∀ n, 0 ≤ sumN f n := fun n => by
      induction n with
      | zero => exact Int.le_refl _
      | succ n ih => have := h0 n; rw [sumN]; omega
    have h1 := hp n
    have h2 := h0 n
    rw [sumN] at h
    by_cases c : v = n
    · subst c; omega
    · exact sumN_none (n := n) h0 (by omega) v (by omega)
theorem line_length : ∀ {lo hi : Int} {l : List Rg}, Line lo hi l → (l.length : Int) ≤ hi - lo
  | lo, hi, [], h => by have h : lo = hi := h; simp; omega
  | lo, hi, r :: l, h => by
    obtain ⟨h1, h2, h3⟩ := h
    have := line_length h3
    simp only [List.length_cons]
    omega

/-! ### what stays -/
def keepW (w : List Int) (r : Rg) : List Int := w.set r.2.2.toNat (nd w r.2.2.toNat - min (nd w r.2.2.toNat) (r.2.1 - r.1))
/-- What a bucket keeps, or -1. -/
def kpv : List Rg → List Int → Int → Int
  | [], _, _ => -1
  | r :: l, w, x => if x < r.2.1 then (if x < r.1 + min (nd w r.2.2.toNat) (r.2.1 - r.1) then r.2.2 else -1) else kpv l (keepW w r) x
theorem kpv_at : ∀ {lo hi : Int} {l : List Rg}, Line lo hi l → ∀ (w : List Int) (k : Nat) (h : k < l.length) (x : Int), l[k].1 ≤ x → x < l[k].2.1 → kpv l w x = if x < l[k].1 + min (nd ((l.take k).foldl keepW w) l[k].2.2.toNat) (l[k].2.1 - l[k].1) then l[k].2.2 else -1
  | _, _, [], _, _, k, h, _, _, _ => absurd h (by simp)
  | lo, hi, r :: l, hl, w, 0, h, x, h1, h2 => by
    have h2 : x < r.2.1 := h2
    rw [kpv, if_pos h2]; rfl
  | lo, hi, r :: l, hl, w, k + 1, h, x, h1, h2 => by
    have hk : k < l.length := by simpa using h
    have hm := hl.2.2.mem _ (List.getElem_mem hk)
    have h1' : l[k].1 ≤ x := h1
    have h2' : x < l[k].2.1 := h2
    rw [kpv, if_neg (by omega), kpv_at hl.2.2 (keepW w r) k hk x h1' h2']
    rfl
structure KInv (l : List Rg) (w0 : List Int) (pre : List Rg) (at_ : Int) (p : Option Int) (w : List Int) (K F : List Rg) : Prop where
  len : w.length = w0.length
  tile : ∃ M, (K ++ F).Perm M ∧ Line 0 at_ M
  need : ∀ v, nd w v + sz v K = nd w0 v
  pos : ∀ v, 0 ≤ nd w v
  got : ∀ v, sz v K = min (nd w0 v) (sz v pre)
  sum : w.sum + rsz K = w0.sum
  vars : ∀ r ∈ K, 0 ≤ r.2.2 ∧ r.2.2 < w0.length
  own : ∀ r ∈ K, ∀ x, r.1 ≤ x → x < r.2.1 → atv l x = r.2.2
  free : ∀ r ∈ F, ∃ u : Nat, nd w u = 0 ∧ ∀ x, r.1 ≤ x → x < r.2.1 → atv l x = u
  ford : F.Pairwise fun a b => a.2.1 ≤ b.1
  last : ∀ s, K.getLast? = some s → s.2.1 ≤ at_ ∧ (s.2.1 = at_ → p = some s.2.2)
  wst : w = pre.foldl keepW w0
  kin : ∀ r ∈ K, ∀ x, r.1 ≤ x → x < r.2.1 → kpv l w0 x = r.2.2
  fin : ∀ r ∈ F, ∀ x, r.1 ≤ x → x < r.2.1 → kpv l w0 x = -1
theorem KInv.begin {l : List Rg} {w0 : List Int} (h : ∀ v, 0 ≤ nd w0 v) : KInv l w0 [] 0 none w0 [] [] :=
  ⟨rfl, ⟨[], .nil, rfl⟩, fun v => by simp [sz, tot], h, fun v => by have := h v; simp only [sz, tot]; omega, by simp [rsz], by simp, by simp, by simp, .nil, by simp, rfl, by simp, by simp⟩
def keepK (w : List Int) (K : List Rg) (r : Rg) : List Rg := putR K r.1 (r.1 + min (nd w r.2.2.toNat) (r.2.1 - r.1)) r.2.2
def keepF (w : List Int) (F : List Rg) (r : Rg) : List Rg := if r.1 + min (nd w r.2.2.toNat) (r.2.1 - r.1) < r.2.1 then F ++ [(r.1 + min (nd w r.2.2.toNat) (r.2.1 - r.1), r.2.1, 0)] else F
theorem KInv.step {l : List Rg} {w0 : List Int} {pre : List Rg} {at_ : Int} {p : Option Int} {w : List Int} {K F : List Rg} (h : KInv l w0 pre at_ p w K F) {r : Rg} (hr : r.1 = at_ ∧ r.1 < r.2.1 ∧ 0 ≤ r.2.2 ∧ r.2.2 < w0.length ∧ p ≠ some r.2.2) (ha : ∀ x, r.1 ≤ x → x < r.2.1 → atv l x = r.2.2) (hs : ∀ v, 0 ≤ sz v pre) (hk : ∀ x, r.1 ≤ x → x < r.2.1 → kpv l w0 x = if x < r.1 + min (nd w r.2.2.toNat) (r.2.1 - r.1) then r.2.2 else -1) : KInv l w0 (pre ++ [r]) r.2.1 (some r.2.2) (keepW w r) (keepK w K r) (keepF w F r) := by
  obtain ⟨h1, h2, h3, h4, h5⟩ := hr
  obtain ⟨a, t, c⟩ := r
  simp only at h1 h2 h3 h4 h5 ha hk
  obtain ⟨v, rfl⟩ : ∃ v : Nat, c = v := ⟨c.toNat, by omega⟩
  simp only
  subst h1
  have hvl : v < w.length := by have := h.len; omega
  obtain ⟨n, hn⟩ : ∃ n, min (nd w v) (t - a) = n := ⟨_, rfl⟩
  have hk' : ∀ x, a ≤ x → x < t → kpv l w0 x = if x < a + n then (v : Int) else -1 := fun x h1 h2 => by have := hk x h1 h2; rw [Int.toNat_natCast, hn] at this; exact this
  have hp := h.pos v
  have hn0 : 0 ≤ n := by omega
  have hn1 : n ≤ nd w v := by omega
  have hn2 : n ≤ t - a := by omega
  have hK : keepK w K (a, t, (v : Int)) = K ++ (if 0 < n then [(a, a + n, (v : Int))] else []) := by
    simp only [keepK, Int.toNat_natCast, hn]
    by_cases c0 : 0 < n
    · rw [if_pos c0]
      rcases snoc_cases K with rfl | ⟨e, s, rfl⟩
      · rw [putR_one (by omega)]; rfl
      · rw [putR_end (by omega), if_neg]
        rintro ⟨e1, e2⟩
        have := (h.last s (by simp)).2 e1
        rw [e2] at this
        exact h5 this
    · rw [if_neg c0, putR_skip (by omega), List.append_nil]
  have hF : keepF w F (a, t, (v : Int)) = F ++ (if a + n < t then [(a + n, t, 0)] else []) := by
    simp only [keepF, Int.toNat_natCast, hn]
    split <;> simp
  have hW : keepW w (a, t, (v : Int)) = w.set v (nd w v - n) := by simp only [keepW, Int.toNat_natCast, hn]
  rw [hK, hF, hW]
  generalize hE : (if 0 < n then [(a, a + n, (v : Int))] else []) = E
  generalize hG : (if a + n < t then [(a + n, t, (0 : Int))] else []) = G
  have hEs : ∀ u, sz u E = if u = v then n else 0 := by
    intro u
    rw [← hE]
    by_cases c0 : 0 < n
    · rw [if_pos c0]
      simp only [sz, tot, szf]
      by_cases c1 : u = v
      · subst c1; simp; omega
      · rw [if_neg c1, if_neg (by omega)]; rfl
    · rw [if_neg c0]
      simp only [sz, tot]
      split <;> omega
  have hEr : rsz E = n := by
    rw [← hE]
    split
    · simp [rsz]; omega
    · simp [rsz]; omega
  have hEm : ∀ r ∈ E, r = (a, a + n, (v : Int)) ∧ 0 < n := by
    intro r hr
    rw [← hE] at hr
    split at hr
    · exact ⟨by simpa using hr, by assumption⟩
    · simp at hr
  have hGm : ∀ r ∈ G, r = (a + n, t, 0) ∧ a + n < t := by
    intro r hr
    rw [← hG] at hr
    split at hr
    · exact ⟨by simpa using hr, by assumption⟩
    · simp at hr
  have hEG : Line a t (E ++ G) := by
    rw [← hE, ← hG]
    by_cases c0 : 0 < n
    · rw [if_pos c0]
      by_cases c1 : a + n < t
      · rw [if_pos c1]
        exact ⟨rfl, by show a < a + n; omega, rfl, c1, rfl⟩
      · rw [if_neg c1]
        exact ⟨rfl, by show a < a + n; omega, by show a + n = t; omega⟩
    · rw [if_neg c0, if_pos (by omega)]
      exact ⟨by show a + n = a; omega, by show a + n < t; omega, rfl⟩
  obtain ⟨M, hM, hL⟩ := h.tile
  have hgot := h.got
  have hneed := h.need
  constructor
  · simpa using h.len
  · refine ⟨M ++ (E ++ G), ?_, line_append.2 ⟨a, hL, hEG⟩⟩
    have e1 : (K ++ E ++ (F ++ G)).Perm (K ++ F ++ (E ++ G)) := by
      have : (E ++ (F ++ G)).Perm (F ++ (E ++ G)) := by
        rw [← List.append_assoc, ← List.append_assoc]
        exact (List.perm_append_comm).append_right G
      rw [List.append_assoc, List.append_assoc]
      exact this.append_left K
    exact e1.trans (hM.append_right _)
  · intro u
    rw [nd_set hvl, sz_append, hEs]
    have := hneed u
    split
    · rename_i e; subst e; omega
    · omega
  · intro u
    rw [nd_set hvl]
    split
    · omega
    · exact h.pos u
  · intro u
    have e1 := hgot u
    have e2 := hneed u
    have e3 := hs u
    rw [sz_append, sz_append, hEs]
    have e4 : sz u [(a, t, (v : Int))] = if u = v then t - a else 0 := by
      simp only [sz, tot, szf]
      by_cases c1 : u = v
      · subst c1; simp
      · rw [if_neg c1, if_neg (by omega)]; rfl
    rw [e4]
    by_cases c1 : u = v
    · subst c1
      rw [if_pos rfl, if_pos rfl]
      omega
    · rw [if_neg c1, if_neg c1]; omega
  · have := h.sum
    rw [sum_set hvl, rsz_append, hEr]
    omega
  · intro r hr
    rcases List.mem_append.1 hr with hr | hr
    · exact h.vars r hr
    · rw [(hEm r hr).1]; exact ⟨h3, h4⟩
  · intro r hr x hx1 hx2
    rcases List.mem_append.1 hr with hr | hr
    · exact h.own r hr x hx1 hx2
    · rw [(hEm r hr).1] at hx1 hx2 ⊢
      simp only at hx1 hx2
      exact ha x hx1 (by omega)
  · intro r hr
    rcases List.mem_append.1 hr with hr | hr
    · obtain ⟨u, hu1, hu2⟩ := h.free r hr
      refine ⟨u, ?_, hu2⟩
      rw [nd_set hvl]
      split
      · rename_i e; subst e; omega
      · exact hu1
    · obtain ⟨rfl, hg⟩ := hGm r hr
      refine ⟨v, ?_, fun x hx1 hx2 => ha x ?_ hx2⟩
      · rw [nd_set hvl, if_pos rfl]
        omega
      · simp only at hx1; omega
  · refine List.pairwise_append.2 ⟨h.ford, ?_, fun x hx y hy => ?_⟩
    · rw [← hG]
      split <;> simp
    · rw [(hGm y hy).1]
      have := hL.mem x (hM.mem_iff.1 (by simp [hx]))
      show x.2.1 ≤ a + n
      omega
  · intro s hs'
    rw [← hE] at hs'
    by_cases c0 : 0 < n
    · rw [if_pos c0] at hs'
      obtain rfl : (a, a + n, (v : Int)) = s := by simpa using hs'
      exact ⟨by show a + n ≤ t; omega, fun _ => rfl⟩
    · rw [if_neg c0, List.append_nil] at hs'
      have := (h.last s hs').1
      exact ⟨by show s.2.1 ≤ t; omega, fun e => by have e : s.2.1 = t := e; omega⟩
  · rw [List.foldl_append, ← h.wst]
    exact hW.symm
  · intro r hr x hx1 hx2
    rcases List.mem_append.1 hr with hr | hr
    · exact h.kin r hr x hx1 hx2
    · rw [(hEm r hr).1] at hx1 hx2 ⊢
      simp only at hx1 hx2
      rw [hk' x hx1 (by omega), if_pos hx2]
  · intro r hr x hx1 hx2
    rcases List.mem_append.1 hr with hr | hr
    · exact h.fin r hr x hx1 hx2
    · obtain ⟨rfl, hg⟩ := hGm r hr
      simp only at hx1 hx2
      rw [hk' x (by omega) hx2, if_neg (by omega)]
/-! ### what is filled -/
def mvf (l : List Rg) (r : Rg) : Int := cnt (fun x => atv l x != r.2.2) r.1 r.2.1
structure FInv (l : List Rg) (w0 : List Int) (K0 F0 : List Rg) (w : List Int) (v : Nat) (Fl R : List Rg) : Prop where
  len : w.length = w0.length
  tile : ∃ M, (K0 ++ Fl ++ R).Perm M ∧ Line 0 100000 M
  need : ∀ u, nd w u + sz u (K0 ++ Fl) = nd w0 u
  pos : ∀ u, 0 ≤ nd w u
  sum : w.sum = rsz R
  low : ∀ u, u < v → nd w u = 0
  vars : ∀ r ∈ K0 ++ Fl, 0 ≤ r.2.2 ∧ r.2.2 < w0.length
  moved : tot (mvf l) Fl + rsz R = rsz F0
  free : ∀ r ∈ R, ∃ u : Nat, nd w u = 0 ∧ ∀ x, r.1 ≤ x → x < r.2.1 → atv l x = u
  ford : R.Pairwise fun a b => a.2.1 ≤ b.1
  fils : Fl.Pairwise fun a b => a.2.1 ≤ b.1 ∧ a.2.2 ≤ b.2.2
  bef : ∀ a ∈ Fl, a.2.2 ≤ v ∧ ∀ r ∈ R, a.2.1 ≤ r.1
  kf : ∀ r ∈ Fl ++ R, ∀ x, r.1 ≤ x → x < r.2.1 → kpv l w0 x = -1
theorem FInv.begin {l : List Rg} {w0 : List Int} {pre : List Rg} {p : Option Int} {w : List Int} {K F : List Rg} (h : KInv l w0 pre 100000 p w K F) (h0 : w0.sum = 100000) : FInv l w0 K F w 0 [] F := by
  obtain ⟨M, hM, hL⟩ := h.tile
  have e1 := hL.rsz
  have e2 : rsz (K ++ F) = rsz M := by rw [rsz_tot, rsz_tot]; exact tot_perm _ hM
  rw [rsz_append] at e2
  refine ⟨h.len, ⟨M, by simpa using hM, hL⟩, by simpa using h.need, h.pos, by have := h.sum; omega, fun u hu => absurd hu (by omega), by simpa using h.vars, by simp [tot], h.free, h.ford, .nil, by simp, by simpa using h.fin⟩
theorem FInv.in_ {l : List Rg} {w0 : List Int} {K0 F0 : List Rg} {w : List Int} {v : Nat} {Fl R : List Rg} (h : FInv l w0 K0 F0 w v Fl R) : ∀ r ∈ R, 0 ≤ r.1 ∧ r.1 < r.2.1 ∧ r.2.1 ≤ 100000 := by
  obtain ⟨M, hM, hL⟩ := h.tile
  exact fun r hr => hL.mem r (hM.mem_iff.1 (by simp [hr]))
theorem rsz_pos : ∀ {l : List Rg}, (∀ r ∈ l, r.1 < r.2.1) → l ≠ [] → 0 < rsz l
  | [], _, h => absurd rfl h
  | [r], h, _ => by have := h r (by simp); simp only [rsz]; omega
  | r :: s :: l, h, _ => by
    have h1 := h r (by simp)
    have := rsz_pos (l := s :: l) (fun x hx => h x (by simp [hx])) (by simp)
    rw [rsz]; omega
theorem FInv.below {l : List Rg} {w0 : List Int} {K0 F0 : List Rg} {w : List Int} {v : Nat} {Fl R : List Rg} (h : FInv l w0 K0 F0 w v Fl R) (hR : R ≠ []) : v < w.length := by
  by_cases c : v < w.length
  · exact c
  · have e : w.sum = 0 := by
      rw [sum_nd, sumN_congr (g := fun _ => 0) (fun u hu => h.low u (by omega)), sumN_zero]
    have := rsz_pos (fun r hr => (h.in_ r hr).2.1) hR
    have := h.sum
    omega
theorem FInv.skip {l : List Rg} {w0 : List Int} {K0 F0 : List Rg} {w : List Int} {v : Nat} {Fl R : List Rg} (h : FInv l w0 K0 F0 w v Fl R) (hv : nd w v = 0) : FInv l w0 K0 F0 w (v + 1) Fl R :=
  ⟨h.len, h.tile, h.need, h.pos, h.sum, fun u hu => by
    by_cases c : u = v
    · rw [c]; exact hv
    · exact h.low u (by omega), h.vars, h.moved, h.free, h.ford, h.fils, fun a ha => ⟨by have := (h.bef a ha).1; omega, (h.bef a ha).2⟩, h.kf⟩
theorem FInv.take {l : List Rg} {w0 : List Int} {K0 F0 : List Rg} {w : List Int} {v : Nat} {Fl R : List Rg} {f t x n : Int} (h : FInv l w0 K0 F0 w v Fl ((f, t, x) :: R)) (hv : nd w v ≠ 0) (hn : min (nd w v) (t - f) = n) : FInv l w0 K0 F0 (w.set v (nd w v - n)) v (Fl ++ [(f, f + n, (v : Int))]) (if f + n < t then (f + n, t, x) :: R else R) := by
  have hvl := h.below (by simp)
  have hin := h.in_ (f, t, x) (by simp)
  simp only at hin
  have hp := h.pos v
  have hn0 : 0 < n := by omega
  have hn1 : n ≤ nd w v := by omega
  have hn2 : n ≤ t - f := by omega
  obtain ⟨u0, hu0, hu1⟩ := h.free (f, t, x) (by simp)
  simp only at hu1
  have huv : u0 ≠ v := fun e => hv (by rw [← e]; exact hu0)
  have hmem : ∀ r ∈ (if f + n < t then (f + n, t, x) :: R else R), r ∈ R ∨ (r = (f + n, t, x) ∧ f + n < t) := by
    intro r hr
    split at hr
    · rcases List.mem_cons.1 hr with hr | hr
      · exact .inr ⟨hr, by assumption⟩
      · exact .inl hr
    · exact .inl hr
  have hrs : rsz (if f + n < t then (f + n, t, x) :: R else R) = rsz R + (t - f - n) := by
    split
    · simp only [rsz]; omega
    · omega
  have hkeep : ∀ u : Nat, nd w u = 0 → nd (w.set v (nd w v - n)) u = 0 := by
    intro u hu
    rw [nd_set hvl]
    split
    · rename_i e; subst e; exact absurd hu hv
    · exact hu
  have hford := List.pairwise_cons.1 h.ford
  constructor
  · simpa using h.len
  · obtain ⟨M, hM, hL⟩ := h.tile
    have : (f, t, x) ∈ M := hM.mem_iff.1 (by simp)
    obtain ⟨A, B, rfl⟩ := List.append_of_mem this
    have e1 : (K0 ++ Fl ++ R).Perm (A ++ B) := by
      have e2 : ((f, t, x) :: (K0 ++ Fl ++ R)).Perm ((f, t, x) :: (A ++ B)) :=
        (List.perm_middle.symm.trans hM).trans List.perm_middle
      exact e2.cons_inv
    split
    · refine ⟨A ++ (f, f + n, (v : Int)) :: (f + n, t, x) :: B, ?_, hL.cut (by omega) (by omega)⟩
      have e3 : (K0 ++ (Fl ++ [(f, f + n, (v : Int))]) ++ (f + n, t, x) :: R).Perm ((f, f + n, (v : Int)) :: (f + n, t, x) :: (K0 ++ Fl ++ R)) := by
        rw [show K0 ++ (Fl ++ [(f, f + n, (v : Int))]) ++ (f + n, t, x) :: R = (K0 ++ Fl) ++ (f, f + n, (v : Int)) :: (f + n, t, x) :: R by simp]
        exact List.perm_middle.trans (.cons _ List.perm_middle)
      have e4 : (A ++ (f, f + n, (v : Int)) :: (f + n, t, x) :: B).Perm ((f, f + n, (v : Int)) :: (f + n, t, x) :: (A ++ B)) := List.perm_middle.trans (.cons _ List.perm_middle)
      exact (e3.trans (.cons _ (.cons _ e1))).trans e4.symm
    · have et : f + n = t := by omega
      rw [et]
      refine ⟨A ++ (f, t, (v : Int)) :: B, ?_, hL.again⟩
      have e3 : (K0 ++ (Fl ++ [(f, t, (v : Int))]) ++ R).Perm ((f, t, (v : Int)) :: (K0 ++ Fl ++ R)) := by
        rw [show K0 ++ (Fl ++ [(f, t, (v : Int))]) ++ R = (K0 ++ Fl) ++ (f, t, (v : Int)) :: R by simp]
        exact List.perm_middle
      exact (e3.trans (.cons _ e1)).trans List.perm_middle.symm
  · intro u
    have := h.need u
    rw [nd_set hvl, ← List.append_assoc, sz_append]
    have e4 : sz u [(f, f + n, (v : Int))] = if u = v then n else 0 := by
      simp only [sz, tot, szf]
      by_cases c1 : u = v
      · subst c1; simp; omega
      · rw [if_neg c1, if_neg (by omega)]; rfl
    rw [e4]
    split
    · rename_i e; subst e; omega
    · omega
  · intro u
    rw [nd_set hvl]
    split
    · omega
    · exact h.pos u
  · have := h.sum
    rw [sum_set hvl, hrs]
    rw [rsz] at this
    simp only at this
    omega
  · exact fun u hu => hkeep u (h.low u hu)
  · intro r hr
    rw [← List.append_assoc] at hr
    rcases List.mem_append.1 hr with hr | hr
    · exact h.vars r hr
    · obtain rfl : r = (f, f + n, (v : Int)) := by simpa using hr
      have := h.len
      exact ⟨by simp, by show (v : Int) < w0.length; omega⟩
  · have := h.moved
    rw [hrs, tot_append]
    rw [rsz] at this
    simp only at this
    have e : mvf l (f, f + n, (v : Int)) = n := by
      unfold mvf
      rw [cnt_all (by show f ≤ f + n; omega)]
      · show f + n - f = n; omega
      · intro y hy1 hy2
        simp only at hy1 hy2
        rw [hu1 y hy1 (by omega)]
        simp only [bne_iff_ne, ne_eq]
        omega
    simp only [tot, e]
    omega
  · intro r hr
    rcases hmem r hr with hr | ⟨rfl, hc⟩
    · obtain ⟨u, hu, hx⟩ := h.free r (by simp [hr])
      exact ⟨u, hkeep u hu, hx⟩
    · exact ⟨u0, hkeep u0 hu0, fun y hy1 hy2 => hu1 y (by simp only at hy1; omega) hy2⟩
  · split
    · exact List.pairwise_cons.2 ⟨hford.1, hford.2⟩
    · exact hford.2
  · refine List.pairwise_append.2 ⟨h.fils, by simp, fun a ha b hb => ?_⟩
    obtain rfl : b = (f, f + n, (v : Int)) := by simpa using hb
    have := h.bef a ha
    exact ⟨this.2 (f, t, x) (by simp), this.1⟩
  · intro a ha
    rcases List.mem_append.1 ha with ha | ha
    · have := h.bef a ha
      refine ⟨this.1, fun r hr => ?_⟩
      rcases hmem r hr with hr | ⟨rfl, hc⟩
      · exact this.2 r (by simp [hr])
      · have := this.2 (f, t, x) (by simp)
        simp only at this ⊢
        omega
    · obtain rfl : a = (f, f + n, (v : Int)) := by simpa using ha
      refine ⟨Int.le_refl _, fun r hr => ?_⟩
      rcases hmem r hr with hr | ⟨rfl, hc⟩
      · have := hford.1 r hr
        simp only at this ⊢
        omega
      · exact Int.le_refl _
  · intro r hr y hy1 hy2
    rcases List.mem_append.1 hr with hr | hr
    · rcases List.mem_append.1 hr with hr | hr
      · exact h.kf r (by simp [hr]) y hy1 hy2
      · obtain rfl : r = (f, f + n, (v : Int)) := by simpa using hr
        simp only at hy1 hy2
        exact h.kf (f, t, x) (by simp) y hy1 (by show y < t; omega)
    · rcases hmem r hr with hr | ⟨rfl, hc⟩
      · exact h.kf r (by simp [hr]) y hy1 hy2
      · simp only at hy1 hy2
        exact h.kf (f, t, x) (by simp) y (by show f ≤ y; omega) hy2
/-- What reweighing makes, and what it moves. -/
theorem reweigh_law {l : List Rg} {w0 : List Int} {p : Option Int} {w1 w2 : List Int} {K F Fl S : List Rg} {v : Nat} (hl : ∀ r ∈ l, 0 ≤ r.2.2 ∧ r.2.2 < w0.length) (hll : Line 0 100000 l) (hw : w0.sum = 100000) (hk : KInv l w0 l 100000 p w1 K F) (hf : FInv l w0 K F w2 v Fl []) (hS : S.Perm (K ++ Fl)) (ho : S.Pairwise fun a b => a.1 ≤ b.1) :
    Chain w0.length 0 100000 none (putsL [] S) ∧ (∀ u, sz u (putsL [] S) = nd w0 u) ∧ cnt (fun x => atv l x != atv (putsL [] S) x) 0 100000 = sumN (fun u => max (sz u l - nd w0 u) 0) w0.length := by
  obtain ⟨M, hM, hL⟩ := hf.tile
  rw [List.append_nil] at hM
  have hSM : S.Perm M := hS.trans hM
  have hMs := hL.sorted
  obtain rfl : S = M := by
    refine List.Perm.eq_of_pairwise (le := fun a b => a.1 ≤ b.1) (fun a b ha hb h1 h2 => ?_) ho (hMs.imp fun h => by omega) hSM
    have ha := hSM.mem_iff.1 ha
    rcases Classical.em (a = b) with e | e
    · exact e
    · exfalso
      have : ∀ a ∈ M, ∀ b ∈ M, a ≠ b → a.1 ≠ b.1 := by
        intro a ha b hb hne
        obtain ⟨i, hi, rfl⟩ := List.getElem_of_mem ha
        obtain ⟨j, hj, rfl⟩ := List.getElem_of_mem hb
        have hp := List.pairwise_iff_getElem.1 hMs
        rcases Nat.lt_trichotomy i j with c | c | c
        · have := hp i j hi hj c; omega
        · subst c; exact absurd rfl hne
        · have := hp j i hj hi c; omega
      exact this a ha b hb e (by omega)
  have hvars : ∀ r ∈ S, 0 ≤ r.2.2 ∧ r.2.2 < w0.length := fun r hr => hf.vars r (hS.mem_iff.1 hr)
  obtain ⟨g1, g2, g3⟩ := puts_ok (n := w0.length) (lo := 0) (m := 0) (d := []) rfl hL hvars
  have hz : ∀ u, nd w2 u = 0 := by
    intro u
    by_cases c : u < w2.length
    · have e := hf.sum
      rw [sum_nd] at e
      exact sumN_none hf.pos e u c
    · exact nd_out (by omega)
  have hsz : ∀ u, sz u S = nd w0 u := by
    intro u
    have e1 := hf.need u
    have e2 : sz u S = sz u (K ++ Fl) := tot_perm _ hS
    rw [hz u] at e1
    omega
  refine ⟨g1, fun u => ?_, ?_⟩
  · rw [g3 u, hsz u]
    simp [sz, tot]
  · rw [cnt_congr (Q := fun x => atv l x != atv S x) (fun x hx1 hx2 => by rw [g2 x hx1 hx2, if_neg (by omega)]), hL.cnt, tot_congr (g := mvf l)]
    · rw [tot_perm _ hS, tot_append]
      have e1 : tot (mvf l) K = 0 := by
        have : tot (mvf l) K = tot (fun _ => 0) K := tot_congr fun r hr => cnt_none fun x hx1 hx2 => by
          rw [hk.own r hr x hx1 hx2]; simp
        rw [this]
        have : ∀ l : List Rg, tot (fun _ => 0) l = 0 := fun l => by
          induction l with
          | nil => rfl
          | cons r l ih => rw [tot, ih]; rfl
        exact this K
      have e2 := hf.moved
      rw [rsz] at e2
      obtain ⟨M', hM', hL'⟩ := hk.tile
      have e3 : rsz (K ++ F) = rsz M' := by rw [rsz_tot, rsz_tot]; exact tot_perm _ hM'
      rw [hL'.rsz, rsz_append] at e3
      have e4 : sumN (fun u => sz u K) w0.length = rsz K := sumN_sz hk.vars
      have e5 : sumN (fun u => sz u l) w0.length = rsz l := sumN_sz hl
      have e6 := sumN_add (fun u => max (sz u l - nd w0 u) 0) (fun u => sz u K) w0.length
      rw [sumN_congr (g := fun u => sz u l) (fun u hu => by have := hk.got u; omega), e5, e4, hll.rsz] at e6
      omega
    · intro r hr
      exact cnt_congr fun x hx1 hx2 => by rw [hL.atv r hr x hx1 hx2]
end Go.Proofs.Ytphmgjcjcdodhaa
