/-
  Texts that are like a pattern: the plain law. The greedy search and the table both answer 'Lk'.
-/
namespace Go.LikeLaw

/-- A text is like a pattern. 42 is the star, 63 the question mark. -/
inductive Lk : List UInt8 → List UInt8 → Prop
  | nil : Lk [] []
  | star0 {t p : List UInt8} : Lk t p → Lk t (42 :: p)
  | star1 {c : UInt8} {t p : List UInt8} : Lk t (42 :: p) → Lk (c :: t) (42 :: p)
  | one {c q : UInt8} {t p : List UInt8} : q ≠ 42 → (q = 63 ∨ q = c) → Lk t p → Lk (c :: t) (q :: p)

theorem nil_right {t : List UInt8} : Lk t [] ↔ t = [] := by
  constructor
  · intro h; cases h; rfl
  · rintro rfl; exact .nil
theorem star_iff {t p : List UInt8} : Lk t (42 :: p) ↔ ∃ t1 t2, t = t1 ++ t2 ∧ Lk t2 p := by
  constructor
  · intro h
    generalize hq : (42 :: p : List UInt8) = q at h
    induction h with
    | nil => cases hq
    | star0 h _ => cases hq; exact ⟨[], _, rfl, h⟩
    | @star1 c t p' h ih =>
      obtain ⟨t1, t2, rfl, h2⟩ := ih hq
      exact ⟨c :: t1, t2, rfl, h2⟩
    | one hne _ _ => cases hq; exact absurd rfl hne
  · rintro ⟨t1, t2, rfl, h⟩
    induction t1 with
    | nil => exact .star0 h
    | cons c t1 ih => exact .star1 ih
theorem one_iff {c q : UInt8} {t p : List UInt8} (hq : q ≠ 42) : Lk (c :: t) (q :: p) ↔ (q = 63 ∨ q = c) ∧ Lk t p := by
  constructor
  · intro h
    cases h with
    | star0 => exact absurd rfl hq
    | star1 => exact absurd rfl hq
    | one _ h1 h2 => exact ⟨h1, h2⟩
  · rintro ⟨h1, h2⟩; exact .one hq h1 h2
theorem nil_left {q : UInt8} {p : List UInt8} (hq : q ≠ 42) : ¬ Lk [] (q :: p) := by
  intro h; cases h; exact hq rfl
theorem nil_all {p : List UInt8} : Lk [] p ↔ ∀ q ∈ p, q = 42 := by
  induction p with
  | nil => simp [Lk.nil]
  | cons q p ih =>
    by_cases hq : q = 42
    · subst hq
      rw [star_iff]
      constructor
      · rintro ⟨t1, t2, h, h2⟩
        obtain ⟨_, rfl⟩ := List.append_eq_nil_iff.1 h.symm
        simpa using ih.1 h2
      · intro h
        exact ⟨[], [], rfl, ih.2 fun x hx => h x (by simp [hx])⟩
    · constructor
      · intro h; exact absurd h (nil_left hq)
      · intro h; exact absurd (h q (by simp)) hq

theorem append {t1 p1 t2 p2 : List UInt8} (h1 : Lk t1 p1) (h2 : Lk t2 p2) : Lk (t1 ++ t2) (p1 ++ p2) := by
  induction h1 with
  | nil => exact h2
  | star0 _ ih => exact .star0 ih
  | star1 _ ih => exact .star1 ih
  | one a b _ ih => exact .one a b ih
theorem split {p2 : List UInt8} : ∀ {p1 t : List UInt8}, Lk t (p1 ++ p2) → ∃ t1 t2, t = t1 ++ t2 ∧ Lk t1 p1 ∧ Lk t2 p2
  | [], t, h => ⟨[], t, rfl, .nil, h⟩
  | q :: p1, t, h => by
    by_cases hq : q = 42
    · subst hq
      obtain ⟨a, b, rfl, hb⟩ := star_iff.1 h
      obtain ⟨t1, t2, rfl, h1, h2⟩ := split hb
      exact ⟨a ++ t1, t2, by simp, star_iff.2 ⟨a, t1, rfl, h1⟩, h2⟩
    · cases t with
      | nil => exact absurd h (nil_left hq)
      | cons c t =>
        obtain ⟨a, b⟩ := (one_iff hq).1 h
        obtain ⟨t1, t2, rfl, h1, h2⟩ := split b
        exact ⟨c :: t1, t2, rfl, .one hq a h1, h2⟩
theorem any_star (t : List UInt8) : Lk t [42] := star_iff.2 ⟨t, [], by simp, .nil⟩

/-- What the table's last column says, by the row before. -/
theorem snoc_star {t p : List UInt8} : Lk t (p ++ [42]) ↔ ∃ t1 t2, t = t1 ++ t2 ∧ Lk t1 p := by
  constructor
  · intro h
    obtain ⟨t1, t2, e, h1, _⟩ := split h
    exact ⟨t1, t2, e, h1⟩
  · rintro ⟨t1, t2, rfl, h⟩
    exact append h (any_star t2)
theorem snoc_star_nil {p : List UInt8} : Lk [] (p ++ [42]) ↔ Lk [] p := by
  rw [snoc_star]
  constructor
  · rintro ⟨t1, t2, e, h⟩
    obtain ⟨rfl, _⟩ := List.append_eq_nil_iff.1 e.symm
    exact h
  · intro h; exact ⟨[], [], rfl, h⟩
theorem snoc_star_snoc {t p : List UInt8} {c : UInt8} : Lk (t ++ [c]) (p ++ [42]) ↔ Lk (t ++ [c]) p ∨ Lk t (p ++ [42]) := by
  rw [snoc_star, snoc_star]
  constructor
  · rintro ⟨t1, t2, e, h⟩
    rcases List.eq_nil_or_concat t2 with rfl | ⟨t3, d, rfl⟩
    · left
      have : t ++ [c] = t1 := by simpa using e
      rwa [this]
    · right
      rw [List.concat_eq_append, ← List.append_assoc] at e
      obtain ⟨e1, e2⟩ := List.append_inj' e rfl
      exact ⟨t1, t3, e1, h⟩
  · rintro (h | ⟨t1, t2, rfl, h⟩)
    · exact ⟨t ++ [c], [], by simp, h⟩
    · exact ⟨t1, t2 ++ [c], by simp, h⟩
theorem snoc_one_nil {p : List UInt8} {q : UInt8} (hq : q ≠ 42) : ¬ Lk [] (p ++ [q]) := by
  intro h
  obtain ⟨t1, t2, e, _, h2⟩ := split h
  obtain ⟨_, rfl⟩ := List.append_eq_nil_iff.1 e.symm
  exact nil_left hq h2
theorem snoc_one {t p : List UInt8} {c q : UInt8} (hq : q ≠ 42) : Lk (t ++ [c]) (p ++ [q]) ↔ Lk t p ∧ (q = 63 ∨ q = c) := by
  constructor
  · intro h
    obtain ⟨t1, t2, e, h1, h2⟩ := split h
    cases t2 with
    | nil => exact absurd h2 (nil_left hq)
    | cons d t2 =>
      obtain ⟨a, b⟩ := (one_iff hq).1 h2
      have : t2 = [] := nil_right.1 b
      subst this
      obtain ⟨e1, e2⟩ := List.append_inj' e rfl
      obtain rfl : c = d := by simpa using e2
      exact ⟨e1 ▸ h1, a⟩
  · rintro ⟨h1, h2⟩
    exact append h1 (.one hq h2 .nil)

/-- A piece of a pattern without stars takes just its length. -/
theorem seg {s : List UInt8} (hs : ∀ q ∈ s, q ≠ 42) {p : List UInt8} : ∀ {t : List UInt8}, Lk t (s ++ p) → s.length ≤ t.length ∧ Lk (t.drop s.length) p := by
  induction s with
  | nil => intro t h; exact ⟨by simp, h⟩
  | cons q s ih =>
    intro t h
    have hq : q ≠ 42 := hs q (by simp)
    cases t with
    | nil => exact absurd h (nil_left hq)
    | cons c t =>
      obtain ⟨_, b⟩ := (one_iff hq).1 h
      obtain ⟨h1, h2⟩ := ih (fun x hx => hs x (by simp [hx])) b
      exact ⟨by simp; omega, by simpa using h2⟩

/-- What holds at the head of the search's loop: the answer is that of the rest. s: what lies between the last star and k. -/
structure Inv (t p : List UInt8) (star : Int) (fr i k : Nat) : Prop where
  hi : i ≤ t.length
  hk : k ≤ p.length
  none_ : star < 0 → star = -1 ∧ (Lk t p ↔ Lk (t.drop i) (p.drop k))
  some_ : 0 ≤ star → ∃ s, p.drop (star.toNat + 1) = s ++ p.drop k ∧ star.toNat + 1 + s.length = k ∧ fr + s.length = i ∧ (∀ q ∈ s, q ≠ 42) ∧
    (∀ r, Lk (t.drop i) r → Lk (t.drop fr) (s ++ r)) ∧ (Lk t p ↔ ∃ f, fr ≤ f ∧ f ≤ t.length ∧ Lk (t.drop f) (p.drop (star.toNat + 1)))

theorem Inv.start (t p : List UInt8) : Inv t p (-1) 0 0 0 := ⟨by simp, by simp, fun _ => ⟨rfl, by simp⟩, fun h => by omega⟩

theorem drop_cons {l : List UInt8} {k : Nat} (h : k < l.length) : l.drop k = l[k] :: l.drop (k + 1) := List.drop_eq_getElem_cons h

/-- The star. -/
theorem Inv.atStar {t p : List UInt8} {star : Int} {fr i k : Nat} (h : Inv t p star fr i k) (hk : k < p.length) (hq : p[k] = 42) : Inv t p k i i (k + 1) := by
  have hd := drop_cons hk
  rw [hq] at hd
  have key : Lk (t.drop i) (p.drop k) ↔ ∃ f, i ≤ f ∧ f ≤ t.length ∧ Lk (t.drop f) (p.drop (k + 1)) := by
    rw [hd, star_iff]
    constructor
    · rintro ⟨t1, t2, e, h2⟩
      have hl : t1.length + t2.length = t.length - i := by
        have := congrArg List.length e
        simp at this
        omega
      refine ⟨i + t1.length, by omega, by have := h.hi; omega, ?_⟩
      rw [← List.drop_drop, e]
      simpa using h2
    · rintro ⟨f, h1, h2, h3⟩
      refine ⟨(t.drop i).take (f - i), t.drop f, ?_, h3⟩
      rw [show t.drop f = (t.drop i).drop (f - i) by rw [List.drop_drop]; congr 1; omega]
      exact (List.take_append_drop _ _).symm
  refine ⟨h.hi, by omega, fun hh => by omega, fun _ => ⟨[], by simp, by simp, by simp, by simp, fun r hr => by simpa using hr, ?_⟩⟩
  have e1 : (k : Int).toNat = k := by simp
  rw [e1]
  by_cases hs : star < 0
  · rw [(h.none_ hs).2, key]
  · obtain ⟨s, s1, s2, s3, s4, s5, s6⟩ := h.some_ (by omega)
    rw [s6]
    constructor
    · rintro ⟨f, f1, f2, f3⟩
      rw [s1] at f3
      obtain ⟨g1, g2⟩ := seg s4 f3
      rw [List.drop_drop] at g2
      simp at g1
      rw [hd, star_iff] at g2
      obtain ⟨t1, t2, e, h2⟩ := g2
      have hl : t1.length + t2.length = t.length - (f + s.length) := by
        have := congrArg List.length e
        simp at this
        omega
      refine ⟨f + s.length + t1.length, by omega, by omega, ?_⟩
      rw [← List.drop_drop, e]
      simpa using h2
    · rintro hf
      exact ⟨fr, Nat.le_refl _, by have := h.hi; omega, by rw [s1]; exact s5 _ (key.2 hf)⟩

/-- A byte that fits. -/
theorem Inv.fit {t p : List UInt8} {star : Int} {fr i k : Nat} (h : Inv t p star fr i k) (hi : i < t.length) (hk : k < p.length) (hq : p[k] ≠ 42) (hc : p[k] = 63 ∨ p[k] = t[i]) : Inv t p star fr (i + 1) (k + 1) := by
  have hd := drop_cons hk
  have ht := drop_cons hi
  refine ⟨by omega, by omega, fun hs => ⟨(h.none_ hs).1, ?_⟩, fun hs => ?_⟩
  · rw [(h.none_ hs).2, hd, ht, one_iff hq]
    exact ⟨fun h => h.2, fun h => ⟨hc, h⟩⟩
  · obtain ⟨s, s1, s2, s3, s4, s5, s6⟩ := h.some_ hs
    refine ⟨s ++ [p[k]], by rw [s1, hd]; simp, by simp; omega, by simp; omega, ?_, ?_, s6⟩
    · intro q hq'
      rcases List.mem_append.1 hq' with h | h
      · exact s4 q h
      · simp at h; rw [h]; exact hq
    · intro r hr
      rw [List.append_assoc]
      refine s5 _ ?_
      rw [ht]
      exact .one hq hc hr

/-- It does not fit here. -/
theorem noFit {t p : List UInt8} {i k : Nat} (hi : i < t.length) (h : k < p.length → ∀ hk : k < p.length, p[k] ≠ 42 ∧ ¬ (p[k] = 63 ∨ p[k] = t[i])) : ¬ Lk (t.drop i) (p.drop k) := by
  intro hl
  rw [drop_cons hi] at hl
  by_cases hk : k < p.length
  · rw [drop_cons hk] at hl
    obtain ⟨a, b⟩ := h hk hk
    exact b ((one_iff a).1 hl).1
  · rw [List.drop_eq_nil_of_le (as := p) (by omega)] at hl
    cases hl
theorem Inv.none {t p : List UInt8} {star : Int} {fr i k : Nat} (h : Inv t p star fr i k) (hs : star < 0) (hn : ¬ Lk (t.drop i) (p.drop k)) : ¬ Lk t p := by
  rw [(h.none_ hs).2]; exact hn
theorem Inv.back {t p : List UInt8} {star : Int} {fr i k : Nat} (h : Inv t p star fr i k) (hi : i < t.length) (hs : 0 ≤ star) (hn : ¬ Lk (t.drop i) (p.drop k)) : Inv t p star (fr + 1) (fr + 1) (star.toNat + 1) := by
  obtain ⟨s, s1, s2, s3, s4, s5, s6⟩ := h.some_ hs
  have hk := h.hk
  refine ⟨by omega, by omega, fun h => by omega, fun _ => ⟨[], by simp, by simp, by simp, by simp, fun r hr => by simpa using hr, ?_⟩⟩
  rw [s6]
  constructor
  · rintro ⟨f, f1, f2, f3⟩
    by_cases hf : f = fr
    · subst hf
      rw [s1] at f3
      obtain ⟨g1, g2⟩ := seg s4 f3
      rw [List.drop_drop, s3] at g2
      exact absurd g2 hn
    · exact ⟨f, by omega, f2, f3⟩
  · rintro ⟨f, f1, f2, f3⟩
    exact ⟨f, by omega, f2, f3⟩
/-- The text is at its end. -/
theorem Inv.done {t p : List UInt8} {star : Int} {fr i k : Nat} (h : Inv t p star fr i k) (hi : i = t.length) : Lk t p ↔ ∀ q ∈ p.drop k, q = 42 := by
  have e : t.drop i = [] := List.drop_eq_nil_of_le (by omega)
  rw [← nil_all]
  by_cases hs : star < 0
  · rw [(h.none_ hs).2, e]
  · obtain ⟨s, s1, s2, s3, s4, s5, s6⟩ := h.some_ (by omega)
    rw [s6, s1]
    constructor
    · rintro ⟨f, f1, f2, f3⟩
      obtain ⟨g1, g2⟩ := seg s4 f3
      simp at g1
      rwa [List.drop_drop, List.drop_eq_nil_of_le (by omega)] at g2
    · intro hl
      exact ⟨fr, Nat.le_refl _, by omega, s5 _ (by rw [e]; exact hl)⟩

/-- The search's measure. -/
def meas (n m : Nat) (star : Int) (fr i : Nat) : Nat := ((m : Int) - star).toNat * ((n + 2) * (n + 2)) + (n - fr) * (n + 2) + (n - i)
end Go.LikeLaw
