/-
  The plain law of spans: lists of pairs (from, to); what they hold; the one form that a set has.
  The plain law of spans, part 2: the reference's sweep, sizes.
  Spans: the checks and the sizes, of the program and of the reference.
  Spans: sizes, first.
  Spans: first.
  Spans: First of the program and of the reference.
  Spans: the reference's next and has.
  Spans: checks of two, limits.
  Spans: minus of the program.
  Spans: the reference's put.
  Ranges: the checks of the program.
  Ranges: the check of weights, put.
-/
import Derived.Test.YtfjeckcbnhohmaaGreatDoorG5
import Derived.Test.YtfjeckcbnhohmaaGreatDoorG6
import Derived.Test.YtfjeckcbnhohmaaGreatDoorG8
namespace Go.SpanLaw

abbrev Sp := Int × Int
/-- Spans that go up and do not touch, all beyond lo. -/
def Canon : Int → List Sp → Prop
  | _, [] => True
  | lo, s :: l => lo < s.1 ∧ s.1 < s.2 ∧ Canon s.2 l
def mem (l : List Sp) (k : Int) : Prop := ∃ s ∈ l, s.1 ≤ k ∧ k < s.2
theorem mem_nil (k : Int) : ¬ mem [] k := by simp [mem]
theorem mem_cons (s : Sp) (l : List Sp) (k : Int) : mem (s :: l) k ↔ (s.1 ≤ k ∧ k < s.2) ∨ mem l k := by simp [mem]
theorem mem_one (f t k : Int) : mem [(f, t)] k ↔ f ≤ k ∧ k < t := by simp [mem]
theorem mem_append (l m : List Sp) (k : Int) : mem (l ++ m) k ↔ mem l k ∨ mem m k := by simp [mem, or_and_right, exists_or]
theorem canon_mem : ∀ {lo : Int} {l : List Sp}, Canon lo l → ∀ {k : Int}, mem l k → lo < k
  | _, [], _, k, h => absurd h (mem_nil k)
  | lo, s :: l, hc, k, h => by
    rcases (mem_cons s l k).1 h with h | h
    · have := hc.1; omega
    · have := canon_mem hc.2.2 h
      have := hc.1; have := hc.2.1; omega
theorem canon_lo {lo lo' : Int} {l : List Sp} (h : Canon lo l) (hl : lo' ≤ lo) : Canon lo' l := by
  cases l with
  | nil => trivial
  | cons s l => exact ⟨by have := h.1; omega, h.2⟩
/-- A set has one form. -/
theorem canon_eq : ∀ {lo : Int} {l m : List Sp}, Canon lo l → Canon lo m → (∀ k, mem l k ↔ mem m k) → l = m
  | _, [], [], _, _, _ => rfl
  | _, [], s :: m, _, hm, h => by
    exfalso
    have := (h s.1).2 ((mem_cons s m s.1).2 (.inl ⟨Int.le_refl _, hm.2.1⟩))
    exact mem_nil _ this
  | _, s :: l, [], hl, _, h => by
    exfalso
    have := (h s.1).1 ((mem_cons s l s.1).2 (.inl ⟨Int.le_refl _, hl.2.1⟩))
    exact mem_nil _ this
  | lo, s :: l, r :: m, hl, hm, h => by
    have low : ∀ {x : Sp} {q : List Sp}, Canon lo (x :: q) → ∀ {k}, mem (x :: q) k → x.1 ≤ k := fun {x q} hc {k} hk => by
      rcases (mem_cons x q k).1 hk with g | g
      · exact g.1
      · have := canon_mem hc.2.2 g; have := hc.2.1; omega
    have h1 : s.1 = r.1 := by
      have a := low hm ((h s.1).1 ((mem_cons s l s.1).2 (.inl ⟨Int.le_refl _, hl.2.1⟩)))
      have b := low hl ((h r.1).2 ((mem_cons r m r.1).2 (.inl ⟨Int.le_refl _, hm.2.1⟩)))
      omega
    have high : ∀ {x : Sp} {q : List Sp}, Canon lo (x :: q) → ¬ mem (x :: q) x.2 := fun {x q} hc hk => by
      rcases (mem_cons x q x.2).1 hk with g | g
      · omega
      · have := canon_mem hc.2.2 g; omega
    have h2 : s.2 = r.2 := by
      rcases Int.lt_trichotomy s.2 r.2 with g | g | g
      · exact absurd ((h s.2).2 ((mem_cons r m s.2).2 (.inl ⟨by have := hl.2.1; omega, g⟩))) (high hl)
      · exact g
      · exact absurd ((h r.2).1 ((mem_cons s l r.2).2 (.inl ⟨by have := hm.2.1; omega, g⟩))) (high hm)
    have h3 : s = r := Prod.ext h1 h2
    subst h3
    rw [canon_eq hl.2.2 hm.2.2 fun k => ?_]
    have hk := h k
    rw [mem_cons, mem_cons] at hk
    constructor
    · intro g
      have := canon_mem hl.2.2 g
      rcases hk.1 (.inr g) with g' | g'
      · omega
      · exact g'
    · intro g
      have := canon_mem hm.2.2 g
      rcases hk.2 (.inr g) with g' | g'
      · omega
      · exact g'

/-! ### together -/
/-- Spans by their from, put together: c is the one under way. -/
def tog : Sp → List Sp → List Sp
  | c, [] => [c]
  | c, s :: l => if s.1 ≤ c.2 then tog (c.1, max c.2 s.2) l else c :: tog s l
def togL : List Sp → List Sp
  | [] => []
  | s :: l => tog s l
/-- By their from, none empty. -/
def Sorted : Int → List Sp → Prop
  | _, [] => True
  | lo, s :: l => lo ≤ s.1 ∧ s.1 < s.2 ∧ Sorted s.1 l
theorem sorted_lo {lo lo' : Int} {l : List Sp} (h : Sorted lo l) (hl : lo' ≤ lo) : Sorted lo' l := by
  cases l with
  | nil => trivial
  | cons s l => exact ⟨by have := h.1; omega, h.2⟩
theorem tog_canon : ∀ {lo : Int} {c : Sp} {l : List Sp}, lo < c.1 → c.1 < c.2 → Sorted c.1 l → Canon lo (tog c l)
  | lo, c, [], h1, h2, _ => ⟨h1, h2, trivial⟩
  | lo, c, s :: l, h1, h2, h3 => by
    unfold tog
    split
    · exact tog_canon h1 (by show c.1 < max c.2 s.2; omega) (sorted_lo h3.2.2 h3.1)
    · exact ⟨h1, h2, tog_canon (by omega) h3.2.1 h3.2.2⟩
theorem tog_mem : ∀ {c : Sp} {l : List Sp}, c.1 < c.2 → Sorted c.1 l → ∀ k, mem (tog c l) k ↔ (c.1 ≤ k ∧ k < c.2) ∨ mem l k
  | c, [], _, _, k => by simp [tog, mem]
  | c, s :: l, h2, h3, k => by
    unfold tog
    split
    · rw [tog_mem (c := (c.1, max c.2 s.2)) (by show c.1 < max c.2 s.2; omega) (sorted_lo h3.2.2 h3.1) k, mem_cons]
      have := h3.1; have := h3.2.1
      show (c.1 ≤ k ∧ k < max c.2 s.2) ∨ mem l k ↔ _
      constructor
      · rintro (h | h)
        · by_cases hk : k < c.2
          · exact .inl ⟨h.1, hk⟩
          · exact .inr (.inl ⟨by omega, by omega⟩)
        · exact .inr (.inr h)
      · rintro (h | h | h)
        · exact .inl ⟨h.1, by omega⟩
        · exact .inl ⟨by omega, by omega⟩
        · exact .inr h
    · rw [mem_cons, tog_mem h3.2.1 h3.2.2 k, mem_cons]
theorem togL_canon {lo : Int} {l : List Sp} (h : Sorted (lo + 1) l) : Canon lo (togL l) := by
  cases l with
  | nil => trivial
  | cons s l => exact tog_canon (by have := h.1; omega) h.2.1 h.2.2
theorem togL_mem {lo : Int} {l : List Sp} (h : Sorted lo l) (k : Int) : mem (togL l) k ↔ mem l k := by
  cases l with
  | nil => exact Iff.rfl
  | cons s l => rw [mem_cons]; exact tog_mem h.2.1 h.2.2 k

/-! ### minus -/
def piece (from_ to : Int) : List Sp → List Sp
  | [] => if from_ < to then [(from_, to)] else []
  | b :: l => if b.1 < to then (if from_ < b.1 then (from_, b.1) :: piece (max from_ b.2) to l else piece (max from_ b.2) to l) else if from_ < to then [(from_, to)] else []
def skip (x : Int) : List Sp → List Sp
  | [] => []
  | b :: l => if b.2 ≤ x then skip x l else b :: l
def mins : List Sp → List Sp → List Sp
  | [], _ => []
  | s :: a, b => piece s.1 s.2 (skip s.1 b) ++ mins a (skip s.1 b)
theorem skip_canon : ∀ {lo x : Int} {b : List Sp}, Canon lo b → Canon lo (skip x b)
  | _, _, [], _ => trivial
  | lo, x, s :: b, h => by
    unfold skip
    split
    · exact skip_canon (canon_lo h.2.2 (by have := h.1; have := h.2.1; omega))
    · exact h
theorem skip_mem : ∀ {x : Int} {b : List Sp} {k : Int}, x ≤ k → (mem (skip x b) k ↔ mem b k)
  | _, [], _, _ => Iff.rfl
  | x, s :: b, k, h => by
    unfold skip
    split
    · rw [skip_mem h, mem_cons]
      constructor
      · exact .inr
      · rintro (g | g)
        · omega
        · exact g
    · exact Iff.rfl
theorem piece_mem : ∀ {lo f t : Int} {b : List Sp} {k : Int}, Canon lo b → (mem (piece f t b) k ↔ f ≤ k ∧ k < t ∧ ¬ mem b k)
  | _, f, t, [], k, _ => by
    unfold piece
    split
    · simp [mem]
    · simp [mem]; omega
  | lo, f, t, s :: b, k, h => by
    have hs := h.2.1
    have hb : mem b k → s.2 < k := fun g => canon_mem h.2.2 g
    have ih := @piece_mem s.2 (max f s.2) t b k h.2.2
    have m1 : f ≤ max f s.2 := Int.le_max_left _ _
    have m2 : s.2 ≤ max f s.2 := Int.le_max_right _ _
    have m3 : max f s.2 = f ∨ max f s.2 = s.2 := by omega
    rw [mem_cons]
    unfold piece
    generalize max f s.2 = m at ih m1 m2 m3 ⊢
    split
    · split
      · rw [mem_cons, ih]
        show (f ≤ k ∧ k < s.1) ∨ _ ↔ _
        by_cases g : mem b k
        · have := hb g; simp only [g, not_true_eq_false, and_false, or_true, or_false, iff_false]; omega
        · simp only [g, not_false_eq_true, and_true, or_false]; omega
      · rw [ih]
        by_cases g : mem b k
        · simp only [g, not_true_eq_false, and_false, or_true]
        · simp only [g, not_false_eq_true, and_true, or_false]; omega
    · split
      · rw [mem_one]
        by_cases g : mem b k
        · have := hb g; simp only [g, or_true, not_true_eq_false, and_false, iff_false]; omega
        · simp only [g, or_false]; omega
      · constructor
        · intro g; exact absurd g (mem_nil k)
        · intro g; omega
/-- Spans all below hi. -/
def Below (hi : Int) (l : List Sp) : Prop := ∀ s ∈ l, s.2 ≤ hi
theorem canon_append : ∀ {lo hi : Int} {l m : List Sp}, Canon lo l → lo ≤ hi → Below hi l → Canon hi m → Canon lo (l ++ m)
  | _, _, [], m, _, hh, _, hm => canon_lo hm hh
  | lo, hi, s :: l, m, hl, hh, hb, hm => ⟨hl.1, hl.2.1, canon_append hl.2.2 (hb s (by simp)) (fun x hx => hb x (by simp [hx])) hm⟩
theorem piece_canon : ∀ {lo blo f t : Int} {b : List Sp}, Canon blo b → lo < f → Canon lo (piece f t b) ∧ Below t (piece f t b)
  | lo, _, f, t, [], _, hf => by
    unfold piece
    split
    · rename_i h; exact ⟨⟨hf, h, trivial⟩, fun s hs => by simp at hs; subst hs; exact Int.le_refl _⟩
    · exact ⟨trivial, fun s hs => by cases hs⟩
  | lo, blo, f, t, s :: b, h, hf => by
    have hs := h.2.1
    unfold piece
    split
    · rename_i h1
      split
      · rename_i h2
        obtain ⟨g1, g2⟩ := @piece_canon s.1 s.2 (max f s.2) t b h.2.2 (by omega)
        exact ⟨⟨hf, h2, g1⟩, fun x hx => by
          rcases List.mem_cons.1 hx with rfl | hx
          · show s.1 ≤ t; omega
          · exact g2 x hx⟩
      · exact @piece_canon lo s.2 (max f s.2) t b h.2.2 (by omega)
    · split
      · rename_i h; exact ⟨⟨hf, h, trivial⟩, fun s hs => by simp at hs; subst hs; exact Int.le_refl _⟩
      · exact ⟨trivial, fun s hs => by cases hs⟩
theorem mins_mem : ∀ {lo blo : Int} {a b : List Sp} {k : Int}, Canon lo a → Canon blo b → (mem (mins a b) k ↔ mem a k ∧ ¬ mem b k)
  | _, _, [], b, k, _, _ => by simp [mins, mem]
  | lo, blo, s :: a, b, k, ha, hb => by
    have hs := ha.2.1
    rw [mins, mem_append, piece_mem (skip_canon hb), mins_mem ha.2.2 (skip_canon hb), mem_cons]
    have hk : mem a k → s.2 < k := fun g => canon_mem ha.2.2 g
    by_cases g : s.1 ≤ k
    · rw [skip_mem g]
      by_cases g1 : mem a k <;> by_cases g2 : mem b k <;> simp [g1, g2]
    · have g1 : ¬ mem a k := fun h => by have := hk h; omega
      simp only [g1, or_false, false_and]
      constructor
      · intro h; omega
      · intro h; omega
theorem mins_canon : ∀ {lo blo : Int} {a b : List Sp}, Canon lo a → Canon blo b → Canon lo (mins a b)
  | _, _, [], _, _, _ => trivial
  | lo, blo, s :: a, b, ha, hb => by
    have hs := ha.2.1
    obtain ⟨g1, g2⟩ := piece_canon (lo := lo) (t := s.2) (skip_canon (x := s.1) hb) ha.1
    exact canon_append g1 (by have := ha.1; omega) g2 (mins_canon ha.2.2 (skip_canon hb))
end Go.SpanLaw
namespace Go.SpanLaw

/-! ### the reference's sweep -/
def nextF (at_ : Int) : Int → List Sp → Int
  | out, [] => out
  | out, s :: l => nextF at_ (if at_ < s.2 then min (if at_ < s.1 then min out s.1 else out) s.2 else (if at_ < s.1 then min out s.1 else out)) l
theorem nextF_le (at_ : Int) : ∀ (l : List Sp) (out : Int), nextF at_ out l ≤ out
  | [], _ => Int.le_refl _
  | s :: l, out => by
    refine Int.le_trans (nextF_le at_ l _) ?_
    split <;> split <;> omega
theorem nextF_gt {at_ : Int} : ∀ {l : List Sp} {out : Int}, at_ < out → at_ < nextF at_ out l
  | [], _, h => h
  | s :: l, out, h => by
    refine nextF_gt (l := l) ?_
    split <;> split <;> omega
theorem nextF_end {at_ : Int} : ∀ {l : List Sp} {out : Int} {s : Sp}, s ∈ l → (at_ < s.1 → nextF at_ out l ≤ s.1) ∧ (at_ < s.2 → nextF at_ out l ≤ s.2)
  | r :: l, out, s, hs => by
    rcases List.mem_cons.1 hs with rfl | hs
    · have h := nextF_le at_ l (if at_ < s.2 then min (if at_ < s.1 then min out s.1 else out) s.2 else (if at_ < s.1 then min out s.1 else out))
      constructor
      · intro g
        refine Int.le_trans h ?_
        simp only [g, if_true]
        split <;> omega
      · intro g
        refine Int.le_trans h ?_
        simp only [g, if_true]
        split <;> omega
    · exact nextF_end (l := l) hs
/-- Between two ends nothing changes. -/
theorem nextF_same {at_ out k : Int} {l : List Sp} (h1 : at_ ≤ k) (h2 : k < nextF at_ out l) : mem l k ↔ mem l at_ := by
  constructor
  · rintro ⟨s, hs, g1, g2⟩
    obtain ⟨e1, _⟩ := nextF_end (at_ := at_) (out := out) hs
    refine ⟨s, hs, ?_, by omega⟩
    exact Int.not_lt.1 fun h => by have := e1 h; omega
  · rintro ⟨s, hs, g1, g2⟩
    obtain ⟨_, e2⟩ := nextF_end (at_ := at_) (out := out) hs
    have := e2 g2
    exact ⟨s, hs, by omega, by omega⟩
/-- put. -/
def putL (l : List Sp) (f t : Int) : List Sp := match l.getLast? with
  | some s => if s.2 = f then l.dropLast ++ [(s.1, t)] else l ++ [(f, t)]
  | none => [(f, t)]
/-- What the sweep has made so far. -/
structure Swept (op : Int → Prop) (at_ : Int) (out : List Sp) : Prop where
  canon : Canon (-1) out
  below : Below at_ out
  holds : ∀ k, mem out k ↔ 0 ≤ k ∧ k < at_ ∧ op k
theorem canon_end : ∀ {lo : Int} {l : List Sp} {s : Sp} {t : Int}, Canon lo (l ++ [s]) → s.2 ≤ t → Canon lo (l ++ [(s.1, t)])
  | lo, [], s, t, h, ht => ⟨h.1, by have := h.2.1; show s.1 < t; omega, trivial⟩
  | lo, r :: l, s, t, h, ht => ⟨h.1, h.2.1, canon_end h.2.2 ht⟩
theorem canon_snoc : ∀ {lo : Int} {l : List Sp} {f t : Int}, Canon lo l → lo < f → (∀ s ∈ l, s.2 < f) → f < t → Canon lo (l ++ [(f, t)])
  | lo, [], f, t, _, hf, _, ht => ⟨hf, ht, trivial⟩
  | lo, r :: l, f, t, h, hf, hb, ht => ⟨h.1, h.2.1, canon_snoc h.2.2 (hb r (by simp)) (fun s hs => hb s (by simp [hs])) ht⟩
theorem canon_last : ∀ {lo : Int} {l : List Sp} {s : Sp}, Canon lo (l ++ [s]) → ∀ x ∈ l, x.2 < s.2
  | lo, r :: l, s, h, x, hx => by
    rcases List.mem_cons.1 hx with rfl | hx
    · have hm : mem (l ++ [s]) (s.2 - 1) := (mem_append _ _ _).2 (.inr ⟨s, by simp, by have := canon_tail h.2.2; omega, by omega⟩)
      have := canon_mem h.2.2 hm
      omega
    · exact canon_last h.2.2 x hx
where
  canon_tail : ∀ {lo : Int} {l : List Sp} {s : Sp}, Canon lo (l ++ [s]) → s.1 < s.2
  | _, [], _, h => h.2.1
  | _, _ :: _, _, h => canon_tail h.2.2
theorem swept_zero (op : Int → Prop) : Swept op 0 [] := ⟨trivial, fun s hs => absurd hs (by simp), fun k => by simp only [mem_nil, false_iff]; omega⟩
theorem swept_skip {op : Int → Prop} {at_ to : Int} {out : List Sp} (h : Swept op at_ out) (hlt : at_ < to) (hs : ∀ k, at_ ≤ k → k < to → (op k ↔ op at_)) (hn : ¬ op at_) : Swept op to out :=
  ⟨h.canon, fun s hs => by have := h.below s hs; omega, fun k => by
    rw [h.holds k]
    constructor
    · intro g; exact ⟨g.1, by omega, g.2.2⟩
    · intro g
      refine ⟨g.1, Int.not_le.1 fun hk => ?_, g.2.2⟩
      exact hn ((hs k hk g.2.1).1 g.2.2)⟩
theorem swept_put {op : Int → Prop} {at_ to : Int} {out : List Sp} (h0 : 0 ≤ at_) (h : Swept op at_ out) (hlt : at_ < to) (hs : ∀ k, at_ ≤ k → k < to → (op k ↔ op at_)) (hy : op at_) : Swept op to (putL out at_ to) := by
  have hm : ∀ k, (0 ≤ k ∧ k < to ∧ op k) ↔ mem out k ∨ (at_ ≤ k ∧ k < to) := fun k => by
    rw [h.holds k]
    constructor
    · intro g
      by_cases hk : k < at_
      · exact .inl ⟨g.1, hk, g.2.2⟩
      · exact .inr ⟨by omega, g.2.1⟩
    · rintro (g | g)
      · exact ⟨g.1, by omega, g.2.2⟩
      · exact ⟨by omega, g.2, (hs k g.1 g.2).2 hy⟩
  unfold putL
  split
  · rename_i s hl
    obtain ⟨l, rfl⟩ : ∃ l, out = l ++ [s] := by
      have := List.getLast?_eq_some_iff.1 hl
      exact this
    have hc := h.canon
    have hb := h.below s (by simp)
    split
    · rename_i he
      rw [List.dropLast_concat]
      refine ⟨canon_end hc (by omega), fun x hx => ?_, fun k => ?_⟩
      · rcases List.mem_append.1 hx with hx | hx
        · have := h.below x (by simp [hx]); omega
        · simp at hx; subst hx; exact Int.le_refl _
      · rw [hm k, mem_append, mem_append, mem_one, or_assoc]
        have hsl := canon_last.canon_tail hc
        have e : mem [s] k ↔ s.1 ≤ k ∧ k < s.2 := mem_one s.1 s.2 k
        rw [e]
        constructor
        · rintro (g | g)
          · exact .inl g
          · by_cases hk : k < s.2
            · exact .inr (.inl ⟨g.1, hk⟩)
            · exact .inr (.inr ⟨by omega, g.2⟩)
        · rintro (g | g | g)
          · exact .inl g
          · exact .inr ⟨g.1, by omega⟩
          · exact .inr ⟨by omega, g.2⟩
    · rename_i he
      refine ⟨canon_snoc hc (by omega) (fun x hx => ?_) hlt, fun x hx => ?_, fun k => ?_⟩
      · rcases List.mem_append.1 hx with hx | hx
        · have := canon_last hc x hx; omega
        · simp at hx; subst hx; omega
      · rcases List.mem_append.1 hx with hx | hx
        · have := h.below x hx; omega
        · simp at hx; subst hx; exact Int.le_refl _
      · rw [hm k, mem_append, mem_one]
  · rename_i hl
    obtain rfl : out = [] := List.getLast?_eq_none_iff.1 hl
    refine ⟨⟨by show -1 < at_; omega, hlt, trivial⟩, fun x hx => ?_, fun k => ?_⟩
    · simp at hx; subst hx; exact Int.le_refl _
    · rw [hm k, mem_one]
      constructor
      · exact .inr
      · rintro (g | g)
        · exact absurd g (mem_nil k)
        · exact g

/-! ### sizes -/
def sizeL : List Sp → Int
  | [] => 0
  | s :: l => (s.2 - s.1) + sizeL l
open Classical in
noncomputable def cnt (l : List Sp) (n : Nat) : Nat := (List.range n).countP fun i : Nat => decide (mem l (i : Int))
open Classical in
theorem cnt_or {l a c : List Sp} (h : ∀ k, mem l k ↔ mem a k ∨ mem c k) (hd : ∀ k, mem a k → ¬ mem c k) : ∀ n, cnt l n = cnt a n + cnt c n
  | 0 => rfl
  | n + 1 => by
    have ih := cnt_or h hd n
    unfold cnt at ih ⊢
    rw [List.range_succ, List.countP_append, List.countP_append, List.countP_append, ih]
    simp only [List.countP_singleton, decide_eq_true_eq]
    have := h n
    have := hd n
    by_cases g1 : mem a n <;> by_cases g2 : mem c n <;> simp_all <;> omega
open Classical in
theorem cnt_one {f t : Int} (h0 : 0 ≤ f) (ht : f ≤ t) : ∀ n : Nat, (cnt [(f, t)] n : Int) = min (n : Int) t - min (n : Int) f
  | 0 => by simp [cnt]; omega
  | n + 1 => by
    have ih := cnt_one h0 ht n
    unfold cnt at ih ⊢
    rw [List.range_succ, List.countP_append]
    simp only [List.countP_singleton, decide_eq_true_eq, mem_one] at ih ⊢
    split <;> (push_cast; omega)
theorem cnt_size : ∀ {lo : Int} {l : List Sp} {n : Nat}, -1 ≤ lo → Canon lo l → Below n l → (cnt l n : Int) = sizeL l
  | _, [], n, _, _, _ => by
    have : ∀ i : Nat, ¬ mem [] (i : Int) := fun i => mem_nil _
    simp [cnt, sizeL, this]
  | lo, s :: l, n, h0, h, hb => by
    have e := cnt_or (l := s :: l) (a := [(s.1, s.2)]) (c := l) (fun k => by rw [mem_cons, mem_one]) (fun k g g' => by
      have := canon_mem h.2.2 g'
      have := (mem_one _ _ _).1 g
      omega) n
    have g1 := h.1
    have g2 := h.2.1
    have g3 := hb s (by simp)
    have e1 := cnt_one (f := s.1) (t := s.2) (by omega) (by omega) n
    have e2 := cnt_size (lo := s.2) (l := l) (n := n) (by omega) h.2.2 (fun x hx => hb x (by simp [hx]))
    rw [e, sizeL]
    push_cast
    omega
/-- The size of what two that have nothing in common hold together. -/
theorem size_or {l a c : List Sp} {n : Nat} (hl : Canon (-1) l) (ha : Canon (-1) a) (hc : Canon (-1) c) (bl : Below n l) (ba : Below n a) (bc : Below n c) (h : ∀ k, mem l k ↔ mem a k ∨ mem c k) (hd : ∀ k, mem a k → ¬ mem c k) : sizeL l = sizeL a + sizeL c := by
  have := cnt_or h hd n
  have := cnt_size (n := n) (Int.le_refl _) hl bl
  have := cnt_size (n := n) (Int.le_refl _) ha ba
  have := cnt_size (n := n) (Int.le_refl _) hc bc
  omega
end Go.SpanLaw
namespace Go.Proofs.YtfjeckcbnhohmaaGreatDoor
open Go.RowKit Go.AM Go.SpanLaw

abbrev encS (s : Sp) : List PV := [int s.1, int s.2]
theorem encS_inj {a b : Sp} (h : encS a = encS b) : a = b := by
  simp only [List.cons.injEq, and_true, PV.v.injEq, Value.int.injEq, true_and] at h
  exact Prod.ext h.1 h.2
theorem spans_inj {a b : List Sp} (h : PV.sl 2 (a.map encS) = PV.sl 2 (b.map encS)) : a = b := by
  injection h with _ h
  exact map_inj (fun _ _ => encS_inj) h
def spR (s : Sp) : Bool := !inB s.1 0 99999 || decide ((100000 : Int) < s.2)
def spO (p : Option Int) (s : Sp) : Bool := decide (s.2 ≤ s.1) || (match p with
  | none => false
  | some q => decide (s.1 ≤ q))
def spF : Option Int → List Sp → Int
  | _, [] => 0
  | p, s :: l => if spR s then 1 else if spO p s then 8 else spF (some s.2) l
theorem spF_drop {l : List Sp} {k : Nat} (h : k < l.length) (p : Option Int) : spF p (l.drop k) = if spR l[k] then 1 else if spO p l[k] then 8 else spF (some l[k].2) (l.drop (k + 1)) := by
  rw [List.drop_eq_getElem_cons h, spF]
def prevS (l : List Sp) (k : Nat) : Option Int := if k = 0 then none else (l[k - 1]?).map (·.2)
def spFault (l : List Sp) : Int := if (100 : Int) < l.length then 2 else spF none l
theorem withinL_sound : SpecSound Tryz.prog 83 (hPure false [] (F3 inB)) :=
  pureS (fn := Tryz.f83) good0 ⟨_, Tryz.func83, by kernel_rfl, rfl, by kernel_rfl⟩ false [] _ fun args r h => by
    obtain ⟨a, b, c, rfl, rfl⟩ := F3_inv h
    exact ⟨by simp [Tryz.f83], _, evalPure_of rfl (by simp [Tryz.f83, inB]), up_of _⟩
noncomputable abbrev Cwl : Ctx := mkCtx Tryz.prog [(83, hPure false [] (F3 inB))]
@[simp] theorem quietwl_0 : QuietIn Cwl 83 := quietIn_of (by rfl) (hPure_quiet _ _)
set_option maxRecDepth 8000 in
theorem checkSpans_eval (l : List Sp) : evalPure Cwl Tryz.f47 [.sl 2 (l.map encS)] = some (int (spFault l)) := by
  refine evalPure_of rfl ?_
  rw [spFault]
  by_cases c2 : (100 : Int) < l.length
  · simp [c2, Tryz.f47]
  simp [c2]
  refine EvC_for (fun k σ hp nx => σ 0 = .sl 2 (l.map encS) ∧ σ 8 = .sl 2 (l.map encS) ∧ σ 9 = int l.length ∧ σ 10 = int k ∧ spF none l = spF (prevS l k) (l.drop k)) l.length
    ⟨by simp, by simp, by simp, by simp, by simp [prevS]⟩ ?_
  rintro k σ hp nx hk ⟨h0, h8, h9, h10, hf⟩
  by_cases hlt : k < l.length
  · have hw : IntKind.i64.wrap ((k : Int) + 1) = (k : Int) + 1 := wrap_fit (by omega) (by omega)
    have en : (!inB l[k].1 0 99999 || decide ((100000 : Int) < l[k].2)) = spR l[k] := rfl
    rw [spF_drop hlt] at hf
    cases d1 : spR l[k]
    case true =>
      rw [d1] at en hf
      simp [h0, h8, h9, h10, hlt, en, hf, Tryz.f47]
    rw [d1] at en
    simp only [d1, Bool.false_eq_true, if_false] at hf
    have hpv : prevS l (k + 1) = some l[k].2 := by simp [prevS, hlt]
    by_cases k0 : k = 0
    · subst k0
      simp only [prevS, if_true, spO, Bool.or_false] at hf
      by_cases d2 : l[0].2 ≤ l[0].1
      · simp only [d2, decide_true, if_true] at hf
        simp [h0, h8, h9, h10, hlt, en, d2, hf, Tryz.f47]
      · simp only [d2, decide_false, Bool.false_eq_true, if_false] at hf
        have w1 : IntKind.i64.wrap 1 = 1 := wrap_fit (by omega) (by omega)
        simp [h0, h8, h9, h10, hlt, en, d2, w1]
        and_intros <;> first | omega | (rw [hf]; rw [hpv]; done) | (rw [hf]; rw [hpv]; simp)
    · obtain ⟨j, rfl⟩ : ∃ j, k = j + 1 := ⟨k - 1, by omega⟩
      have hj : j < l.length := by omega
      have wj : IntKind.i64.wrap ((j : Int) + 1 - 1) = (j : Int) := by rw [wrap_fit (by omega) (by omega)]; omega
      have wj' : IntKind.i64.wrap (j : Int) = (j : Int) := wrap_fit (by omega) (by omega)
      have j1 : ((j : Int) + 1).toNat = j + 1 := by omega
      have j2 : 0 < (j : Int) + 1 := by omega
      have j3 : 0 ≤ (j : Int) + 1 := by omega
      have j4 : (j : Int) + 1 < l.length := by omega
      have wk : IntKind.i64.wrap ((j : Int) + 1 + 1) = (j : Int) + 1 + 1 := wrap_fit (by omega) (by omega)
      have hpj : prevS l (j + 1) = some l[j].2 := by simp [prevS, hj]
      have eo : (decide (l[j + 1].2 ≤ l[j + 1].1) || decide (l[j + 1].1 ≤ l[j].2)) = spO (some l[j].2) l[j + 1] := rfl
      rw [hpj] at hf
      cases d2 : spO (some l[j].2) l[j + 1]
      · rw [d2] at eo
        simp only [d2, Bool.false_eq_true, if_false] at hf
        simp [h0, h8, h9, h10, hlt, hj, en, wj, wj', j1, j2, j3, j4, eo, wk]
        and_intros <;> first | omega | (rw [hf]; rw [hpv])
      · rw [d2] at eo
        simp only [d2, if_true] at hf
        simp [h0, h8, h9, h10, hlt, hj, en, wj, wj', j1, j2, j3, j4, eo, hf, Tryz.f47]
  · obtain rfl : k = l.length := by omega
    rw [List.drop_length] at hf
    have hf : spF none l = 0 := by rw [hf]; rfl
    simp [h0, h8, h9, h10, hf, Tryz.f47]
theorem rspR (s : Sp) : (decide (s.1 < 0) || decide ((100000 : Int) ≤ s.1) || decide ((100000 : Int) < s.2)) = spR s := by
  unfold spR inB
  by_cases h1 : s.1 < 0 <;> by_cases h2 : (100000 : Int) ≤ s.1 <;> simp [h1, h2] <;> omega
set_option maxRecDepth 8000 in
theorem rcheckSpans_eval (l : List Sp) : evalPure C0 Tryz.f243 [.sl 2 (l.map encS)] = some (int (spFault l)) := by
  refine evalPure_of rfl ?_
  rw [spFault]
  by_cases c2 : (100 : Int) < l.length
  · simp [c2, Tryz.f243]
  simp [c2]
  refine EvC_for (fun k σ hp nx => σ 0 = .sl 2 (l.map encS) ∧ σ 8 = .sl 2 (l.map encS) ∧ σ 9 = int l.length ∧ σ 10 = int k ∧ spF none l = spF (prevS l k) (l.drop k)) l.length
    ⟨by simp, by simp, by simp, by simp, by simp [prevS]⟩ ?_
  rintro k σ hp nx hk ⟨h0, h8, h9, h10, hf⟩
  by_cases hlt : k < l.length
  · have hw : IntKind.i64.wrap ((k : Int) + 1) = (k : Int) + 1 := wrap_fit (by omega) (by omega)
    have en : (decide (l[k].1 < 0) || decide ((100000 : Int) ≤ l[k].1) || decide ((100000 : Int) < l[k].2)) = spR l[k] := rspR l[k]
    rw [spF_drop hlt] at hf
    cases d1 : spR l[k]
    case true =>
      rw [d1] at en hf
      simp [h0, h8, h9, h10, hlt, en, hf, Tryz.f243]
    rw [d1] at en
    simp only [d1, Bool.false_eq_true, if_false] at hf
    have hpv : prevS l (k + 1) = some l[k].2 := by simp [prevS, hlt]
    by_cases k0 : k = 0
    · subst k0
      simp only [prevS, if_true, spO, Bool.or_false] at hf
      by_cases d2 : l[0].2 ≤ l[0].1
      · simp only [d2, decide_true, if_true] at hf
        simp [h0, h8, h9, h10, hlt, en, d2, hf, Tryz.f243]
      · simp only [d2, decide_false, Bool.false_eq_true, if_false] at hf
        have w1 : IntKind.i64.wrap 1 = 1 := wrap_fit (by omega) (by omega)
        simp [h0, h8, h9, h10, hlt, en, d2, w1]
        and_intros <;> first | omega | (rw [hf]; rw [hpv]; done) | (rw [hf]; rw [hpv]; simp)
    · obtain ⟨j, rfl⟩ : ∃ j, k = j + 1 := ⟨k - 1, by omega⟩
      have hj : j < l.length := by omega
      have wj : IntKind.i64.wrap ((j : Int) + 1 - 1) = (j : Int) := by rw [wrap_fit (by omega) (by omega)]; omega
      have wj' : IntKind.i64.wrap (j : Int) = (j : Int) := wrap_fit (by omega) (by omega)
      have j1 : ((j : Int) + 1).toNat = j + 1 := by omega
      have j2 : 0 < (j : Int) + 1 := by omega
      have j3 : 0 ≤ (j : Int) + 1 := by omega
      have j4 : (j : Int) + 1 < l.length := by omega
      have wk : IntKind.i64.wrap ((j : Int) + 1 + 1) = (j : Int) + 1 + 1 := wrap_fit (by omega) (by omega)
      have hpj : prevS l (j + 1) = some l[j].2 := by simp [prevS, hj]
      have eo : (decide (l[j + 1].2 ≤ l[j + 1].1) || decide (l[j + 1].1 ≤ l[j].2)) = spO (some l[j].2) l[j + 1] := rfl
      rw [hpj] at hf
      cases d2 : spO (some l[j].2) l[j + 1]
      · rw [d2] at eo
        simp only [d2, Bool.false_eq_true, if_false] at hf
        simp [h0, h8, h9, h10, hlt, hj, en, wj, wj', j1, j2, j3, j4, eo, wk]
        and_intros <;> first | omega | (rw [hf]; rw [hpv])
      · rw [d2] at eo
        simp only [d2, if_true] at hf
        simp [h0, h8, h9, h10, hlt, hj, en, wj, wj', j1, j2, j3, j4, eo, hf, Tryz.f243]
  · obtain rfl : k = l.length := by omega
    rw [List.drop_length] at hf
    have hf : spF none l = 0 := by rw [hf]; rfl
    simp [h0, h8, h9, h10, hf, Tryz.f243]

/-- A function of spans. -/
noncomputable def FP (out : List Sp → PV) (pre : List Sp → Prop) : List PV → Option PV := specOf (α := List Sp) (fun l => [.sl 2 (l.map encS)]) pre out
theorem FP_call (out : List Sp → PV) (pre : List Sp → Prop) (l : List Sp) (hp : Hp) (nx : Nat) (h : pre l) : hPure false [] (FP out pre) [.sl 2 (l.map encS)] hp nx = some (out l, hp, nx) :=
  hPure_v rfl (specOf_eq (enc := fun l : List Sp => [PV.sl 2 (l.map encS)]) (a := l) (fun a b e => by simp only [List.cons.injEq, and_true] at e; exact spans_inj e) h) (.inr rfl)
theorem checkSpans_sound : SpecSound Tryz.prog 47 (hPure false [] (FP (fun l => int (spFault l)) fun _ => True)) :=
  pureS (fn := Tryz.f47) (good_of (q := [83]) mixed ⟨withinL_sound, fun _ => hPure_quiet _ _, trivial⟩ : AM.Good Cwl _) ⟨_, Tryz.func47, by kernel_rfl, rfl, by kernel_rfl⟩ false [] _ fun args r h => by
    obtain ⟨l, rfl, _, rfl⟩ := specOf_inv h
    exact ⟨Nat.le_trans (Nat.le_refl 1) (by decide), _, checkSpans_eval l, up_of _⟩
theorem rcheckSpans_sound : SpecSound Tryz.prog 243 (hPure false [] (FP (fun l => int (spFault l)) fun _ => True)) :=
  pureS (fn := Tryz.f243) good0 ⟨_, Tryz.func243, by kernel_rfl, rfl, by kernel_rfl⟩ false [] _ fun args r h => by
    obtain ⟨l, rfl, _, rfl⟩ := specOf_inv h
    exact ⟨Nat.le_trans (Nat.le_refl 1) (by decide), _, rcheckSpans_eval l, up_of _⟩
/-- What spans that are right are. -/
theorem spF_right : ∀ {l : List Sp} {p : Option Int}, spF p l = 0 → Canon (p.getD (-1)) l ∧ Below 100000 l ∧ ∀ s ∈ l, 0 ≤ s.1
  | [], _, _ => ⟨trivial, fun s hs => absurd hs (by simp), fun s hs => absurd hs (by simp)⟩
  | s :: l, p, h => by
    simp only [spF] at h
    split at h
    · cases h
    split at h
    · cases h
    rename_i h1 h2
    obtain ⟨g1, g2, g3⟩ := spF_right h
    simp only [spR, inB, Bool.or_eq_true, Bool.not_eq_true', Bool.and_eq_false_iff, decide_eq_false_iff_not, decide_eq_true_eq, not_or] at h1
    simp only [spO, Bool.or_eq_true, decide_eq_true_eq, not_or] at h2
    refine ⟨⟨?_, by omega, g1⟩, fun x hx => ?_, fun x hx => ?_⟩
    · cases p with
      | none => show -1 < s.1; omega
      | some q => have := h2.2; simp at this; exact this
    · rcases List.mem_cons.1 hx with rfl | hx
      · omega
      · exact g2 x hx
    · rcases List.mem_cons.1 hx with rfl | hx
      · omega
      · exact g3 x hx
theorem spFault_right {l : List Sp} (h : spFault l = 0) : Canon (-1) l ∧ Below 100000 l ∧ (∀ s ∈ l, 0 ≤ s.1) ∧ l.length ≤ 100 := by
  unfold spFault at h
  split at h
  · cases h
  · obtain ⟨g1, g2, g3⟩ := spF_right h
    exact ⟨g1, g2, g3, by omega⟩
end Go.Proofs.YtfjeckcbnhohmaaGreatDoor
namespace Go.Proofs.YtfjeckcbnhohmaaGreatDoor
open Go.RowKit Go.AM Go.SpanLaw

theorem size_drop {l : List Sp} {k : Nat} (h : k < l.length) : sizeL (l.drop k) = (l[k].2 - l[k].1) + sizeL (l.drop (k + 1)) := by
  rw [List.drop_eq_getElem_cons h, sizeL]
theorem canon_pos : ∀ {lo : Int} {l : List Sp}, Canon lo l → ∀ s ∈ l, s.1 < s.2
  | _, r :: l, h, s, hs => by
    rcases List.mem_cons.1 hs with rfl | hs
    · exact h.2.1
    · exact canon_pos h.2.2 s hs
theorem size_bound : ∀ {lo hi : Int} {l : List Sp}, Canon lo l → lo ≤ hi → Below hi l → 0 ≤ sizeL l ∧ sizeL l ≤ hi - lo
  | lo, hi, [], _, h, _ => by simp [sizeL]; omega
  | lo, hi, s :: l, hc, h, hb => by
    have g := size_bound hc.2.2 (hb s (by simp)) (fun x hx => hb x (by simp [hx]))
    have := hc.1; have := hc.2.1
    simp only [sizeL]
    omega
set_option maxRecDepth 8000 in
theorem size_eval (l : List Sp) (h : spFault l = 0) : evalPure C0 Tryz.f48 [.sl 2 (l.map encS)] = some (int (sizeL l)) := by
  obtain ⟨hc, hb, hp0, hl⟩ := spFault_right h
  refine evalPure_of rfl ?_
  simp
  refine EvC_for (fun k σ hp nx => σ 6 = .sl 2 (l.map encS) ∧ σ 7 = int l.length ∧ σ 8 = int k ∧ ∃ acc : Int, σ 3 = int acc ∧ acc + sizeL (l.drop k) = sizeL l ∧ 0 ≤ acc ∧ acc ≤ 100000 * k) l.length
    ⟨by simp, by simp, by simp, 0, by simp, by simp, by simp, by simp⟩ ?_
  rintro k σ hp nx hk ⟨h6, h7, h8, acc, h3, ha, ha0, ha1⟩
  by_cases hlt : k < l.length
  · have hw : IntKind.i64.wrap ((k : Int) + 1) = (k : Int) + 1 := wrap_fit (by omega) (by omega)
    have hm := List.getElem_mem hlt
    have b1 := hb _ hm
    have b2 := hp0 _ hm
    have b3 := canon_pos hc _ hm
    have w1 : IntKind.i64.wrap (l[k].2 - l[k].1) = l[k].2 - l[k].1 := wrap_fit (by omega) (by omega)
    have w2 : IntKind.i64.wrap (acc + (l[k].2 - l[k].1)) = acc + (l[k].2 - l[k].1) := wrap_fit (by omega) (by omega)
    rw [size_drop hlt] at ha
    simp [h3, h6, h7, h8, hlt, hw, w1, w2]
    omega
  · obtain rfl : k = l.length := by omega
    rw [List.drop_length, sizeL] at ha
    have ha : acc = sizeL l := by omega
    simp [h3, h6, h7, h8, ha, Tryz.f48]
theorem size_sound : SpecSound Tryz.prog 48 (hPure false [] (FP (fun l => int (sizeL l)) fun l => spFault l = 0)) :=
  pureS (fn := Tryz.f48) good0 ⟨_, Tryz.func48, by kernel_rfl, rfl, by kernel_rfl⟩ false [] _ fun args r h => by
    obtain ⟨l, rfl, hl, rfl⟩ := specOf_inv h
    exact ⟨Nat.le_trans (Nat.le_refl 1) (by decide), _, size_eval l hl, up_of _⟩
/-- Size. -/
def sizeR (l : List Sp) : Int × Int := if spFault l = 0 then (sizeL l, 0) else (0, spFault l)
def twoI (r : Int × Int) : PV := .tup [int r.1, int r.2]
noncomputable abbrev Csz : Ctx := mkCtx Tryz.prog [(47, hPure false [] (FP (fun l => int (spFault l)) fun _ => True)), (48, hPure false [] (FP (fun l => int (sizeL l)) fun l => spFault l = 0))]
set_option maxRecDepth 8000 in
theorem Size_eval (l : List Sp) : evalPure Csz Tryz.f20 [.sl 2 (l.map encS)] = some (twoI (sizeR l)) := by
  have c1 := fun hp nx => FP_call (fun l => int (spFault l)) (fun _ => True) l hp nx trivial
  refine evalPure_of rfl ?_
  unfold sizeR
  by_cases hf : spFault l = 0
  · have c2 := fun hp nx => FP_call (fun l => int (sizeL l)) (fun l => spFault l = 0) l hp nx hf
    simp [c1, c2, hf, twoI, pureR, Tryz.f20]
  · have hf' : (spFault l != 0) = true := by simpa using hf
    simp [c1, hf, hf', twoI, pureR, Tryz.f20]
theorem Size_sound : SpecSound Tryz.prog 20 (hPure false [] (FP (fun l => twoI (sizeR l)) fun _ => True)) :=
  pureS (fn := Tryz.f20) (good_of (q := []) mixed ⟨checkSpans_sound, by simp, size_sound, by simp, trivial⟩ : AM.Good Csz _) ⟨_, Tryz.func20, by kernel_rfl, rfl, by kernel_rfl⟩ false [] _ fun args r h => by
    obtain ⟨l, rfl, _, rfl⟩ := specOf_inv h
    exact ⟨Nat.le_trans (Nat.le_refl 1) (by decide), _, Size_eval l, up_of _⟩
end Go.Proofs.YtfjeckcbnhohmaaGreatDoor
namespace Go.Proofs.YtfjeckcbnhohmaaGreatDoor
open Go.RowKit Go.AM Go.SpanLaw

/-- The first n. -/
def firstL : List Sp → Int → List Sp
  | [], _ => []
  | s :: l, n => if n = 0 then [] else (s.1, s.1 + min n (s.2 - s.1)) :: firstL l (n - min n (s.2 - s.1))
theorem firstL_drop {l : List Sp} {k : Nat} (h : k < l.length) (n : Int) : firstL (l.drop k) n = if n = 0 then [] else (l[k].1, l[k].1 + min n (l[k].2 - l[k].1)) :: firstL (l.drop (k + 1)) (n - min n (l[k].2 - l[k].1)) := by
  rw [List.drop_eq_getElem_cons h, firstL]
theorem firstL_zero (l : List Sp) : firstL l 0 = [] := by cases l <;> simp [firstL]
end Go.Proofs.YtfjeckcbnhohmaaGreatDoor
namespace Go.Proofs.YtfjeckcbnhohmaaGreatDoor
open Go.RowKit Go.AM Go.SpanLaw

/-- Spans and a number. -/
noncomputable def FPN (out : List Sp → Int → PV) (pre : List Sp → Int → Prop) : List PV → Option PV := specOf (α := List Sp × Int) (fun a => [.sl 2 (a.1.map encS), int a.2]) (fun a => pre a.1 a.2) (fun a => out a.1 a.2)
theorem FPN_call (out : List Sp → Int → PV) (pre : List Sp → Int → Prop) (l : List Sp) (n : Int) (hp : Hp) (nx : Nat) (h : pre l n) : hPure false [] (FPN out pre) [.sl 2 (l.map encS), int n] hp nx = some (out l n, hp, nx) :=
  hPure_v rfl (specOf_eq (enc := fun a : List Sp × Int => [PV.sl 2 (a.1.map encS), int a.2]) (a := (l, n)) (fun a b e => by
    obtain ⟨a1, a2⟩ := a; obtain ⟨b1, b2⟩ := b
    simp only [List.cons.injEq, and_true] at e
    obtain ⟨e1, e2⟩ := e
    injection e2 with e2
    injection e2 with _ e2
    rw [spans_inj e1, e2]) h) (.inr rfl)
/-- First. -/
def firstR (l : List Sp) (n : Int) : List Sp × Int := if spFault l = 0 then (if 0 ≤ n ∧ n ≤ sizeL l then (firstL l n, 0) else ([], 1)) else ([], spFault l)
def spTup (r : List Sp × Int) : PV := .tup [.sl 2 (r.1.map encS), int r.2]
theorem stands_nilS (k : Int) : Stands (.tup [.nil, int k]) (spTup ([], k)) :=
  StandsL.tup (.cons (.nilOr (.inl ⟨rfl, rfl⟩)) (.cons (.refl _) .nil))
theorem size_le {l : List Sp} (h : spFault l = 0) : sizeL l ≤ 100000 := by
  obtain ⟨hc, hb, hp0, _⟩ := spFault_right h
  cases l with
  | nil => simp [sizeL]
  | cons s l =>
    have g := size_bound hc.2.2 (hb s (by simp)) (fun x hx => hb x (by simp [hx]))
    have := hp0 s (by simp)
    simp only [sizeL]
    omega
end Go.Proofs.YtfjeckcbnhohmaaGreatDoor
namespace Go.Proofs.YtfjeckcbnhohmaaGreatDoor
open Go.RowKit Go.AM Go.SpanLaw

/-- has. -/
def hasB (l : List Sp) (k : Int) : Bool := match l with
  | [] => false
  | s :: l => (decide (s.1 ≤ k) && decide (k < s.2)) || hasB l k
theorem hasB_mem : ∀ (l : List Sp) (k : Int), hasB l k = true ↔ mem l k
  | [], k => by simp [hasB, mem]
  | s :: l, k => by rw [hasB, Bool.or_eq_true, mem_cons, hasB_mem l k]; simp
theorem hasB_drop {l : List Sp} {k : Nat} (h : k < l.length) (x : Int) : hasB (l.drop k) x = ((decide (l[k].1 ≤ x) && decide (x < l[k].2)) || hasB (l.drop (k + 1)) x) := by
  rw [List.drop_eq_getElem_cons h, hasB]
theorem nextF_drop {l : List Sp} {k : Nat} (h : k < l.length) (a o : Int) : nextF a o (l.drop k) = nextF a (if a < l[k].2 then min (if a < l[k].1 then min o l[k].1 else o) l[k].2 else (if a < l[k].1 then min o l[k].1 else o)) (l.drop (k + 1)) := by
  rw [List.drop_eq_getElem_cons h, nextF]
set_option maxRecDepth 8000 in
theorem has_eval (l : List Sp) (x : Int) (h : l.length ≤ 100) : evalPure C0 Tryz.f126 [.sl 2 (l.map encS), int x] = some (boo (hasB l x)) := by
  refine evalPure_of rfl ?_
  simp
  refine EvC_for (fun k σ hp nx => σ 1 = int x ∧ σ 7 = .sl 2 (l.map encS) ∧ σ 8 = int l.length ∧ σ 9 = int k ∧ hasB l x = hasB (l.drop k) x) l.length
    ⟨by simp, by simp, by simp, by simp, by simp⟩ ?_
  rintro k σ hp nx hk ⟨h1, h7, h8, h9, hf⟩
  by_cases hlt : k < l.length
  · have hw : IntKind.i64.wrap ((k : Int) + 1) = (k : Int) + 1 := wrap_fit (by omega) (by omega)
    rw [hasB_drop hlt] at hf
    cases d1 : (decide (l[k].1 ≤ x) && decide (x < l[k].2))
    · rw [d1, Bool.false_or] at hf
      simp [h1, h7, h8, h9, hlt, d1, hw]
      exact ⟨hlt, hf⟩
    · rw [d1, Bool.true_or] at hf
      simp [h1, h7, h8, h9, hlt, d1, hf, Tryz.f126]
  · obtain rfl : k = l.length := by omega
    rw [List.drop_length, hasB] at hf
    simp [h1, h7, h8, h9, hf, Tryz.f126]
set_option maxRecDepth 8000 in
theorem next_eval (l : List Sp) (x : Int) (h : l.length ≤ 100) : evalPure C0 Tryz.f125 [.sl 2 (l.map encS), int x] = some (int (nextF x 100000 l)) := by
  refine evalPure_of rfl ?_
  simp
  refine EvC_for (fun k σ hp nx => σ 1 = int x ∧ σ 8 = .sl 2 (l.map encS) ∧ σ 9 = int l.length ∧ σ 10 = int k ∧ ∃ o : Int, σ 5 = int o ∧ nextF x 100000 l = nextF x o (l.drop k)) l.length
    ⟨by simp, by simp, by simp, by simp, 100000, by simp, by simp⟩ ?_
  rintro k σ hp nx hk ⟨h1, h8, h9, h10, o, h5, hf⟩
  by_cases hlt : k < l.length
  · have hw : IntKind.i64.wrap ((k : Int) + 1) = (k : Int) + 1 := wrap_fit (by omega) (by omega)
    rw [nextF_drop hlt] at hf
    have m1 : ∀ a b : Int, (if b < a then b else a) = min a b := fun a b => by split <;> omega
    by_cases d1 : x < l[k].1 <;> by_cases d2 : x < l[k].2 <;> simp only [d1, d2, if_true, if_false] at hf <;> simp [h1, h5, h8, h9, h10, hlt, d1, d2, m1, hw] <;> first | exact ⟨hlt, hf⟩ | exact ⟨hlt, by rw [hf]; congr 1; omega⟩
  · obtain rfl : k = l.length := by omega
    rw [List.drop_length, nextF] at hf
    simp [h1, h5, h8, h9, h10, hf, Tryz.f125]
theorem has_sound : SpecSound Tryz.prog 126 (hPure false [] (FPN (fun l x => boo (hasB l x)) fun l _ => l.length ≤ 100)) :=
  pureS (fn := Tryz.f126) good0 ⟨_, Tryz.func126, by kernel_rfl, rfl, by kernel_rfl⟩ false [] _ fun args r h => by
    obtain ⟨⟨l, x⟩, rfl, hl, rfl⟩ := specOf_inv h
    exact ⟨Nat.le_trans (Nat.le_refl 2) (by decide), _, has_eval l x hl, up_of _⟩
theorem next_sound : SpecSound Tryz.prog 125 (hPure false [] (FPN (fun l x => int (nextF x 100000 l)) fun l _ => l.length ≤ 100)) :=
  pureS (fn := Tryz.f125) good0 ⟨_, Tryz.func125, by kernel_rfl, rfl, by kernel_rfl⟩ false [] _ fun args r h => by
    obtain ⟨⟨l, x⟩, rfl, hl, rfl⟩ := specOf_inv h
    exact ⟨Nat.le_trans (Nat.le_refl 2) (by decide), _, next_eval l x hl, up_of _⟩
end Go.Proofs.YtfjeckcbnhohmaaGreatDoor
namespace Go.Proofs.YtfjeckcbnhohmaaGreatDoor
open Go.RowKit Go.AM Go.SpanLaw

/-- Two lists. -/
noncomputable def FPP (out : List Sp → List Sp → PV) (pre : List Sp → List Sp → Prop) : List PV → Option PV := specOf (α := List Sp × List Sp) (fun a => [.sl 2 (a.1.map encS), .sl 2 (a.2.map encS)]) (fun a => pre a.1 a.2) (fun a => out a.1 a.2)
theorem FPP_call (out : List Sp → List Sp → PV) (pre : List Sp → List Sp → Prop) (a b : List Sp) (hp : Hp) (nx : Nat) (h : pre a b) : hPure false [] (FPP out pre) [.sl 2 (a.map encS), .sl 2 (b.map encS)] hp nx = some (out a b, hp, nx) :=
  hPure_v rfl (specOf_eq (enc := fun a : List Sp × List Sp => [PV.sl 2 (a.1.map encS), .sl 2 (a.2.map encS)]) (a := (a, b)) (fun a b e => by
    obtain ⟨a1, a2⟩ := a; obtain ⟨b1, b2⟩ := b
    simp only [List.cons.injEq, and_true] at e
    rw [spans_inj e.1, spans_inj e.2]) h) (.inr rfl)
def bothF (a b : List Sp) : Int := if spFault a = 0 then spFault b else spFault a
noncomputable abbrev Ccb : Ctx := mkCtx Tryz.prog [(47, hPure false [] (FP (fun l => int (spFault l)) fun _ => True))]
noncomputable abbrev Crb : Ctx := mkCtx Tryz.prog [(243, hPure false [] (FP (fun l => int (spFault l)) fun _ => True))]
set_option maxRecDepth 8000 in
theorem checkBoth_eval (a b : List Sp) : evalPure Ccb Tryz.f27 [.sl 2 (a.map encS), .sl 2 (b.map encS)] = some (int (bothF a b)) := by
  have c1 := fun l hp nx => FP_call (fun l => int (spFault l)) (fun _ => True) l hp nx trivial
  refine evalPure_of rfl ?_
  unfold bothF
  by_cases hf : spFault a = 0
  · simp [c1, hf, Tryz.f27]
  · have hf' : (spFault a != 0) = true := by simpa using hf
    simp [c1, hf, hf', Tryz.f27]
theorem checkBoth_sound : SpecSound Tryz.prog 27 (hPure false [] (FPP (fun a b => int (bothF a b)) fun _ _ => True)) :=
  pureS (fn := Tryz.f27) (good_of (q := []) mixed ⟨checkSpans_sound, by simp, trivial⟩ : AM.Good Ccb _) ⟨_, Tryz.func27, by kernel_rfl, rfl, by kernel_rfl⟩ false [] _ fun args r h => by
    obtain ⟨⟨a, b⟩, rfl, _, rfl⟩ := specOf_inv h
    exact ⟨Nat.le_trans (Nat.le_refl 2) (by decide), _, checkBoth_eval a b, up_of _⟩
/-- limited, few. -/
def limR (l : List Sp) : List Sp × Int := if (100 : Int) < l.length then ([], 2) else (l, 0)
set_option maxRecDepth 8000 in
theorem limited_eval (l : List Sp) : ∃ r0, evalPure C0 Tryz.f25 [.sl 2 (l.map encS)] = some r0 ∧ Stands r0 (spTup (limR l)) := by
  refine evalPureU_of rfl ?_
  unfold limR
  by_cases hf : (100 : Int) < l.length
  · rw [if_pos hf]
    simp [hf, Tryz.f25]
    exact ⟨_, by simp, stands_nilS 2⟩
  · rw [if_neg hf]
    simp [hf, Tryz.f25]
    exact ⟨spTup (l, 0), by simp [spTup], .refl _⟩
set_option maxRecDepth 8000 in
theorem few_eval (l : List Sp) : ∃ r0, evalPure C0 Tryz.f44 [.sl 2 (l.map encS)] = some r0 ∧ Stands r0 (spTup (limR l)) := by
  refine evalPureU_of rfl ?_
  unfold limR
  by_cases hf : (100 : Int) < l.length
  · rw [if_pos hf]
    simp [hf, Tryz.f44]
    exact ⟨_, by simp, stands_nilS 2⟩
  · rw [if_neg hf]
    simp [hf, Tryz.f44]
    exact ⟨spTup (l, 0), by simp [spTup], .refl _⟩
theorem limited_sound : SpecSound Tryz.prog 25 (hPure false [] (FP (fun l => spTup (limR l)) fun _ => True)) :=
  pureG (fn := Tryz.f25) good0 ⟨_, Tryz.func25, by kernel_rfl, rfl, by kernel_rfl⟩ false [] _ fun args r h w S vs hz => by
    obtain ⟨l, rfl, _, rfl⟩ := specOf_inv h
    obtain ⟨r0, h1, h2⟩ := limited_eval l
    exact ⟨_, r0, hz, Nat.le_trans (Nat.le_refl 1) (by decide), h1, h2⟩
theorem few_sound : SpecSound Tryz.prog 44 (hPure false [] (FP (fun l => spTup (limR l)) fun _ => True)) :=
  pureG (fn := Tryz.f44) good0 ⟨_, Tryz.func44, by kernel_rfl, rfl, by kernel_rfl⟩ false [] _ fun args r h w S vs hz => by
    obtain ⟨l, rfl, _, rfl⟩ := specOf_inv h
    obtain ⟨r0, h1, h2⟩ := few_eval l
    exact ⟨_, r0, hz, Nat.le_trans (Nat.le_refl 1) (by decide), h1, h2⟩
end Go.Proofs.YtfjeckcbnhohmaaGreatDoor
namespace Go.Proofs.YtfjeckcbnhohmaaGreatDoor
open Go.RowKit Go.AM Go.SpanLaw
theorem mins_drop {a : List Sp} {j : Nat} (h : j < a.length) (b : List Sp) : mins (a.drop j) b = piece a[j].1 a[j].2 (skip a[j].1 b) ++ mins (a.drop (j + 1)) (skip a[j].1 b) := by
  rw [List.drop_eq_getElem_cons h, mins]
theorem skip_drop {b : List Sp} {k : Nat} (h : k < b.length) (x : Int) : skip x (b.drop k) = if b[k].2 ≤ x then skip x (b.drop (k + 1)) else b.drop k := by
  rw [List.drop_eq_getElem_cons h, skip]
theorem piece_drop {b : List Sp} {k : Nat} (h : k < b.length) (f t : Int) : piece f t (b.drop k) = if b[k].1 < t then (if f < b[k].1 then (f, b[k].1) :: piece (max f b[k].2) t (b.drop (k + 1)) else piece (max f b[k].2) t (b.drop (k + 1))) else if f < t then [(f, t)] else [] := by
  rw [List.drop_eq_getElem_cons h, piece]
theorem ownS_ne {hp : Hp} {nx e s id : Nat} {v : PV} {xs : List (List PV)} (h : OwnS hp nx e s v xs) (hi : nx ≤ id) (m : Nat) : v ≠ .own id 0 m := by
  rcases h with ⟨rfl, rfl⟩ | ⟨i, h1, rfl, h2⟩
  · simp
  · intro h; injection h with h; omega
/-- Spans in order and apart, not too many. -/
def okS (b : List Sp) : Prop := Canon (-1) b ∧ Below 100000 b ∧ (∀ s ∈ b, 0 ≤ s.1) ∧ b.length ≤ 100000
theorem okS_of {b : List Sp} (h : spFault b = 0) : okS b := by
  obtain ⟨h1, h2, h3, h4⟩ := spFault_right h
  exact ⟨h1, h2, h3, by omega⟩
set_option maxRecDepth 8000 in
theorem minus_eval2 (a b : List Sp) (ha : spFault a = 0) (hb : okS b) : ∃ r0, evalPure C0 Tryz.f28 [.sl 2 (a.map encS), .sl 2 (b.map encS)] = some r0 ∧ Stands r0 (.sl 2 ((mins a b).map encS)) := by
  obtain ⟨hc, hbl, hp0, hl⟩ := spFault_right ha
  obtain ⟨hc', hbl', hp0', hl'⟩ := hb
  have hfin : ∀ {code}, Tryz.f28.body = some code → EvC C0 code ⟨startσ [.sl 2 (a.map encS), .sl 2 (b.map encS)], fun _ => none, 0⟩ (retK C0.P Tryz.f28 (pureN (.sl 2 ((mins a b).map encS)))) → ∃ r0, evalPure C0 Tryz.f28 [.sl 2 (a.map encS), .sl 2 (b.map encS)] = some r0 ∧ Stands r0 (.sl 2 ((mins a b).map encS)) := by
    intro code hb h
    obtain ⟨r0, h1, h2⟩ := evalPureN_of hb h
    exact ⟨r0, h1, fun w S u hr => up_rep hr h2⟩
  refine hfin rfl ?_
  simp
  refine EvC_for (fun j σ hp nx => σ 1 = .sl 2 (b.map encS) ∧ σ 11 = .sl 2 (a.map encS) ∧ σ 12 = int a.length ∧ σ 13 = int j ∧ ∃ (k : Nat) (d : List Sp), σ 6 = int k ∧ k ≤ b.length ∧ OwnS hp nx 36 2 (σ 5) (d.map encS) ∧ d ++ mins (a.drop j) (b.drop k) = mins a b ∧ d.length ≤ 100001 * j) a.length
    ⟨by simp, by simp, by simp, by simp, 0, [], by simp, by simp, .inl (by simp), by simp, by simp⟩ ?_
  rintro j σ hp nx hj ⟨h1, h11, h12, h13, k0, d, h6, hk0, hO, hd, hdl⟩
  by_cases hlt : j < a.length
  · have hw : IntKind.i64.wrap ((j : Int) + 1) = (j : Int) + 1 := wrap_fit (by omega) (by omega)
    have hmm := List.getElem_mem hlt
    have b1 := hbl _ hmm
    have b2 := hp0 _ hmm
    have b3 := canon_pos hc _ hmm
    rw [mins_drop hlt] at hd
    have hO1 := hO.more (some ⟨36, 2, false, [encS a[j]]⟩)
    simp [h1, h11, h12, h13, hlt]
    refine EvC_loop (fun st => st.σ 1 = .sl 2 (b.map encS) ∧ st.σ 11 = .sl 2 (a.map encS) ∧ st.σ 12 = int a.length ∧ st.σ 13 = int j ∧ st.σ 8 = .ref nx 0 0 ∧ st.σ 5 = σ 5 ∧ st.hp = upd hp nx (some ⟨36, 2, false, [encS a[j]]⟩) ∧ st.nx = nx + 1 ∧ ∃ k : Nat, st.σ 6 = int k ∧ k ≤ b.length ∧ skip a[j].1 (b.drop k) = skip a[j].1 (b.drop k0))
      (fun st => b.length - (numAt (st.σ 6)).toNat) ⟨by simp [h1], by simp [h11], by simp [h12], by simp [h13], by simp, by simp, by simp, by simp, k0, by simp [h6], hk0, rfl⟩ ?_
    rintro ⟨σ1, hp1, nx1⟩ ⟨g1, g11, g12, g13, g8, g5, ghp, gnx, k, g6, hk, hs⟩
    simp only at g1 g11 g12 g13 g8 g5 ghp gnx g6
    subst ghp; subst gnx
    by_cases hgo : ∃ hkl : k < b.length, b[k].2 ≤ a[j].1
    · obtain ⟨hkl, hto⟩ := hgo
      have hwk : IntKind.i64.wrap ((k : Int) + 1) = (k : Int) + 1 := wrap_fit (by omega) (by omega)
      rw [skip_drop hkl, if_pos hto] at hs
      simp [g1, g5, g6, g8, g11, g12, g13, hkl, hto, hwk]
      exact ⟨⟨k + 1, by simp, hkl, hs⟩, by omega⟩
    have hsk : b.drop k = skip a[j].1 (b.drop k0) := by
      rw [← hs]
      by_cases hkl : k < b.length
      · rw [skip_drop hkl, if_neg fun h => hgo ⟨hkl, h⟩]
      · rw [List.drop_eq_nil_of_le (by omega)]; rfl
    rw [← hsk] at hd
    by_cases hkl : k < b.length
    · have hto : ¬ b[k].2 ≤ a[j].1 := fun h => hgo ⟨hkl, h⟩
      simp [g1, g5, g6, g8, g11, g12, g13, hkl, hto]
      refine EvC_loop (fun st => st.σ 1 = .sl 2 (b.map encS) ∧ st.σ 11 = .sl 2 (a.map encS) ∧ st.σ 12 = int a.length ∧ st.σ 13 = int j ∧ st.σ 8 = .ref nx 0 0 ∧ st.σ 6 = int k ∧ st.hp nx = some ⟨36, 2, false, [encS a[j]]⟩ ∧ nx < st.nx ∧ ∃ (i : Nat) (f : Int) (d' : List Sp), st.σ 10 = int i ∧ st.σ 9 = int f ∧ k ≤ i ∧ i ≤ b.length ∧ OwnS st.hp st.nx 36 2 (st.σ 5) (d'.map encS) ∧ (∀ m, st.σ 5 ≠ .own nx 0 m) ∧ d' ++ piece f a[j].2 (b.drop i) = d ++ piece a[j].1 a[j].2 (b.drop k) ∧ d'.length ≤ d.length + (i - k) ∧ 0 ≤ f ∧ f ≤ 100000)
        (fun st => b.length - (numAt (st.σ 10)).toNat) ⟨by simp [g1], by simp [g11], by simp [g12], by simp [g13], by simp [g8], by simp [g6], by simp, by simp, k, a[j].1, d, by simp [g6], by simp, by omega, by omega, by simpa [g5] using hO1, by simp only [upd_miss _ _ _ _ (by decide : (5 : Nat) ≠ 10), ne_eq]; simp [g5]; exact fun m => ownS_ne hO (Nat.le_refl _) m, rfl, by omega, b2, by omega⟩ ?_
      rintro ⟨σ2, hp2, nx2⟩ ⟨q1, q11, q12, q13, q8, q6, qhp, qnx, i, f, d', q10, q9, hki, hil, hO2, hne, hp', hdl', hf0, hf1⟩
      simp only at q1 q11 q12 q13 q8 q6 qhp qnx q10 q9 hO2 hne
      by_cases hgo2 : ∃ hib : i < b.length, b[i].1 < a[j].2
      · obtain ⟨hib, hbt⟩ := hgo2
        have hwi : IntKind.i64.wrap ((i : Int) + 1) = (i : Int) + 1 := wrap_fit (by omega) (by omega)
        rw [piece_drop hib, if_pos hbt] at hp'
        have hbi := hbl' _ (List.getElem_mem hib)
        have hbp := hp0' _ (List.getElem_mem hib)
        obtain ⟨mx, hmx, hmx0, hmx1⟩ : ∃ mx, (if f < b[i].2 then b[i].2 else f) = mx ∧ 0 ≤ mx ∧ mx ≤ 100000 := ⟨_, rfl, by split <;> omega, by split <;> omega⟩
        have hmx2 : max f b[i].2 = mx := by rw [← hmx]; split <;> omega
        rw [hmx2] at hp'
        by_cases hfb : f < b[i].1
        · rw [if_pos hfb] at hp'
          have hap := hO2.append1 (P := Tryz.prog) (t := 32) (c := encS (f, b[i].1)) el32 sz36 by36 ze36 rfl (by omega) (by rw [List.length_map]; unfold maxLen; omega) (by rw [List.length_map]; omega)
          have hbs : ∀ hp nx, buildSliceA Tryz.prog hp nx 32 1 [(0, .agg (encS (f, b[i].1)))] = some (.own nx 0 1, upd hp nx (some ⟨36, 2, true, [encS (f, b[i].1)]⟩), nx + 1) := fun hp nx => by
            simp [buildSliceA, setElems, freezeParts]
          simp only [encS] at hap hbs
          simp [q1, q6, q8, q9, q10, q11, q12, q13, qhp, hib, hbt, hfb, hwi, hmx, buildA, fillA, hbs, hap]
          refine ⟨⟨?_, by omega, i + 1, by simp, by omega, hib, d' ++ [(f, b[i].1)], ?_, by omega, by rw [List.append_assoc]; exact hp', by simp; omega, hmx0, hmx1⟩, by omega⟩
          · rw [upd_miss _ _ _ _ (by omega), killV_other hO2 _ _ hne, upd_miss _ _ _ _ (by omega)]
            exact qhp
          · rw [List.map_append, List.map_singleton]
            exact .inr ⟨nx2 + 1, by omega, by simp, by simp⟩
        · rw [if_neg hfb] at hp'
          simp [q1, q6, q8, q9, q10, q11, q12, q13, qhp, hib, hbt, hfb, hwi, hmx]
          exact ⟨⟨qnx, i + 1, by simp, by omega, hib, d', hO2, hne, hp', by omega, hmx0, hmx1⟩, by omega⟩
      · have hpe : piece f a[j].2 (b.drop i) = if f < a[j].2 then [(f, a[j].2)] else [] := by
          by_cases hib : i < b.length
          · rw [piece_drop hib, if_neg fun h => hgo2 ⟨hib, h⟩]
          · rw [List.drop_eq_nil_of_le (by omega), piece]
        rw [hpe] at hp'
        have hcond : (∃ hib : i < b.length, ¬ b[i].1 < a[j].2) ∨ ¬ i < b.length := by
          by_cases hib : i < b.length
          · exact .inl ⟨hib, fun h => hgo2 ⟨hib, h⟩⟩
          · exact .inr hib
        by_cases hft : f < a[j].2
        · rw [if_pos hft] at hp'
          have hap := hO2.append1 (P := Tryz.prog) (t := 32) (c := encS (f, a[j].2)) el32 sz36 by36 ze36 rfl (by omega) (by rw [List.length_map]; unfold maxLen; omega) (by rw [List.length_map]; omega)
          have hbs : ∀ hp nx, buildSliceA Tryz.prog hp nx 32 1 [(0, .agg (encS (f, a[j].2)))] = some (.own nx 0 1, upd hp nx (some ⟨36, 2, true, [encS (f, a[j].2)]⟩), nx + 1) := fun hp nx => by
            simp [buildSliceA, setElems, freezeParts]
          simp only [encS] at hap hbs
          rcases hcond with ⟨hib, hbt⟩ | hib
          all_goals simp [q1, q6, q8, q9, q10, q11, q12, q13, qhp, hib, hft, hw, buildA, fillA, hbs, hap]
          all_goals try simp [hbt, q1, q6, q8, q9, q10, q11, q12, q13, qhp, hib, hft, hw, buildA, fillA, hbs, hap]
          all_goals refine ⟨hlt, k, rfl, hk, d' ++ [(f, a[j].2)], ?_, by rw [hp', List.append_assoc]; exact hd, by simp; omega⟩
          all_goals rw [List.map_append, List.map_singleton]
          all_goals exact .inr ⟨nx2 + 1, by omega, by simp, by simp⟩
        · rw [if_neg hft, List.append_nil] at hp'
          rcases hcond with ⟨hib, hbt⟩ | hib
          all_goals simp [q1, q6, q8, q9, q10, q11, q12, q13, qhp, hib, hft, hw]
          all_goals try simp [hbt, q1, q6, q8, q9, q10, q11, q12, q13, qhp, hib, hft, hw]
          all_goals exact ⟨hlt, k, rfl, hk, d', hO2, by rw [hp', List.append_assoc]; exact hd, by omega⟩
    · simp [g1, g5, g6, g8, g11, g12, g13, hkl]
      refine EvC_loop (fun st => st.σ 1 = .sl 2 (b.map encS) ∧ st.σ 11 = .sl 2 (a.map encS) ∧ st.σ 12 = int a.length ∧ st.σ 13 = int j ∧ st.σ 8 = .ref nx 0 0 ∧ st.σ 6 = int k ∧ st.hp nx = some ⟨36, 2, false, [encS a[j]]⟩ ∧ nx < st.nx ∧ ∃ (i : Nat) (f : Int) (d' : List Sp), st.σ 10 = int i ∧ st.σ 9 = int f ∧ k ≤ i ∧ i ≤ b.length ∧ OwnS st.hp st.nx 36 2 (st.σ 5) (d'.map encS) ∧ (∀ m, st.σ 5 ≠ .own nx 0 m) ∧ d' ++ piece f a[j].2 (b.drop i) = d ++ piece a[j].1 a[j].2 (b.drop k) ∧ d'.length ≤ d.length + (i - k) ∧ 0 ≤ f ∧ f ≤ 100000)
        (fun st => b.length - (numAt (st.σ 10)).toNat) ⟨by simp [g1], by simp [g11], by simp [g12], by simp [g13], by simp [g8], by simp [g6], by simp, by simp, k, a[j].1, d, by simp [g6], by simp, by omega, by omega, by simpa [g5] using hO1, by simp only [upd_miss _ _ _ _ (by decide : (5 : Nat) ≠ 10), ne_eq]; simp [g5]; exact fun m => ownS_ne hO (Nat.le_refl _) m, rfl, by omega, b2, by omega⟩ ?_
      rintro ⟨σ2, hp2, nx2⟩ ⟨q1, q11, q12, q13, q8, q6, qhp, qnx, i, f, d', q10, q9, hki, hil, hO2, hne, hp', hdl', hf0, hf1⟩
      simp only at q1 q11 q12 q13 q8 q6 qhp qnx q10 q9 hO2 hne
      by_cases hgo2 : ∃ hib : i < b.length, b[i].1 < a[j].2
      · obtain ⟨hib, hbt⟩ := hgo2
        have hwi : IntKind.i64.wrap ((i : Int) + 1) = (i : Int) + 1 := wrap_fit (by omega) (by omega)
        rw [piece_drop hib, if_pos hbt] at hp'
        have hbi := hbl' _ (List.getElem_mem hib)
        have hbp := hp0' _ (List.getElem_mem hib)
        obtain ⟨mx, hmx, hmx0, hmx1⟩ : ∃ mx, (if f < b[i].2 then b[i].2 else f) = mx ∧ 0 ≤ mx ∧ mx ≤ 100000 := ⟨_, rfl, by split <;> omega, by split <;> omega⟩
        have hmx2 : max f b[i].2 = mx := by rw [← hmx]; split <;> omega
        rw [hmx2] at hp'
        by_cases hfb : f < b[i].1
        · rw [if_pos hfb] at hp'
          have hap := hO2.append1 (P := Tryz.prog) (t := 32) (c := encS (f, b[i].1)) el32 sz36 by36 ze36 rfl (by omega) (by rw [List.length_map]; unfold maxLen; omega) (by rw [List.length_map]; omega)
          have hbs : ∀ hp nx, buildSliceA Tryz.prog hp nx 32 1 [(0, .agg (encS (f, b[i].1)))] = some (.own nx 0 1, upd hp nx (some ⟨36, 2, true, [encS (f, b[i].1)]⟩), nx + 1) := fun hp nx => by
            simp [buildSliceA, setElems, freezeParts]
          simp only [encS] at hap hbs
          simp [q1, q6, q8, q9, q10, q11, q12, q13, qhp, hib, hbt, hfb, hwi, hmx, buildA, fillA, hbs, hap]
          refine ⟨⟨?_, by omega, i + 1, by simp, by omega, hib, d' ++ [(f, b[i].1)], ?_, by omega, by rw [List.append_assoc]; exact hp', by simp; omega, hmx0, hmx1⟩, by omega⟩
          · rw [upd_miss _ _ _ _ (by omega), killV_other hO2 _ _ hne, upd_miss _ _ _ _ (by omega)]
            exact qhp
          · rw [List.map_append, List.map_singleton]
            exact .inr ⟨nx2 + 1, by omega, by simp, by simp⟩
        · rw [if_neg hfb] at hp'
          simp [q1, q6, q8, q9, q10, q11, q12, q13, qhp, hib, hbt, hfb, hwi, hmx]
          exact ⟨⟨qnx, i + 1, by simp, by omega, hib, d', hO2, hne, hp', by omega, hmx0, hmx1⟩, by omega⟩
      · have hpe : piece f a[j].2 (b.drop i) = if f < a[j].2 then [(f, a[j].2)] else [] := by
          by_cases hib : i < b.length
          · rw [piece_drop hib, if_neg fun h => hgo2 ⟨hib, h⟩]
          · rw [List.drop_eq_nil_of_le (by omega), piece]
        rw [hpe] at hp'
        have hcond : (∃ hib : i < b.length, ¬ b[i].1 < a[j].2) ∨ ¬ i < b.length := by
          by_cases hib : i < b.length
          · exact .inl ⟨hib, fun h => hgo2 ⟨hib, h⟩⟩
          · exact .inr hib
        by_cases hft : f < a[j].2
        · rw [if_pos hft] at hp'
          have hap := hO2.append1 (P := Tryz.prog) (t := 32) (c := encS (f, a[j].2)) el32 sz36 by36 ze36 rfl (by omega) (by rw [List.length_map]; unfold maxLen; omega) (by rw [List.length_map]; omega)
          have hbs : ∀ hp nx, buildSliceA Tryz.prog hp nx 32 1 [(0, .agg (encS (f, a[j].2)))] = some (.own nx 0 1, upd hp nx (some ⟨36, 2, true, [encS (f, a[j].2)]⟩), nx + 1) := fun hp nx => by
            simp [buildSliceA, setElems, freezeParts]
          simp only [encS] at hap hbs
          rcases hcond with ⟨hib, hbt⟩ | hib
          all_goals simp [q1, q6, q8, q9, q10, q11, q12, q13, qhp, hib, hft, hw, buildA, fillA, hbs, hap]
          all_goals try simp [hbt, q1, q6, q8, q9, q10, q11, q12, q13, qhp, hib, hft, hw, buildA, fillA, hbs, hap]
          all_goals refine ⟨hlt, k, rfl, hk, d' ++ [(f, a[j].2)], ?_, by rw [hp', List.append_assoc]; exact hd, by simp; omega⟩
          all_goals rw [List.map_append, List.map_singleton]
          all_goals exact .inr ⟨nx2 + 1, by omega, by simp, by simp⟩
        · rw [if_neg hft, List.append_nil] at hp'
          rcases hcond with ⟨hib, hbt⟩ | hib
          all_goals simp [q1, q6, q8, q9, q10, q11, q12, q13, qhp, hib, hft, hw]
          all_goals try simp [hbt, q1, q6, q8, q9, q10, q11, q12, q13, qhp, hib, hft, hw]
          all_goals exact ⟨hlt, k, rfl, hk, d', hO2, by rw [hp', List.append_assoc]; exact hd, by omega⟩
  · obtain rfl : j = a.length := by omega
    rw [List.drop_length, mins, List.append_nil] at hd
    rw [hd] at hO
    have := hO.freeze nx
    simp [h1, h11, h12, h13, Tryz.f28]
    exact this
theorem minus_eval (a b : List Sp) (ha : spFault a = 0) (hb : spFault b = 0) : ∃ r0, evalPure C0 Tryz.f28 [.sl 2 (a.map encS), .sl 2 (b.map encS)] = some r0 ∧ Stands r0 (.sl 2 ((mins a b).map encS)) := minus_eval2 a b ha (okS_of hb)
theorem minus2_sound : SpecSound Tryz.prog 28 (hPure false [] (FPP (fun a b => .sl 2 ((mins a b).map encS)) fun a b => spFault a = 0 ∧ okS b)) :=
  pureG (fn := Tryz.f28) good0 ⟨_, Tryz.func28, by kernel_rfl, rfl, by kernel_rfl⟩ false [] _ fun args r h w S vs hz => by
    obtain ⟨⟨a, b⟩, rfl, hx, rfl⟩ := specOf_inv h
    obtain ⟨r0, h1, h2⟩ := minus_eval2 a b hx.1 hx.2
    exact ⟨_, r0, hz, Nat.le_trans (Nat.le_refl 2) (by decide), h1, h2⟩
theorem minus_sound : SpecSound Tryz.prog 28 (hPure false [] (FPP (fun a b => .sl 2 ((mins a b).map encS)) fun a b => spFault a = 0 ∧ spFault b = 0)) :=
  pureG (fn := Tryz.f28) good0 ⟨_, Tryz.func28, by kernel_rfl, rfl, by kernel_rfl⟩ false [] _ fun args r h w S vs hz => by
    obtain ⟨⟨a, b⟩, rfl, hx, rfl⟩ := specOf_inv h
    obtain ⟨r0, h1, h2⟩ := minus_eval a b hx.1 hx.2
    exact ⟨_, r0, hz, Nat.le_trans (Nat.le_refl 2) (by decide), h1, h2⟩
end Go.Proofs.YtfjeckcbnhohmaaGreatDoor
namespace Go.Proofs.YtfjeckcbnhohmaaGreatDoor
open Go.RowKit Go.AM Go.SpanLaw

/-- A list of spans in a block of one's own; none: nil. -/
def blkS (l : List Sp) : Option Blk := if l.isEmpty then none else some ⟨36, 2, true, l.map encS⟩
theorem blkS_some (l : List Sp) (s : Sp) : blkS (l ++ [s]) = some ⟨36, 2, true, (l ++ [s]).map encS⟩ := by simp [blkS]
open Classical in
/-- put, as a function of blocks. -/
noncomputable def putM (b : Option Blk) (args : List PV) : Option (Option Blk) :=
  if h : ∃ a : List Sp × Int × Int, b = blkS a.1 ∧ args = [int a.2.1, int a.2.2] ∧ a.1.length ≤ 100000 then some (blkS (putL h.choose.1 h.choose.2.1 h.choose.2.2)) else none
theorem blkS_inj {a b : List Sp} (h : blkS a = blkS b) : a = b := by
  unfold blkS at h
  cases a with
  | nil => cases b with
    | nil => rfl
    | cons s l => simp at h
  | cons s l => cases b with
    | nil => simp at h
    | cons r m =>
      simp only [List.isEmpty_cons, Bool.false_eq_true, if_false, Option.some.injEq, Blk.mk.injEq, true_and] at h
      exact map_inj (fun _ _ => encS_inj) h
theorem putM_eq (l : List Sp) (f t : Int) (h : l.length ≤ 100000) : putM (blkS l) [int f, int t] = some (blkS (putL l f t)) := by
  have hx : ∃ a : List Sp × Int × Int, blkS l = blkS a.1 ∧ [int f, int t] = [int a.2.1, int a.2.2] ∧ a.1.length ≤ 100000 := ⟨(l, f, t), rfl, rfl, h⟩
  unfold putM
  rw [dif_pos hx]
  obtain ⟨h1, h2, _⟩ := hx.choose_spec
  generalize hx.choose = c at h1 h2
  have e1 := blkS_inj h1
  injection h2 with h2 h3
  injection h3 with h3 _
  injection h2 with h2
  injection h2 with _ h2
  injection h3 with h3
  injection h3 with _ h3
  rw [← e1, ← h2, ← h3]
theorem putM_inv {b : Option Blk} {args : List PV} {r : Option Blk} (h : putM b args = some r) : ∃ (l : List Sp) (f t : Int), b = blkS l ∧ args = [int f, int t] ∧ l.length ≤ 100000 ∧ r = blkS (putL l f t) := by
  unfold putM at h
  split at h
  · rename_i hx
    obtain ⟨h1, h2, h3⟩ := hx.choose_spec
    injection h with h
    exact ⟨_, _, _, h1, h2, h3, h.symm⟩
  · cases h
set_option maxRecDepth 8000 in
theorem put_nil (f t : Int) : ∃ x hp nx, evalFunc C0 Tryz.f127 [.nil, int f, int t] (fun _ => none) 0 = some (x, hp, nx) ∧ OwnR (blkS [(f, t)]) x hp nx := by
  refine evalFunc_of rfl ?_
  simp [Tryz.f127, OwnR, buildSliceA, appendA, AM.view, maxLen, setElems, freezeParts, buildA, fillA, blkS]
set_option maxRecDepth 8000 in
theorem put_own (l : List Sp) (s : Sp) (f t : Int) (hl : l.length < 100000) : ∃ x hp nx, evalFunc C0 Tryz.f127 [.own 0 0 (l.length + 1), int f, int t] (upd (fun _ => none) 0 (some ⟨36, 2, true, (l ++ [s]).map encS⟩)) 1 = some (x, hp, nx) ∧ OwnR (blkS (putL (l ++ [s]) f t)) x hp nx := by
  refine evalFunc_of rfl ?_
  have w1 : IntKind.i64.wrap (l.length : Int) = l.length := wrap_fit (by omega) (by omega)
  have w2 : (l.length : Int) < l.length + 1 := by omega
  unfold putL
  by_cases he : s.2 = f
  · have he' : (s.2 == f) = true := by simpa using he
    simp [w1, w2, he, Tryz.f127]
    rw [blkS_some]
    exact ⟨0, by simp, by simp, rfl⟩
  · have he' : (s.2 == f) = false := by simpa using he
    have hO : OwnS (upd (fun _ => none) 0 (some ⟨36, 2, true, l.map encS ++ [encS s]⟩)) 1 36 2 (.own 0 0 (l.length + 1)) (l.map encS ++ [encS s]) := .inr ⟨0, by omega, by simp, by simp⟩
    have hap := hO.append1 (P := Tryz.prog) (t := 32) (c := encS (f, t)) el32 sz36 by36 ze36 rfl (by omega) (by simp [maxLen]; omega) (by simp; omega)
    have hbs : ∀ hp nx, buildSliceA Tryz.prog hp nx 32 1 [(0, .agg (encS (f, t)))] = some (.own nx 0 1, upd hp nx (some ⟨36, 2, true, [encS (f, t)]⟩), nx + 1) := fun hp nx => by
      simp [buildSliceA, setElems, freezeParts]
    simp only [encS] at hap hbs
    simp [w1, w2, he, he', buildA, fillA, hbs, hap, Tryz.f127]
    rw [show l ++ [s, (f, t)] = (l ++ [s]) ++ [(f, t)] by simp, blkS_some]
    exact ⟨2, by simp, by simp, rfl⟩
theorem putL_nil (f t : Int) : putL [] f t = [(f, t)] := rfl
theorem put_sound : SpecSound Tryz.prog 127 (hMove [] putM) :=
  hMove_sound (fn := Tryz.f127) (code := _) good0 ⟨Tryz.func127, by kernel_rfl, rfl, by kernel_rfl⟩ [] _
    (fun args r h => by
      obtain ⟨l, f, t, h1, rfl, _, rfl⟩ := putM_inv h
      obtain rfl : l = [] := blkS_inj (h1.symm.trans (by rfl))
      exact ⟨Nat.le_trans (Nat.le_refl 3) (by decide), by rw [putL_nil]; exact put_nil f t⟩)
    (fun b args r h => by
      obtain ⟨l, f, t, h1, rfl, hl, rfl⟩ := putM_inv h
      refine ⟨Nat.le_trans (Nat.le_refl 3) (by decide), fun _ => ?_⟩
      rcases List.eq_nil_or_concat l with rfl | ⟨m, s, rfl⟩
      · cases h1
      · rw [List.concat_eq_append] at h1 hl ⊢
        rw [blkS_some] at h1
        injection h1 with h1
        subst h1
        have := put_own m s f t (by simp at hl; omega)
        simpa using this)
end Go.Proofs.YtfjeckcbnhohmaaGreatDoor
namespace Go.Proofs.YtfjeckcbnhohmaaGreatDoor
open Go.RowKit Go.AM

/-- From, to, variation. -/
abbrev Rg := Int × Int × Int
abbrev encG (r : Rg) : List PV := [int r.1, int r.2.1, int r.2.2]
theorem encG_inj {a b : Rg} (h : encG a = encG b) : a = b := by
  simp only [List.cons.injEq, and_true, PV.v.injEq, Value.int.injEq, true_and] at h
  exact Prod.ext h.1 (Prod.ext h.2.1 h.2.2)
theorem ranges_inj {a b : List Rg} (h : PV.sl 3 (a.map encG) = PV.sl 3 (b.map encG)) : a = b := by
  injection h with _ h
  exact map_inj (fun _ _ => encG_inj) h
def rgO (at_ : Int) (r : Rg) : Bool := (r.1 != at_) || decide (r.2.1 ≤ r.1)
def rgT (p : Option Int) (r : Rg) : Bool := match p with
  | none => false
  | some q => q == r.2.2
def rgF (n : Int) : Int → Option Int → List Rg → Int
  | at_, _, [] => if at_ = 100000 then 0 else 8
  | at_, p, r :: l => if inB r.2.2 0 (n - 1) then (if rgO at_ r then 8 else if (100000 : Int) < r.2.1 then 1 else if rgT p r then 7 else rgF n r.2.1 (some r.2.2) l) else 1
theorem rgF_drop {l : List Rg} {k : Nat} (h : k < l.length) (n a : Int) (p : Option Int) : rgF n a p (l.drop k) = if inB l[k].2.2 0 (n - 1) then (if rgO a l[k] then 8 else if (100000 : Int) < l[k].2.1 then 1 else if rgT p l[k] then 7 else rgF n l[k].2.1 (some l[k].2.2) (l.drop (k + 1))) else 1 := by
  rw [List.drop_eq_getElem_cons h, rgF]
def prevG (l : List Rg) (k : Nat) : Option Int := if k = 0 then none else (l[k - 1]?).map (·.2.2)
def rgFault (l : List Rg) (n : Int) : Int := if l.length = 0 then 9 else if (200 : Int) < l.length then 2 else rgF n 0 none l
theorem withinF_sound : SpecSound Tryz.prog 247 (hPure false [] (F3 inB)) :=
  pureS (fn := Tryz.f247) good0 ⟨_, Tryz.func247, by kernel_rfl, rfl, by kernel_rfl⟩ false [] _ fun args r h => by
    obtain ⟨a, b, c, rfl, rfl⟩ := F3_inv h
    exact ⟨by simp [Tryz.f247], _, evalPure_of rfl (by simp [Tryz.f247, inB]), up_of _⟩
noncomputable abbrev Cwf : Ctx := mkCtx Tryz.prog [(247, hPure false [] (F3 inB))]
@[simp] theorem quietwf_0 : QuietIn Cwf 247 := quietIn_of (by rfl) (hPure_quiet _ _)
set_option maxRecDepth 8000 in
theorem checkRanges_eval (l : List Rg) (n : Int) (hn : 1 ≤ n ∧ n ≤ 20) : evalPure Cwf Tryz.f180 [.sl 3 (l.map encG), int n] = some (int (rgFault l n)) := by
  refine evalPure_of rfl ?_
  have hn1 : IntKind.i64.wrap (n - 1) = n - 1 := wrap_fit (by omega) (by omega)
  rw [rgFault]
  by_cases c1 : l.length = 0
  · have : l = [] := List.length_eq_zero_iff.1 c1
    subst this
    simp [Tryz.f180]
  have c1' : ¬ l = [] := fun h => c1 (by rw [h]; rfl)
  have c0 : ((l.length : Int) == 0) = false := by simpa using c1'
  by_cases c2 : (200 : Int) < l.length
  · simp [c0, c1, c1', c2, Tryz.f180]
  simp [c0, c1, c1', c2]
  refine EvC_for (fun k σ hp nx => σ 0 = .sl 3 (l.map encG) ∧ σ 1 = int n ∧ σ 14 = .sl 3 (l.map encG) ∧ σ 15 = int l.length ∧ σ 16 = int k ∧ ∃ a : Int, σ 5 = int a ∧ rgF n 0 none l = rgF n a (prevG l k) (l.drop k)) l.length
    ⟨by simp, by simp, by simp, by simp, by simp, 0, by simp, by simp [prevG]⟩ ?_
  rintro k σ hp nx hk ⟨h0, h1, h14, h15, h16, a, h5, hf⟩
  by_cases hlt : k < l.length
  · have hw : IntKind.i64.wrap ((k : Int) + 1) = (k : Int) + 1 := wrap_fit (by omega) (by omega)
    rw [rgF_drop hlt] at hf
    cases d1 : inB l[k].2.2 0 (n - 1)
    case false =>
      rw [d1] at hf
      simp at hf
      simp [h0, h1, h5, h14, h15, h16, hlt, hn1, d1, hf, Tryz.f180]
    simp only [d1, if_true] at hf
    have eo : ((l[k].1 != a) || decide (l[k].2.1 ≤ l[k].1)) = rgO a l[k] := rfl
    cases d2 : rgO a l[k]
    case true =>
      rw [d2] at eo hf
      simp only [if_true] at hf
      simp [h0, h1, h5, h14, h15, h16, hlt, hn1, d1, eo, hf, Tryz.f180]
    rw [d2] at eo
    simp only [d2, Bool.false_eq_true, if_false] at hf
    by_cases d3 : (100000 : Int) < l[k].2.1
    · rw [if_pos d3] at hf
      simp [h0, h1, h5, h14, h15, h16, hlt, hn1, d1, eo, d3, hf, Tryz.f180]
    rw [if_neg d3] at hf
    have hpv : prevG l (k + 1) = some l[k].2.2 := by simp [prevG, hlt]
    by_cases k0 : k = 0
    · subst k0
      simp only [prevG, if_true, rgT, Bool.false_eq_true, if_false] at hf
      have w1 : IntKind.i64.wrap 1 = 1 := wrap_fit (by omega) (by omega)
      simp [h0, h1, h5, h14, h15, h16, hlt, hn1, d1, eo, d3, w1]
      exact ⟨hlt, by rw [hf, hpv]; simp⟩
    · obtain ⟨j, rfl⟩ : ∃ j, k = j + 1 := ⟨k - 1, by omega⟩
      have hj : j < l.length := by omega
      have wj : IntKind.i64.wrap ((j : Int) + 1 - 1) = (j : Int) := by rw [wrap_fit (by omega) (by omega)]; omega
      have wj' : IntKind.i64.wrap (j : Int) = (j : Int) := wrap_fit (by omega) (by omega)
      have j1 : ((j : Int) + 1).toNat = j + 1 := by omega
      have j2 : 0 < (j : Int) + 1 := by omega
      have j3 : 0 ≤ (j : Int) + 1 := by omega
      have j4 : (j : Int) + 1 < l.length := by omega
      have wk : IntKind.i64.wrap ((j : Int) + 1 + 1) = (j : Int) + 1 + 1 := wrap_fit (by omega) (by omega)
      have hpj : prevG l (j + 1) = some l[j].2.2 := by simp [prevG, hj]
      have et : (l[j].2.2 == l[j + 1].2.2) = rgT (some l[j].2.2) l[j + 1] := rfl
      rw [hpj] at hf
      cases d4 : rgT (some l[j].2.2) l[j + 1]
      · rw [d4] at et
        simp only [d4, Bool.false_eq_true, if_false] at hf
        simp [h0, h1, h5, h14, h15, h16, hlt, hj, hn1, d1, eo, d3, et, wj, wj', j1, j2, j3, j4, wk]
        exact ⟨by omega, by rw [hf, hpv]⟩
      · rw [d4] at et
        simp only [d4, if_true] at hf
        simp [h0, h1, h5, h14, h15, h16, hlt, hj, hn1, d1, eo, d3, et, wj, wj', j1, j2, j3, j4, hf, Tryz.f180]
  · obtain rfl : k = l.length := by omega
    rw [List.drop_length, rgF] at hf
    by_cases ha : a = 100000
    · rw [if_pos ha] at hf
      simp [h0, h1, h5, h14, h15, h16, ha, hf, Tryz.f180]
    · rw [if_neg ha] at hf
      have ha' : (a != 100000) = true := by simpa using ha
      simp [h0, h1, h5, h14, h15, h16, ha', hf, Tryz.f180]
/-- A function of ranges and a number. -/
noncomputable def FRN (out : List Rg → Int → PV) (pre : List Rg → Int → Prop) : List PV → Option PV := specOf (α := List Rg × Int) (fun a => [.sl 3 (a.1.map encG), int a.2]) (fun a => pre a.1 a.2) (fun a => out a.1 a.2)
theorem FRN_call (out : List Rg → Int → PV) (pre : List Rg → Int → Prop) (l : List Rg) (n : Int) (hp : Hp) (nx : Nat) (h : pre l n) : hPure false [] (FRN out pre) [.sl 3 (l.map encG), int n] hp nx = some (out l n, hp, nx) :=
  hPure_v rfl (specOf_eq (enc := fun a : List Rg × Int => [PV.sl 3 (a.1.map encG), int a.2]) (a := (l, n)) (fun a b e => by
    obtain ⟨a1, a2⟩ := a; obtain ⟨b1, b2⟩ := b
    simp only [List.cons.injEq, and_true] at e
    rw [ranges_inj e.1, pint_inj e.2]) h) (.inr rfl)
theorem checkRanges_sound : SpecSound Tryz.prog 180 (hPure false [] (FRN (fun l n => int (rgFault l n)) fun _ n => 1 ≤ n ∧ n ≤ 20)) :=
  pureS (fn := Tryz.f180) (good_of (q := [247]) mixed ⟨withinF_sound, fun _ => hPure_quiet _ _, trivial⟩ : AM.Good Cwf _) ⟨_, Tryz.func180, by kernel_rfl, rfl, by kernel_rfl⟩ false [] _ fun args r h => by
    obtain ⟨⟨l, n⟩, rfl, hn, rfl⟩ := specOf_inv h
    exact ⟨Nat.le_trans (Nat.le_refl 2) (by decide), _, checkRanges_eval l n hn, up_of _⟩
/-- Ranges one behind the other, from lo to hi, neighbours apart, variations below n. -/
def Chain (n : Int) : Int → Int → Option Int → List Rg → Prop
  | lo, hi, _, [] => lo = hi
  | lo, hi, p, r :: l => r.1 = lo ∧ r.1 < r.2.1 ∧ r.2.1 ≤ hi ∧ 0 ≤ r.2.2 ∧ r.2.2 < n ∧ p ≠ some r.2.2 ∧ Chain n r.2.1 hi (some r.2.2) l
theorem rgF_right : ∀ {n a : Int} {p : Option Int} {l : List Rg}, rgF n a p l = 0 → Chain n a 100000 p l
  | _, _, _, [], h => by
    unfold rgF at h
    split at h
    · assumption
    · cases h
  | n, a, p, r :: l, h => by
    unfold rgF at h
    split at h
    case isFalse => cases h
    rename_i h1
    split at h
    case isTrue => cases h
    rename_i h2
    split at h
    case isTrue => cases h
    rename_i h3
    split at h
    case isTrue => cases h
    rename_i h4
    simp only [inB, Bool.and_eq_true, decide_eq_true_eq] at h1
    simp only [rgO, Bool.or_eq_true, bne_iff_ne, ne_eq, decide_eq_true_eq, not_or, Decidable.not_not] at h2
    refine ⟨h2.1, by omega, by omega, h1.1, by omega, ?_, rgF_right h⟩
    rintro rfl
    exact h4 (by simp [rgT])
theorem rgF_of : ∀ {n a : Int} {p : Option Int} {l : List Rg}, Chain n a 100000 p l → rgF n a p l = 0
  | _, a, _, [], h => by
    have h : a = 100000 := h
    unfold rgF
    rw [if_pos h]
  | n, a, p, r :: l, h => by
    obtain ⟨h1, h2, h3, h4, h5, h6, h7⟩ := h
    have e1 : inB r.2.2 0 (n - 1) = true := by simp [inB]; omega
    have e2 : rgO a r = false := by simp [rgO, h1]; omega
    have e3 : rgT p r = false := by
      cases p with
      | none => rfl
      | some q =>
        simp only [rgT, beq_eq_false_iff_ne, ne_eq]
        rintro rfl
        exact h6 rfl
    unfold rgF
    rw [e1, e2, e3]
    simp only [if_true, Bool.false_eq_true, if_false]
    rw [if_neg (by omega)]
    exact rgF_of h7
theorem rgFault_right {l : List Rg} {n : Int} (h : rgFault l n = 0) : Chain n 0 100000 none l ∧ l.length ≤ 200 ∧ 0 < l.length := by
  unfold rgFault at h
  split at h
  · cases h
  split at h
  · cases h
  exact ⟨rgF_right h, by omega, by omega⟩
theorem rgFault_of {l : List Rg} {n : Int} (h : Chain n 0 100000 none l) (hl : l.length ≤ 200) : rgFault l n = 0 := by
  unfold rgFault
  split
  · rename_i h0
    have : l = [] := List.length_eq_zero_iff.1 h0
    subst this
    cases h
  rw [if_neg (by omega)]
  exact rgF_of h
end Go.Proofs.YtfjeckcbnhohmaaGreatDoor
namespace Go.Proofs.YtfjeckcbnhohmaaGreatDoor
open Go.RowKit Go.AM

abbrev encI (n : Int) : List PV := [int n]
theorem ints_inj {a b : List Int} (h : PV.sl 1 (a.map encI) = PV.sl 1 (b.map encI)) : a = b := by
  injection h with _ h
  exact map_inj (fun x y e => by simp only [List.cons.injEq, and_true] at e; exact pint_inj e) h
def wtF : Int → List Int → Int
  | s, [] => if s = 100000 then 0 else 13
  | s, n :: l => if inB n 0 100000 then wtF (s + n) l else 1
theorem wtF_drop {l : List Int} {k : Nat} (h : k < l.length) (s : Int) : wtF s (l.drop k) = if inB l[k] 0 100000 then wtF (s + l[k]) (l.drop (k + 1)) else 1 := by
  rw [List.drop_eq_getElem_cons h, wtF]
def wtFault (l : List Int) : Int := if l.length = 0 then 9 else if (20 : Int) < l.length then 2 else wtF 0 l
noncomputable def FI (out : List Int → PV) (pre : List Int → Prop) : List PV → Option PV := specOf (α := List Int) (fun l => [.sl 1 (l.map encI)]) pre out
theorem FI_call (out : List Int → PV) (pre : List Int → Prop) (l : List Int) (hp : Hp) (nx : Nat) (h : pre l) : hPure false [] (FI out pre) [.sl 1 (l.map encI)] hp nx = some (out l, hp, nx) :=
  hPure_v rfl (specOf_eq (enc := fun l : List Int => [PV.sl 1 (l.map encI)]) (a := l) (fun a b e => by simp only [List.cons.injEq, and_true] at e; exact ints_inj e) h) (.inr rfl)
theorem wtF_right : ∀ {s : Int} {l : List Int}, wtF s l = 0 → (∀ n ∈ l, 0 ≤ n ∧ n ≤ 100000) ∧ s + l.sum = 100000
  | s, [], h => by
    unfold wtF at h
    split at h
    · exact ⟨by simp, by simpa⟩
    · cases h
  | s, n :: l, h => by
    unfold wtF at h
    split at h
    · rename_i h1
      obtain ⟨g1, g2⟩ := wtF_right h
      have hb : 0 ≤ n ∧ n ≤ 100000 := by simpa [inB] using h1
      refine ⟨fun x hx => ?_, by rw [List.sum_cons]; omega⟩
      rcases List.mem_cons.1 hx with rfl | hx
      · exact hb
      · exact g1 x hx
    · cases h
theorem wtFault_right {l : List Int} (h : wtFault l = 0) : (∀ n ∈ l, 0 ≤ n ∧ n ≤ 100000) ∧ l.sum = 100000 ∧ l.length ≤ 20 ∧ 0 < l.length := by
  unfold wtFault at h
  split at h
  · cases h
  split at h
  · cases h
  obtain ⟨g1, g2⟩ := wtF_right h
  exact ⟨g1, by omega, by omega, by omega⟩

/-! ### put -/
def putR (l : List Rg) (f t v : Int) : List Rg := if t ≤ f then l else match l.getLast? with
  | some s => if s.2.1 = f ∧ s.2.2 = v then l.dropLast ++ [(s.1, t, v)] else l ++ [(f, t, v)]
  | none => [(f, t, v)]
def blkR (l : List Rg) : Option Blk := if l.isEmpty then none else some ⟨278, 3, true, l.map encG⟩
theorem blkR_some (l : List Rg) (s : Rg) : blkR (l ++ [s]) = some ⟨278, 3, true, (l ++ [s]).map encG⟩ := by simp [blkR]
open Classical in
noncomputable def putRM (b : Option Blk) (args : List PV) : Option (Option Blk) :=
  if h : ∃ a : List Rg × Int × Int × Int, b = blkR a.1 ∧ args = [int a.2.1, int a.2.2.1, int a.2.2.2] ∧ a.1.length ≤ 100000 then some (blkR (putR h.choose.1 h.choose.2.1 h.choose.2.2.1 h.choose.2.2.2)) else none
theorem blkR_inj {a b : List Rg} (h : blkR a = blkR b) : a = b := by
  unfold blkR at h
  cases a with
  | nil => cases b with
    | nil => rfl
    | cons s l => simp at h
  | cons s l => cases b with
    | nil => simp at h
    | cons r m =>
      simp only [List.isEmpty_cons, Bool.false_eq_true, if_false, Option.some.injEq, Blk.mk.injEq, true_and] at h
      exact map_inj (fun _ _ => encG_inj) h
theorem putRM_eq (l : List Rg) (f t v : Int) (h : l.length ≤ 100000) : putRM (blkR l) [int f, int t, int v] = some (blkR (putR l f t v)) := by
  have hx : ∃ a : List Rg × Int × Int × Int, blkR l = blkR a.1 ∧ [int f, int t, int v] = [int a.2.1, int a.2.2.1, int a.2.2.2] ∧ a.1.length ≤ 100000 := ⟨(l, f, t, v), rfl, rfl, h⟩
  unfold putRM
  rw [dif_pos hx]
  obtain ⟨h1, h2, _⟩ := hx.choose_spec
  generalize hx.choose = c at h1 h2
  have e1 := blkR_inj h1
  simp only [List.cons.injEq, and_true, PV.v.injEq, Value.int.injEq, true_and] at h2
  rw [← e1, ← h2.1, ← h2.2.1, ← h2.2.2]
theorem putRM_inv {b : Option Blk} {args : List PV} {r : Option Blk} (h : putRM b args = some r) : ∃ (l : List Rg) (f t v : Int), b = blkR l ∧ args = [int f, int t, int v] ∧ l.length ≤ 100000 ∧ r = blkR (putR l f t v) := by
  unfold putRM at h
  split at h
  · rename_i hx
    obtain ⟨h1, h2, h3⟩ := hx.choose_spec
    injection h with h
    exact ⟨_, _, _, _, h1, h2, h3, h.symm⟩
  · cases h
/-- A list of ranges that put makes: nil while there is none. -/
def OwnRg (hp : Hp) (nx : Nat) (x : PV) (d : List Rg) : Prop := (x = .nil ∧ d = []) ∨ (d ≠ [] ∧ ∃ id, id < nx ∧ x = .own id 0 d.length ∧ hp id = blkR d)
theorem OwnRg.ownS {hp : Hp} {nx : Nat} {x : PV} {d : List Rg} (h : OwnRg hp nx x d) : OwnS hp nx 278 3 x (d.map encG) := by
  rcases h with ⟨rfl, rfl⟩ | ⟨hd, id, h1, rfl, h2⟩
  · exact OwnS.nil hp nx 278 3
  · exact .inr ⟨id, h1, by simp, by rw [h2, blkR, if_neg (by simpa using hd)]⟩
theorem putR_length (d : List Rg) (f t v : Int) : (putR d f t v).length ≤ d.length + 1 := by
  unfold putR
  split
  · omega
  split
  · split
    · simp
    · simp
  · simp
theorem putR_ne {d : List Rg} {f t v : Int} (h : f < t) : putR d f t v ≠ [] := by
  unfold putR
  rw [if_neg (by omega)]
  split
  · split <;> simp
  · simp
/-- put, called: what else is live stays so. -/
theorem putR_call {hp : Hp} {nx : Nat} {x : PV} {d : List Rg} {f t v : Int} (h : OwnRg hp nx x d) (hl : d.length ≤ 100000) : ∃ x' hp' nx', hMove [] putRM [x, int f, int t, int v] hp nx = some (x', hp', nx') ∧ OwnRg hp' nx' x' (putR d f t v) ∧ nx ≤ nx' ∧ (∀ id, id < nx → (∀ m, x ≠ .own id 0 m) → hp' id = hp id) ∧ (∀ id m, x' = .own id 0 m → nx ≤ id) := by
  have hq := putRM_eq d f t v hl
  have hfz : ∀ hp, freezeVals hp [int f, int t, int v] = some ([int f, int t, int v], hp) := fun hp => by rfl
  rcases h with ⟨rfl, rfl⟩ | ⟨hd, id, h1, rfl, h2⟩
  · by_cases hc : f < t
    · have hne := putR_ne (d := []) (v := v) hc
      have hb : blkR (putR [] f t v) = some ⟨278, 3, true, (putR [] f t v).map encG⟩ := by rw [blkR, if_neg (by simpa using hne)]
      rw [hb] at hq
      have hq : putRM none [int f, int t, int v] = _ := hq
      refine ⟨.own nx 0 (putR [] f t v).length, upd hp nx (some ⟨278, 3, true, (putR [] f t v).map encG⟩), nx + 1, ?_, .inr ⟨hne, nx, by omega, rfl, by rw [hb]; simp⟩, by omega, fun id hid _ => upd_miss _ _ _ _ (by omega), fun id m e => by injection e with e; omega⟩
      simp [hMove, hfz, normArgs, hq]
    · have he : putR [] f t v = [] := by unfold putR; rw [if_pos (by omega)]
      rw [he] at hq
      have hq : putRM none [int f, int t, int v] = some none := hq
      refine ⟨.nil, hp, nx, ?_, .inl ⟨rfl, he⟩, Nat.le_refl _, fun _ _ _ => rfl, fun _ _ e => by cases e⟩
      simp [hMove, hfz, normArgs, hq]
  · have hb0 : blkR d = some ⟨278, 3, true, d.map encG⟩ := by rw [blkR, if_neg (by simpa using hd)]
    have hne : putR d f t v ≠ [] := by
      by_cases hc : f < t
      · exact putR_ne hc
      · unfold putR; rw [if_pos (by omega)]; exact hd
    have hb : blkR (putR d f t v) = some ⟨278, 3, true, (putR d f t v).map encG⟩ := by rw [blkR, if_neg (by simpa using hne)]
    rw [hb0, hb] at hq
    rw [hb0] at h2
    refine ⟨.own nx 0 (putR d f t v).length, upd (upd hp id none) nx (some ⟨278, 3, true, (putR d f t v).map encG⟩), nx + 1, ?_, .inr ⟨hne, nx, by omega, rfl, by rw [hb]; simp⟩, by omega, fun id' hid hn => ?_, fun id m e => by injection e with e; omega⟩
    · simp [hMove, hfz, normArgs, hq, h2]
    · have : ¬ id' = id := fun e => hn d.length (by rw [e])
      rw [upd_miss _ _ _ _ (by omega), upd_miss _ _ _ _ this]
end Go.Proofs.YtfjeckcbnhohmaaGreatDoor
