/-
  The plain law of spans: lists of pairs (from, to); what they hold; the one form that a set has.
  The plain law of spans, part 2: the reference's sweep, sizes.
-/

namespace Go.SpanLaw

abbrev Sp := Int × Int
/-- Spans that go up and do not touch, all beyond lo. -/
def Canon : Int → List Sp → Prop
  | _, [] => True
  | lo, s :: l => lo < s.1 ∧ s.1 < s.2 ∧ Canon s.2 l
def mem (l : List Sp) (k : Int) : Prop := ∃ s ∈ l, s.1 ≤ k ∧ k < s.2
theorem mem_nil (k : Int) : ¬ mem [] k := by simp [mem]
theorem mem_cons (s : Sp) (l : List Sp) (k : Int) : mem (s :: l) k ↔ (s.1 ≤ k ∧ k < s.2) ∨ mem l k := by simp [mem]
theorem mem_one (f t k : Int) : mem [(f, t)] k ↔ f ≤ k ∧ k < t := by simp [mem]
theorem mem_append (l m : List Sp) (k : Int) : mem (l ++ m) k ↔ mem l k ∨ mem m k := by simp [mem, or_and_right, exists_or]
theorem canon_mem : ∀ {lo : Int} {l : List Sp}, Canon lo l → ∀ {k : Int}, mem l k → lo < k
  | _, [], _, k, h => absurd h (mem_nil k)
  | lo, s :: l, hc, k, h => by
    rcases (mem_cons s l k).1 h with h | h
    · have := hc.1; omega
    · have := canon_mem hc.2.2 h
      have := hc.1; have := hc.2.1; omega
theorem canon_lo {lo lo' : Int} {l : List Sp} (h : Canon lo l) (hl : lo' ≤ lo) : Canon lo' l := by
  cases l with
  | nil => trivial
  | cons s l => exact ⟨by have := h.1; omega, h.2⟩
/-- A set has one form. -/
theorem canon_eq : ∀ {lo : Int} {l m : List Sp}, Canon lo l → Canon lo m → (∀ k, mem l k ↔ mem m k) → l = m
  | _, [], [], _, _, _ => rfl
  | _, [], s :: m, _, hm, h => by
    exfalso
    have := (h s.1).2 ((mem_cons s m s.1).2 (.inl ⟨Int.le_refl _, hm.2.1⟩))
    exact mem_nil _ this
  | _, s :: l, [], hl, _, h => by
    exfalso
    have := (h s.1).1 ((mem_cons s l s.1).2 (.inl ⟨Int.le_refl _, hl.2.1⟩))
    exact mem_nil _ this
  | lo, s :: l, r :: m, hl, hm, h => by
    have low : ∀ {x : Sp} {q : List Sp}, Canon lo (x :: q) → ∀ {k}, mem (x :: q) k → x.1 ≤ k := fun {x q} hc {k} hk => by
      rcases (mem_cons x q k).1 hk with g | g
      · exact g.1
      · have := canon_mem hc.2.2 g; have := hc.2.1; omega
    have h1 : s.1 = r.1 := by
      have a := low hm ((h s.1).1 ((mem_cons s l s.1).2 (.inl ⟨Int.le_refl _, hl.2.1⟩)))
      have b := low hl ((h r.1).2 ((mem_cons r m r.1).2 (.inl ⟨Int.le_refl _, hm.2.1⟩)))
      omega
    have high : ∀ {x : Sp} {q : List Sp}, Canon lo (x :: q) → ¬ mem (x :: q) x.2 := fun {x q} hc hk => by
      rcases (mem_cons x q x.2).1 hk with g | g
      · omega
      · have := canon_mem hc.2.2 g; omega
    have h2 : s.2 = r.2 := by
      rcases Int.lt_trichotomy s.2 r.2 with g | g | g
      · exact absurd ((h s.2).2 ((mem_cons r m s.2).2 (.inl ⟨by have := hl.2.1; omega, g⟩))) (high hl)
      · exact g
      · exact absurd ((h r.2).1 ((mem_cons s l r.2).2 (.inl ⟨by have := hm.2.1; omega, g⟩))) (high hm)
    have h3 : s = r := Prod.ext h1 h2
    subst h3
    rw [canon_eq hl.2.2 hm.2.2 fun k => ?_]
    have hk := h k
    rw [mem_cons, mem_cons] at hk
    constructor
    · intro g
      have := canon_mem hl.2.2 g
      rcases hk.1 (.inr g) with g' | g'
      · omega
      · exact g'
    · intro g
      have := canon_mem hm.2.2 g
      rcases hk.2 (.inr g) with g' | g'
      · omega
      · exact g'

/-! ### together -/
/-- Spans by their from, put together: c is the one under way. -/
def tog : Sp → List Sp → List Sp
  | c, [] => [c]
  | c, s :: l => if s.1 ≤ c.2 then tog (c.1, max c.2 s.2) l else c :: tog s l
def togL : List Sp → List Sp
  | [] => []
  | s :: l => tog s l
/-- By their from, none empty. -/
def Sorted : Int → List Sp → Prop
  | _, [] => True
  | lo, s :: l => lo ≤ s.1 ∧ s.1 < s.2 ∧ Sorted s.1 l
theorem sorted_lo {lo lo' : Int} {l : List Sp} (h : Sorted lo l) (hl : lo' ≤ lo) : Sorted lo' l := by
  cases l with
  | nil => trivial
  | cons s l => exact ⟨by have := h.1; omega, h.2⟩
theorem tog_canon : ∀ {lo : Int} {c : Sp} {l : List Sp}, lo < c.1 → c.1 < c.2 → Sorted c.1 l → Canon lo (tog c l)
  | lo, c, [], h1, h2, _ => ⟨h1, h2, trivial⟩
  | lo, c, s :: l, h1, h2, h3 => by
    unfold tog
    split
    · exact tog_canon h1 (by show c.1 < max c.2 s.2; omega) (sorted_lo h3.2.2 h3.1)
    · exact ⟨h1, h2, tog_canon (by omega) h3.2.1 h3.2.2⟩
theorem tog_mem : ∀ {c : Sp} {l : List Sp}, c.1 < c.2 → Sorted c.1 l → ∀ k, mem (tog c l) k ↔ (c.1 ≤ k ∧ k < c.2) ∨ mem l k
  | c, [], _, _, k => by simp [tog, mem]
  | c, s :: l, h2, h3, k => by
    unfold tog
    split
    · rw [tog_mem (c := (c.1, max c.2 s.2)) (by show c.1 < max c.2 s.2; omega) (sorted_lo h3.2.2 h3.1) k, mem_cons]
      have := h3.1; have := h3.2.1
      show (c.1 ≤ k ∧ k < max c.2 s.2) ∨ mem l k ↔ _
      constructor
      · rintro (h | h)
        · by_cases hk : k < c.2
          · exact .inl ⟨h.1, hk⟩
          · exact .inr (.inl ⟨by omega, by omega⟩)
        · exact .inr (.inr h)
      · rintro (h | h | h)
        · exact .inl ⟨h.1, by omega⟩
        · exact .inl ⟨by omega, by omega⟩
        · exact .inr h
    · rw [mem_cons, tog_mem h3.2.1 h3.2.2 k, mem_cons]
theorem togL_canon {lo : Int} {l : List Sp} (h : Sorted (lo + 1) l) : Canon lo (togL l) := by
  cases l with
  | nil => trivial
  | cons s l => exact tog_canon (by have := h.1; omega) h.2.1 h.2.2
theorem togL_mem {lo : Int} {l : List Sp} (h : Sorted lo l) (k : Int) : mem (togL l) k ↔ mem l k := by
  cases l with
  | nil => exact Iff.rfl
  | cons s l => rw [mem_cons]; exact tog_mem h.2.1 h.2.2 k

/-! ### minus -/
def piece (from_ to : Int) : List Sp → List Sp
  | [] => if from_ < to then [(from_, to)] else []
  | b :: l => if b.1 < to then (if from_ < b.1 then (from_, b.1) :: piece (max from_ b.2) to l else piece (max from_ b.2) to l) else if from_ < to then [(from_, to)] else []
def skip (x : Int) : List Sp → List Sp
  | [] => []
  | b :: l => if b.2 ≤ x then skip x l else b :: l
def mins : List Sp → List Sp → List Sp
  | [], _ => []
  | s :: a, b => piece s.1 s.2 (skip s.1 b) ++ mins a (skip s.1 b)
theorem skip_canon : ∀ {lo x : Int} {b : List Sp}, Canon lo b → Canon lo (skip x b)
  | _, _, [], _ => trivial
  | lo, x, s :: b, h => by
    unfold skip
    split
    · exact skip_canon (canon_lo h.2.2 (by have := h.1; have := h.2.1; omega))
    · exact h
theorem skip_mem : ∀ {x : Int} {b : List Sp} {k : Int}, x ≤ k → (mem (skip x b) k ↔ mem b k)
  | _, [], _, _ => Iff.rfl
  | x, s :: b, k, h => by
    unfold skip
    split
    · rw [skip_mem h, mem_cons]
      constructor
      · exact .inr
      · rintro (g | g)
        · omega
        · exact g
    · exact Iff.rfl
theorem piece_mem : ∀ {lo f t : Int} {b : List Sp} {k : Int}, Canon lo b → (mem (piece f t b) k ↔ f ≤ k ∧ k < t ∧ ¬ mem b k)
  | _, f, t, [], k, _ => by
    unfold piece
    split
    · simp [mem]
    · simp [mem]; omega
  | lo, f, t, s :: b, k, h => by
    have hs := h.2.1
    have hb : mem b k → s.2 < k := fun g => canon_mem h.2.2 g
    have ih := @piece_mem s.2 (max f s.2) t b k h.2.2
    have m1 : f ≤ max f s.2 := Int.le_max_left _ _
    have m2 : s.2 ≤ max f s.2 := Int.le_max_right _ _
    have m3 : max f s.2 = f ∨ max f s.2 = s.2 := by omega
    rw [mem_cons]
    unfold piece
    generalize max f s.2 = m at ih m1 m2 m3 ⊢
    split
    · split
      · rw [mem_cons, ih]
        show (f ≤ k ∧ k < s.1) ∨ _ ↔ _
        by_cases g : mem b k
        · have := hb g; simp only [g, not_true_eq_false, and_false, or_true, or_false, iff_false]; omega
        · simp only [g, not_false_eq_true, and_true, or_false]; omega
      · rw [ih]
        by_cases g : mem b k
        · simp only [g, not_true_eq_false, and_false, or_true]
        · simp only [g, not_false_eq_true, and_true, or_false]; omega
    · split
      · rw [mem_one]
        by_cases g : mem b k
        · have := hb g; simp only [g, or_true, not_true_eq_false, and_false, iff_false]; omega
        · simp only [g, or_false]; omega
      · constructor
        · intro g; exact absurd g (mem_nil k)
        · intro g; omega
/-- Spans all below hi. -/
def Below (hi : Int) (l : List Sp) : Prop := ∀ s ∈ l, s.2 ≤ hi
theorem canon_append : ∀ {lo hi : Int} {l m : List Sp}, Canon lo l → lo ≤ hi → Below hi l → Canon hi m → Canon lo (l ++ m)
  | _, _, [], m, _, hh, _, hm => canon_lo hm hh
  | lo, hi, s :: l, m, hl, hh, hb, hm => ⟨hl.1, hl.2.1, canon_append hl.2.2 (hb s (by simp)) (fun x hx => hb x (by simp [hx])) hm⟩
theorem piece_canon : ∀ {lo blo f t : Int} {b : List Sp}, Canon blo b → lo < f → Canon lo (piece f t b) ∧ Below t (piece f t b)
  | lo, _, f, t, [], _, hf => by
    unfold piece
    split
    · rename_i h; exact ⟨⟨hf, h, trivial⟩, fun s hs => by simp at hs; subst hs; exact Int.le_refl _⟩
    · exact ⟨trivial, fun s hs => by cases hs⟩
  | lo, blo, f, t, s :: b, h, hf => by
    have hs := h.2.1
    unfold piece
    split
    · rename_i h1
      split
      · rename_i h2
        obtain ⟨g1, g2⟩ := @piece_canon s.1 s.2 (max f s.2) t b h.2.2 (by omega)
        exact ⟨⟨hf, h2, g1⟩, fun x hx => by
          rcases List.mem_cons.1 hx with rfl | hx
          · show s.1 ≤ t; omega
          · exact g2 x hx⟩
      · exact @piece_canon lo s.2 (max f s.2) t b h.2.2 (by omega)
    · split
      · rename_i h; exact ⟨⟨hf, h, trivial⟩, fun s hs => by simp at hs; subst hs; exact Int.le_refl _⟩
      · exact ⟨trivial, fun s hs => by cases hs⟩
theorem mins_mem : ∀ {lo blo : Int} {a b : List Sp} {k : Int}, Canon lo a → Canon blo b → (mem (mins a b) k ↔ mem a k ∧ ¬ mem b k)
  | _, _, [], b, k, _, _ => by simp [mins, mem]
  | lo, blo, s :: a, b, k, ha, hb => by
    have hs := ha.2.1
    rw [mins, mem_append, piece_mem (skip_canon hb), mins_mem ha.2.2 (skip_canon hb), mem_cons]
    have hk : mem a k → s.2 < k := fun g => canon_mem ha.2.2 g
    by_cases g : s.1 ≤ k
    · rw [skip_mem g]
      by_cases g1 : mem a k <;> by_cases g2 : mem b k <;> simp [g1, g2]
    · have g1 : ¬ mem a k := fun h => by have := hk h; omega
      simp only [g1, or_false, false_and]
      constructor
      · intro h; omega
      · intro h; omega
theorem mins_canon : ∀ {lo blo : Int} {a b : List Sp}, Canon lo a → Canon blo b → Canon lo (mins a b)
  | _, _, [], _, _, _ => trivial
  | lo, blo, s :: a, b, ha, hb => by
    have hs := ha.2.1
    obtain ⟨g1, g2⟩ := piece_canon (lo := lo) (t := s.2) (skip_canon (x := s.1) hb) ha.1
    exact canon_append g1 (by have := ha.1; omega) g2 (mins_canon ha.2.2 (skip_canon hb))
end Go.SpanLaw
namespace Go.SpanLaw

/-! ### the reference's sweep -/
def nextF (at_ : Int) : Int → List Sp → Int
  | out, [] => out
  | out, s :: l => nextF at_ (if at_ < s.2 then min (if at_ < s.1 then min out s.1 else out) s.2 else (if at_ < s.1 then min out s.1 else out)) l
theorem nextF_le (at_ : Int) : ∀ (l : List Sp) (out : Int), nextF at_ out l ≤ out
  | [], _ => Int.le_refl _
  | s :: l, out => by
    refine Int.le_trans (nextF_le at_ l _) ?_
    split <;> split <;> omega
theorem nextF_gt {at_ : Int} : ∀ {l : List Sp} {out : Int}, at_ < out → at_ < nextF at_ out l
  | [], _, h => h
  | s :: l, out, h => by
    refine nextF_gt (l := l) ?_
    split <;> split <;> omega
theorem nextF_end {at_ : Int} : ∀ {l : List Sp} {out : Int} {s : Sp}, s ∈ l → (at_ < s.1 → nextF at_ out l ≤ s.1) ∧ (at_ < s.2 → nextF at_ out l ≤ s.2)
  | r :: l, out, s, hs => by
    rcases List.mem_cons.1 hs with rfl | hs
    · have h := nextF_le at_ l (if at_ < s.2 then min (if at_ < s.1 then min out s.1 else out) s.2 else (if at_ < s.1 then min out s.1 else out))
      constructor
      · intro g
        refine Int.le_trans h ?_
        simp only [g, if_true]
        split <;> omega
      · intro g
        refine Int.le_trans h ?_
        simp only [g, if_true]
        split <;> omega
    · exact nextF_end (l := l) hs
/-- Between two ends nothing changes. -/
theorem nextF_same {at_ out k : Int} {l : List Sp} (h1 : at_ ≤ k) (h2 : k < nextF at_ out l) : mem l k ↔ mem l at_ := by
  constructor
  · rintro ⟨s, hs, g1, g2⟩
    obtain ⟨e1, _⟩ := nextF_end (at_ := at_) (out := out) hs
    refine ⟨s, hs, ?_, by omega⟩
    exact Int.not_lt.1 fun h => by have := e1 h; omega
  · rintro ⟨s, hs, g1, g2⟩
    obtain ⟨_, e2⟩ := nextF_end (at_ := at_) (out := out) hs
    have := e2 g2
    exact ⟨s, hs, by omega, by omega⟩
/-- put. -/
def putL (l : List Sp) (f t : Int) : List Sp := match l.getLast? with
  | some s => if s.2 = f then l.dropLast ++ [(s.1, t)] else l ++ [(f, t)]
  | none => [(f, t)]
/-- What the sweep has made so far. -/
structure Swept (op : Int → Prop) (at_ : Int) (out : List Sp) : Prop where
  canon : Canon (-1) out
  below : Below at_ out
  holds : ∀ k, mem out k ↔ 0 ≤ k ∧ k < at_ ∧ op k
theorem canon_end : ∀ {lo : Int} {l : List Sp} {s : Sp} {t : Int}, Canon lo (l ++ [s]) → s.2 ≤ t → Canon lo (l ++ [(s.1, t)])
  | lo, [], s, t, h, ht => ⟨h.1, by have := h.2.1; show s.1 < t; omega, trivial⟩
  | lo, r :: l, s, t, h, ht => ⟨h.1, h.2.1, canon_end h.2.2 ht⟩
theorem canon_snoc : ∀ {lo : Int} {l : List Sp} {f t : Int}, Canon lo l → lo < f → (∀ s ∈ l, s.2 < f) → f < t → Canon lo (l ++ [(f, t)])
  | lo, [], f, t, _, hf, _, ht => ⟨hf, ht, trivial⟩
  | lo, r :: l, f, t, h, hf, hb, ht => ⟨h.1, h.2.1, canon_snoc h.2.2 (hb r (by simp)) (fun s hs => hb s (by simp [hs])) ht⟩
theorem canon_last : ∀ {lo : Int} {l : List Sp} {s : Sp}, Canon lo (l ++ [s]) → ∀ x ∈ l, x.2 < s.2
  | lo, r :: l, s, h, x, hx => by
    rcases List.mem_cons.1 hx with rfl | hx
    · have hm : mem (l ++ [s]) (s.2 - 1) := (mem_append _ _ _).2 (.inr ⟨s, by simp, by have := canon_tail h.2.2; omega, by omega⟩)
      have := canon_mem h.2.2 hm
      omega
    · exact canon_last h.2.2 x hx
where
  canon_tail : ∀ {lo : Int} {l : List Sp} {s : Sp}, Canon lo (l ++ [s]) → s.1 < s.2
  | _, [], _, h => h.2.1
  | _, _ :: _, _, h => canon_tail h.2.2
theorem swept_zero (op : Int → Prop) : Swept op 0 [] := ⟨trivial, fun s hs => absurd hs (by simp), fun k => by simp only [mem_nil, false_iff]; omega⟩
theorem swept_skip {op : Int → Prop} {at_ to : Int} {out : List Sp} (h : Swept op at_ out) (hlt : at_ < to) (hs : ∀ k, at_ ≤ k → k < to → (op k ↔ op at_)) (hn : ¬ op at_) : Swept op to out :=
  ⟨h.canon, fun s hs => by have := h.below s hs; omega, fun k => by
    rw [h.holds k]
    constructor
    · intro g; exact ⟨g.1, by omega, g.2.2⟩
    · intro g
      refine ⟨g.1, Int.not_le.1 fun hk => ?_, g.2.2⟩
      exact hn ((hs k hk g.2.1).1 g.2.2)⟩
theorem swept_put {op : Int → Prop} {at_ to : Int} {out : List Sp} (h0 : 0 ≤ at_) (h : Swept op at_ out) (hlt : at_ < to) (hs : ∀ k, at_ ≤ k → k < to → (op k ↔ op at_)) (hy : op at_) : Swept op to (putL out at_ to) := by
  have hm : ∀ k, (0 ≤ k ∧ k < to ∧ op k) ↔ mem out k ∨ (at_ ≤ k ∧ k < to) := fun k => by
    rw [h.holds k]
    constructor
    · intro g
      by_cases hk : k < at_
      · exact .inl ⟨g.1, hk, g.2.2⟩
      · exact .inr ⟨by omega, g.2.1⟩
    · rintro (g | g)
      · exact ⟨g.1, by omega, g.2.2⟩
      · exact ⟨by omega, g.2, (hs k g.1 g.2).2 hy⟩
  unfold putL
  split
  · rename_i s hl
    obtain ⟨l, rfl⟩ : ∃ l, out = l ++ [s] := by
      have := List.getLast?_eq_some_iff.1 hl
      exact this
    have hc := h.canon
    have hb := h.below s (by simp)
    split
    · rename_i he
      rw [List.dropLast_concat]
      refine ⟨canon_end hc (by omega), fun x hx => ?_, fun k => ?_⟩
      · rcases List.mem_append.1 hx with hx | hx
        · have := h.below x (by simp [hx]); omega
        · simp at hx; subst hx; exact Int.le_refl _
      · rw [hm k, mem_append, mem_append, mem_one, or_assoc]
        have hsl := canon_last.canon_tail hc
        have e : mem [s] k ↔ s.1 ≤ k ∧ k < s.2 := mem_one s.1 s.2 k
        rw [e]
        constructor
        · rintro (g | g)
          · exact .inl g
          · by_cases hk : k < s.2
            · exact .inr (.inl ⟨g.1, hk⟩)
            · exact .inr (.inr ⟨by omega, g.2⟩)
        · rintro (g | g | g)
          · exact .inl g
          · exact .inr ⟨g.1, by omega⟩
          · exact .inr ⟨by omega, g.2⟩
    · rename_i he
      refine ⟨canon_snoc hc (by omega) (fun x hx => ?_) hlt, fun x hx => ?_, fun k => ?_⟩
      · rcases List.mem_append.1 hx with hx | hx
        · have := canon_last hc x hx; omega
        · simp at hx; subst hx; omega
      · rcases List.mem_append.1 hx with hx | hx
        · have := h.below x hx; omega
        · simp at hx; subst hx; exact Int.le_refl _
      · rw [hm k, mem_append, mem_one]
  · rename_i hl
    obtain rfl : out = [] := List.getLast?_eq_none_iff.1 hl
    refine ⟨⟨by show -1 < at_; omega, hlt, trivial⟩, fun x hx => ?_, fun k => ?_⟩
    · simp at hx; subst hx; exact Int.le_refl _
    · rw [hm k, mem_one]
      constructor
      · exact .inr
      · rintro (g | g)
        · exact absurd g (mem_nil k)
        · exact g

/-! ### sizes -/
def sizeL : List Sp → Int
  | [] => 0
  | s :: l => (s.2 - s.1) + sizeL l
open Classical in
noncomputable def cnt (l : List Sp) (n : Nat) : Nat := (List.range n).countP fun i : Nat => decide (mem l (i : Int))
open Classical in
theorem cnt_or {l a c : List Sp} (h : ∀ k, mem l k ↔ mem a k ∨ mem c k) (hd : ∀ k, mem a k → ¬ mem c k) : ∀ n, cnt l n = cnt a n + cnt c n
  | 0 => rfl
  | n + 1 => by
    have ih := cnt_or h hd n
    unfold cnt at ih ⊢
    rw [List.range_succ, List.countP_append, List.countP_append, List.countP_append, ih]
    simp only [List.countP_singleton, decide_eq_true_eq]
    have := h n
    have := hd n
    by_cases g1 : mem a n <;> by_cases g2 : mem c n <;> simp_all <;> omega
open Classical in
theorem cnt_one {f t : Int} (h0 : 0 ≤ f) (ht : f ≤ t) : ∀ n : Nat, (cnt [(f, t)] n : Int) = min (n : Int) t - min (n : Int) f
  | 0 => by simp [cnt]; omega
  | n + 1 => by
    have ih := cnt_one h0 ht n
    unfold cnt at ih ⊢
    rw [List.range_succ, List.countP_append]
    simp only [List.countP_singleton, decide_eq_true_eq, mem_one] at ih ⊢
    split <;> (push_cast; omega)
theorem cnt_size : ∀ {lo : Int} {l : List Sp} {n : Nat}, -1 ≤ lo → Canon lo l → Below n l → (cnt l n : Int) = sizeL l
  | _, [], n, _, _, _ => by
    have : ∀ i : Nat, ¬ mem [] (i : Int) := fun i => mem_nil _
    simp [cnt, sizeL, this]
  | lo, s :: l, n, h0, h, hb => by
    have e := cnt_or (l := s :: l) (a := [(s.1, s.2)]) (c := l) (fun k => by rw [mem_cons, mem_one]) (fun k g g' => by
      have := canon_mem h.2.2 g'
      have := (mem_one _ _ _).1 g
      omega) n
    have g1 := h.1
    have g2 := h.2.1
    have g3 := hb s (by simp)
    have e1 := cnt_one (f := s.1) (t := s.2) (by omega) (by omega) n
    have e2 := cnt_size (lo := s.2) (l := l) (n := n) (by omega) h.2.2 (fun x hx => hb x (by simp [hx]))
    rw [e, sizeL]
    push_cast
    omega
/-- The size of what two that have nothing in common hold together. -/
theorem size_or {l a c : List Sp} {n : Nat} (hl : Canon (-1) l) (ha : Canon (-1) a) (hc : Canon (-1) c) (bl : Below n l) (ba : Below n a) (bc : Below n c) (h : ∀ k, mem l k ↔ mem a k ∨ mem c k) (hd : ∀ k, mem a k → ¬ mem c k) : sizeL l = sizeL a + sizeL c := by
  have := cnt_or h hd n
  have := cnt_size (n := n) (Int.le_refl _) hl bl
  have := cnt_size (n := n) (Int.le_refl _) ha ba
  have := cnt_size (n := n) (Int.le_refl _) hc bc
  omega
end Go.SpanLaw
