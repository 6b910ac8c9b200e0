/-
  The plain law of spans, part 2: the reference's sweep, sizes.
-/
import Derived.Test.YtphmgjcjcdodhaaSpanLaw
namespace Go.SpanLaw

/-! ### the reference's sweep -/
def nextF (at_ : Int) : Int → List Sp → Int
  | out, [] => out
  | out, s :: l => nextF at_ (if at_ < s.2 then min (if at_ < s.1 then min out s.1 else out) s.2 else (if at_ < s.1 then min out s.1 else out)) l
theorem nextF_le (at_ : Int) : ∀ (l : List Sp) (out : Int), nextF at_ out l ≤ out
  | [], _ => Int.le_refl _
  | s :: l, out => by
    refine Int.le_trans (nextF_le at_ l _) ?_
    split <;> split <;> omega
theorem nextF_gt {at_ : Int} : ∀ {l : List Sp} {out : Int}, at_ < out → at_ < nextF at_ out l
  | [], _, h => h
  | s :: l, out, h => by
    refine nextF_gt (l := l) ?_
    split <;> split <;> omega
theorem nextF_end {at_ : Int} : ∀ {l : List Sp} {out : Int} {s : Sp}, s ∈ l → (at_ < s.1 → nextF at_ out l ≤ s.1) ∧ (at_ < s.2 → nextF at_ out l ≤ s.2)
  | r :: l, out, s, hs => by
    rcases List.mem_cons.1 hs with rfl | hs
    · have h := nextF_le at_ l (if at_ < s.2 then min (if at_ < s.1 then min out s.1 else out) s.2 else (if at_ < s.1 then min out s.1 else out))
      constructor
      · intro g
        refine Int.le_trans h ?_
        simp only [g, if_true]
        split <;> omega
      · intro g
        refine Int.le_trans h ?_
        simp only [g, if_true]
        split <;> omega
    · exact nextF_end (l := l) hs
/-- Between two ends nothing changes. -/
theorem nextF_same {at_ out k : Int} {l : List Sp} (h1 : at_ ≤ k) (h2 : k < nextF at_ out l) : mem l k ↔ mem l at_ := by
  constructor
  · rintro ⟨s, hs, g1, g2⟩
    obtain ⟨e1, _⟩ := nextF_end (at_ := at_) (out := out) hs
    refine ⟨s, hs, ?_, by omega⟩
    exact Int.not_lt.1 fun h => by have := e1 h; omega
  · rintro ⟨s, hs, g1, g2⟩
    obtain ⟨_, e2⟩ := nextF_end (at_ := at_) (out := out) hs
    have := e2 g2
    exact ⟨s, hs, by omega, by omega⟩
/-- put. -/
def putL (l : List Sp) (f t : Int) : List Sp := match l.getLast? with
  | some s => if s.2 = f then l.dropLast ++ [(s.1, t)] else l ++ [(f, t)]
  | none => [(f, t)]
/-- What the sweep has made so far. -/
structure Swept (op : Int → Prop) (at_ : Int) (out : List Sp) : Prop where
  canon : Canon (-1) out
  below : Below at_ out
  holds : ∀ k, mem out k ↔ 0 ≤ k ∧ k < at_ ∧ op k
theorem canon_end : ∀ {lo : Int} {l : List Sp} {s : Sp} {t : Int}, Canon lo (l ++ [s]) → s.2 ≤ t → Canon lo (l ++ [(s.1, t)])
  | lo, [], s, t, h, ht => ⟨h.1, by have := h.2.1; show s.1 < t; omega, trivial⟩
  | lo, r :: l, s, t, h, ht => ⟨h.1, h.2.1, canon_end h.2.2 ht⟩
theorem canon_snoc : ∀ {lo : Int} {l : List Sp} {f t : Int}, Canon lo l → lo < f → (∀ s ∈ l, s.2 < f) → f < t → Canon lo (l ++ [(f, t)])
  | lo, [], f, t, _, hf, _, ht => ⟨hf, ht, trivial⟩
  | lo, r :: l, f, t, h, hf, hb, ht => ⟨h.1, h.2.1, canon_snoc h.2.2 (hb r (by simp)) (fun s hs => hb s (by simp [hs])) ht⟩
theorem canon_last : ∀ {lo : Int} {l : List Sp} {s : Sp}, Canon lo (l ++ [s]) → ∀ x ∈ l, x.2 < s.2
  | lo, r :: l, s, h, x, hx => by
    rcases List.mem_cons.1 hx with rfl | hx
    · have hm : mem (l ++ [s]) (s.2 - 1) := (mem_append _ _ _).2 (.inr ⟨s, by simp, by have := canon_tail h.2.2; omega, by omega⟩)
      have := canon_mem h.2.2 hm
      omega
    · exact canon_last h.2.2 x hx
where
  canon_tail : ∀ {lo : Int} {l : List Sp} {s : Sp}, Canon lo (l ++ [s]) → s.1 < s.2
  | _, [], _, h => h.2.1
  | _, _ :: _, _, h => canon_tail h.2.2
theorem swept_zero (op : Int → Prop) : Swept op 0 [] := ⟨trivial, fun s hs => absurd hs (by simp), fun k => by simp only [mem_nil, false_iff]; omega⟩
theorem swept_skip {op : Int → Prop} {at_ to : Int} {out : List Sp} (h : Swept op at_ out) (hlt : at_ < to) (hs : ∀ k, at_ ≤ k → k < to → (op k ↔ op at_)) (hn : ¬ op at_) : Swept op to out :=
  ⟨h.canon, fun s hs => by have := h.below s hs; omega, fun k => by
    rw [h.holds k]
    constructor
    · intro g; exact ⟨g.1, by omega, g.2.2⟩
    · intro g
      refine ⟨g.1, Int.not_le.1 fun hk => ?_, g.2.2⟩
      exact hn ((hs k hk g.2.1).1 g.2.2)⟩
theorem swept_put {op : Int → Prop} {at_ to : Int} {out : List Sp} (h0 : 0 ≤ at_) (h : Swept op at_ out) (hlt : at_ < to) (hs : ∀ k, at_ ≤ k → k < to → (op k ↔ op at_)) (hy : op at_) : Swept op to (putL out at_ to) := by
  have hm : ∀ k, (0 ≤ k ∧ k < to ∧ op k) ↔ mem out k ∨ (at_ ≤ k ∧ k < to) := fun k => by
    rw [h.holds k]
    constructor
    · intro g
      by_cases hk : k < at_
      · exact .inl ⟨g.1, hk, g.2.2⟩
      · exact .inr ⟨by omega, g.2.1⟩
    · rintro (g | g)
      · exact ⟨g.1, by omega, g.2.2⟩
      · exact ⟨by omega, g.2, (hs k g.1 g.2).2 hy⟩
  unfold putL
  split
  · rename_i s hl
    obtain ⟨l, rfl⟩ : ∃ l, out = l ++ [s] := by
      have := List.getLast?_eq_some_iff.1 hl
      exact this
    have hc := h.canon
    have hb := h.below s (by simp)
    split
    · rename_i he
      rw [List.dropLast_concat]
      refine ⟨canon_end hc (by omega), fun x hx => ?_, fun k => ?_⟩
      · rcases List.mem_append.1 hx with hx | hx
        · have := h.below x (by simp [hx]); omega
        · simp at hx; subst hx; exact Int.le_refl _
      · rw [hm k, mem_append, mem_append, mem_one, or_assoc]
        have hsl := canon_last.canon_tail hc
        have e : mem [s] k ↔ s.1 ≤ k ∧ k < s.2 := mem_one s.1 s.2 k
        rw [e]
        constructor
        · rintro (g | g)
          · exact .inl g
          · by_cases hk : k < s.2
            · exact .inr (.inl ⟨g.1, hk⟩)
            · exact .inr (.inr ⟨by omega, g.2⟩)
        · rintro (g | g | g)
          · exact .inl g
          · exact .inr ⟨g.1, by omega⟩
          · exact .inr ⟨by omega, g.2⟩
    · rename_i he
      refine ⟨canon_snoc hc (by omega) (fun x hx => ?_) hlt, fun x hx => ?_, fun k => ?_⟩
      · rcases List.mem_append.1 hx with hx | hx
        · have := canon_last hc x hx; omega
        · simp at hx; subst hx; omega
      · rcases List.mem_append.1 hx with hx | hx
        · have := h.below x hx; omega
        · simp at hx; subst hx; exact Int.le_refl _
      · rw [hm k, mem_append, mem_one]
  · rename_i hl
    obtain rfl : out = [] := List.getLast?_eq_none_iff.1 hl
    refine ⟨⟨by show -1 < at_; omega, hlt, trivial⟩, fun x hx => ?_, fun k => ?_⟩
    · simp at hx; subst hx; exact Int.le_refl _
    · rw [hm k, mem_one]
      constructor
      · exact .inr
      · rintro (g | g)
        · exact absurd g (mem_nil k)
        · exact g

/-! ### sizes -/
def sizeL : List Sp → Int
  | [] => 0
  | s :: l => (s.2 - s.1) + sizeL l
open Classical in
noncomputable def cnt (l : List Sp) (n : Nat) : Nat := (List.range n).countP fun i : Nat => decide (mem l (i : Int))
open Classical in
theorem cnt_or {l a c : List Sp} (h : ∀ k, mem l k ↔ mem a k ∨ mem c k) (hd : ∀ k, mem a k → ¬ mem c k) : ∀ n, cnt l n = cnt a n + cnt c n
  | 0 => rfl
  | n + 1 => by
    have ih := cnt_or h hd n
    unfold cnt at ih ⊢
    rw [List.range_succ, List.countP_append, List.countP_append, List.countP_append, ih]
    simp only [List.countP_singleton, decide_eq_true_eq]
    have := h n
    have := hd n
    by_cases g1 : mem a n <;> by_cases g2 : mem c n <;> simp_all <;> omega
open Classical in
theorem cnt_one {f t : Int} (h0 : 0 ≤ f) (ht : f ≤ t) : ∀ n : Nat, (cnt [(f, t)] n : Int) = min (n : Int) t - min (n : Int) f
  | 0 => by simp [cnt]; omega
  | n + 1 => by
    have ih := cnt_one h0 ht n
    unfold cnt at ih ⊢
    rw [List.range_succ, List.countP_append]
    simp only [List.countP_singleton, decide_eq_true_eq, mem_one] at ih ⊢
    split <;> (push_cast; omega)
theorem cnt_size : ∀ {lo : Int} {l : List Sp} {n : Nat}, -1 ≤ lo → Canon lo l → Below n l → (cnt l n : Int) = sizeL l
  | _, [], n, _, _, _ => by
    have : ∀ i : Nat, ¬ mem [] (i : Int) := fun i => mem_nil _
    simp [cnt, sizeL, this]
  | lo, s :: l, n, h0, h, hb => by
    have e := cnt_or (l := s :: l) (a := [(s.1, s.2)]) (c := l) (fun k => by rw [mem_cons, mem_one]) (fun k g g' => by
      have := canon_mem h.2.2 g'
      have := (mem_one _ _ _).1 g
      omega) n
    have g1 := h.1
    have g2 := h.2.1
    have g3 := hb s (by simp)
    have e1 := cnt_one (f := s.1) (t := s.2) (by omega) (by omega) n
    have e2 := cnt_size (lo := s.2) (l := l) (n := n) (by omega) h.2.2 (fun x hx => hb x (by simp [hx]))
    rw [e, sizeL]
    push_cast
    omega
/-- The size of what two that have nothing in common hold together. -/
theorem size_or {l a c : List Sp} {n : Nat} (hl : Canon (-1) l) (ha : Canon (-1) a) (hc : Canon (-1) c) (bl : Below n l) (ba : Below n a) (bc : Below n c) (h : ∀ k, mem l k ↔ mem a k ∨ mem c k) (hd : ∀ k, mem a k → ¬ mem c k) : sizeL l = sizeL a + sizeL c := by
  have := cnt_or h hd n
  have := cnt_size (n := n) (Int.le_refl _) hl bl
  have := cnt_size (n := n) (Int.le_refl _) ha ba
  have := cnt_size (n := n) (Int.le_refl _) hc bc
  omega
end Go.SpanLaw
