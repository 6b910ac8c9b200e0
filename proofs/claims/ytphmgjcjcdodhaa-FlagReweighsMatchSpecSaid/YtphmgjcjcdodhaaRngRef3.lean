/-
  Ranges: the plain law of the reference's ramp.
-/
import Derived.Test.YtphmgjcjcdodhaaRngRef
import Derived.Lib.SlicesCompact
namespace Go.Proofs.Ytphmgjcjcdodhaa
open Go.RowKit Go.AM

def varAt : List Rg → Int → Int
  | [], _ => 0
  | r :: l, x => if r.1 ≤ x ∧ x < r.2.1 then r.2.2 else varAt l x
theorem varAt_line : ∀ {lo hi : Int} {l : List Rg}, Line lo hi l → ∀ x, lo ≤ x → x < hi → varAt l x = atv l x
  | lo, hi, [], h, x, h1, h2 => by have h : lo = hi := h; omega
  | lo, hi, r :: l, h, x, h1, h2 => by
    obtain ⟨g1, g2, g3⟩ := h
    rw [varAt, atv]
    by_cases c : x < r.2.1
    · rw [if_pos ⟨by omega, c⟩, if_pos c]
    · rw [if_neg (by omega), if_neg c]
      exact varAt_line g3 x (by omega) h2

/-! ### cuts -/
def ends (l : List Rg) : List Int := l.flatMap fun r => [r.1, r.2.1]
def cutB (a b : List Rg) : List Int := [0, 100000] ++ ends a ++ ends b
def cutL (a b : List Rg) : List Int := Lib.compact ((cutB a b).mergeSort fun x y => decide (x ≤ y))
theorem compact_sorted {zs : List Int} (h : zs.Pairwise (· ≤ ·)) : (Lib.compact zs).Pairwise (· < ·) := by
  unfold Lib.compact Lib.compactUpTo
  rw [List.pairwise_map]
  have h0 : ((List.range zs.length).filter (Lib.keeps zs.toArray)).Pairwise (· < ·) := List.pairwise_lt_range.filter _
  refine h0.imp_of_mem fun {i j} hi hj hij => ?_
  have hi' := List.mem_range.1 (List.mem_filter.1 hi).1
  have hj' := List.mem_range.1 (List.mem_filter.1 hj).1
  have hkj := (List.mem_filter.1 hj).2
  have gi : zs.toArray[i]! = zs[i] := by rw [getElem!_pos _ i (by simpa using hi')]; simp
  have gj : zs.toArray[j]! = zs[j] := by rw [getElem!_pos _ j (by simpa using hj')]; simp
  have gp : zs.toArray[j - 1]! = zs[j - 1] := by rw [getElem!_pos _ (j - 1) (by simp; omega)]; simp
  unfold Lib.keeps at hkj
  rw [gj, gp] at hkj
  have hne : zs[j] ≠ zs[j - 1] := by
    have := of_decide_eq_true hkj
    omega
  rw [gi, gj]
  have hp := List.pairwise_iff_getElem.1 h
  have h1 : zs[j - 1] ≤ zs[j] := hp (j - 1) j (by omega) hj' (by omega)
  have h2 : zs[i] ≤ zs[j - 1] := by
    by_cases c : i = j - 1
    · subst c; exact Int.le_refl _
    · exact hp i (j - 1) hi' (by omega) (by omega)
  omega
theorem compact_mem {zs : List Int} {c : Int} : c ∈ Lib.compact zs ↔ c ∈ zs := by
  unfold Lib.compact Lib.compactUpTo
  constructor
  · intro h
    obtain ⟨i, hi, rfl⟩ := List.mem_map.1 h
    have hi' := List.mem_range.1 (List.mem_filter.1 hi).1
    rw [getElem!_pos _ i (by simpa using hi')]
    simp
  · intro h
    have key : ∀ (n : Nat) (i : Nat) (hi : i < zs.length), i ≤ n → zs[i] = c → c ∈ ((List.range zs.length).filter (Lib.keeps zs.toArray)).map (zs.toArray[·]!) := by
      intro n
      induction n with
      | zero =>
        intro i hi h0 hc
        obtain rfl : i = 0 := by omega
        refine List.mem_map.2 ⟨0, List.mem_filter.2 ⟨List.mem_range.2 hi, by simp [Lib.keeps]⟩, ?_⟩
        rw [getElem!_pos _ 0 (by simpa using hi)]; simpa using hc
      | succ n ih =>
        intro i hi hn hc
        by_cases c0 : i = 0
        · subst c0
          exact ih 0 hi (by omega) hc
        · by_cases c1 : zs[i] = zs[i - 1]
          · exact ih (i - 1) (by omega) (by omega) (by rw [← c1]; exact hc)
          · refine List.mem_map.2 ⟨i, List.mem_filter.2 ⟨List.mem_range.2 hi, ?_⟩, ?_⟩
            · unfold Lib.keeps
              rw [getElem!_pos _ i (by simpa using hi), getElem!_pos _ (i - 1) (by simp; omega)]
              simp [c1]
            · rw [getElem!_pos _ i (by simpa using hi)]; simpa using hc
    obtain ⟨i, hi, e⟩ := List.getElem_of_mem h
    exact key i i hi (Nat.le_refl _) e
theorem cutL_mem {a b : List Rg} {c : Int} : c ∈ cutL a b ↔ c ∈ cutB a b := by
  unfold cutL
  rw [compact_mem, List.mem_mergeSort]
theorem cutL_sorted (a b : List Rg) : (cutL a b).Pairwise (· < ·) := by
  refine compact_sorted ?_
  have := List.pairwise_mergeSort (le := fun x y : Int => decide (x ≤ y)) (fun x y z h1 h2 => by simp at *; omega) (fun x y => by simp; omega) (cutB a b)
  exact this.imp fun h => by simpa using h
def RBnd (l : List Rg) : Prop := ∀ r ∈ l, (0 ≤ r.1 ∧ r.1 ≤ 100000) ∧ 0 ≤ r.2.1 ∧ r.2.1 ≤ 100000
theorem ends_mem {l : List Rg} {c : Int} : c ∈ ends l ↔ ∃ r ∈ l, c = r.1 ∨ c = r.2.1 := by
  unfold ends
  simp [List.mem_flatMap]
/-- The cuts, one behind the other. -/
structure Cuts (a b : List Rg) (L : List Int) : Prop where
  many : 2 ≤ L.length
  first : ∀ h : 0 < L.length, L[0] = 0
  last : ∀ h : L.length - 1 < L.length, L[L.length - 1] = 100000
  incr : ∀ i j (hi : i < L.length) (hj : j < L.length), i < j → L[i] < L[j]
  in_ : ∀ c ∈ L, 0 ≤ c ∧ c ≤ 100000
  ea : ∀ r ∈ a, r.1 ∈ L ∧ r.2.1 ∈ L
  eb : ∀ r ∈ b, r.1 ∈ L ∧ r.2.1 ∈ L
theorem cuts_ok {a b : List Rg} (ha : RBnd a) (hb : RBnd b) : Cuts a b (cutL a b) := by
  have hin : ∀ c ∈ cutL a b, 0 ≤ c ∧ c ≤ 100000 := fun c hc => by
    have := cutL_mem.1 hc
    unfold cutB at this
    rcases List.mem_append.1 this with h | h
    · rcases List.mem_append.1 h with h | h
      · simp at h; omega
      · obtain ⟨r, hr, e⟩ := ends_mem.1 h
        have := ha r hr
        omega
    · obtain ⟨r, hr, e⟩ := ends_mem.1 h
      have := hb r hr
      omega
  have h0 : (0 : Int) ∈ cutL a b := cutL_mem.2 (by simp [cutB])
  have h1 : (100000 : Int) ∈ cutL a b := cutL_mem.2 (by simp [cutB])
  have hinc : ∀ i j (hi : i < (cutL a b).length) (hj : j < (cutL a b).length), i < j → (cutL a b)[i] < (cutL a b)[j] := fun i j hi hj hij => List.pairwise_iff_getElem.1 (cutL_sorted a b) i j hi hj hij
  obtain ⟨i0, hi0, e0⟩ := List.getElem_of_mem h0
  obtain ⟨i1, hi1, e1⟩ := List.getElem_of_mem h1
  have hne : i0 ≠ i1 := by rintro rfl; omega
  refine ⟨by omega, fun h => ?_, fun h => ?_, hinc, hin, fun r hr => ⟨cutL_mem.2 ?_, cutL_mem.2 ?_⟩, fun r hr => ⟨cutL_mem.2 ?_, cutL_mem.2 ?_⟩⟩
  · have g := hin _ (List.getElem_mem h)
    rcases Nat.eq_zero_or_pos i0 with c | c
    · subst c; exact e0
    · have := hinc 0 i0 h hi0 c; omega
  · have g := hin _ (List.getElem_mem h)
    by_cases c : i1 = (cutL a b).length - 1
    · subst c; exact e1
    · have := hinc i1 _ hi1 h (by omega); omega
  all_goals
    unfold cutB
    simp only [List.mem_append, ends_mem]
  · exact .inl (.inr ⟨r, hr, .inl rfl⟩)
  · exact .inl (.inr ⟨r, hr, .inr rfl⟩)
  · exact .inr ⟨r, hr, .inl rfl⟩
  · exact .inr ⟨r, hr, .inr rfl⟩
theorem Cuts.between {a b : List Rg} {L : List Int} (h : Cuts a b L) {k : Nat} (hk : k + 1 < L.length) {c : Int} (hc : c ∈ L) : c ≤ L[k] ∨ L[k + 1] ≤ c := by
  obtain ⟨j, hj, rfl⟩ := List.getElem_of_mem hc
  rcases Nat.lt_trichotomy j k with e | e | e
  · exact .inl (by have := h.incr j k hj (by omega) e; omega)
  · subst e; exact .inl (Int.le_refl _)
  · by_cases e2 : j = k + 1
    · subst e2; exact .inr (Int.le_refl _)
    · exact .inr (by have := h.incr (k + 1) j hk hj (by omega); omega)
theorem atv_const : ∀ {l : List Rg} {c x : Int}, c ≤ x → (∀ r ∈ l, r.2.1 ≤ c ∨ x < r.2.1) → atv l c = atv l x
  | [], _, _, _, _ => rfl
  | r :: l, c, x, h, hr => by
    rw [atv, atv]
    rcases hr r (by simp) with e | e
    · rw [if_neg (by omega), if_neg (by omega)]
      exact atv_const h fun s hs => hr s (by simp [hs])
    · rw [if_pos (by omega), if_pos e]

/-! ### ranges with gaps -/
def rgAt : List Rg → Int → Option Int
  | [], _ => none
  | r :: l, x => if r.1 ≤ x ∧ x < r.2.1 then some r.2.2 else rgAt l x
theorem rgAt_append : ∀ (a b : List Rg) (x : Int), rgAt (a ++ b) x = (rgAt a x).or (rgAt b x)
  | [], b, x => by simp [rgAt]
  | r :: a, b, x => by
    rw [List.cons_append, rgAt, rgAt]
    split
    · rfl
    · exact rgAt_append a b x
theorem rgAt_none : ∀ {l : List Rg} {x : Int}, (∀ r ∈ l, x < r.1 ∨ r.2.1 ≤ x) → rgAt l x = none
  | [], _, _ => rfl
  | r :: l, x, h => by
    have := h r (by simp)
    rw [rgAt, if_neg (by omega)]
    exact rgAt_none fun s hs => h s (by simp [hs])
structure Ord (hi : Int) (d : List Rg) : Prop where
  pw : d.Pairwise fun a b => a.2.1 ≤ b.1
  mem : ∀ r ∈ d, 0 ≤ r.1 ∧ r.1 < r.2.1 ∧ r.2.1 ≤ hi
theorem Ord.up {hi hi' : Int} {d : List Rg} (h : Ord hi d) (hh : hi ≤ hi') : Ord hi' d := ⟨h.pw, fun r hr => by have := h.mem r hr; omega⟩
theorem Ord.above {hi x : Int} {d : List Rg} (h : Ord hi d) (hx : hi ≤ x) : rgAt d x = none := rgAt_none fun r hr => .inr (by have := h.mem r hr; omega)
theorem putR_ord {f t v : Int} {d : List Rg} (h : Ord f d) (h0 : 0 ≤ f) (hc : f ≤ t) : Ord t (putR d f t v) ∧ ∀ x, rgAt (putR d f t v) x = if f ≤ x ∧ x < t then some v else rgAt d x := by
  by_cases c : f < t
  · rcases snoc_cases d with rfl | ⟨e, s, rfl⟩
    · rw [putR_one c]
      refine ⟨⟨by simp, fun r hr => ?_⟩, fun x => rfl⟩
      obtain rfl : r = (f, t, v) := by simpa using hr
      exact ⟨h0, c, Int.le_refl _⟩
    · rw [putR_end c]
      obtain ⟨p1, p2, p3⟩ := List.pairwise_append.1 h.pw
      have hs := h.mem s (by simp)
      split
      · rename_i hs2
        refine ⟨⟨List.pairwise_append.2 ⟨p1, by simp, fun a ha b hb => ?_⟩, fun r hr => ?_⟩, fun x => ?_⟩
        · obtain rfl : b = (s.1, t, v) := by simpa using hb
          exact p3 a ha s (by simp)
        · rcases List.mem_append.1 hr with hr | hr
          · have := h.mem r (by simp [hr]); omega
          · obtain rfl : r = (s.1, t, v) := by simpa using hr
            exact ⟨hs.1, by show s.1 < t; omega, Int.le_refl _⟩
        · rw [rgAt_append, rgAt_append]
          simp only [rgAt]
          by_cases c1 : f ≤ x ∧ x < t
          · rw [if_pos c1]
            have : rgAt e x = none := rgAt_none fun r hr => .inr (by have := h.mem r (by simp [hr]); omega)
            rw [this, if_pos (by omega)]; rfl
          · rw [if_neg c1]
            by_cases c2 : s.1 ≤ x ∧ x < s.2.1
            · rw [if_pos (by omega), if_pos c2, hs2.2]
            · rw [if_neg (by omega), if_neg c2]
      · refine ⟨⟨List.pairwise_append.2 ⟨h.pw, by simp, fun a ha b hb => ?_⟩, fun r hr => ?_⟩, fun x => ?_⟩
        · obtain rfl : b = (f, t, v) := by simpa using hb
          exact (h.mem a ha).2.2
        · rcases List.mem_append.1 hr with hr | hr
          · have := h.mem r hr; omega
          · obtain rfl : r = (f, t, v) := by simpa using hr
            exact ⟨h0, c, Int.le_refl _⟩
        · rw [rgAt_append]
          simp only [rgAt]
          by_cases c1 : f ≤ x ∧ x < t
          · rw [if_pos c1, if_pos c1, h.above c1.1]; rfl
          · rw [if_neg c1, if_neg c1]; simp
  · rw [putR_skip (by omega)]
    have : f = t := by omega
    subst this
    exact ⟨h, fun x => by rw [if_neg (by omega)]⟩
theorem rgAt_const : ∀ {l : List Rg} {c x : Int}, c ≤ x → (∀ r ∈ l, (r.1 ≤ c ∨ x < r.1) ∧ (r.2.1 ≤ c ∨ x < r.2.1)) → rgAt l c = rgAt l x
  | [], _, _, _, _ => rfl
  | r :: l, c, x, h, hr => by
    have := hr r (by simp)
    rw [rgAt, rgAt, rgAt_const h fun s hs => hr s (by simp [hs])]
    by_cases e : r.1 ≤ c ∧ c < r.2.1
    · rw [if_pos e, if_pos (by omega)]
    · rw [if_neg e, if_neg (by omega)]

/-! ### moved -/
def mvB (a b : List Rg) (x : Int) : Bool := atv a x != atv b x
def rmv (a b : List Rg) (L : List Int) : Nat → List Rg
  | 0 => []
  | k + 1 => if varAt b (L.getD k 0) = varAt a (L.getD k 0) then rmv a b L k else putR (rmv a b L k) (L.getD k 0) (L.getD (k + 1) 0) (varAt b (L.getD k 0))
theorem rmv_length (a b : List Rg) (L : List Int) : ∀ k, (rmv a b L k).length ≤ k
  | 0 => Nat.le_refl _
  | k + 1 => by
    have h1 := rmv_length a b L k
    rw [rmv]
    split
    · omega
    · have := putR_len (rmv a b L k) (L.getD k 0) (L.getD (k + 1) 0) (varAt b (L.getD k 0)); omega
theorem rmv_ok {a b : List Rg} {L : List Int} (ha : Line 0 100000 a) (hb : Line 0 100000 b) (hL : Cuts a b L) : ∀ (k : Nat) (hk : k < L.length), Ord L[k] (rmv a b L k) ∧ (∀ x, rgAt (rmv a b L k) x = if 0 ≤ x ∧ x < L[k] ∧ mvB a b x = true then some (atv b x) else none) ∧ rsz (rmv a b L k) = cnt (mvB a b) 0 L[k]
  | 0, hk => by
    have e := hL.first hk
    refine ⟨⟨.nil, by simp [rmv]⟩, fun x => ?_, ?_⟩
    · rw [e, if_neg (by omega)]; rfl
    · rw [e, cnt_none fun x h1 h2 => by omega]; rfl
  | k + 1, hk => by
    obtain ⟨g1, g2, g3⟩ := rmv_ok ha hb hL k (by omega)
    have hlt := hL.incr k (k + 1) (by omega) hk (by omega)
    have b0 := hL.in_ _ (List.getElem_mem (show k < L.length by omega))
    have b1 := hL.in_ _ (List.getElem_mem hk)
    have d0 : L.getD k 0 = L[k] := by simp [List.getD_eq_getElem?_getD, show k < L.length by omega]
    have d1 : L.getD (k + 1) 0 = L[k + 1] := by simp [List.getD_eq_getElem?_getD, hk]
    have ca : ∀ x, L[k] ≤ x → x < L[k + 1] → atv a L[k] = atv a x := fun x h1 h2 => atv_const h1 fun r hr => by
      rcases hL.between hk (hL.ea r hr).2 with e | e
      · exact .inl e
      · exact .inr (by omega)
    have cb : ∀ x, L[k] ≤ x → x < L[k + 1] → atv b L[k] = atv b x := fun x h1 h2 => atv_const h1 fun r hr => by
      rcases hL.between hk (hL.eb r hr).2 with e | e
      · exact .inl e
      · exact .inr (by omega)
    have va : varAt a L[k] = atv a L[k] := varAt_line ha _ (by omega) (by omega)
    have vb : varAt b L[k] = atv b L[k] := varAt_line hb _ (by omega) (by omega)
    rw [rmv, d0, d1, va, vb]
    split
    · rename_i c
      have hm : ∀ x, L[k] ≤ x → x < L[k + 1] → mvB a b x = false := fun x h1 h2 => by
        unfold mvB
        rw [← ca x h1 h2, ← cb x h1 h2, c]; simp
      refine ⟨g1.up (by omega), fun x => ?_, ?_⟩
      · rw [g2 x]
        by_cases c1 : 0 ≤ x ∧ x < L[k] ∧ mvB a b x = true
        · rw [if_pos c1, if_pos ⟨c1.1, by omega, c1.2.2⟩]
        · rw [if_neg c1, if_neg]
          rintro ⟨e1, e2, e3⟩
          by_cases c2 : x < L[k]
          · exact c1 ⟨e1, c2, e3⟩
          · rw [hm x (by omega) e2] at e3; cases e3
      · rw [g3, cnt_split (m := L[k]) (hi := L[k + 1]) _ (by omega) (by omega), cnt_none (lo := L[k]) hm]; omega
    · rename_i c
      have hm : ∀ x, L[k] ≤ x → x < L[k + 1] → mvB a b x = true := fun x h1 h2 => by
        unfold mvB
        rw [← ca x h1 h2, ← cb x h1 h2]
        simp only [bne_iff_ne, ne_eq]
        exact fun e => c e.symm
      obtain ⟨o1, o2⟩ := putR_ord (t := L[k + 1]) (v := atv b L[k]) g1 b0.1 (by omega)
      refine ⟨o1, fun x => ?_, ?_⟩
      · rw [o2 x, g2 x]
        by_cases c1 : L[k] ≤ x ∧ x < L[k + 1]
        · rw [if_pos c1, if_pos ⟨by omega, c1.2, hm x c1.1 c1.2⟩, cb x c1.1 c1.2]
        · rw [if_neg c1]
          by_cases c2 : 0 ≤ x ∧ x < L[k] ∧ mvB a b x = true
          · rw [if_pos c2, if_pos ⟨c2.1, by omega, c2.2.2⟩]
          · rw [if_neg c2, if_neg]
            rintro ⟨e1, e2, e3⟩
            exact c2 ⟨e1, by omega, e3⟩
      · rw [putR_rsz (by omega), g3, cnt_split (m := L[k]) (hi := L[k + 1]) _ (by omega) (by omega), cnt_all (lo := L[k]) (by omega) hm]
/-- What the reference says is moved. -/
def rmoved (a b : List Rg) : List Rg := rmv a b (cutL a b) ((cutL a b).length - 1)
theorem line_bnd {l : List Rg} (h : Line 0 100000 l) : RBnd l := fun r hr => by have := h.mem r hr; omega
theorem rmoved_ok {a b : List Rg} (ha : Line 0 100000 a) (hb : Line 0 100000 b) : Ord 100000 (rmoved a b) ∧ (∀ x, rgAt (rmoved a b) x = if 0 ≤ x ∧ x < 100000 ∧ mvB a b x = true then some (atv b x) else none) ∧ rsz (rmoved a b) = cnt (mvB a b) 0 100000 := by
  have hL := cuts_ok (line_bnd ha) (line_bnd hb)
  have hm := hL.many
  have h := rmv_ok ha hb hL ((cutL a b).length - 1) (by omega)
  rw [hL.last (by omega)] at h
  exact h

/-! ### the first ones -/
def fsS (s : List Rg × Int) (r : Rg) : List Rg × Int := (putR s.1 r.1 (r.1 + min s.2 (r.2.1 - r.1)) r.2.2, s.2 - min s.2 (r.2.1 - r.1))
def fsL (l : List Rg) (m : Int) : List Rg × Int := l.foldl fsS ([], m)
theorem fsL_step {l : List Rg} {m : Int} {k : Nat} (h : k < l.length) : fsL (l.take (k + 1)) m = fsS (fsL (l.take k) m) l[k] := by
  unfold fsL
  rw [List.take_succ_eq_append_getElem h, List.foldl_append]
  rfl
theorem fs_length : ∀ (l : List Rg) (s : List Rg × Int), (l.foldl fsS s).1.length ≤ s.1.length + l.length
  | [], s => by simp
  | r :: l, s => by
    have h1 := fs_length l (fsS s r)
    have h2 := putR_len s.1 r.1 (r.1 + min s.2 (r.2.1 - r.1)) r.2.2
    have e : (fsS s r).1 = putR s.1 r.1 (r.1 + min s.2 (r.2.1 - r.1)) r.2.2 := rfl
    rw [e] at h1
    rw [List.foldl_cons, List.length_cons]
    omega
theorem fs_left : ∀ (l : List Rg) (s : List Rg × Int), (∀ r ∈ l, r.1 ≤ r.2.1) → 0 ≤ s.2 → 0 ≤ (l.foldl fsS s).2 ∧ (l.foldl fsS s).2 ≤ s.2
  | [], s, _, h => ⟨h, Int.le_refl _⟩
  | r :: l, s, hl, h => by
    have hp := hl r (by simp)
    have e : (fsS s r).2 = s.2 - min s.2 (r.2.1 - r.1) := rfl
    have := fs_left l (fsS s r) (fun q hq => hl q (by simp [hq])) (by omega)
    rw [List.foldl_cons]
    omega
def fsv : List Rg → Int → Int → Option Int
  | [], _, _ => none
  | r :: l, m, x => if r.1 ≤ x ∧ x < r.2.1 then (if x < r.1 + min m (r.2.1 - r.1) then some r.2.2 else none) else fsv l (m - min m (r.2.1 - r.1)) x
theorem fsv_below : ∀ {l : List Rg} {m x : Int}, (∀ r ∈ l, x < r.1) → fsv l m x = none
  | [], _, _, _ => rfl
  | r :: l, m, x, h => by
    have := h r (by simp)
    rw [fsv, if_neg (by omega)]
    exact fsv_below fun s hs => h s (by simp [hs])
theorem fs_ok : ∀ {l d : List Rg} {lo m : Int}, 0 ≤ lo → 0 ≤ m → Ord lo d → l.Pairwise (fun a b => a.2.1 ≤ b.1) → (∀ r ∈ l, lo ≤ r.1 ∧ r.1 < r.2.1 ∧ r.2.1 ≤ 100000) → lo ≤ 100000 → Ord 100000 (l.foldl fsS (d, m)).1 ∧ ∀ x, rgAt (l.foldl fsS (d, m)).1 x = if lo ≤ x then fsv l m x else rgAt d x
  | [], d, lo, m, _, _, hd, _, _, h5 => ⟨hd.up h5, fun x => by
      show rgAt d x = _
      by_cases c : lo ≤ x
      · rw [if_pos c, hd.above c]; rfl
      · rw [if_neg c]⟩
  | r :: l, d, lo, m, h0, hm, hd, hp, hr, h5 => by
    obtain ⟨q1, q2⟩ := List.pairwise_cons.1 hp
    have hr0 := hr r (by simp)
    obtain ⟨n, hn⟩ : ∃ n, min m (r.2.1 - r.1) = n := ⟨_, rfl⟩
    obtain ⟨o1, o2⟩ := putR_ord (t := r.1 + n) (v := r.2.2) (hd.up hr0.1) (by omega) (by omega)
    have e : fsS (d, m) r = (putR d r.1 (r.1 + n) r.2.2, m - n) := by simp only [fsS, hn]
    obtain ⟨g1, g2⟩ := fs_ok (l := l) (lo := r.2.1) (m := m - n) (by omega) (by omega) (o1.up (by omega)) q2 (fun s hs => ⟨q1 s hs, (hr s (by simp [hs])).2⟩) hr0.2.2
    rw [List.foldl_cons, e]
    refine ⟨g1, fun x => ?_⟩
    rw [g2 x, o2 x, fsv, hn]
    by_cases c1 : r.2.1 ≤ x
    · rw [if_pos c1, if_pos (by omega), if_neg (by omega)]
    · rw [if_neg c1]
      by_cases c2 : r.1 ≤ x
      · rw [if_pos (show lo ≤ x by omega), if_pos (show r.1 ≤ x ∧ x < r.2.1 by omega)]
        by_cases c3 : x < r.1 + n
        · rw [if_pos ⟨c2, c3⟩, if_pos c3]
        · rw [if_neg (by omega), if_neg c3, hd.above (by omega)]
      · rw [if_neg (by omega)]
        by_cases c4 : lo ≤ x
        · rw [if_pos c4, if_neg (by omega), hd.above c4, fsv_below fun s hs => by have := q1 s hs; omega]
        · rw [if_neg c4]
theorem fsv_eq : ∀ {l : List Rg} {lo m : Int} {P : Int → Bool}, 0 ≤ m → l.Pairwise (fun a b => a.2.1 ≤ b.1) → (∀ r ∈ l, lo ≤ r.1 ∧ r.1 < r.2.1) → ∀ x, lo ≤ x → (∀ y, lo ≤ y → y < x → P y = (rgAt l y).isSome) → fsv l m x = if cnt P lo x < m then rgAt l x else none
  | [], lo, m, P, _, _, _, x, _, _ => by rw [fsv, rgAt]; split <;> rfl
  | r :: l, lo, m, P, hm, hp, hr, x, hx, hP => by
    obtain ⟨q1, q2⟩ := List.pairwise_cons.1 hp
    have hr0 := hr r (by simp)
    have hlow : ∀ y, lo ≤ y → y < r.1 → rgAt (r :: l) y = none := fun y _ h2 => rgAt_none fun s hs => by
      rcases List.mem_cons.1 hs with rfl | hs
      · exact .inl h2
      · exact .inl (by have := q1 s hs; omega)
    have hmid : ∀ y, r.1 ≤ y → y < r.2.1 → rgAt (r :: l) y = some r.2.2 := fun y h1 h2 => by rw [rgAt, if_pos ⟨h1, h2⟩]
    have hup : ∀ y, r.2.1 ≤ y → rgAt (r :: l) y = rgAt l y := fun y h1 => by rw [rgAt, if_neg (by omega)]
    obtain ⟨n, hn⟩ : ∃ n, min m (r.2.1 - r.1) = n := ⟨_, rfl⟩
    rw [fsv, hn]
    by_cases c1 : x < r.1
    · rw [if_neg (by omega), hlow x hx c1, fsv_below fun s hs => by have := q1 s hs; omega]
      split <;> rfl
    · have z1 : cnt P lo r.1 = 0 := cnt_none fun y h1 h2 => by rw [hP y h1 (by omega), hlow y h1 h2]; rfl
      by_cases c2 : x < r.2.1
      · rw [if_pos ⟨by omega, c2⟩, hmid x (by omega) c2, cnt_split (m := r.1) _ (by omega) (by omega), z1, cnt_all (lo := r.1) (by omega) fun y h1 h2 => by rw [hP y (by omega) h2, hmid y h1 (by omega)]; rfl]
        by_cases c3 : x < r.1 + n
        · rw [if_pos c3, if_pos (by omega)]
        · rw [if_neg c3, if_neg (by omega)]
      · have z2 : cnt P r.1 r.2.1 = r.2.1 - r.1 := cnt_all (by omega) fun y h1 h2 => by rw [hP y (by omega) (by omega), hmid y h1 h2]; rfl
        rw [if_neg (by omega), hup x (by omega), cnt_split (m := r.1) _ (by omega) (by omega), z1, cnt_split (lo := r.1) (m := r.2.1) _ (by omega) (by omega), z2]
        rw [fsv_eq (lo := r.2.1) (m := m - n) (P := P) (by omega) q2 (fun s hs => ⟨q1 s hs, (hr s (by simp [hs])).2⟩) x (by omega) fun y h1 h2 => by rw [hP y (by omega) h2, hup y h1]]
        have := cnt_pos (P := P) r.2.1 x
        by_cases c3 : cnt P r.2.1 x < m - n
        · rw [if_pos c3, if_pos (by omega)]
        · rw [if_neg c3, if_neg (by omega)]
theorem stv_eq {f g : Int → Int} : ∀ {lo hi m : Int} {d : List Pc}, 0 ≤ m → PLine lo hi d → (∀ p ∈ d, ∀ x, p.1 ≤ x → x < p.2.1 → f x = p.2.2.1 ∧ g x = p.2.2.2) → ∀ x, lo ≤ x → x < hi → stv d m x = if f x ≠ g x ∧ cnt (fun y => f y != g y) lo x < m then g x else f x
  | lo, hi, m, [], _, h, _, x, h1, h2 => by have h : lo = hi := h; omega
  | lo, hi, m, p :: d, hm, h, hs, x, hx1, hx2 => by
    obtain ⟨h1, h2, h3⟩ := h
    have h4 := hs p (by simp)
    rw [stv]
    by_cases c : x < p.2.1
    · have hx := h4 x (by omega) c
      rw [if_pos c, hx.1, hx.2]
      by_cases e : p.2.2.1 = p.2.2.2
      · simp only [e, ne_eq, not_true_eq_false, false_and, if_false, ite_self]
      · rw [cnt_all (by omega) fun y a b => by have := h4 y (by omega) (by omega); rw [this.1, this.2]; simpa using e, pmv, if_neg e]
        by_cases c2 : x < p.1 + min (p.2.1 - p.1) m
        · rw [if_pos c2, if_pos ⟨e, by omega⟩]
        · rw [if_neg c2, if_neg (by omega)]
    · have hu : 0 ≤ m - puse p m := by unfold puse; split <;> omega
      rw [if_neg c, stv_eq hu h3 (fun q hq => hs q (by simp [hq])) x (by omega) hx2, cnt_split (lo := lo) (m := p.2.1) _ (by omega) (by omega)]
      have := cnt_pos (P := fun y => f y != g y) p.2.1 x
      by_cases e : p.2.2.1 = p.2.2.2
      · rw [cnt_none (lo := lo) fun y a b => by have := h4 y (by omega) b; rw [this.1, this.2, e]; simp]
        have : puse p m = 0 := by rw [puse, if_pos e]
        rw [this]
        simp
      · rw [cnt_all (lo := lo) (by omega) fun y a b => by have := h4 y (by omega) b; rw [this.1, this.2]; simpa using e]
        have e2 : puse p m = min (p.2.1 - p.1) m := by rw [puse, if_neg e]
        rw [e2]
        by_cases c3 : f x ≠ g x ∧ cnt (fun y => f y != g y) p.2.1 x < m - min (p.2.1 - p.1) m
        · rw [if_pos c3, if_pos ⟨c3.1, by omega⟩]
        · rw [if_neg c3, if_neg]
          rintro ⟨u1, u2⟩
          exact c3 ⟨u1, by omega⟩

/-! ### a step -/
def ovr (l : List Rg) (x v : Int) : Int := l.foldl (fun v r => if r.1 ≤ x ∧ x < r.2.1 then r.2.2 else v) v
theorem ovr_out : ∀ {l : List Rg} {x : Int}, (∀ r ∈ l, x < r.1 ∨ r.2.1 ≤ x) → ∀ v, ovr l x v = v
  | [], _, _, _ => rfl
  | r :: l, x, h, v => by
    have := h r (by simp)
    show ovr l x (if r.1 ≤ x ∧ x < r.2.1 then r.2.2 else v) = v
    rw [if_neg (by omega)]
    exact ovr_out (fun s hs => h s (by simp [hs])) v
theorem ovr_eq : ∀ {l : List Rg} {x : Int}, l.Pairwise (fun a b => a.2.1 ≤ b.1) → (∀ r ∈ l, r.1 < r.2.1) → ∀ v, ovr l x v = (rgAt l x).getD v
  | [], _, _, _, _ => rfl
  | r :: l, x, hp, hr, v => by
    obtain ⟨q1, q2⟩ := List.pairwise_cons.1 hp
    show ovr l x (if r.1 ≤ x ∧ x < r.2.1 then r.2.2 else v) = _
    rw [rgAt]
    by_cases c : r.1 ≤ x ∧ x < r.2.1
    · rw [if_pos c, if_pos c, ovr_out fun s hs => .inl (by have := q1 s hs; omega)]
      rfl
    · rw [if_neg c, if_neg c]
      exact ovr_eq q2 (fun s hs => hr s (by simp [hs])) v
def stpN (l f : List Rg) (L : List Int) : Nat → List Rg
  | 0 => []
  | k + 1 => putR (stpN l f L k) (L.getD k 0) (L.getD (k + 1) 0) (ovr f (L.getD k 0) (varAt l (L.getD k 0)))
theorem stpN_length (l f : List Rg) (L : List Int) : ∀ k, (stpN l f L k).length ≤ k
  | 0 => Nat.le_refl _
  | k + 1 => by
    have h1 := stpN_length l f L k
    have := putR_len (stpN l f L k) (L.getD k 0) (L.getD (k + 1) 0) (ovr f (L.getD k 0) (varAt l (L.getD k 0)))
    rw [stpN]; omega
theorem stpN_ok {n : Int} {l f : List Rg} {L : List Int} (hl : Chain n 0 100000 none l) (hf : Ord 100000 f) (hv : ∀ x v, rgAt f x = some v → 0 ≤ v ∧ v < n) (hL : Cuts l f L) : ∀ (k : Nat) (hk : k < L.length), Chain n 0 L[k] none (stpN l f L k) ∧ ∀ x, 0 ≤ x → x < L[k] → atv (stpN l f L k) x = (rgAt f x).getD (atv l x)
  | 0, hk => by
    have e := hL.first hk
    rw [e]
    exact ⟨rfl, fun x h1 h2 => by omega⟩
  | k + 1, hk => by
    obtain ⟨g1, g2⟩ := stpN_ok hl hf hv hL k (by omega)
    have hlt := hL.incr k (k + 1) (by omega) hk (by omega)
    have b0 := hL.in_ _ (List.getElem_mem (show k < L.length by omega))
    have b1 := hL.in_ _ (List.getElem_mem hk)
    have d0 : L.getD k 0 = L[k] := by simp [List.getD_eq_getElem?_getD, show k < L.length by omega]
    have d1 : L.getD (k + 1) 0 = L[k + 1] := by simp [List.getD_eq_getElem?_getD, hk]
    have hline := chain_line hl
    have ca : ∀ x, L[k] ≤ x → x < L[k + 1] → atv l L[k] = atv l x := fun x h1 h2 => atv_const h1 fun r hr => by
      rcases hL.between hk (hL.ea r hr).2 with e | e
      · exact .inl e
      · exact .inr (by omega)
    have cf : ∀ x, L[k] ≤ x → x < L[k + 1] → rgAt f L[k] = rgAt f x := fun x h1 h2 => rgAt_const h1 fun r hr => by
      constructor
      · rcases hL.between hk (hL.eb r hr).1 with e | e
        · exact .inl e
        · exact .inr (by omega)
      · rcases hL.between hk (hL.eb r hr).2 with e | e
        · exact .inl e
        · exact .inr (by omega)
    have va : varAt l L[k] = atv l L[k] := varAt_line hline _ (by omega) (by omega)
    have vr : 0 ≤ (rgAt f L[k]).getD (atv l L[k]) ∧ (rgAt f L[k]).getD (atv l L[k]) < n := by
      cases e : rgAt f L[k] with
      | none => exact chain_at hl _ (by omega) (by omega)
      | some v => exact hv _ v e
    rw [stpN, d0, d1, va, ovr_eq hf.pw (fun r hr => (hf.mem r hr).2.1)]
    refine ⟨putR_chain g1 vr (by omega), fun x h1 h2 => ?_⟩
    rw [putR_at (chain_line g1) h1 h2]
    by_cases c : x < L[k]
    · rw [if_pos c, g2 x h1 c]
    · rw [if_neg c, ca x (by omega) h2, cf x (by omega) h2]
def rstep (l mv : List Rg) (m : Int) : List Rg := stpN l (fsL mv m).1 (cutL l (fsL mv m).1) ((cutL l (fsL mv m).1).length - 1)
theorem fsL_ok {mv : List Rg} {m : Int} (hm : 0 ≤ m) (h : Ord 100000 mv) : Ord 100000 (fsL mv m).1 ∧ ∀ x, 0 ≤ x → rgAt (fsL mv m).1 x = fsv mv m x := by
  obtain ⟨g1, g2⟩ := fs_ok (d := []) (lo := 0) (Int.le_refl 0) hm ⟨.nil, by simp⟩ h.pw h.mem (by omega)
  exact ⟨g1, fun x hx => by rw [show fsL mv m = mv.foldl fsS ([], m) from rfl, g2 x, if_pos hx]⟩
/-- The reference's step is the program's. -/
theorem rstep_eq {l t : List Rg} {d : List Pc} {m : Int} (hl : Chain 20 0 100000 none l) (ht : Chain 20 0 100000 none t) (hd : PcSpec l t 100000 d) (hm : 0 ≤ m) : rstep l (rmoved l t) m = (rmL d m).1 := by
  obtain ⟨m1, m2, m3⟩ := rmoved_ok (chain_line hl) (chain_line ht)
  obtain ⟨f1, f2⟩ := fsL_ok hm m1
  have hL := cuts_ok (line_bnd (chain_line hl)) (b := (fsL (rmoved l t) m).1) fun r hr => by have := f1.mem r hr; omega
  have hmany := hL.many
  have hmv : ∀ x, 0 ≤ x → x < 100000 → rgAt (rmoved l t) x = if mvB l t x = true then some (atv t x) else none := fun x h1 h2 => by
    rw [m2 x]
    by_cases c : mvB l t x = true
    · rw [if_pos ⟨h1, h2, c⟩, if_pos c]
    · rw [if_neg (fun e => c e.2.2), if_neg c]
  have hfx : ∀ x, 0 ≤ x → x < 100000 → rgAt (fsL (rmoved l t) m).1 x = if mvB l t x = true ∧ cnt (mvB l t) 0 x < m then some (atv t x) else none := fun x h1 h2 => by
    rw [f2 x h1, fsv_eq (lo := 0) (P := mvB l t) hm m1.pw (fun r hr => by have := m1.mem r hr; omega) x h1 fun y h3 h4 => by rw [hmv y h3 (by omega)]; split <;> simp_all, hmv x h1 h2]
    by_cases c1 : mvB l t x = true <;> by_cases c2 : cnt (mvB l t) 0 x < m <;> simp [c1, c2]
  have hvr : ∀ x v, rgAt (fsL (rmoved l t) m).1 x = some v → 0 ≤ v ∧ v < 20 := fun x v e => by
    by_cases c : 0 ≤ x ∧ x < 100000
    · rw [hfx x c.1 c.2] at e
      split at e
      · injection e with e
        subst e
        exact chain_at ht x c.1 c.2
      · cases e
    · have : rgAt (fsL (rmoved l t) m).1 x = none := rgAt_none fun r hr => by have := f1.mem r hr; omega
      rw [this] at e; cases e
  obtain ⟨s1, s2⟩ := stpN_ok hl f1 hvr hL ((cutL l (fsL (rmoved l t) m).1).length - 1) (by omega)
  rw [hL.last (by omega)] at s1 s2
  obtain ⟨r1, r2⟩ := rmL_ok hm hd.line (pcs_vars hl ht hd)
  unfold rstep
  refine chain_ext s1 r1 fun x h1 h2 => ?_
  rw [s2 x h1 h2, r2 x h1 h2, stv_eq hm hd.line hd.same x h1 h2, hfx x h1 h2]
  have hb : (mvB l t x = true) ↔ atv l x ≠ atv t x := by unfold mvB; simp
  by_cases c : mvB l t x = true ∧ cnt (mvB l t) 0 x < m
  · rw [if_pos c, if_pos ⟨hb.1 c.1, c.2⟩]; rfl
  · rw [if_neg c, if_neg fun e => c ⟨hb.2 e.1, e.2⟩]; rfl
theorem rmoved_size {l t : List Rg} {d : List Pc} (hl : Line 0 100000 l) (ht : Line 0 100000 t) (hd : PcSpec l t 100000 d) : rsz (rmoved l t) = ptot d := by
  rw [(rmoved_ok hl ht).2.2]
  exact pcs_cnt hd.line hd.same
end Go.Proofs.Ytphmgjcjcdodhaa
