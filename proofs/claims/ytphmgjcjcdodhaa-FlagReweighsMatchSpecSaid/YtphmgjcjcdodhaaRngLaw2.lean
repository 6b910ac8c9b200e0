/-
  Ranges: the plain law, part 2: weights, what is moved, the steps of a ramp, ranges that are equal.
-/
import Derived.Test.YtphmgjcjcdodhaaRng4
namespace Go.Proofs.Ytphmgjcjcdodhaa
open Go.RowKit Go.AM

/-! ### weights -/
theorem addW_nd {w : List Int} {r : Rg} (h : 0 ≤ r.2.2 ∧ r.2.2 < w.length) (v : Nat) : nd (addW w r) v = nd w v + szf v r := by
  have hk : r.2.2.toNat < w.length := by omega
  unfold addW
  rw [nd_set hk, szf]
  by_cases c : v = r.2.2.toNat
  · rw [if_pos c, if_pos (by omega), c]; rfl
  · rw [if_neg c, if_neg (by omega)]; omega
theorem foldW_nd : ∀ (l : List Rg) (w : List Int), (∀ r ∈ l, 0 ≤ r.2.2 ∧ r.2.2 < w.length) → ∀ v, nd (l.foldl addW w) v = nd w v + sz v l
  | [], w, _, v => by simp [sz, tot]
  | r :: l, w, h, v => by
    rw [List.foldl_cons, foldW_nd l (addW w r) (fun s hs => by rw [addW_length]; exact h s (by simp [hs])) v, addW_nd (h r (by simp))]
    simp only [sz, tot]; omega
theorem nd_zeros (n v : Nat) : nd (List.replicate n 0) v = 0 := by
  unfold nd
  rw [List.getD_eq_getElem?_getD, List.getElem?_replicate]
  split <;> rfl
theorem weightsL_nd {l : List Rg} {n : Nat} (h : ∀ r ∈ l, 0 ≤ r.2.2 ∧ r.2.2 < n) (v : Nat) : nd (weightsL l n) v = sz v l := by
  unfold weightsL
  rw [foldW_nd l _ (by simpa using h), nd_zeros]; omega
theorem weightsL_length (l : List Rg) (n : Nat) : (weightsL l n).length = n := by
  unfold weightsL
  rw [foldW_length]; simp

/-! ### what is moved -/
def ptot : List Pc → Int
  | [] => 0
  | p :: l => (if p.2.2.1 = p.2.2.2 then 0 else p.2.1 - p.1) + ptot l
theorem PLine.ptot : ∀ {lo hi : Int} {l : List Pc}, PLine lo hi l → 0 ≤ ptot l ∧ ptot l ≤ hi - lo
  | lo, hi, [], h => by have h : lo = hi := h; simp only [Go.Proofs.Ytphmgjcjcdodhaa.ptot]; omega
  | lo, hi, p :: l, h => by
    obtain ⟨h1, h2, h3⟩ := h
    have := h3.ptot
    simp only [Go.Proofs.Ytphmgjcjcdodhaa.ptot]
    split <;> omega
theorem foldMv_rsz : ∀ {lo hi : Int} (l : List Pc) (d : List Rg), PLine lo hi l → rsz (l.foldl mvS d) = rsz d + ptot l
  | lo, hi, [], d, _ => by simp [ptot]
  | lo, hi, p :: l, d, h => by
    obtain ⟨h1, h2, h3⟩ := h
    rw [List.foldl_cons, foldMv_rsz l _ h3, ptot, mvS]
    split
    · omega
    · rw [putR_rsz (by omega)]; omega
theorem mvL_rsz {lo hi : Int} {l : List Pc} (h : PLine lo hi l) : rsz (mvL l) = ptot l := by
  unfold mvL
  rw [foldMv_rsz l [] h, rsz]; omega
theorem foldMv_rin : ∀ {lo : Int} (l : List Pc) (d : List Rg), 0 ≤ lo → PLine lo 100000 l → RIn d → RIn (l.foldl mvS d)
  | lo, [], d, _, _, hd => hd
  | lo, p :: l, d, h0, h, hd => by
    obtain ⟨h1, h2, h3⟩ := h
    rw [List.foldl_cons]
    refine foldMv_rin l _ (by omega) h3 ?_
    rw [mvS]
    split
    · exact hd
    · have := h3.le
      exact putR_all (Q := fun a b _ => 0 ≤ a ∧ a ≤ b ∧ b ≤ 100000) hd (fun _ => by omega) (fun a _ _ => by omega)
theorem mvL_rin {l : List Pc} (h : PLine 0 100000 l) : RIn (mvL l) := foldMv_rin l [] (by omega) h (fun r hr => by simp at hr)
theorem pcs_cnt {f g : Int → Int} : ∀ {lo hi : Int} {d : List Pc}, PLine lo hi d → (∀ p ∈ d, ∀ x, p.1 ≤ x → x < p.2.1 → f x = p.2.2.1 ∧ g x = p.2.2.2) → cnt (fun x => f x != g x) lo hi = ptot d
  | lo, hi, [], h, _ => by have h : lo = hi := h; rw [ptot]; exact cnt_none fun x _ _ => by omega
  | lo, hi, p :: d, h, hs => by
    obtain ⟨h1, h2, h3⟩ := h
    rw [cnt_split (m := p.2.1) _ (by omega) h3.le, pcs_cnt h3 fun q hq => hs q (by simp [hq]), ptot]
    have h4 := hs p (by simp)
    split
    · rename_i c
      rw [cnt_none fun x hx1 hx2 => by have := h4 x (by omega) hx2; rw [this.1, this.2, c]; simp]
    · rename_i c
      rw [cnt_all (by omega) fun x hx1 hx2 => by have := h4 x (by omega) hx2; rw [this.1, this.2]; simpa using c, h1]
theorem moved_size {a b : List Rg} (h : Cut a b) : rsz (mvL (pcsR a b)) = cnt (fun x => atv a x != atv b x) 0 100000 := by
  obtain ⟨⟨h1, _⟩, _⟩ := pcsR_spec h
  rw [mvL_rsz h1.line, pcs_cnt h1.line h1.same]

/-! ### ranges that are equal -/
theorem chain_ext : ∀ {n n' lo hi : Int} {p q : Option Int} {l m : List Rg}, Chain n lo hi p l → Chain n' lo hi q m → (∀ x, lo ≤ x → x < hi → atv l x = atv m x) → l = m
  | _, _, _, _, _, _, [], [], _, _, _ => rfl
  | _, _, lo, hi, _, _, [], r :: m, h, h', _ => by
    have h : lo = hi := h
    obtain ⟨g1, g2, g3, _⟩ := h'
    omega
  | _, _, lo, hi, _, _, r :: l, [], h, h', _ => by
    have h' : lo = hi := h'
    obtain ⟨g1, g2, g3, _⟩ := h
    omega
  | n, n', lo, hi, p, q, r :: l, s :: m, h, h', he => by
    obtain ⟨a1, a2, a3, a4, a5, a6, a7⟩ := h
    obtain ⟨b1, b2, b3, b4, b5, b6, b7⟩ := h'
    have e0 := he lo (by omega) (by omega)
    simp only [atv] at e0
    rw [if_pos (by omega), if_pos (by omega)] at e0
    have et : r.2.1 = s.2.1 := by
      rcases Int.lt_trichotomy r.2.1 s.2.1 with c | c | c
      · exfalso
        have e1 := he r.2.1 (by omega) (by omega)
        simp only [atv] at e1
        rw [if_neg (by omega), if_pos c] at e1
        cases l with
        | nil =>
          have a7 : r.2.1 = hi := a7
          omega
        | cons u l =>
          obtain ⟨c1, c2, c3, c4, c5, c6, c7⟩ := a7
          simp only [atv] at e1
          rw [if_pos (by omega)] at e1
          exact c6 (by rw [e0, e1])
      · exact c
      · exfalso
        have e1 := he s.2.1 (by omega) (by omega)
        simp only [atv] at e1
        rw [if_pos c, if_neg (by omega)] at e1
        cases m with
        | nil =>
          have b7 : s.2.1 = hi := b7
          omega
        | cons u m =>
          obtain ⟨c1, c2, c3, c4, c5, c6, c7⟩ := b7
          simp only [atv] at e1
          rw [if_pos (by omega)] at e1
          exact c6 (by rw [← e0, e1])
    rw [show r = s from Prod.ext (by omega) (Prod.ext et e0)]
    rw [et] at a7
    rw [chain_ext a7 b7 fun x hx1 hx2 => by
      have := he x (by omega) hx2
      simp only [atv] at this
      rw [if_neg (by omega), if_neg (by omega)] at this
      exact this]

/-! ### the steps of a ramp -/
def pmv (p : Pc) (m : Int) : Int := if p.2.2.1 = p.2.2.2 then p.2.1 - p.1 else min (p.2.1 - p.1) m
def puse (p : Pc) (m : Int) : Int := if p.2.2.1 = p.2.2.2 then 0 else min (p.2.1 - p.1) m
def rmS (s : List Rg × Int) (p : Pc) : List Rg × Int := (putR (putR s.1 p.1 (p.1 + pmv p s.2) p.2.2.2) (p.1 + pmv p s.2) p.2.1 p.2.2.1, s.2 - puse p s.2)
def rmL (l : List Pc) (m : Int) : List Rg × Int := l.foldl rmS ([], m)
theorem rmL_step {l : List Pc} {m : Int} {k : Nat} (h : k < l.length) : rmL (l.take (k + 1)) m = rmS (rmL (l.take k) m) l[k] := by
  unfold rmL
  rw [List.take_succ_eq_append_getElem h, List.foldl_append]
  rfl
/-- What a bucket has after a step. -/
def stv : List Pc → Int → Int → Int
  | [], _, _ => -1
  | p :: l, m, x => if x < p.2.1 then (if x < p.1 + pmv p m then p.2.2.2 else p.2.2.1) else stv l (m - puse p m) x
theorem putR_len (d : List Rg) (f t v : Int) : (putR d f t v).length ≤ d.length + 1 := by
  have := putsL_length [(f, t, v)] d
  simpa [putsL] using this
theorem foldRm_length : ∀ (l : List Pc) (s : List Rg × Int), (l.foldl rmS s).1.length ≤ s.1.length + 2 * l.length
  | [], s => by simp
  | p :: l, s => by
    have h1 := foldRm_length l (rmS s p)
    have h2 := putR_len s.1 p.1 (p.1 + pmv p s.2) p.2.2.2
    have h3 := putR_len (putR s.1 p.1 (p.1 + pmv p s.2) p.2.2.2) (p.1 + pmv p s.2) p.2.1 p.2.2.1
    have e : (rmS s p).1 = putR (putR s.1 p.1 (p.1 + pmv p s.2) p.2.2.2) (p.1 + pmv p s.2) p.2.1 p.2.2.1 := rfl
    rw [e] at h1
    rw [List.foldl_cons, List.length_cons]
    omega
theorem rm_ok {n : Int} : ∀ {lo hi : Int} {l : List Pc} {d : List Rg} {m : Int}, 0 ≤ m → Chain n 0 lo none d → 0 ≤ lo → PLine lo hi l → (∀ p ∈ l, (0 ≤ p.2.2.1 ∧ p.2.2.1 < n) ∧ 0 ≤ p.2.2.2 ∧ p.2.2.2 < n) →
    Chain n 0 hi none (l.foldl rmS (d, m)).1 ∧ ∀ x, 0 ≤ x → x < hi → atv (l.foldl rmS (d, m)).1 x = if x < lo then atv d x else stv l m x
  | lo, hi, [], d, m, _, hd, _, h, _ => by
    have h : lo = hi := h
    subst h
    exact ⟨hd, fun x _ h2 => by rw [if_pos h2]; rfl⟩
  | lo, hi, p :: l, d, m, hm, hd, h0, h, hv => by
    obtain ⟨h1, h2, h3⟩ := h
    have hp := hv p (by simp)
    have b1 : 0 ≤ pmv p m ∧ pmv p m ≤ p.2.1 - p.1 := by unfold pmv; split <;> omega
    have b2 : 0 ≤ m - puse p m := by unfold puse; split <;> omega
    rw [← h1] at hd
    have c1 := putR_chain (t := p.1 + pmv p m) hd hp.2 (by omega)
    have c2 := putR_chain (t := p.2.1) c1 hp.1 (by omega)
    obtain ⟨g1, g2⟩ := rm_ok b2 c2 (by omega) h3 fun q hq => hv q (by simp [hq])
    refine ⟨g1, fun x hx1 hx2 => ?_⟩
    show atv (l.foldl rmS (putR (putR d p.1 (p.1 + pmv p m) p.2.2.2) (p.1 + pmv p m) p.2.1 p.2.2.1, m - puse p m)).1 x = _
    rw [g2 x hx1 hx2, stv]
    by_cases c : x < p.2.1
    · rw [if_pos c, if_pos c, putR_at (chain_line c1) hx1 c]
      by_cases c3 : x < p.1 + pmv p m
      · rw [if_pos c3, if_pos c3, putR_at (chain_line hd) hx1 c3, h1]
      · rw [if_neg c3, if_neg c3, if_neg (by omega)]
    · rw [if_neg c, if_neg c, if_neg (by omega)]
theorem rmL_ok {n m : Int} {l : List Pc} (hm : 0 ≤ m) (h : PLine 0 100000 l) (hv : ∀ p ∈ l, (0 ≤ p.2.2.1 ∧ p.2.2.1 < n) ∧ 0 ≤ p.2.2.2 ∧ p.2.2.2 < n) :
    Chain n 0 100000 none (rmL l m).1 ∧ ∀ x, 0 ≤ x → x < 100000 → atv (rmL l m).1 x = stv l m x := by
  obtain ⟨g1, g2⟩ := rm_ok (d := []) hm rfl (Int.le_refl 0) h hv
  exact ⟨g1, fun x h1 h2 => by rw [show rmL l m = l.foldl rmS ([], m) from rfl, g2 x h1 h2, if_neg (by omega)]⟩
/-- How many buckets two steps have apart. -/
theorem stv_cnt : ∀ {lo hi : Int} {l : List Pc} {m m' : Int}, 0 ≤ m → m ≤ m' → m' ≤ ptot l → PLine lo hi l → cnt (fun x => stv l m x != stv l m' x) lo hi = m' - m
  | lo, hi, [], m, m', h1, h2, h3, h => by
    have h : lo = hi := h
    simp only [ptot] at h3
    rw [cnt_none fun x _ _ => by omega]; omega
  | lo, hi, p :: l, m, m', h1, h2, h3, h => by
    obtain ⟨g1, g2, g3⟩ := h
    simp only [ptot] at h3
    have hpt := g3.ptot
    have e1 : cnt (fun x => stv (p :: l) m x != stv (p :: l) m' x) lo p.2.1 = puse p m' - puse p m := by
      by_cases c : p.2.2.1 = p.2.2.2
      · rw [cnt_none fun x hx1 hx2 => by simp only [stv, if_pos hx2, c]; simp, puse, puse, if_pos c, if_pos c]; omega
      · have u1 : pmv p m = min (p.2.1 - p.1) m := by rw [pmv, if_neg c]
        have u2 : pmv p m' = min (p.2.1 - p.1) m' := by rw [pmv, if_neg c]
        have u3 : puse p m = min (p.2.1 - p.1) m := by rw [puse, if_neg c]
        have u4 : puse p m' = min (p.2.1 - p.1) m' := by rw [puse, if_neg c]
        have v1 : ∀ x, x < p.2.1 → stv (p :: l) m x = if x < p.1 + min (p.2.1 - p.1) m then p.2.2.2 else p.2.2.1 := fun x hx => by rw [stv, if_pos hx, u1]
        have v2 : ∀ x, x < p.2.1 → stv (p :: l) m' x = if x < p.1 + min (p.2.1 - p.1) m' then p.2.2.2 else p.2.2.1 := fun x hx => by rw [stv, if_pos hx, u2]
        rw [u3, u4, cnt_split (m := p.1 + min (p.2.1 - p.1) m) _ (by omega) (by omega), cnt_split (lo := p.1 + min (p.2.1 - p.1) m) (m := p.1 + min (p.2.1 - p.1) m') _ (by omega) (by omega)]
        rw [cnt_none fun x hx1 hx2 => by rw [v1 x (by omega), v2 x (by omega), if_pos hx2, if_pos (by omega)]; simp]
        rw [cnt_all (by omega) fun x hx1 hx2 => by rw [v1 x (by omega), v2 x (by omega), if_neg (by omega), if_pos hx2]; simpa using c]
        rw [cnt_none fun x hx1 hx2 => by rw [v1 x hx2, v2 x hx2, if_neg (by omega), if_neg (by omega)]; simp]
        omega
    have e2 : cnt (fun x => stv (p :: l) m x != stv (p :: l) m' x) p.2.1 hi = (m' - puse p m') - (m - puse p m) := by
      rw [cnt_congr (Q := fun x => stv l (m - puse p m) x != stv l (m' - puse p m') x) fun x hx1 hx2 => by simp only [stv]; rw [if_neg (by omega), if_neg (by omega)]]
      refine stv_cnt ?_ ?_ ?_ g3
      · unfold puse; split <;> omega
      · unfold puse; split <;> omega
      · unfold puse
        split
        · rename_i c; rw [if_pos c] at h3; omega
        · rename_i c; rw [if_neg c] at h3; omega
    rw [cnt_split (m := p.2.1) _ (by omega) g3.le, e1, e2]
    omega
theorem stv_first {f g : Int → Int} : ∀ {lo hi : Int} {d : List Pc}, PLine lo hi d → (∀ p ∈ d, ∀ x, p.1 ≤ x → x < p.2.1 → f x = p.2.2.1 ∧ g x = p.2.2.2) → ∀ x, lo ≤ x → x < hi → stv d 0 x = f x ∧ stv d (ptot d) x = g x
  | lo, hi, [], h, _, x, h1, h2 => by have h : lo = hi := h; omega
  | lo, hi, p :: d, h, hs, x, hx1, hx2 => by
    obtain ⟨h1, h2, h3⟩ := h
    have hpt := h3.ptot
    have h4 := hs p (by simp) x
    have ih := stv_first h3 (fun q hq => hs q (by simp [hq])) x
    simp only [stv]
    by_cases c : x < p.2.1
    · have := h4 (by omega) c
      rw [if_pos c, if_pos c, this.1, this.2]
      constructor
      · unfold pmv
        split
        · rename_i e; rw [e]; split <;> rfl
        · rw [if_neg (by omega)]
      · unfold pmv
        split
        · rename_i e; rw [e]; split <;> rfl
        · rename_i e
          rw [ptot, if_neg e, if_pos (by omega)]
    · have := ih (by omega) hx2
      rw [if_neg c, if_neg c]
      have e1 : (0 : Int) - puse p 0 = 0 := by unfold puse; split <;> omega
      have e2 : ptot (p :: d) - puse p (ptot (p :: d)) = ptot d := by
        rw [ptot, puse]
        split
        · omega
        · omega
      rw [e1, e2]
      exact this
theorem chain_at : ∀ {n lo hi : Int} {q : Option Int} {a : List Rg}, Chain n lo hi q a → ∀ x, lo ≤ x → x < hi → 0 ≤ atv a x ∧ atv a x < n
  | n, lo, hi, q, [], h, x, h1, h2 => by have h : lo = hi := h; omega
  | n, lo, hi, q, r :: a, h, x, h1, h2 => by
    obtain ⟨a1, a2, a3, a4, a5, a6, a7⟩ := h
    rw [atv]
    split
    · exact ⟨a4, a5⟩
    · exact chain_at a7 x (by omega) h2
theorem pcs_vars {a b : List Rg} {d : List Pc} {n : Int} (ha : Chain n 0 100000 none a) (hb : Chain n 0 100000 none b) (h : PcSpec a b 100000 d) : ∀ p ∈ d, (0 ≤ p.2.2.1 ∧ p.2.2.1 < n) ∧ 0 ≤ p.2.2.2 ∧ p.2.2.2 < n := fun p hp => by
  have hm := h.line.mem p hp
  have hs := h.same p hp p.1 (by omega) hm.2.1
  have k1 := chain_at ha p.1 (by omega) (by omega)
  have k2 := chain_at hb p.1 (by omega) (by omega)
  rw [hs.1] at k1
  rw [hs.2] at k2
  exact ⟨k1, k2⟩
end Go.Proofs.Ytphmgjcjcdodhaa
