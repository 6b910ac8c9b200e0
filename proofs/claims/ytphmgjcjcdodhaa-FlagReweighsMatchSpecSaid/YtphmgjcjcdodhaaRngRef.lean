/-
  Ranges: the plain law of the reference's reweighing.
-/
import Derived.Test.YtphmgjcjcdodhaaRng10
namespace Go.Proofs.Ytphmgjcjcdodhaa
open Go.RowKit Go.AM

theorem putR_line {lo f t v : Int} {d : List Rg} (h : Line lo f d) (hc : f ≤ t) : Line lo t (putR d f t v) := by
  by_cases hc : f < t
  · rcases snoc_cases d with rfl | ⟨e, s, rfl⟩
    · have h : lo = f := h
      rw [putR_one hc]
      exact ⟨h.symm, hc, rfl⟩
    · rw [putR_end hc]
      obtain ⟨m, h1, h2, h3, h4⟩ := line_append.1 h
      have h4 : s.2.1 = f := h4
      split
      · exact line_append.2 ⟨m, h1, h2, by show s.1 < t; omega, rfl⟩
      · refine line_append.2 ⟨f, h, ?_⟩
        exact ⟨rfl, hc, rfl⟩
  · rw [putR_skip (by omega)]
    have : f = t := by omega
    rw [← this]; exact h
theorem cnt_pos {P : Int → Bool} : ∀ (lo hi : Int), 0 ≤ cnt P lo hi := by
  have key : ∀ (k : Nat) (lo : Int), 0 ≤ cntN P lo k := by
    intro k
    induction k with
    | zero => intro lo; exact Int.le_refl _
    | succ k ih => intro lo; have := ih (lo + 1); rw [cntN]; split <;> omega
  exact fun lo hi => key _ _
theorem cnt_one {P : Int → Bool} {lo hi : Int} (h : lo < hi) (hp : P lo = true) : 1 ≤ cnt P lo hi := by
  have h1 : cnt P lo (lo + 1) = lo + 1 - lo := cnt_all (by omega) fun x h1 h2 => by
    have : x = lo := by omega
    rw [this]
    exact hp
  have h2 := cnt_pos (P := P) (lo + 1) hi
  rw [cnt_split (m := lo + 1) P (by omega) (by omega)]
  omega
/-- What makes the reweighed ranges the only ones. -/
structure RwChar (κ : Int → Int) (w : List Int) (d : List Rg) : Prop where
  chain : Chain 20 0 100000 none d
  kp : ∀ x, 0 ≤ x → x < 100000 → κ x ≠ -1 → atv d x = κ x
  mono : ∀ x y, 0 ≤ x → x < y → y < 100000 → κ x = -1 → κ y = -1 → atv d x ≤ atv d y
  cnt : ∀ v : Nat, v < 20 → cnt (fun x => κ x == -1 && atv d x == (v : Int)) 0 100000 = nd w v
theorem char_lt {κ : Int → Int} {w : List Int} {d e : List Rg} (hd : RwChar κ w d) (he : RwChar κ w e) {x : Int} (h0 : 0 ≤ x) (h1 : x < 100000) (hk : κ x = -1) (hb : ∀ y, 0 ≤ y → y < x → atv d y = atv e y) : ¬ atv d x < atv e x := by
  intro hlt
  obtain ⟨c1, c2⟩ := chain_at hd.chain x h0 h1
  obtain ⟨v, hv⟩ : ∃ v : Nat, atv d x = v := ⟨(atv d x).toNat, by omega⟩
  have e1 := hd.cnt v (by omega)
  have e2 := he.cnt v (by omega)
  rw [cnt_split (m := x) _ h0 (by omega)] at e1 e2
  rw [cnt_congr (hi := x) (Q := fun x => κ x == -1 && atv e x == (v : Int)) fun y h2 h3 => by rw [hb y h2 h3]] at e1
  have e3 : Go.Proofs.Ytphmgjcjcdodhaa.cnt (fun x => κ x == -1 && atv e x == (v : Int)) x 100000 = 0 := cnt_none fun y h2 h3 => by
    by_cases hy : κ y = -1
    · have hle : atv e x ≤ atv e y := by
        by_cases hxy : x = y
        · rw [hxy]; exact Int.le_refl _
        · exact he.mono x y h0 (by omega) h3 hk hy
      simp [hy]; omega
    · simp [hy]
  have e4 := cnt_one (P := fun x => κ x == -1 && atv d x == (v : Int)) h1 (by simp [hk, hv])
  omega
theorem char_eq {κ : Int → Int} {w : List Int} {d e : List Rg} (hd : RwChar κ w d) (he : RwChar κ w e) : d = e := by
  refine chain_ext hd.chain he.chain ?_
  have key : ∀ (n : Nat) (x : Int), 0 ≤ x → x < n → x < 100000 → atv d x = atv e x := by
    intro n
    induction n with
    | zero => intro x h1 h2; omega
    | succ n ih =>
      intro x h1 h2 h3
      by_cases hk : κ x = -1
      · have hb : ∀ y, 0 ≤ y → y < x → atv d y = atv e y := fun y h4 h5 => ih y h4 (by omega) (by omega)
        have a1 := char_lt hd he h1 h3 hk hb
        have a2 := char_lt he hd h1 h3 hk (fun y h4 h5 => (hb y h4 h5).symm)
        omega
      · rw [hd.kp x h1 h3 hk, he.kp x h1 h3 hk]
  exact fun x h1 h2 => key 100000 x h1 h2 h2

/-! ### the program's -/
theorem line_find : ∀ {lo hi : Int} {l : List Rg}, Line lo hi l → ∀ x, lo ≤ x → x < hi → ∃ r ∈ l, r.1 ≤ x ∧ x < r.2.1
  | lo, hi, [], h, x, h1, h2 => by have h : lo = hi := h; omega
  | lo, hi, r :: l, h, x, h1, h2 => by
    obtain ⟨g1, g2, g3⟩ := h
    by_cases c : x < r.2.1
    · exact ⟨r, by simp, by omega, c⟩
    · obtain ⟨s, hs, h4⟩ := line_find g3 x (by omega) h2
      exact ⟨s, by simp [hs], h4⟩
theorem char_prog {l : List Rg} {w0 : List Int} {p : Option Int} {w1 w2 : List Int} {K F Fl S : List Rg} {v : Nat} (h20 : w0.length = 20) (hk : KInv l w0 l 100000 p w1 K F) (hf : FInv l w0 K F w2 v Fl []) (hS : S.Perm (K ++ Fl)) (ho : S.Pairwise fun a b => a.1 ≤ b.1) :
    RwChar (kpv l w0) (l.foldl keepW w0) (putsL [] S) := by
  obtain ⟨M, hM, hL⟩ := hf.tile
  rw [List.append_nil] at hM
  have hSM : S.Perm M := hS.trans hM
  have hMs := hL.sorted
  obtain rfl : S = M := by
    refine List.Perm.eq_of_pairwise (le := fun a b => a.1 ≤ b.1) (fun a b ha hb h1 h2 => ?_) ho (hMs.imp fun h => by omega) hSM
    have ha := hSM.mem_iff.1 ha
    rcases Classical.em (a = b) with e | e
    · exact e
    · exfalso
      have : ∀ a ∈ M, ∀ b ∈ M, a ≠ b → a.1 ≠ b.1 := by
        intro a ha b hb hne
        obtain ⟨i, hi, rfl⟩ := List.getElem_of_mem ha
        obtain ⟨j, hj, rfl⟩ := List.getElem_of_mem hb
        have hp := List.pairwise_iff_getElem.1 hMs
        rcases Nat.lt_trichotomy i j with c | c | c
        · have := hp i j hi hj c; omega
        · subst c; exact absurd rfl hne
        · have := hp j i hj hi c; omega
      exact this a ha b hb e (by omega)
  have hvars : ∀ r ∈ S, 0 ≤ r.2.2 ∧ r.2.2 < w0.length := fun r hr => hf.vars r (hS.mem_iff.1 hr)
  obtain ⟨g1, g2, g3⟩ := puts_ok (n := w0.length) (lo := 0) (m := 0) (d := []) rfl hL hvars
  have hat : ∀ x, 0 ≤ x → x < 100000 → atv (putsL [] S) x = atv S x := fun x h1 h2 => by rw [g2 x h1 h2, if_neg (by omega)]
  have hcase : ∀ x, 0 ≤ x → x < 100000 → (∃ r ∈ K, (r.1 ≤ x ∧ x < r.2.1) ∧ kpv l w0 x = r.2.2 ∧ atv S x = r.2.2) ∨ (∃ r ∈ Fl, (r.1 ≤ x ∧ x < r.2.1) ∧ kpv l w0 x = -1 ∧ atv S x = r.2.2) := fun x h1 h2 => by
    obtain ⟨r, hr, h3, h4⟩ := line_find hL x h1 h2
    have ha := hL.atv r hr x h3 h4
    rcases List.mem_append.1 (hS.mem_iff.1 hr) with h5 | h5
    · exact .inl ⟨r, h5, ⟨h3, h4⟩, hk.kin r h5 x h3 h4, ha⟩
    · exact .inr ⟨r, h5, ⟨h3, h4⟩, hf.kf r (by simp [h5]) x h3 h4, ha⟩
  have hz : ∀ u, nd w2 u = 0 := by
    intro u
    by_cases c : u < w2.length
    · have e := hf.sum
      rw [sum_nd] at e
      exact sumN_none hf.pos e u c
    · exact nd_out (by omega)
  rw [h20] at g1
  refine ⟨g1, fun x h1 h2 h3 => ?_, fun x y h1 h2 h3 h4 h5 => ?_, fun u hu => ?_⟩
  · rw [hat x h1 h2]
    rcases hcase x h1 h2 with ⟨r, _, _, e1, e2⟩ | ⟨r, _, _, e1, e2⟩
    · rw [e1, e2]
    · exact absurd e1 h3
  · rw [hat x h1 (by omega), hat y (by omega) h3]
    have hpos : ∀ r ∈ K, 0 ≤ r.2.2 := fun r hr => (hk.vars r hr).1
    rcases hcase x h1 (by omega) with ⟨r, hr, _, e1, e2⟩ | ⟨r, hr, b1, e1, e2⟩
    · have := hpos r hr; omega
    rcases hcase y (by omega) h3 with ⟨s, hs, _, f1, f2⟩ | ⟨s, hs, b2, f1, f2⟩
    · have := hpos s hs; omega
    rw [e2, f2]
    obtain ⟨i, hi, rfl⟩ := List.getElem_of_mem hr
    obtain ⟨j, hj, rfl⟩ := List.getElem_of_mem hs
    have hp := List.pairwise_iff_getElem.1 hf.fils
    rcases Nat.lt_trichotomy i j with c | c | c
    · exact (hp i j hi hj c).2
    · subst c; exact Int.le_refl _
    · have := (hp j i hj hi c).1; omega
  · rw [cnt_congr (Q := fun x => kpv l w0 x == -1 && atv S x == (u : Int)) fun x h1 h2 => by rw [hat x h1 h2], hL.cnt, tot_perm _ hS, tot_append]
    have e1 : tot (fun r => Go.Proofs.Ytphmgjcjcdodhaa.cnt (fun x => kpv l w0 x == -1 && atv S x == (u : Int)) r.1 r.2.1) K = 0 := by
      have : tot (fun r => Go.Proofs.Ytphmgjcjcdodhaa.cnt (fun x => kpv l w0 x == -1 && atv S x == (u : Int)) r.1 r.2.1) K = tot (fun _ => 0) K := tot_congr fun r hr => cnt_none fun x h1 h2 => by
        have := (hk.vars r hr).1
        rw [hk.kin r hr x h1 h2]
        have : ¬ r.2.2 = -1 := by omega
        simp [this]
      rw [this]
      have : ∀ l : List Rg, tot (fun _ => 0) l = 0 := fun l => by
        induction l with
        | nil => rfl
        | cons r l ih => rw [tot, ih]; rfl
      exact this K
    have e2 : tot (fun r => Go.Proofs.Ytphmgjcjcdodhaa.cnt (fun x => kpv l w0 x == -1 && atv S x == (u : Int)) r.1 r.2.1) Fl = sz u Fl := tot_congr fun r hr => by
      have hm := hL.mem r (hS.mem_iff.2 (by simp [hr]))
      unfold szf
      by_cases c : r.2.2 = (u : Int)
      · rw [if_pos c]
        exact cnt_all (by omega) fun x h1 h2 => by
          rw [hf.kf r (by simp [hr]) x h1 h2, hL.atv r (hS.mem_iff.2 (by simp [hr])) x h1 h2]
          simp [c]
      · rw [if_neg c]
        exact cnt_none fun x h1 h2 => by
          rw [hL.atv r (hS.mem_iff.2 (by simp [hr])) x h1 h2]
          simp [c]
    have e3 := hf.need u
    have e4 := hk.need u
    rw [hz u, sz_append] at e3
    rw [e1, e2, ← hk.wst]
    omega

/-! ### the reference's -/
def kpS (s : List Rg × List Int) (r : Rg) : List Rg × List Int := (putR (putR s.1 r.1 (r.1 + min (nd s.2 r.2.2.toNat) (r.2.1 - r.1)) r.2.2) (r.1 + min (nd s.2 r.2.2.toNat) (r.2.1 - r.1)) r.2.1 (-1), keepW s.2 r)
def kpL (l : List Rg) (w : List Int) : List Rg × List Int := l.foldl kpS ([], w)
theorem kpL_step {l : List Rg} {w : List Int} {k : Nat} (h : k < l.length) : kpL (l.take (k + 1)) w = kpS (kpL (l.take k) w) l[k] := by
  unfold kpL
  rw [List.take_succ_eq_append_getElem h, List.foldl_append]
  rfl
theorem kp_snd : ∀ (l : List Rg) (s : List Rg × List Int), (l.foldl kpS s).2 = l.foldl keepW s.2
  | [], _ => rfl
  | r :: l, s => by rw [List.foldl_cons, kp_snd l, List.foldl_cons]; rfl
theorem kp_length : ∀ (l : List Rg) (s : List Rg × List Int), (l.foldl kpS s).1.length ≤ s.1.length + 2 * l.length
  | [], s => by simp
  | r :: l, s => by
    have h1 := kp_length l (kpS s r)
    have h2 := putR_len s.1 r.1 (r.1 + min (nd s.2 r.2.2.toNat) (r.2.1 - r.1)) r.2.2
    have h3 := putR_len (putR s.1 r.1 (r.1 + min (nd s.2 r.2.2.toNat) (r.2.1 - r.1)) r.2.2) (r.1 + min (nd s.2 r.2.2.toNat) (r.2.1 - r.1)) r.2.1 (-1)
    have e : (kpS s r).1 = putR (putR s.1 r.1 (r.1 + min (nd s.2 r.2.2.toNat) (r.2.1 - r.1)) r.2.2) (r.1 + min (nd s.2 r.2.2.toNat) (r.2.1 - r.1)) r.2.1 (-1) := rfl
    rw [e] at h1
    rw [List.foldl_cons, List.length_cons]
    omega
theorem keepW_pos {w : List Int} {r : Rg} (h : ∀ v, 0 ≤ nd w v) (hr : r.1 ≤ r.2.1) (v : Nat) : 0 ≤ nd (keepW w r) v ∧ nd (keepW w r) v ≤ nd w v := by
  unfold keepW
  by_cases hv : r.2.2.toNat < w.length
  · rw [nd_set hv]
    split
    · rename_i e; subst e; have := h r.2.2.toNat; omega
    · have := h v; omega
  · rw [List.set_eq_of_length_le (by omega)]
    have := h v; omega
theorem kp_ok : ∀ {lo hi : Int} {l : List Rg} {d : List Rg} {w : List Int}, (∀ v, 0 ≤ nd w v) → Line 0 lo d → 0 ≤ lo → Line lo hi l →
    Line 0 hi (l.foldl kpS (d, w)).1 ∧ ∀ x, 0 ≤ x → x < hi → atv (l.foldl kpS (d, w)).1 x = if x < lo then atv d x else kpv l w x
  | lo, hi, [], d, w, _, hd, _, h => by
    have h : lo = hi := h
    subst h
    exact ⟨hd, fun x _ h2 => by rw [if_pos h2]; rfl⟩
  | lo, hi, r :: l, d, w, hw, hd, h0, h => by
    obtain ⟨h1, h2, h3⟩ := h
    have hb := hw r.2.2.toNat
    rw [← h1] at hd
    obtain ⟨n, hn⟩ : ∃ n, min (nd w r.2.2.toNat) (r.2.1 - r.1) = n := ⟨_, rfl⟩
    have c1 := putR_line (t := r.1 + n) (v := r.2.2) hd (by omega)
    have c2 := putR_line (t := r.2.1) (v := -1) c1 (by omega)
    have hw' := fun v => (keepW_pos (r := r) hw (by omega) v).1
    obtain ⟨g1, g2⟩ := kp_ok hw' c2 (by omega) h3
    have e : kpS (d, w) r = (putR (putR d r.1 (r.1 + n) r.2.2) (r.1 + n) r.2.1 (-1), keepW w r) := by simp only [kpS, hn]
    rw [List.foldl_cons, e]
    refine ⟨g1, fun x hx1 hx2 => ?_⟩
    rw [g2 x hx1 hx2, kpv, hn]
    by_cases c : x < r.2.1
    · rw [if_pos c, if_pos c, putR_at c1 hx1 c]
      by_cases c3 : x < r.1 + n
      · rw [if_pos c3, if_pos c3, putR_at hd hx1 c3, h1]
      · rw [if_neg c3, if_neg c3, if_neg (by omega)]
    · rw [if_neg c, if_neg c, if_neg (by omega)]
def fillS (t : Int) (s : List Rg × List Int × Int) (v : Nat) : List Rg × List Int × Int := (putR s.1 s.2.2 (s.2.2 + min (nd s.2.1 v) (t - s.2.2)) v, s.2.1.set v (nd s.2.1 v - min (nd s.2.1 v) (t - s.2.2)), s.2.2 + min (nd s.2.1 v) (t - s.2.2))
def fillN (t : Int) (s : List Rg × List Int × Int) : Nat → List Rg × List Int × Int
  | 0 => s
  | k + 1 => fillS t (fillN t s k) k
def refS (s : List Rg × List Int) (r : Rg) : List Rg × List Int := if 0 ≤ r.2.2 then (putR s.1 r.1 r.2.1 r.2.2, s.2) else ((fillN r.2.1 (s.1, s.2, r.1) 20).1, (fillN r.2.1 (s.1, s.2, r.1) 20).2.1)
def refL (l : List Rg) (w : List Int) : List Rg × List Int := l.foldl refS ([], w)
theorem refL_step {l : List Rg} {w : List Int} {k : Nat} (h : k < l.length) : refL (l.take (k + 1)) w = refS (refL (l.take k) w) l[k] := by
  unfold refL
  rw [List.take_succ_eq_append_getElem h, List.foldl_append]
  rfl
def refR (l : List Rg) (w : List Int) : List Rg := (refL (kpL l (full w)).1 (l.foldl keepW (full w))).1
structure RInv (κ : Int → Int) (w0 : List Int) (at_ : Int) (d : List Rg) (w : List Int) : Prop where
  ge : 0 ≤ at_ ∧ at_ ≤ 100000
  len : w.length = 20
  chain : Chain 20 0 at_ none d
  kp : ∀ x, 0 ≤ x → x < at_ → κ x ≠ -1 → atv d x = κ x
  mono : ∀ x y, 0 ≤ x → x < y → y < at_ → κ x = -1 → κ y = -1 → atv d x ≤ atv d y
  cnt : ∀ v : Nat, v < 20 → nd w v + cnt (fun x => κ x == -1 && atv d x == (v : Int)) 0 at_ = nd w0 v
  low : ∀ x, 0 ≤ x → x < at_ → κ x = -1 → ∀ u : Nat, (u : Int) < atv d x → nd w u = 0
  pos : ∀ v, 0 ≤ nd w v
  sum : w.sum = Go.Proofs.Ytphmgjcjcdodhaa.cnt (fun x => κ x == -1) at_ 100000
theorem RInv.keep {κ : Int → Int} {w0 : List Int} {at_ t v : Int} {d : List Rg} {w : List Int} (h : RInv κ w0 at_ d w) (h1 : at_ < t) (h2 : t ≤ 100000) (hv : 0 ≤ v ∧ v < 20) (hk : ∀ x, at_ ≤ x → x < t → κ x = v) : RInv κ w0 t (putR d at_ t v) w := by
  have ha : ∀ x, 0 ≤ x → x < t → atv (putR d at_ t v) x = if x < at_ then atv d x else v := fun x h3 h4 => putR_at (chain_line h.chain) h3 h4
  have hn : ∀ x, at_ ≤ x → x < t → ¬ κ x = -1 := fun x h3 h4 => by rw [hk x h3 h4]; omega
  have hge := h.ge
  refine ⟨by omega, h.len, putR_chain h.chain hv (by omega), fun x h3 h4 h5 => ?_, fun x y h3 h4 h5 h6 h7 => ?_, fun u hu => ?_, fun x h3 h4 h5 u hu => ?_, h.pos, ?_⟩
  · rw [ha x h3 h4]
    by_cases c : x < at_
    · rw [if_pos c]; exact h.kp x h3 c h5
    · rw [if_neg c, hk x (by omega) h4]
  · have c2 : y < at_ := by
      apply Int.not_le.1
      intro hle
      exact hn y hle h5 h7
    rw [ha x h3 (by omega), ha y (by omega) h5, if_pos (by omega), if_pos c2]
    exact h.mono x y h3 h4 c2 h6 h7
  · rw [cnt_split (m := at_) _ (by omega) (by omega), cnt_congr (hi := at_) (Q := fun x => κ x == -1 && atv d x == (u : Int)) (fun x h3 h4 => by rw [ha x h3 (by omega), if_pos h4]), cnt_none (lo := at_) (fun x h3 h4 => by simp [hn x h3 h4])]
    have := h.cnt u hu
    omega
  · have c : x < at_ := by
      apply Int.not_le.1
      intro hle
      exact hn x hle h4 h5
    rw [ha x h3 h4, if_pos c] at hu
    exact h.low x h3 c h5 u hu
  · have := h.sum
    rw [cnt_split (m := t) _ (by omega) h2, cnt_none (hi := t) (fun x h3 h4 => by simp [hn x h3 h4])] at this
    omega
theorem RInv.fill {κ : Int → Int} {w0 : List Int} {at_ t n : Int} {v : Nat} {d : List Rg} {w : List Int} (h : RInv κ w0 at_ d w) (h1 : at_ ≤ t) (h2 : t ≤ 100000) (hv : v < 20) (hk : ∀ x, at_ ≤ x → x < t → κ x = -1) (hl : at_ = t ∨ ∀ u, u < v → nd w u = 0) (hn : min (nd w v) (t - at_) = n) :
    RInv κ w0 (at_ + n) (putR d at_ (at_ + n) v) (w.set v (nd w v - n)) ∧ (at_ + n ≤ t ∧ at_ ≤ at_ + n) ∧ (at_ + n = t ∨ ∀ u, u < v + 1 → nd (w.set v (nd w v - n)) u = 0) := by
  have hp := h.pos v
  have hge := h.ge
  have hvl : v < w.length := by have := h.len; omega
  have hn0 : 0 ≤ n ∧ n ≤ nd w v ∧ n ≤ t - at_ := by omega
  have ha : ∀ x, 0 ≤ x → x < at_ + n → atv (putR d at_ (at_ + n) v) x = if x < at_ then atv d x else v := fun x h3 h4 => putR_at (chain_line h.chain) h3 h4
  have hset := fun u => nd_set hvl (nd w v - n) u
  have hlow : ∀ x, 0 ≤ x → x < at_ → κ x = -1 → 0 < n → atv d x ≤ v := fun x h3 h4 h5 h6 => by
    apply Int.not_lt.1
    intro hlt
    have := h.low x h3 h4 h5 v hlt
    omega
  refine ⟨⟨by omega, by simpa using h.len, putR_chain h.chain ⟨by omega, by omega⟩ (by omega), fun x h3 h4 h5 => ?_, fun x y h3 h4 h5 h6 h7 => ?_, fun u hu => ?_, fun x h3 h4 h5 u hu => ?_, fun u => ?_, ?_⟩, by omega, ?_⟩
  · have c : x < at_ := by
      apply Int.not_le.1
      intro hle
      exact h5 (hk x hle (by omega))
    rw [ha x h3 h4, if_pos c]
    exact h.kp x h3 c h5
  · rw [ha x h3 (by omega), ha y (by omega) h5]
    by_cases c2 : y < at_
    · rw [if_pos (by omega), if_pos c2]
      exact h.mono x y h3 h4 c2 h6 h7
    · rw [if_neg c2]
      by_cases c1 : x < at_
      · rw [if_pos c1]; exact hlow x h3 c1 h6 (by omega)
      · rw [if_neg c1]; exact Int.le_refl _
  · rw [cnt_split (m := at_) _ (by omega) (by omega), cnt_congr (hi := at_) (Q := fun x => κ x == -1 && atv d x == (u : Int)) (fun x h3 h4 => by rw [ha x h3 (by omega), if_pos h4]), hset u]
    have hc := h.cnt u hu
    by_cases c : u = v
    · subst c
      rw [if_pos rfl, cnt_all (lo := at_) (by omega) fun x h3 h4 => by rw [ha x (by omega) h4, if_neg (by omega), hk x h3 (by omega)]; simp]
      omega
    · have hvu : ¬ (v : Int) = u := by omega
      rw [if_neg c, cnt_none (lo := at_) fun x h3 h4 => by rw [ha x (by omega) h4, if_neg (by omega)]; simp [hvu]]
      omega
  · rw [ha x h3 h4] at hu
    rw [hset u]
    by_cases c : x < at_
    · rw [if_pos c] at hu
      have := h.low x h3 c h5 u hu
      split
      · rename_i e; subst e; omega
      · exact this
    · rw [if_neg c] at hu
      rw [if_neg (by omega)]
      rcases hl with e | e
      · omega
      · exact e u (by omega)
  · rw [hset u]
    split
    · omega
    · exact h.pos u
  · have := h.sum
    rw [cnt_split (m := at_ + n) _ (by omega) (by omega), cnt_all (hi := at_ + n) (by omega) fun x h3 h4 => by simp [hk x h3 (by omega)]] at this
    rw [sum_set hvl]
    omega
  · by_cases c : at_ + n = t
    · exact .inl c
    · refine .inr fun u hu => ?_
      rw [hset u]
      split
      · omega
      · rcases hl with e | e
        · omega
        · exact e u (by omega)
theorem RInv.fills {κ : Int → Int} {w0 : List Int} {at_ t : Int} {d : List Rg} {w : List Int} (h : RInv κ w0 at_ d w) (h1 : at_ ≤ t) (h2 : t ≤ 100000) (hk : ∀ x, at_ ≤ x → x < t → κ x = -1) :
    ∀ k : Nat, k ≤ 20 → RInv κ w0 (fillN t (d, w, at_) k).2.2 (fillN t (d, w, at_) k).1 (fillN t (d, w, at_) k).2.1 ∧ (at_ ≤ (fillN t (d, w, at_) k).2.2 ∧ (fillN t (d, w, at_) k).2.2 ≤ t) ∧ ((fillN t (d, w, at_) k).2.2 = t ∨ ∀ u, u < k → nd (fillN t (d, w, at_) k).2.1 u = 0)
  | 0, _ => ⟨h, ⟨Int.le_refl _, h1⟩, .inr fun u hu => absurd hu (by omega)⟩
  | k + 1, hk20 => by
    obtain ⟨g1, g2, g3⟩ := RInv.fills h h1 h2 hk k (by omega)
    rw [fillN]
    generalize fillN t (d, w, at_) k = s at g1 g2 g3
    obtain ⟨f1, f2, f3⟩ := g1.fill g2.2 h2 (by omega) (fun x h3 h4 => hk x (by omega) h4) g3 rfl
    exact ⟨f1, ⟨by show at_ ≤ s.2.2 + _; omega, f2.1⟩, f3⟩
theorem RInv.full {κ : Int → Int} {w0 : List Int} {at_ t : Int} {d : List Rg} {w : List Int} (h : RInv κ w0 at_ d w) (h1 : at_ ≤ t) (h2 : t ≤ 100000) (hk : ∀ x, at_ ≤ x → x < t → κ x = -1) :
    (fillN t (d, w, at_) 20).2.2 = t := by
  obtain ⟨g1, g2, g3⟩ := h.fills h1 h2 hk 20 (Nat.le_refl _)
  rcases g3 with e | e
  · exact e
  · generalize fillN t (d, w, at_) 20 = s at g1 g2 e
    have e1 : s.2.1.sum = 0 := by
      rw [sum_nd, g1.len, sumN_congr (g := fun _ => 0) e, sumN_zero]
    have e2 := g1.sum
    rw [e1, cnt_split (m := t) _ g2.2 h2, cnt_all g2.2 fun x h3 h4 => by simp [hk x (by omega) h4]] at e2
    have := cnt_pos (P := fun x => κ x == -1) t 100000
    omega
theorem ref_ok {κ : Int → Int} {w0 : List Int} : ∀ {at_ hi : Int} {l d : List Rg} {w : List Int}, RInv κ w0 at_ d w → Line at_ hi l → hi ≤ 100000 → (∀ r ∈ l, r.2.2 < 20 ∧ -1 ≤ r.2.2) → (∀ r ∈ l, ∀ x, r.1 ≤ x → x < r.2.1 → κ x = r.2.2) → RInv κ w0 hi (l.foldl refS (d, w)).1 (l.foldl refS (d, w)).2
  | at_, hi, [], d, w, h, hl, _, _, _ => by
    have hl : at_ = hi := hl
    rw [← hl]; exact h
  | at_, hi, r :: l, d, w, h, hl, hh, hv, hk => by
    obtain ⟨h1, h2, h3⟩ := hl
    have hle := h3.le
    have hr := hk r (by simp)
    have hrv := hv r (by simp)
    rw [List.foldl_cons, refS]
    rw [h1] at hr h2
    split
    · rename_i c
      rw [h1]
      exact ref_ok (h.keep h2 (by omega) ⟨c, hrv.1⟩ hr) h3 hh (fun s hs => hv s (by simp [hs])) (fun s hs => hk s (by simp [hs]))
    · rename_i c
      have e : r.2.2 = -1 := by omega
      rw [e] at hr
      rw [h1]
      have hf := h.full (by omega) (by omega) hr
      obtain ⟨g1, _, _⟩ := h.fills (by omega) (by omega) hr 20 (Nat.le_refl _)
      rw [hf] at g1
      exact ref_ok g1 h3 hh (fun s hs => hv s (by simp [hs])) (fun s hs => hk s (by simp [hs]))
theorem kpv_vars : ∀ {n lo hi : Int} {p : Option Int} {l : List Rg}, Chain n lo hi p l → ∀ (w : List Int) (x : Int), kpv l w x = -1 ∨ 0 ≤ kpv l w x ∧ kpv l w x < n
  | _, _, _, _, [], _, w, x => .inl rfl
  | n, lo, hi, p, r :: l, h, w, x => by
    obtain ⟨a1, a2, a3, a4, a5, a6, a7⟩ := h
    rw [kpv]
    split
    · split
      · exact .inr ⟨a4, a5⟩
      · exact .inl rfl
    · exact kpv_vars a7 _ _
theorem ref_setup {l : List Rg} {w : List Int} (h : RwOk l w) : Line 0 100000 (kpL l (full w)).1 ∧ (∀ r ∈ (kpL l (full w)).1, r.2.2 < 20 ∧ -1 ≤ r.2.2) ∧ (∀ r ∈ (kpL l (full w)).1, ∀ x, r.1 ≤ x → x < r.2.1 → kpv l (full w) x = r.2.2) ∧
    RInv (kpv l (full w)) (l.foldl keepW (full w)) 0 [] (l.foldl keepW (full w)) ∧ RwChar (kpv l (full w)) (l.foldl keepW (full w)) (rwR l w) := by
  obtain ⟨⟨p, w1, w2, K, F, Fl, S, v, hk, hf, hS, ho, hd⟩, _⟩ := rwR_spec h
  obtain ⟨h1, h2, h3⟩ := rgFault_right h.1
  obtain ⟨g1, g2, g3, g4⟩ := wtFault_right h.2
  have hl := full_length g3
  have hs : (full w).sum = 100000 := by
    unfold Go.Proofs.Ytphmgjcjcdodhaa.full
    rw [List.sum_append, g2]
    simp
  have hpos : ∀ v, 0 ≤ nd (full w) v := fun v => by
    rw [full_nd]
    by_cases h : v < w.length
    · rw [nd_at h]; exact (g1 _ (List.getElem_mem h)).1
    · rw [nd_out (by omega)]; exact Int.le_refl _
  have hch := char_prog hl hk hf hS ho
  rw [← hd] at hch
  have hline := chain_line h1
  obtain ⟨k1, k2⟩ := kp_ok (d := []) hpos rfl (Int.le_refl 0) hline
  have k3 : ∀ x, 0 ≤ x → x < 100000 → atv (kpL l (full w)).1 x = kpv l (full w) x := fun x a b => by rw [show kpL l (full w) = l.foldl kpS ([], full w) from rfl, k2 x a b, if_neg (by omega)]
  have k1 : Line 0 100000 (kpL l (full w)).1 := k1
  have hkx : ∀ r ∈ (kpL l (full w)).1, ∀ x, r.1 ≤ x → x < r.2.1 → kpv l (full w) x = r.2.2 := fun r hr x a b => by
    have hm := k1.mem r hr
    rw [← k3 x (by omega) (by omega)]
    exact k1.atv r hr x a b
  have hkv : ∀ r ∈ (kpL l (full w)).1, r.2.2 < 20 ∧ -1 ≤ r.2.2 := fun r hr => by
    have hm := k1.mem r hr
    have := hkx r hr r.1 (Int.le_refl _) hm.2.1
    rcases kpv_vars h1 (full w) r.1 with e | e
    · omega
    · omega
  have hsum : (l.foldl keepW (full w)).sum = cnt (fun x => kpv l (full w) x == -1) 0 100000 := by
    have e1 := hk.sum
    rw [hk.wst, hs] at e1
    have e2 : cnt (fun x => kpv l (full w) x == -1) 0 100000 = rsz F := by
      obtain ⟨M, hM, hL⟩ := hk.tile
      rw [hL.cnt, ← tot_perm _ hM, tot_append]
      have e3 : tot (fun r => cnt (fun x => kpv l (full w) x == -1) r.1 r.2.1) K = tot (fun _ => 0) K := tot_congr fun r hr => cnt_none fun x a b => by
        have := (hk.vars r hr).1
        rw [hk.kin r hr x a b]
        simp; omega
      have e4 : ∀ l : List Rg, tot (fun _ => 0) l = 0 := fun l => by
        induction l with
        | nil => rfl
        | cons r l ih => rw [tot, ih]; rfl
      rw [e3, e4, rsz_tot, tot_congr (g := fun r => r.2.1 - r.1) fun r hr => cnt_all (by have := hL.mem r (hM.mem_iff.1 (by simp [hr])); omega) fun x a b => by rw [hk.fin r hr x a b]; simp]
      omega
    obtain ⟨M, hM, hL⟩ := hk.tile
    have e5 : rsz (K ++ F) = rsz M := by rw [rsz_tot, rsz_tot]; exact tot_perm _ hM
    rw [hL.rsz, rsz_append] at e5
    omega
  have hlen : (l.foldl keepW (full w)).length = 20 := by rw [← hk.wst, hk.len]; exact hl
  have hp0 : ∀ v, 0 ≤ nd (l.foldl keepW (full w)) v := fun v => by rw [← hk.wst]; exact hk.pos v
  have hI : RInv (kpv l (full w)) (l.foldl keepW (full w)) 0 [] (l.foldl keepW (full w)) :=
    ⟨by omega, hlen, rfl, fun x a b => by omega, fun x y a b c => by omega, fun v _ => by rw [cnt_none fun x a b => by omega]; omega, fun x a b => by omega, hp0, hsum⟩
  exact ⟨k1, hkv, hkx, hI, hch⟩
/-- The reference makes the same ranges. -/
theorem ref_eq {l : List Rg} {w : List Int} (h : RwOk l w) : refR l w = rwR l w := by
  obtain ⟨k1, hkv, hkx, hI, hch⟩ := ref_setup h
  have hR := ref_ok hI k1 (Int.le_refl _) hkv hkx
  have hR : RInv (kpv l (full w)) (l.foldl keepW (full w)) 100000 (refR l w) (refL (kpL l (full w)).1 (l.foldl keepW (full w))).2 := hR
  have hz : ∀ v, v < 20 → nd (refL (kpL l (full w)).1 (l.foldl keepW (full w))).2 v = 0 := by
    have e := hR.sum
    rw [cnt_none fun x a b => by omega, sum_nd, hR.len] at e
    exact sumN_none hR.pos e
  refine char_eq ⟨hR.chain, hR.kp, hR.mono, fun v hv => ?_⟩ hch
  have := hR.cnt v hv
  rw [hz v hv] at this
  omega
end Go.Proofs.Ytphmgjcjcdodhaa
