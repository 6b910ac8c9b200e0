/-
  Like: the reference's table.
-/
import Derived.Test.YtphmgjcjcdodhaaDoorLike2
namespace Go.Proofs.YtphmgjcjcdodhaaDoor
open Go.RowKit Go.AM Go.LikeLaw

/-- A row of the table. -/
def rowOf (n : Nat) (f : Nat → Bool) : List (List PV) := (List.range n).map fun i => [.v (.bool (f i))]
@[simp] theorem rowOf_length (n : Nat) (f : Nat → Bool) : (rowOf n f).length = n := by simp [rowOf]
theorem rowOf_get {n : Nat} {f : Nat → Bool} {i : Nat} (h : i < n) : (rowOf n f)[i]? = some [.v (.bool (f i))] := by simp [rowOf, h]
@[simp] theorem rowOf_elem (n : Nat) (f : Nat → Bool) (i : Nat) (h : i < (rowOf n f).length) : (rowOf n f)[i] = [.v (.bool (f i))] := by simp [rowOf]
theorem rowOf_set {n : Nat} {f g : Nat → Bool} {i : Nat} {b : Bool} (hb : b = g i) (h : ∀ j, j < n → j ≠ i → f j = g j) : (rowOf n f).set i [.v (.bool b)] = rowOf n g := by
  apply List.ext_getElem?
  intro j
  rw [List.getElem?_set]
  by_cases hj : i = j
  · subst hj
    by_cases hn : i < n
    · rw [if_pos rfl, if_pos (by simpa using hn), rowOf_get hn, hb]
    · have : (rowOf n g)[i]? = none := by rw [List.getElem?_eq_none]; simp; omega
      simp [hn, this]
  · simp only [hj, if_false]
    by_cases hn : j < n
    · rw [rowOf_get hn, rowOf_get hn, h j hn (Ne.symm hj)]
    · rw [List.getElem?_eq_none (by simp; omega), List.getElem?_eq_none (by simp; omega)]
theorem rowOf_congr {n : Nat} {f g : Nat → Bool} (h : ∀ j, j < n → f j = g j) : rowOf n f = rowOf n g := by
  unfold rowOf
  apply List.map_congr_left
  intro j hj
  rw [h j (List.mem_range.1 hj)]
theorem rowOf_false (n : Nat) : List.replicate n [PV.v (.bool false)] = rowOf n fun _ => false := by
  unfold rowOf
  rw [List.map_const']
  simp

/-- The table. -/
noncomputable def tab (t p : List UInt8) (k i : Nat) : Bool := likeB (t.take i) (p.take k)
theorem tab_iff {t p : List UInt8} {k i : Nat} : tab t p k i = true ↔ Lk (t.take i) (p.take k) := by simp [tab, likeB]
theorem take_snoc {l : List UInt8} {k : Nat} (h : k < l.length) : l.take (k + 1) = l.take k ++ [l[k]] := List.take_succ_eq_append_getElem h
theorem tab_star0 {t p : List UInt8} {k : Nat} (hk : k < p.length) (hs : p[k] = 42) : tab t p (k + 1) 0 = tab t p k 0 := by
  rw [Bool.eq_iff_iff, tab_iff, tab_iff, take_snoc hk, hs]
  simp [snoc_star_nil]
theorem tab_star {t p : List UInt8} {k i : Nat} (hk : k < p.length) (hi : i < t.length) (hs : p[k] = 42) : tab t p (k + 1) (i + 1) = (tab t p k (i + 1) || tab t p (k + 1) i) := by
  rw [Bool.eq_iff_iff, Bool.or_eq_true, tab_iff, tab_iff, tab_iff, take_snoc hk, hs, take_snoc hi, snoc_star_snoc]
theorem tab_one0 {t p : List UInt8} {k : Nat} (hk : k < p.length) (hs : p[k] ≠ 42) : tab t p (k + 1) 0 = false := by
  rw [Bool.eq_false_iff, ne_eq, tab_iff, take_snoc hk, List.take_zero]
  exact snoc_one_nil hs
theorem tab_one {t p : List UInt8} {k i : Nat} (hk : k < p.length) (hi : i < t.length) (hs : p[k] ≠ 42) : tab t p (k + 1) (i + 1) = (tab t p k i && (decide (p[k] = 63) || decide (p[k] = t[i]))) := by
  rw [Bool.eq_iff_iff, Bool.and_eq_true, tab_iff, tab_iff, take_snoc hk, take_snoc hi, snoc_one hs]
  simp
theorem tab_start (t p : List UInt8) (i : Nat) (hi : i < t.length + 1) : tab t p 0 i = decide (i = 0) := by
  rw [Bool.eq_iff_iff, tab_iff]
  simp [nil_right]
  rintro rfl
  simpa using hi

set_option maxRecDepth 8000 in
theorem refLike_eval (t p : List UInt8) (ht : t.length ≤ lim) (hp : p.length ≤ lim) : evalPure C0 Tryd.f5 [str t, str p] = some (.v (.bool (likeB t p))) := by
  refine evalPure_of rfl ?_
  unfold lim at *
  have wn1 : IntKind.i64.wrap ((t.length : Int) + 1) = (t.length : Int) + 1 := wrap_fit (by omega) (by omega)
  have m1 : t.length + 1 ≤ maxLen := by unfold maxLen; omega
  have hm : ∀ hp nx, makeSliceA Tryd.prog hp nx 24 (int ((t.length : Int) + 1)) (int ((t.length : Int) + 1)) = some (.own nx 0 (t.length + 1), upd hp nx (some ⟨4, 1, true, rowOf (t.length + 1) fun _ => false⟩), nx + 1) := by
    intro hp nx
    have e : ((t.length : Int) + 1).toNat = t.length + 1 := by omega
    simp [makeSliceA, e, rowOf_false]
    omega
  simp [wn1, hm]
  have hset : (rowOf (t.length + 1) fun _ => false).set 0 [PV.v (.bool true)] = rowOf (t.length + 1) (tab t p 0) := rowOf_set (by rw [tab_start _ _ _ (by omega)]; rfl) fun j hj hne => by rw [tab_start _ _ _ hj]; simp [hne]
  rw [hset]
  refine EvC_for (fun k σ hp nx => σ 0 = str t ∧ σ 1 = str p ∧ σ 16 = int p.length ∧ σ 17 = int k ∧ ∃ id, id < nx ∧ σ 5 = .own id 0 (t.length + 1) ∧ hp id = some ⟨4, 1, true, rowOf (t.length + 1) (tab t p k)⟩) p.length
    ⟨by simp, by simp, by simp, by simp, 0, by simp, by simp, by simp⟩ ?_
  rintro k σ hp nx hk ⟨h0, h1, h16, h17, id, hid, h5, hb⟩
  by_cases hlt : k < p.length
  · simp [h0, h1, h16, h17, h5, hb, hlt, wn1, hm]
    refine EvC_for (fun i σ hp nx => σ 0 = str t ∧ σ 1 = str p ∧ σ 16 = int p.length ∧ σ 17 = int k ∧ σ 6 = int k ∧ σ 25 = int ((t.length : Int) + 1) ∧ σ 26 = int i ∧ ∃ id id2, id < nx ∧ id2 < nx ∧ ¬ id = id2 ∧ ¬ id2 = id ∧ σ 5 = .own id 0 (t.length + 1) ∧ hp id = some ⟨4, 1, true, rowOf (t.length + 1) (tab t p k)⟩ ∧
        σ 7 = .own id2 0 (t.length + 1) ∧ hp id2 = some ⟨4, 1, true, rowOf (t.length + 1) fun j => decide (j < i) && tab t p (k + 1) j⟩) (t.length + 1)
      ⟨by simp [h0], by simp [h1], by simp [h16], by simp [h17], by simp, by simp, by simp, id, nx, by simp; omega, by simp, by omega, by omega, by simp [h5], by simp [hb, show ¬ id = nx by omega], by simp, by simp⟩ ?_
    have wk : IntKind.i64.wrap ((k : Int) + 1) = (k : Int) + 1 := wrap_fit (by omega) (by omega)
    clear h0 h1 h16 h17 h5 hb hid id nx hp σ
    rintro i σ hp nx hi ⟨h0, h1, h16, h17, h6, h25, h26, id, id2, hid, hid2, hne, hne2, h5, hb, h7, hb2⟩
    have wi : IntKind.i64.wrap ((i : Int) + 1) = (i : Int) + 1 := wrap_fit (by omega) (by omega)
    have wi1 : 0 < i → IntKind.i64.wrap ((i : Int) - 1) = ((i - 1 : Nat) : Int) := fun _ => by rw [wrap_fit (by omega) (by omega)]; omega
    by_cases hil : i < t.length + 1
    · have hil' : (i : Int) < (t.length : Int) + 1 := by omega
      have rset : ∀ b, b = tab t p (k + 1) i → (rowOf (t.length + 1) fun j => decide (j < i) && tab t p (k + 1) j).set i [PV.v (.bool b)] = rowOf (t.length + 1) fun j => decide (j < i + 1) && tab t p (k + 1) j := fun b hbb => rowOf_set (by simp [hbb]) fun j hj hne => by
        have : decide (j < i) = decide (j < i + 1) := by rw [decide_eq_decide]; omega
        rw [this]
      have w1 : IntKind.i64.wrap 1 = 1 := wrap_fit (by omega) (by omega)
      by_cases hs : p[k] = 42
      · by_cases hi0 : i = 0
        · subst hi0
          cases hc : tab t p k 0
          · have hr := rset false (by rw [tab_star0 hlt hs, hc])
            simp at hr
            simp [h0, h1, h16, h17, h6, h25, h26, h5, hb, h7, hb2, hlt, hne, hne2, hil', wi, hr, hs, hc, w1]
            exact ⟨id, hid, id2, hid2, hne, hne2, rfl, by simp [hne, hb], rfl, by simp⟩
          · have hr := rset true (by rw [tab_star0 hlt hs, hc])
            simp at hr
            simp [h0, h1, h16, h17, h6, h25, h26, h5, hb, h7, hb2, hlt, hne, hne2, hil', wi, hr, hs, hc, w1]
            exact ⟨id, hid, id2, hid2, hne, hne2, rfl, by simp [hne, hb], rfl, by simp⟩
        · obtain ⟨j, rfl⟩ : ∃ j, i = j + 1 := ⟨i - 1, by omega⟩
          have wj : IntKind.i64.wrap ((j : Int) + 1 - 1) = (j : Int) := by rw [wrap_fit (by omega) (by omega)]; omega
          have wj' : IntKind.i64.wrap (j : Int) = (j : Int) := wrap_fit (by omega) (by omega)
          have jp : 0 < (j : Int) + 1 := by omega
          have hjl : (j : Int) + 1 < (t.length : Int) + 1 := by omega
          have hj2 : j < t.length := by omega
          have hj3 : j + 1 < t.length + 1 := by omega
          have hj4 : j < t.length + 1 := by omega
          have hj5 : 0 ≤ (j : Int) + 1 := by omega
          have hj6 : ((j : Int) + 1).toNat = j + 1 := by omega
          have wi' : IntKind.i64.wrap ((j : Int) + 1 + 1) = (j : Int) + 1 + 1 := wrap_fit (by omega) (by omega)
          cases hc : tab t p k (j + 1)
          · cases hd : tab t p (k + 1) j
            · have hr := rset false (by rw [tab_star hlt hj2 hs, hc, hd]; rfl)
              simp [h0, h1, h16, h17, h6, h25, h26, h5, hb, h7, hb2, hlt, hne, hne2, hil', wi, hr, hs, hc, jp, wj, wj', hjl, hj2, hj3, hj4, hj5, hj6, wi', hd]
              exact ⟨by omega, id, hid, id2, hid2, hne, hne2, rfl, by simp [hne, hb], rfl, by simp⟩
            · have hr := rset true (by rw [tab_star hlt hj2 hs, hc, hd]; rfl)
              simp [h0, h1, h16, h17, h6, h25, h26, h5, hb, h7, hb2, hlt, hne, hne2, hil', wi, hr, hs, hc, jp, wj, wj', hjl, hj2, hj3, hj4, hj5, hj6, wi', hd]
              exact ⟨by omega, id, hid, id2, hid2, hne, hne2, rfl, by simp [hne, hb], rfl, by simp⟩
          · have hr := rset true (by rw [tab_star hlt hj2 hs, hc]; rfl)
            simp [h0, h1, h16, h17, h6, h25, h26, h5, hb, h7, hb2, hlt, hne, hne2, hil', wi, hr, hs, hc, jp, wj, wj', hjl, hj2, hj3, hj4, hj5, hj6, wi']
            exact ⟨by omega, id, hid, id2, hid2, hne, hne2, rfl, by simp [hne, hb], rfl, by simp⟩
      · have hsb : ((p[k].toNat : Int) == 42) = false := by rw [show (42 : Int) = ((42 : UInt8).toNat : Int) from rfl, u8_eq]; simpa using hs
        by_cases hi0 : i = 0
        · subst hi0
          have hr : (rowOf (t.length + 1) fun j => decide (j < 0) && tab t p (k + 1) j) = rowOf (t.length + 1) fun j => decide (j = 0) && tab t p (k + 1) j := rowOf_congr fun j _ => by
            by_cases h : j = 0
            · subst h; simp [tab_one0 hlt hs]
            · simp [h]
          rw [hr] at hb2
          simp [h0, h1, h16, h17, h6, h25, h26, h5, hb, h7, hb2, hlt, hne, hne2, hil', wi, hsb, w1]
          exact ⟨id, hid, id2, hid2, hne, hne2, rfl, hb, rfl, hb2⟩
        · obtain ⟨j, rfl⟩ : ∃ j, i = j + 1 := ⟨i - 1, by omega⟩
          have wj : IntKind.i64.wrap ((j : Int) + 1 - 1) = (j : Int) := by rw [wrap_fit (by omega) (by omega)]; omega
          have wj' : IntKind.i64.wrap (j : Int) = (j : Int) := wrap_fit (by omega) (by omega)
          have jp : 0 < (j : Int) + 1 := by omega
          have hjl : (j : Int) + 1 < (t.length : Int) + 1 := by omega
          have hj2 : j < t.length := by omega
          have hj3 : j + 1 < t.length + 1 := by omega
          have hj4 : j < t.length + 1 := by omega
          have hj5 : 0 ≤ (j : Int) + 1 := by omega
          have hj6 : ((j : Int) + 1).toNat = j + 1 := by omega
          have wi' : IntKind.i64.wrap ((j : Int) + 1 + 1) = (j : Int) + 1 + 1 := wrap_fit (by omega) (by omega)
          cases hc : tab t p k j
          · have hr := rset false (by rw [tab_one hlt hj2 hs, hc]; rfl)
            simp [h0, h1, h16, h17, h6, h25, h26, h5, hb, h7, hb2, hlt, hne, hne2, hil', wi, hr, hsb, hc, jp, wj, wj', hjl, hj2, hj3, hj4, hj5, hj6, wi']
            exact ⟨by omega, id, hid, id2, hid2, hne, hne2, rfl, by simp [hne, hb], rfl, by simp⟩
          · by_cases hq : p[k] = 63
            · have hr := rset true (by rw [tab_one hlt hj2 hs, hc]; simp [hq])
              simp [h0, h1, h16, h17, h6, h25, h26, h5, hb, h7, hb2, hlt, hne, hne2, hil', wi, hr, hsb, hc, jp, wj, wj', hjl, hj2, hj3, hj4, hj5, hj6, wi', hq]
              exact ⟨by omega, id, hid, id2, hid2, hne, hne2, rfl, by simp [hne, hb], rfl, by simp⟩
            · have hqb : ((p[k].toNat : Int) == 63) = false := by rw [show (63 : Int) = ((63 : UInt8).toNat : Int) from rfl, u8_eq]; simpa using hq
              have hcb : ((p[k].toNat : Int) == (t[j].toNat : Int)) = decide (p[k] = t[j]) := u8_eq _ _
              have hr := rset (decide (p[k] = t[j])) (by rw [tab_one hlt hj2 hs, hc]; simp [hq])
              simp [h0, h1, h16, h17, h6, h25, h26, h5, hb, h7, hb2, hlt, hne, hne2, hil', wi, hr, hsb, hc, jp, wj, wj', hjl, hj2, hj3, hj4, hj5, hj6, wi', hqb, hcb]
              exact ⟨by omega, id, hid, id2, hid2, hne, hne2, rfl, by simp [hne, hb], rfl, by simp⟩
    · obtain rfl : i = t.length + 1 := by omega
      have hl2 : ¬ ((t.length : Int) + 1 < (t.length : Int) + 1) := by omega
      have hr : (rowOf (t.length + 1) fun j => decide (j < t.length + 1) && tab t p (k + 1) j) = rowOf (t.length + 1) (tab t p (k + 1)) := rowOf_congr fun j hj => by simp [hj]
      rw [hr] at hb2
      simp [h0, h1, h16, h17, h6, h25, h26, h5, hb, h7, hb2, hlt, wk]
      exact ⟨hlt, id2, hid2, rfl, hb2⟩
  · obtain rfl : k = p.length := by omega
    have e : tab t p p.length t.length = likeB t p := by simp [tab]
    simp [h0, h1, h16, h17, h5, hb, rowOf_get, e, Tryd.f5]
end Go.Proofs.YtphmgjcjcdodhaaDoor
