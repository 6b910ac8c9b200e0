/-
  Plain law: the order of versions and cuts is a total one.
-/
import Derived.Test.YtfjeckcbnhohmaaGreatDoorG8
namespace Go.Proofs.YtfjeckcbnhohmaaGreatDoor
open Go.RowKit Go.AM
/-- A comparison that orders. -/
structure TO {α : Type} (c : α → α → Int) : Prop where
  refl : ∀ x, c x x = 0
  flip : ∀ x y, c x y < 0 ↔ 0 < c y x
  tr : ∀ x y z, c x y ≤ 0 → c y z ≤ 0 → c x z ≤ 0
theorem TO.le {α : Type} {c : α → α → Int} (h : TO c) (x y : α) : c x y ≤ 0 ↔ 0 ≤ c y x := by
  have := h.flip y x
  omega
theorem TO.eq {α : Type} {c : α → α → Int} (h : TO c) (x y : α) : c x y = 0 ↔ c y x = 0 := by
  have h1 := h.flip y x
  have h2 := h.flip x y
  omega
theorem TO.trans {α : Type} {c : α → α → Int} (h : TO c) {x y z : α} (h1 : c x y < 0) (h2 : c y z < 0) : c x z < 0 := by
  have h3 := h.tr x y z (by omega) (by omega)
  rcases Int.lt_or_eq_of_le h3 with h4 | h4
  · exact h4
  · have h5 := (h.eq x z).1 h4
    have h6 := h.tr z x y (by omega) (by omega)
    have := (h.flip y z).1 h2
    omega
theorem TO.ntrans {α : Type} {c : α → α → Int} (h : TO c) {x y z : α} (h1 : 0 ≤ c x y) (h2 : 0 ≤ c y z) : 0 ≤ c x z :=
  (h.le z x).1 (h.tr z y x ((h.le z y).2 h2) ((h.le y x).2 h1))
theorem TO.pull {α β : Type} {c : β → β → Int} (h : TO c) (f : α → β) : TO fun x y => c (f x) (f y) := ⟨fun _ => h.refl _, fun _ _ => h.flip _ _, fun _ _ _ => h.tr _ _ _⟩
def lexC {α : Type} (c d : α → α → Int) (x y : α) : Int := if c x y = 0 then d x y else c x y
theorem TO.lex {α : Type} {c d : α → α → Int} (hc : TO c) (hd : TO d) : TO (lexC c d) where
  refl x := by simp [lexC, hc.refl, hd.refl]
  flip x y := by
    unfold lexC
    have h1 := hc.flip x y
    have h2 := hc.flip y x
    have h3 := hd.flip x y
    by_cases h : c x y = 0
    · rw [if_pos h, if_pos ((hc.eq x y).1 h)]; exact h3
    · rw [if_neg h, if_neg (fun e => h ((hc.eq x y).2 e))]; exact h1
  tr x y z := by
    unfold lexC
    intro h1 h2
    by_cases a : c x y = 0 <;> by_cases b : c y z = 0
    · rw [if_pos a] at h1
      rw [if_pos b] at h2
      have e1 := hc.tr x y z (by omega) (by omega)
      have e2 := hc.tr z y x (by have := (hc.eq y z).1 b; omega) (by have := (hc.eq x y).1 a; omega)
      have e3 := (hc.le z x).1 e2
      rw [if_pos (by omega)]
      exact hd.tr x y z h1 h2
    · rw [if_neg b] at h2
      have e1 := hc.tr x y z (by omega) h2
      by_cases e : c x z = 0
      · exfalso
        have e2 := hc.tr z x y (by have := (hc.eq x z).1 e; omega) (by omega)
        have := (hc.flip y z).1 (by omega)
        omega
      · rw [if_neg e]; exact e1
    · rw [if_neg a] at h1
      have e1 := hc.tr x y z h1 (by omega)
      by_cases e : c x z = 0
      · exfalso
        have e2 := hc.tr y z x (by omega) (by have := (hc.eq x z).1 e; omega)
        have := (hc.flip x y).1 (by omega)
        omega
      · rw [if_neg e]; exact e1
    · rw [if_neg a] at h1
      rw [if_neg b] at h2
      have := hc.trans (x := x) (y := y) (z := z) (by omega) (by omega)
      rw [if_neg (by omega)]
      omega
theorem TO.zero {α : Type} : TO fun (_ _ : α) => (0 : Int) := ⟨fun _ => rfl, fun _ _ => by simp, fun _ _ _ _ _ => Int.le_refl _⟩
theorem lexL_to {α : Type} {c : α → α → Int} (h : TO c) : TO (lexL c) where
  refl l := by
    induction l with
    | nil => rfl
    | cons x l ih => simp [lexL, h.refl, ih]
  flip a b := by
    induction a generalizing b with
    | nil => cases b <;> simp [lexL]
    | cons x a ih =>
      cases b with
      | nil => simp [lexL]
      | cons y b =>
        simp only [lexL]
        by_cases e : c x y = 0
        · rw [if_pos e, if_pos ((h.eq x y).1 e)]; exact ih b
        · rw [if_neg e, if_neg (fun e' => e ((h.eq x y).2 e'))]; exact h.flip x y
  tr a b d := by
    induction a generalizing b d with
    | nil => cases d <;> simp [lexL]
    | cons x a ih =>
      cases b with
      | nil => simp [lexL]
      | cons y b =>
        cases d with
        | nil => simp [lexL]
        | cons z d =>
          simp only [lexL]
          intro h1 h2
          by_cases p : c x y = 0 <;> by_cases q : c y z = 0
          · rw [if_pos p] at h1
            rw [if_pos q] at h2
            have e1 := h.tr x y z (by omega) (by omega)
            have e2 := h.tr z y x (by have := (h.eq y z).1 q; omega) (by have := (h.eq x y).1 p; omega)
            have e3 := (h.le z x).1 e2
            rw [if_pos (by omega)]
            exact ih b d h1 h2
          · rw [if_neg q] at h2
            have e1 := h.tr x y z (by omega) h2
            by_cases e : c x z = 0
            · exfalso
              have e2 := h.tr z x y (by have := (h.eq x z).1 e; omega) (by omega)
              have := (h.flip y z).1 (by omega)
              omega
            · rw [if_neg e]; exact e1
          · rw [if_neg p] at h1
            have e1 := h.tr x y z h1 (by omega)
            by_cases e : c x z = 0
            · exfalso
              have e2 := h.tr y z x (by omega) (by have := (h.eq x z).1 e; omega)
              have := (h.flip x y).1 (by omega)
              omega
            · rw [if_neg e]; exact e1
          · rw [if_neg p] at h1
            rw [if_neg q] at h2
            have := h.trans (x := x) (y := y) (z := z) (by omega) (by omega)
            rw [if_neg (by omega)]
            omega
theorem cmpI_to : TO cmpI := ⟨fun x => by simp [cmpI], fun x y => by unfold cmpI; split <;> split <;> (try split) <;> omega, fun x y z => by unfold cmpI; repeat' split <;> omega⟩
theorem cmpB_lex : ∀ a b : List UInt8, cmpB a b = lexL (fun x y : UInt8 => cmpI x.toNat y.toNat) a b
  | [], [] => rfl
  | [], _ :: _ => rfl
  | _ :: _, [] => rfl
  | x :: a, y :: b => by
    have ih := cmpB_lex a b
    simp only [lexL]
    unfold cmpB at ih ⊢
    simp only [Lib.compareBytes]
    rcases Nat.lt_trichotomy x.toNat y.toNat with h | h | h
    · have h1 : x < y := h
      have e : cmpI x.toNat y.toNat = -1 := by unfold cmpI; rw [if_pos (by omega)]
      simp [h1, e]
    · have e : cmpI x.toNat y.toNat = 0 := by unfold cmpI; rw [if_neg (by omega), if_neg (by omega)]
      have h1 : ¬ x < y := by show ¬ x.toNat < y.toNat; omega
      have h2 : ¬ y < x := by show ¬ y.toNat < x.toNat; omega
      simp [h1, h2, e, ih]
    · have h1 : ¬ x < y := by show ¬ x.toNat < y.toNat; omega
      have h2 : y < x := h
      have e : cmpI x.toNat y.toNat = 1 := by unfold cmpI; rw [if_neg (by omega), if_pos (by omega)]
      simp [h1, h2, e]
theorem cmpB_to : TO cmpB := by
  have : cmpB = lexL (fun x y : UInt8 => cmpI x.toNat y.toNat) := by funext a b; exact cmpB_lex a b
  rw [this]
  exact lexL_to (cmpI_to.pull fun x : UInt8 => (x.toNat : Int))
/-- What a part of Pre is ordered by. -/
noncomputable def preKey (a : List UInt8) : Int × Int × List UInt8 × List UInt8 := if digs1 a = true then (0, (Lib.trimLeftB a 48).length, Lib.trimLeftB a 48, []) else (1, 0, [], a)
theorem cmpPreB_key (a b : List UInt8) : cmpPreB a b = lexC (fun x y => cmpI x.1 y.1) (lexC (fun x y => cmpI x.2.1 y.2.1) (lexC (fun x y => cmpB x.2.2.1 y.2.2.1) fun x y => cmpB x.2.2.2 y.2.2.2)) (preKey a) (preKey b) := by
  unfold cmpPreB preKey lexC
  have r := cmpB_to.refl []
  have r1 : cmpI 0 0 = 0 := rfl
  have r2 : cmpI 1 1 = 0 := rfl
  by_cases h1 : digs1 a = true <;> by_cases h2 : digs1 b = true
  · simp only [h1, h2, if_true, r1, r, orL]
  · simp [h1, h2, cmpI]
  · simp [h1, h2, cmpI]
  · simp [h1, h2, r1, r2, r]
theorem cmpPreB_to : TO cmpPreB := by
  have : cmpPreB = fun a b => lexC (fun x y => cmpI x.1 y.1) (lexC (fun x y => cmpI x.2.1 y.2.1) (lexC (fun x y => cmpB x.2.2.1 y.2.2.1) fun x y => cmpB x.2.2.2 y.2.2.2)) (preKey a) (preKey b) := by funext a b; exact cmpPreB_key a b
  rw [this]
  exact TO.pull (TO.lex (cmpI_to.pull fun x : Int × Int × List UInt8 × List UInt8 => x.1) (TO.lex (cmpI_to.pull fun x : Int × Int × List UInt8 × List UInt8 => x.2.1) (TO.lex (cmpB_to.pull fun x : Int × Int × List UInt8 × List UInt8 => x.2.2.1) (cmpB_to.pull fun x : Int × Int × List UInt8 × List UInt8 => x.2.2.2)))) preKey
/-- 1: no Pre. -/
def preNo (v : Ver) : Int := if v.pre.length = 0 then 1 else 0
theorem cmpV_lex (v w : Ver) : cmpV v w = lexC (fun x y => cmpI x.a y.a) (lexC (fun x y => cmpI x.b y.b) (lexC (fun x y => cmpI x.c y.c) (lexC (fun x y => cmpI (preNo x) (preNo y)) fun x y => lexL cmpPreB x.pre y.pre))) v w := by
  unfold cmpV lexC
  by_cases h1 : cmpI v.a w.a = 0
  · by_cases h2 : cmpI v.b w.b = 0
    · by_cases h3 : cmpI v.c w.c = 0
      · simp only [orL, h1, h2, h3, if_true]
        by_cases p : v.pre.length = 0 <;> by_cases q : w.pre.length = 0
        · have e1 : v.pre = [] := List.length_eq_zero_iff.1 p
          have e2 : w.pre = [] := List.length_eq_zero_iff.1 q
          simp [preNo, p, q, cmpI, e1, e2, lexL]
        · simp [preNo, p, q, cmpI]
        · simp [preNo, p, q, cmpI]
        · simp [preNo, p, q, cmpI]
      · simp [orL, h1, h2, h3]
    · simp [orL, h1, h2]
  · simp [orL, h1]
theorem cmpV_to : TO cmpV := by
  have : cmpV = lexC (fun x y => cmpI x.a y.a) (lexC (fun x y => cmpI x.b y.b) (lexC (fun x y => cmpI x.c y.c) (lexC (fun x y => cmpI (preNo x) (preNo y)) fun x y => lexL cmpPreB x.pre y.pre))) := by funext a b; exact cmpV_lex a b
  rw [this]
  exact TO.lex (cmpI_to.pull fun x : Ver => x.a) (TO.lex (cmpI_to.pull fun x : Ver => x.b) (TO.lex (cmpI_to.pull fun x : Ver => x.c) (TO.lex (cmpI_to.pull preNo) ((lexL_to cmpPreB_to).pull fun x : Ver => x.pre))))
def aftI (c : Cut) : Int := if c.after = true then 1 else 0
theorem cmpC_lex (a b : Cut) : cmpC a b = lexC (fun x y => cmpV x.v y.v) (fun x y => cmpI (aftI x) (aftI y)) a b := by
  unfold cmpC lexC
  by_cases h : cmpV a.v b.v = 0
  · simp only [h, if_true]
    cases ha : a.after <;> cases hb : b.after <;> simp [aftI, ha, hb, cmpI]
  · simp [h]
theorem cmpC_to : TO cmpC := by
  have : cmpC = lexC (fun x y => cmpV x.v y.v) (fun x y => cmpI (aftI x) (aftI y)) := by funext a b; exact cmpC_lex a b
  rw [this]
  exact TO.lex (cmpV_to.pull fun x : Cut => x.v) (cmpI_to.pull aftI)
end Go.Proofs.YtfjeckcbnhohmaaGreatDoor
