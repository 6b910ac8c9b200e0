/-
  The abstract machine, part 16: functions that return a slice of their own, and functions that take one over.
-/
import Derived.Test.YtphmgjcjcdodhaaAm15
namespace Go.AM
open Go.RowKit

section
variable {P : Program} {hp1 hp2 hpe : Hp} {nx nxe : Nat} {S1 S' : Nat → Prop} {G G' : Nat → GI} {w w' : World} {D : Nat → Prop}

/-- A callee that was lent some blocks (D) has returned; the caller goes on without them. -/
theorem back_drop (hi : Inv P w S1 G hp1 nx) (hsub : ∀ id b, hp2 id = some b → hp1 id = some b ∧ ¬ D (G id).g) (hD : ∀ b, D b → liveIn hp1 G b) (fr : Fr w D w') (inv' : Inv P w' S' G' hpe nxe) (hs0 : ∀ b, S1 b → S' b) (hs1 : ∀ b, S' b → S1 b ∨ D b ∨ w.heap.size ≤ b) :
    Stp P hp1 nx S1 G w hp2 nx S' G w' := by
  have hnD : ∀ b, S1 b → ¬ D b := fun b hb hd => by
    obtain ⟨id, blk, h1, rfl⟩ := hD b hd
    exact hi.apart id blk h1 hb
  have hS : ∀ b, S1 b → S' b ∧ w'.heap[b]? = w.heap[b]? := fun b hb => ⟨hs0 b hb, fr.block b (hi.st b hb) (hnD b hb)⟩
  refine ⟨⟨inv'.st, fun id b hb => hi.top id b (hsub id b hb).1, fun id b hb => ?_, fun id b hb hs => ?_, fun id id' b b' hb hb' he => hi.inj id id' b b' (hsub id b hb).1 (hsub id' b' hb').1 he⟩, Nat.le_refl _, fun _ _ => rfl, hs0, fun b hb => ?_, fun id b hb => .inl ⟨id, b, (hsub id b hb).1, rfl⟩, ⟨fr.os, fr.tape, fr.output, fr.size, fr.drawn, fun k hk hn => fr.block k hk fun hd => hn (hD k hd)⟩⟩
  · have hl := hi.live id b (hsub id b hb).1
    exact hl.mono hS (Nat.le_refl _) (fun _ _ => rfl) (fr.block _ hl.lt (hsub id b hb).2)
  · have hl := hi.live id b (hsub id b hb).1
    rcases hs1 _ hs with h | h | h
    · exact hi.apart id b (hsub id b hb).1 h
    · exact (hsub id b hb).2 h
    · have := hl.lt; omega
  · rcases hs1 b hb with h | h | h
    · exact .inl h
    · exact .inr (.inl (hD b h))
    · exact .inr (.inr h)

/-- The same, where the callee hands back a slice of its own. -/
theorem back_own (hi : Inv P w S1 G hp1 nx) (hsub : ∀ id b, hp2 id = some b → hp1 id = some b ∧ ¬ D (G id).g) (hD : ∀ b, D b → liveIn hp1 G b) (fr : Fr w D w') (inv' : Inv P w' S' G' hpe nxe) (hs0 : ∀ b, S1 b → S' b) (hs1 : ∀ b, S' b → S1 b ∨ D b ∨ w.heap.size ≤ b)
    {id : Nat} {b : Blk} (hb : hpe id = some b) (harr : b.arr = true) (hown : D (G' id).g ∨ w.heap.size ≤ (G' id).g) :
    Stp P hp1 nx S1 G w (upd hp2 nx (some b)) (nx + 1) S' (upd G nx (G' id)) w' := by
  have kk := back_drop hi hsub hD fr inv' hs0 hs1
  have hne : ∀ id' b', hp2 id' = some b' → (G id').g ≠ (G' id).g := fun id' b' h' he => by
    rcases hown with h | h
    · exact (hsub id' b' h').2 (he ▸ h)
    · have := (hi.live id' b' (hsub id' b' h').1).lt; omega
  have hG : ∀ k, k < nx → upd G nx (G' id) k = G k := fun k hk => upd_other _ _ _ _ (by omega)
  have hpo : ∀ k, k ≠ nx → upd hp2 nx (some b) k = hp2 k := fun k hk => upd_other _ _ _ _ hk
  have hSS : ∀ b, S' b → S' b ∧ w'.heap[b]? = w'.heap[b]? := fun b hb => ⟨hb, rfl⟩
  have htop : ∀ k c, hp2 k = some c → k < nx := fun k c hk => hi.top k c (hsub k c hk).1
  refine ⟨⟨inv'.st, fun k c hk => ?_, fun k c hk => ?_, fun k c hk => ?_, fun k k' c c' hk hk' he => ?_⟩, by omega, hG, kk.keep, kk.from_, fun k' c hk => ?_, kk.fr⟩
  · by_cases hkn : k = nx
    · omega
    · rw [hpo k hkn] at hk; have := htop k c hk; omega
  · by_cases hkn : k = nx
    · subst hkn
      simp only [upd_same] at hk ⊢
      injection hk with hk
      subst hk
      have hl := inv'.live id _ hb
      refine ⟨hl.bs, hl.size, hl.len, hl.fit, ?_⟩
      obtain ⟨cur, h1, h2, h3⟩ := hl.row
      refine ⟨cur, h1, h2, fun i j c pv hi' hj => ?_⟩
      obtain ⟨u, h4, h5⟩ := h3 i j c pv hi' hj
      exact ⟨u, h4, h5.1, .c (h5.1 harr), h5.2.2⟩
    · rw [hpo k hkn] at hk
      rw [hG k (htop k c hk)]
      exact (kk.inv.live k c hk).mono hSS (by omega) hG rfl
  · by_cases hkn : k = nx
    · subst hkn
      simp only [upd_same]
      exact inv'.apart id b hb
    · rw [hpo k hkn] at hk
      rw [hG k (htop k c hk)]
      exact kk.inv.apart k c hk
  · by_cases hkn : k = nx <;> by_cases hkn' : k' = nx
    · omega
    · subst hkn
      rw [hpo k' hkn'] at hk'
      rw [hG k' (htop k' c' hk')] at he
      simp only [upd_same] at he
      exact (hne k' c' hk' he.symm).elim
    · subst hkn'
      rw [hpo k hkn] at hk
      rw [hG k (htop k c hk)] at he
      simp only [upd_same] at he
      exact (hne k c hk he).elim
    · rw [hpo k hkn] at hk
      rw [hpo k' hkn'] at hk'
      rw [hG k (htop k c hk), hG k' (htop k' c' hk')] at he
      exact hi.inj k k' c c' (hsub k c hk).1 (hsub k' c' hk').1 he
  · by_cases hkn : k' = nx
    · subst hkn
      simp only [upd_same]
      rcases hown with h | h
      · exact .inl (hD _ h)
      · exact .inr h
    · rw [hpo k' hkn] at hk
      rw [hG k' (htop k' c hk)]
      exact .inl ⟨k', c, (hsub k' c hk).1, rfl⟩

theorem own_back {id n : Nat} {v : Value} (h : RepO w' S' G' nxe (.own id 0 n) v) : RepO w' S' (upd G nx (G' id)) (nx + 1) (.own nx 0 n) v := by
  obtain ⟨cap, h1, h2, h3, h4, rfl⟩ := h.own_inv
  have := RepO.own (w := w') (S := S') (G := upd G nx (G' id)) (nx := nx + 1) (id := nx) (off := 0) (n := n) (cap := cap) (by omega) h2 h3 (by simpa using h4)
  simpa using this
end

section
variable {C : Ctx} {pf : FuncId → Bool} {f : FuncId} {fn : Func} {code : Code}

/-- What a function's run must come to, for hFresh and hMove. -/
def OwnR (r : Option Blk) (x : PV) (hp : Hp) (_ : Nat) : Prop := match r with
  | none => x = .nil
  | some b => ∃ id, x = .own id 0 b.es.length ∧ hp id = some b ∧ b.arr = true

theorem hFresh_sound (hg : Good C pf) (hk : Known C pf f fn code) (ns : List Nat) (F : List PV → Option (Option Blk)) (hF : ∀ args r, F args = some r → args.length ≤ fn.ntmps ∧ ∃ x hp nx, evalFunc C fn args (fun _ => none) 0 = some (x, hp, nx) ∧ OwnR r x hp nx) :
    SpecSound C.P f (hFresh ns F) := by
  refine ⟨⟨fn, hk.func, hk.name, by rw [hk.body]; rfl⟩, ?_⟩
  intro args hp nx r hp' nx' h w S G vs hi hz
  unfold hFresh at h
  split at h
  · rename_i as hp1 hfr
    obtain ⟨S1, k1, hz1, _⟩ := freezeVals_sound hi hfr hz
    have hsub : ∀ id b, hp1 id = some b → hp1 id = some b ∧ ¬ False := fun id b h => ⟨h, fun h => h⟩
    split at h
    · rename_i hF0
      obtain ⟨hn, x, hpe, nxe, hef, hx0⟩ := hF _ none hF0
      injection h with h
      injection h with e1 h
      injection h with e2 e3
      subst e1; subst e2; subst e3
      simp only [OwnR] at hx0
      subst hx0
      refine (run_closed hg hk hef hn k1.inv.st (norm_rep hz1)).mono fun e w' hh => ?_
      obtain ⟨v, S', G', he, fr, inv', hx, hs0, hs1, _⟩ := hh
      have k2 := back_drop (D := fun _ => False) (hp2 := hp1) k1.inv hsub (fun _ h => h.elim) fr inv' hs0 (fun b hb => (hs1 b hb).imp (fun h => h) .inr)
      have := hx.nil_inv
      subst this
      exact ⟨_, _, _, he, k1.trans k2, .c .nil⟩
    · rename_i b hF0
      obtain ⟨hn, x, hpe, nxe, hef, hx0⟩ := hF _ (some b) hF0
      injection h with h
      injection h with e1 h
      injection h with e2 e3
      subst e1; subst e2; subst e3
      obtain ⟨id, rfl, hid, harr⟩ := hx0
      refine (run_closed hg hk hef hn k1.inv.st (norm_rep hz1)).mono fun e w' hh => ?_
      obtain ⟨v, S', G', he, fr, inv', hx, hs0, hs1, hown⟩ := hh
      have k2 := back_own (D := fun _ => False) (hp2 := hp1) k1.inv hsub (fun _ h => h.elim) fr inv' hs0 (fun b hb => (hs1 b hb).imp (fun h => h) .inr) hid harr (.inr (hown id b hid))
      exact ⟨_, _, _, he, k1.trans k2, own_back hx⟩
    · cases h
  · cases h

theorem hMove_sound (hg : Good C pf) (hk : Known C pf f fn code) (ns : List Nat) (F : Option Blk → List PV → Option (Option Blk))
    (h0 : ∀ args r, F none args = some r → args.length + 1 ≤ fn.ntmps ∧ ∃ x hp nx, evalFunc C fn (.nil :: args) (fun _ => none) 0 = some (x, hp, nx) ∧ OwnR r x hp nx)
    (h1 : ∀ b args r, F (some b) args = some r → args.length + 1 ≤ fn.ntmps ∧ (b.arr = true → ∃ x hp nx, evalFunc C fn (.own 0 0 b.es.length :: args) (upd (fun _ => none) 0 (some b)) 1 = some (x, hp, nx) ∧ OwnR r x hp nx)) :
    SpecSound C.P f (hMove ns F) := by
  refine ⟨⟨fn, hk.func, hk.name, by rw [hk.body]; rfl⟩, ?_⟩
  intro args hp nx r hp' nx' h w S G vs hi hz
  unfold hMove at h
  split at h
  · rename_i l
    obtain ⟨u, us, rfl, hu, hz'⟩ := hz.uncons
    have := hu.nil_inv
    subst this
    split at h
    · rename_i as hp1 hfr
      obtain ⟨S1, k1, hz1, _⟩ := freezeVals_sound hi hfr hz'
      have hz2 : Zip (RepC w S1) (.nil :: normArgs ns as) (.slice none 0 0 :: us) := .cons .nil (norm_rep hz1)
      have hsub : ∀ id b, hp1 id = some b → hp1 id = some b ∧ ¬ False := fun id b h => ⟨h, fun h => h⟩
      split at h
      · rename_i hF0
        obtain ⟨hn, x, hpe, nxe, hef, hx0⟩ := h0 _ none hF0
        injection h with h
        injection h with e1 h
        injection h with e2 e3
        subst e1; subst e2; subst e3
        simp only [OwnR] at hx0
        subst hx0
        refine (run_closed hg hk hef (by simpa using hn) k1.inv.st hz2).mono fun e w' hh => ?_
        obtain ⟨v, S', G', he, fr, inv', hx, hs0, hs1, _⟩ := hh
        have k2 := back_drop (D := fun _ => False) (hp2 := hp1) k1.inv hsub (fun _ h => h.elim) fr inv' hs0 (fun b hb => (hs1 b hb).imp (fun h => h) .inr)
        have := hx.nil_inv
        subst this
        exact ⟨_, _, _, he, k1.trans k2, .c .nil⟩
      · rename_i b hF0
        obtain ⟨hn, x, hpe, nxe, hef, hx0⟩ := h0 _ (some b) hF0
        injection h with h
        injection h with e1 h
        injection h with e2 e3
        subst e1; subst e2; subst e3
        obtain ⟨id, rfl, hid, harr⟩ := hx0
        refine (run_closed hg hk hef (by simpa using hn) k1.inv.st hz2).mono fun e w' hh => ?_
        obtain ⟨v, S', G', he, fr, inv', hx, hs0, hs1, hown⟩ := hh
        have k2 := back_own (D := fun _ => False) (hp2 := hp1) k1.inv hsub (fun _ h => h.elim) fr inv' hs0 (fun b hb => (hs1 b hb).imp (fun h => h) .inr) hid harr (.inr (hown id b hid))
        exact ⟨_, _, _, he, k1.trans k2, own_back hx⟩
      · cases h
    · cases h
  · rename_i id n l
    obtain ⟨u, us, rfl, hu, hz'⟩ := hz.uncons
    split at h
    · rename_i as hp1 hfr
      obtain ⟨S1, k1, hz1, _⟩ := freezeVals_sound hi hfr hz'
      have hu1 : RepO w S1 G nx (.own id 0 n) u := hu.mono (k1.same hi) (Nat.le_refl _) (fun _ _ => rfl)
      split at h
      · rename_i b0 hb0
        split at h
        · rename_i hc
          obtain ⟨hba, rfl⟩ := hc
          obtain ⟨cap, g1, g2, g3, g4, rfl⟩ := hu1.own_inv
          -- the callee's own heap: the lent block alone
          have hbr := k1.inv.live id b0 hb0
          have hinv : Inv C.P w S1 (fun _ => G id) (upd (fun _ => none) 0 (some b0)) 1 := by
            have hx : ∀ k b, upd (fun _ => none) 0 (some b0) k = some b → k = 0 ∧ b = b0 := by
              intro k b hk
              unfold upd at hk
              split at hk
              · injection hk with hk; exact ⟨by assumption, hk.symm⟩
              · cases hk
            refine ⟨k1.inv.st, fun k b hk => by rw [(hx k b hk).1]; omega, fun k b hk => ?_, fun k b hk => ?_, fun k k' b b' hk hk' _ => by rw [(hx k b hk).1, (hx k' b' hk').1]⟩
            · rw [(hx k b hk).2]
              refine ⟨hbr.bs, hbr.size, hbr.len, hbr.fit, ?_⟩
              obtain ⟨cur, q1, q2, q3⟩ := hbr.row
              refine ⟨cur, q1, q2, fun i j c pv hi' hj => ?_⟩
              obtain ⟨u, h4, h5⟩ := q3 i j c pv hi' hj
              exact ⟨u, h4, h5.1, .c (h5.1 hba), h5.2.2⟩
            · exact k1.inv.apart id b0 hb0
          have hz2 : Zip (RepO w S1 (fun _ => G id) 1) (.own 0 0 b0.es.length :: normArgs ns as) (.slice (some ⟨(G id).g, 0 * (G id).s, none⟩) b0.es.length cap :: us) :=
            .cons (.own (G := fun _ => G id) (id := 0) (by omega) g2 g3 g4) (norm_rep hz1).closed
          have hlive : ∀ b, liveIn (upd (fun _ => none) 0 (some b0)) (fun _ => G id) b → b = (G id).g := by
            rintro b ⟨_, _, _, rfl⟩; rfl
          have hD : ∀ b, b = (G id).g → liveIn hp1 G b := fun b hb => ⟨id, b0, hb0, hb.symm⟩
          have hsub : ∀ k b, upd hp1 id none k = some b → hp1 k = some b ∧ ¬ (G k).g = (G id).g := fun k b hk => by
            have hne : k ≠ id := by rintro rfl; simp at hk
            exact ⟨upd_none hk, fun he => hne (k1.inv.inj k id b b0 (upd_none hk) hb0 he)⟩
          have frD : ∀ {w' : World}, Fr w (liveIn (upd (fun _ => none) 0 (some b0)) (fun _ => G id)) w' → Fr w (fun b => b = (G id).g) w' := fun fr => ⟨fr.os, fr.tape, fr.output, fr.size, fr.drawn, fun k hk hn => fr.block k hk fun hl => hn (hlive k hl)⟩
          split at h
          · rename_i hF0
            obtain ⟨hn, hx1⟩ := h1 b0 _ none hF0
            obtain ⟨x, hpe, nxe, hef, hx0⟩ := hx1 hba
            injection h with h
            injection h with e1 h
            injection h with e2 e3
            subst e1; subst e2; subst e3
            simp only [OwnR] at hx0
            subst hx0
            refine (func_calls hg.spec hg.quiet hg.box hg.mixed hk.func hk.body hk.ok hef hinv hz2 (by simpa using hn)).mono fun e w' hh => ?_
            obtain ⟨v, S', G', he, k, hx⟩ := hh
            have k2 := back_drop (D := fun b => b = (G id).g) (hp2 := upd hp1 id none) k1.inv hsub hD (frD k.fr) k.inv k.keep (fun b hb => by
              rcases k.from_ b hb with h | h | h
              · exact .inl h
              · exact .inr (.inl (hlive b h))
              · exact .inr (.inr h))
            have := hx.nil_inv
            subst this
            exact ⟨_, _, _, he, k1.trans k2, .c .nil⟩
          · rename_i b hF0
            obtain ⟨hn, hx1⟩ := h1 b0 _ (some b) hF0
            obtain ⟨x, hpe, nxe, hef, hx0⟩ := hx1 hba
            injection h with h
            injection h with e1 h
            injection h with e2 e3
            subst e1; subst e2; subst e3
            obtain ⟨id', rfl, hid, harr⟩ := hx0
            refine (func_calls hg.spec hg.quiet hg.box hg.mixed hk.func hk.body hk.ok hef hinv hz2 (by simpa using hn)).mono fun e w' hh => ?_
            obtain ⟨v, S', G', he, k, hx⟩ := hh
            have k2 := back_own (D := fun b => b = (G id).g) (hp2 := upd hp1 id none) k1.inv hsub hD (frD k.fr) k.inv k.keep (fun b hb => by
              rcases k.from_ b hb with h | h | h
              · exact .inl h
              · exact .inr (.inl (hlive b h))
              · exact .inr (.inr h)) hid harr (by
              rcases k.own id' b hid with h | h
              · exact .inl (hlive _ h)
              · exact .inr h)
            exact ⟨_, _, _, he, k1.trans k2, own_back hx⟩
          · cases h
        · cases h
      · cases h
    · cases h
  · cases h

end
end Go.AM
