/-
  value.Xcopy: what it computes is the value.
-/
import Derived.Test.YtphmgjcjcdodhaaClone
import Derived.Test.YtphmgjcjcdodhaaAm26
namespace Go.Proofs.Ytphmgjcjcdodhaa
open Go.RowKit Go.AM
/-- What stands while the copies are filled. -/
structure XS (v : Val) (o3 o4 : PV) (hp : Hp) (nx : Nat) : Prop where
  b0 : hp 0 = some ⟨28, 5, false, [[int v.kind, int v.n, str v.s, o3, o4]]⟩
  b1 : hp 1 = some ⟨28, 5, false, [[int 0, int 0, .v (.string ⟨#[]⟩), .nil, .nil]]⟩
  s3 : OwnS hp nx 28 5 o3 (v.items.map Val.enc)
  s4 : OwnS hp nx 99 6 o4 (v.fields.map encF)
  d3 : ∀ id m, id < 2 → o3 ≠ .own id 0 m
  d4 : ∀ id m, id < 2 → o4 ≠ .own id 0 m
  d : ∀ id m m', o3 = .own id 0 m → o4 ≠ .own id 0 m'
  nx2 : 2 ≤ nx
theorem XS.more {v : Val} {o3 o4 : PV} {hp : Hp} {nx : Nat} (h : XS v o3 o4 hp nx) (b : Option Blk) : XS v o3 o4 (upd hp nx b) (nx + 1) := by
  have := h.nx2
  exact ⟨by rw [upd_miss _ _ _ _ (by omega)]; exact h.b0, by rw [upd_miss _ _ _ _ (by omega)]; exact h.b1, h.s3.more b, h.s4.more b, h.d3, h.d4, h.d, by omega⟩
theorem upd_self {α : Type} (f : Nat → α) (k : Nat) (x : α) (h : f k = x) : upd f k x = f := by
  funext i
  simp only [upd]
  split
  · rename_i e; subst e; exact h.symm
  · rfl
noncomputable abbrev Cxc (n : Nat) : Ctx := mkCtxL Try.prog [(38, hPure false [] (FV (fun v => .agg v.enc) n)), (78, hFresh [] (cloneF 28 5)), (79, hFresh [] (cloneF 99 6))] 1 [1, 7, 10] [78, 79]
theorem xknown (n : Nat) : KnownF (Cxc n) (fun g => [38].contains g) 38 Try.f38 := ⟨_, Try.func38, by kernel_rfl, rfl, by kernel_rfl⟩
set_option maxRecDepth 8000 in
theorem xcopy_eval (n : Nat) (v : Val) (h : v.vb ≤ lim ∧ v.vb ≤ n + 1) (y3 y4 : PV) (hy3 : SlOf 5 (v.items.map Val.enc) y3) (hy4 : SlOf 6 (v.fields.map encF) y4) :
    ∃ r0, evalPure (Cxc n) Try.f38 [.agg [int v.kind, int v.n, str v.s, y3, y4]] = some r0 ∧ Stands r0 (.agg v.enc) := by
  have hvb := vb_eq v
  have hl1 := vbs_length v.items
  have hl2 := fbs_length v.fields
  obtain ⟨ha, hb⟩ := h
  have hcl3 := fun hp nx => clone_call (e := 28) hy3 (by simp; omega) hp nx
  have hcl4 := fun hp nx => clone_call (e := 99) hy4 (by simp; omega) hp nx
  unfold lim at ha
  refine evalPureU_of rfl ?_
  simp [hy3.cell, hy4.cell]
  rw [EvC_region_here (by
    intro s hs id i j hst
    simp at hs
    rcases hs with rfl | rfl | rfl
    · simp at hst; obtain ⟨rfl, _⟩ := hst; exact ⟨by simp, _, by simp; rfl, rfl⟩
    · simp at hst
    · simp at hst)]
  obtain ⟨o3, f3, n3, e3⟩ : ∃ o f m, ownOr 28 5 (v.items.map Val.enc) y3 2 = (o, f, m) := ⟨_, _, _, rfl⟩
  have hn3 : 2 ≤ n3 := by have := ownOr_nx 28 5 (v.items.map Val.enc) y3 2; rw [e3] at this; exact this
  obtain ⟨o4, f4, n4, e4⟩ : ∃ o f m, ownOr 99 6 (v.fields.map encF) y4 n3 = (o, f, m) := ⟨_, _, _, rfl⟩
  have hn4 : n3 ≤ n4 := by have := ownOr_nx 99 6 (v.fields.map encF) y4 n3; rw [e4] at this; exact this
  have q3 : o3 = .nil ∨ o3 = .own 2 0 (v.items.map Val.enc).length := by have := ownOr_fst 28 5 (v.items.map Val.enc) y3 2; rw [e3] at this; exact this
  have q4 : o4 = .nil ∨ o4 = .own n3 0 (v.fields.map encF).length := by have := ownOr_fst 99 6 (v.fields.map encF) y4 n3; rw [e4] at this; exact this
  have ho3 : ∀ hp id, id < 2 → f3 hp id = hp id := fun hp id hid => by have := ownOr_other (e := 28) (s := 5) (es := v.items.map Val.enc) (y := y3) (nx := 2) hp hid; rw [e3] at this; exact this
  have ho4 : ∀ hp id, id < n3 → f4 hp id = hp id := fun hp id hid => by have := ownOr_other (e := 99) (s := 6) (es := v.fields.map encF) (y := y4) (nx := n3) hp hid; rw [e4] at this; exact this
  have hO3 : ∀ hp, OwnS (f3 hp) n3 28 5 o3 (v.items.map Val.enc) ∧ ∀ m, o3 ≠ .own 0 0 m ∧ o3 ≠ .own 1 0 m := fun hp => by
    have := clone_ownS (e := 28) hy3 hp 2
    rw [e3] at this
    exact ⟨this, fun m => by rcases q3 with rfl | rfl <;> simp⟩
  have hO4 : ∀ hp, OwnS (f4 hp) n4 99 6 o4 (v.fields.map encF) ∧ ∀ m id, id < n3 → o4 ≠ .own id 0 m := fun hp => by
    have := clone_ownS (e := 99) hy4 hp n3
    rw [e4] at this
    exact ⟨this, fun m id hid => by rcases q4 with rfl | rfl <;> simp <;> omega⟩
  have h30 := fun hp => ho3 hp 0 (by omega)
  have h40 := fun hp => ho4 hp 0 (by omega)
  have c3 : o3.isCell = true := by rcases q3 with rfl | rfl <;> rfl
  have c4 : o4.isCell = true := by rcases q4 with rfl | rfl <;> rfl
  have hcs3 : o3.cells = [o3] := by rcases q3 with rfl | rfl <;> rfl
  have hcs4 : o4.cells = [o4] := by rcases q4 with rfl | rfl <;> rfl
  have len3 : lenA Try.prog 25 o3 = some (int v.items.length) := by have := (hO3 fun _ => none).1.len (P := Try.prog) el25; simpa using this
  have h31 := fun hp => ho3 hp 1 (by omega)
  have h41 := fun hp => ho4 hp 1 (by omega)
  have hlt3 : ∀ id m, o3 = .own id 0 m → id < n3 := fun id m hid => by
    rcases (hO3 fun _ => none).1 with ⟨h, _⟩ | ⟨id', h1, h2, _⟩
    · rw [h] at hid; cases hid
    · rw [h2] at hid; injection hid with hid _ _; omega
  have hX : ∀ hp0 : Hp, hp0 1 = some ⟨28, 5, false, [[int 0, int 0, .v (.string ⟨#[]⟩), .nil, .nil]]⟩ → XS v o3 o4 (upd (f4 (f3 hp0)) 0 (some ⟨28, 5, false, [[int v.kind, int v.n, str v.s, o3, o4]]⟩)) n4 := by
    intro hp0 h1
    refine ⟨by simp, by rw [upd_miss _ _ _ _ (by omega), h41, h31, h1], ?_, ?_, fun id m hid he => ?_, fun id m hid => (hO4 hp0).2 m id (by omega), fun id m m' he => (hO4 hp0).2 m' id (hlt3 id m he), by omega⟩
    · refine (hO3 hp0).1.same hn4 fun id m hid => ?_
      have hne : ¬ id = 0 := by rintro rfl; exact ((hO3 hp0).2 m).1 hid
      rw [upd_miss _ _ _ _ hne, ho4 _ _ (hlt3 id m hid)]
    · refine (hO4 (f3 hp0)).1.same (Nat.le_refl _) fun id m hid => ?_
      have hne : ¬ id = 0 := by rintro rfl; exact (hO4 hp0).2 m 0 (by omega) hid
      rw [upd_miss _ _ _ _ hne]
    · have := (hO3 hp0).2 m
      match id, hid with
      | 0, _ => exact this.1 he
      | 1, _ => exact this.2 he
  simp [hcl3, e3, h30, hcl4, e4, h40, hcs3, hcs4, c3, c4, len3]
  refine EvC_for (fun k σ hp nx => σ 1 = .ref 0 0 0 ∧ σ 2 = .ref 1 0 0 ∧ σ 16 = o3 ∧ σ 17 = int v.items.length ∧ σ 18 = int k ∧ XS v o3 o4 hp nx) v.items.length
    ⟨by simp, by simp, by simp, by simp, by simp, by simpa using hX _ (by simp)⟩ ?_
  clear hX hlt3 h31 h41 hcl3 hcl4 hO3 hO4 ho3 ho4 h30 h40 len3
  rintro k σ hp nx hk ⟨h1, h2, h16, h17, h18, hX⟩
  by_cases hlt : k < v.items.length
  · have hm := vbs_mem (List.getElem_mem hlt)
    have hw : IntKind.i64.wrap ((k : Int) + 1) = (k : Int) + 1 := wrap_fit (by omega) (by omega)
    have hcall := fun hp nx => FV_call (fun v => .agg v.enc) n v.items[k] hp nx ⟨by unfold lim; omega, by omega⟩
    obtain ⟨id, i1, i2, i3⟩ := hX.s3.at_ (by simp; omega)
    have n0 : ¬ id = 0 := by rintro rfl; exact hX.d3 0 _ (by omega) i2
    have n1 : ¬ id = 1 := by rintro rfl; exact hX.d3 1 _ (by omega) i2
    have n2 : ¬ id = nx := by omega
    have n3 : ¬ 0 = nx := by have := hX.nx2; omega
    have hset : (v.items.map Val.enc).set k v.items[k].enc = v.items.map Val.enc := by
      apply List.ext_getElem?
      intro j
      rw [List.getElem?_set]
      split
      · rename_i e; subst e; simp [hlt]
      · rfl
    have hf : ∀ hp, freezeVal hp (.agg v.items[k].enc) = some (.agg v.items[k].enc, hp) := fun hp => freeze_enc hp _
    have b0 := hX.b0
    rw [i2] at h16 b0
    simp [h1, h2, h16, h17, h18, hlt, i3, hw, n0, n2, n3, b0, hcall, hset]
    refine ⟨hlt, by rw [i2]; simp, ?_⟩
    have h5 := hX.more (some ⟨28, 5, false, [v.items[k].enc]⟩)
    rw [upd_self _ id _ (by rw [upd_miss _ _ _ _ n2]; exact i3)]
    exact h5
  · obtain rfl : k = v.items.length := by omega
    have b0 := hX.b0
    have len4 : lenA Try.prog 26 o4 = some (int v.fields.length) := by have := hX.s4.len (P := Try.prog) el26; simpa using this
    simp [h1, h2, h16, h17, h18, b0, len4]
    refine EvC_for (fun k σ hp nx => σ 1 = .ref 0 0 0 ∧ σ 2 = .ref 1 0 0 ∧ σ 31 = o4 ∧ σ 32 = int v.fields.length ∧ σ 33 = int k ∧ XS v o3 o4 hp nx) v.fields.length
      ⟨by simp [h1], by simp [h2], by simp, by simp, by simp, by simpa using hX⟩ ?_
    clear h1 h2 h16 h17 h18 hX b0 len4 hlt hk σ hp nx
    rintro k σ hp nx hk ⟨h1, h2, h16, h17, h18, hX⟩
    by_cases hlt : k < v.fields.length
    · have hm := fbs_mem (List.getElem_mem hlt)
      have hw : IntKind.i64.wrap ((k : Int) + 1) = (k : Int) + 1 := wrap_fit (by omega) (by omega)
      have hcall := fun hp nx => FV_call (fun v => .agg v.enc) n v.fields[k].2 hp nx ⟨by unfold lim; omega, by omega⟩
      obtain ⟨id, i1, i2, i3⟩ := hX.s4.at_ (by simp; omega)
      have n0 : ¬ id = 0 := by rintro rfl; exact hX.d4 0 _ (by omega) i2
      have n2 : ¬ id = nx := by omega
      have n3 : ¬ 0 = nx := by have := hX.nx2; omega
      have hset : (v.fields.map encF).set k (str v.fields[k].1 :: v.fields[k].2.enc) = v.fields.map encF := by
        apply List.ext_getElem?
        intro j
        rw [List.getElem?_set]
        split
        · rename_i e; subst e; simp [hlt]
        · rfl
      have b0 := hX.b0
      rw [i2] at h16 b0
      simp [h1, h2, h16, h17, h18, hlt, i3, hw, n0, n2, n3, b0, hcall, hset]
      refine ⟨hlt, by rw [i2]; simp, ?_⟩
      have h5 := hX.more (some ⟨99, 6, false, [str v.fields[k].1 :: v.fields[k].2.enc]⟩)
      rw [upd_self _ id _ (by rw [upd_miss _ _ _ _ n2]; exact i3)]
      exact h5
    · obtain rfl : k = v.fields.length := by omega
      have b0 := hX.b0
      have b1 := hX.b1
      simp [h1, h2, h16, h17, h18, b0, b1, Try.f38, c3, c4]
      have s3 := hX.s3.same (hp' := upd hp 1 (some ⟨28, 5, false, [[int v.kind, int v.n, str v.s, o3, o4]]⟩)) (Nat.le_refl nx) fun id m hid => upd_miss _ _ _ _ (by rintro rfl; exact hX.d3 1 m (by omega) hid)
      obtain ⟨z3, hpA, g1, g2, g3⟩ := s3.gone
      have s4 := hX.s4.same (hp' := hpA) (Nat.le_refl nx) fun id m hid => by rw [g3 id (fun m' he => hX.d id m' m he hid), upd_miss _ _ _ _ (by rintro rfl; exact hX.d4 1 m (by omega) hid)]
      obtain ⟨z4, hpB, k1, k2, _⟩ := s4.gone
      refine ⟨.agg [int v.kind, int v.n, str v.s, z3, z4], ?_, ?_⟩
      · simp only [AM.freeze, freezeVal, freezeCells]
        have f1 : ∀ (hp : Hp) (x : Value), freezeCell hp (.v x) = some (.v x, hp) := fun _ _ => rfl
        simp only [f1, g1, k1]
        rfl
      · rw [enc_eq]
        exact StandsL.agg (.cons (.refl _) (.cons (.refl _) (.cons (.refl _) (.cons (.nilOr g2) (.cons (.nilOr k2) .nil)))))
theorem xcopy_sound : ∀ n, SpecSound Try.prog 38 (hPure false [] (FV (fun v => .agg v.enc) n)) := by
  intro n
  induction n with
  | zero => exact FV_zero ⟨_, Try.func38, by kernel_rfl, by kernel_rfl⟩
  | succ n ih =>
    have hg : AM.Good (Cxc n) (fun g => [38].contains g) := good_ofL mixed ⟨ih, fun _ => hPure_quiet _ _, cloneV_sound, by simp, cloneF_sound, by simp, trivial⟩ ⟨by simp, fun _ => hFresh_box _ _, fun _ => hFresh_box _ _, trivial⟩
    exact pureG (fn := Try.f38) hg (xknown n) false [] _ fun args r h w S vs hz => by
      obtain ⟨v, rfl, hv, rfl⟩ := FV_inv h
      obtain ⟨u, hu, hr⟩ := zip_one hz
      subst hu
      obtain ⟨y3, hy3, hr2⟩ := rep_agg_set hr (j := 3) (s := 5) (es := v.items.map Val.enc) (by simp)
      obtain ⟨y4, hy4, hr3⟩ := rep_agg_set hr2 (j := 4) (s := 6) (es := v.fields.map encF) (by rw [List.getElem?_set_ne (by omega)]; simp)
      have henc : (v.enc.set 3 y3).set 4 y4 = [int v.kind, int v.n, str v.s, y3, y4] := by rw [enc_eq]; rfl
      rw [henc] at hr3
      obtain ⟨r0, h1, h2⟩ := xcopy_eval n v hv y3 y4 hy3 hy4
      exact ⟨_, r0, .cons hr3 .nil, Nat.le_trans (Nat.le_refl 1) (by decide), h1, h2⟩
end Go.Proofs.Ytphmgjcjcdodhaa
