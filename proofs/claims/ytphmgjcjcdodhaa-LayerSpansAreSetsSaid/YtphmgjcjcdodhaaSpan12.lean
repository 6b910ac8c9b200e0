/-
  Spans: the reference's union and minus.
-/
import Derived.Test.YtphmgjcjcdodhaaSpan11
namespace Go.Proofs.Ytphmgjcjcdodhaa
open Go.RowKit Go.AM Go.SpanLaw

/-- A list of spans that put makes: nil while there is none. -/
def OwnB (hp : Hp) (nx : Nat) (v : PV) (d : List Sp) : Prop := (v = .nil ∧ d = []) ∨ (d ≠ [] ∧ ∃ id, id < nx ∧ v = .own id 0 d.length ∧ hp id = blkS d)
theorem OwnB.freeze {hp : Hp} {nx : Nat} {v : PV} {d : List Sp} (h : OwnB hp nx v d) (nx' : Nat) : pureN (.sl 2 (d.map encS)) v hp nx' := by
  rcases h with ⟨rfl, rfl⟩ | ⟨hd, id, h1, rfl, h2⟩
  · exact (OwnS.nil hp nx 43 2).freeze nx'
  · have : OwnS hp nx 43 2 (.own id 0 d.length) (d.map encS) := .inr ⟨id, h1, by simp, by rw [h2, blkS, if_neg (by simpa using hd)]⟩
    exact this.freeze nx'
theorem putL_ne (d : List Sp) (f t : Int) : putL d f t ≠ [] := by
  unfold putL
  split
  · split <;> simp
  · simp
theorem putL_length (d : List Sp) (f t : Int) : (putL d f t).length ≤ d.length + 1 := by
  unfold putL
  split
  · split
    · simp
    · simp
  · simp
theorem put_call {hp : Hp} {nx : Nat} {v : PV} {d : List Sp} {f t : Int} (h : OwnB hp nx v d) (hl : d.length ≤ 100000) : ∃ v' hp' nx', hMove [] putM [v, int f, int t] hp nx = some (v', hp', nx') ∧ OwnB hp' nx' v' (putL d f t) := by
  have hne := putL_ne d f t
  have hb : blkS (putL d f t) = some ⟨43, 2, true, (putL d f t).map encS⟩ := by rw [blkS, if_neg (by simpa using hne)]
  have hq := putM_eq d f t hl
  rw [hb] at hq
  have hfz : ∀ hp, freezeVals hp [int f, int t] = some ([int f, int t], hp) := fun hp => by rfl
  rcases h with ⟨rfl, rfl⟩ | ⟨hd, id, h1, rfl, h2⟩
  · refine ⟨.own nx 0 (putL [] f t).length, upd hp nx (some ⟨43, 2, true, (putL [] f t).map encS⟩), nx + 1, ?_, .inr ⟨hne, nx, by omega, rfl, by rw [hb]; simp⟩⟩
    have hq : putM none [int f, int t] = _ := hq
    simp [hMove, hfz, normArgs, hq]
  · have hb0 : blkS d = some ⟨43, 2, true, d.map encS⟩ := by rw [blkS, if_neg (by simpa using hd)]
    rw [hb0] at hq h2
    refine ⟨.own nx 0 (putL d f t).length, upd (upd hp id none) nx (some ⟨43, 2, true, (putL d f t).map encS⟩), nx + 1, ?_, .inr ⟨hne, nx, by omega, rfl, by rw [hb]; simp⟩⟩
    simp [hMove, hfz, normArgs, hq, h2]
noncomputable abbrev Csw : Ctx := mkCtx Try.prog [(92, hPure false [] (FPN (fun l x => int (nextF x 100000 l)) fun l _ => l.length ≤ 100)), (93, hPure false [] (FPN (fun l x => boo (hasB l x)) fun l _ => l.length ≤ 100)), (94, hMove [] putM)]

set_option maxRecDepth 8000 in
theorem runion_eval (a b : List Sp) (ha : spFault a = 0) (hb : spFault b = 0) : ∃ d, Swept (fun k => mem a k ∨ mem b k) 100000 d ∧ ∃ r0, evalPure Csw Try.f54 [.sl 2 (a.map encS), .sl 2 (b.map encS)] = some r0 ∧ Stands r0 (.sl 2 (d.map encS)) := by
  obtain ⟨_, _, _, hla⟩ := spFault_right ha
  obtain ⟨_, _, _, hlb⟩ := spFault_right hb
  have hfin : ∀ {code}, Try.f54.body = some code → EvC Csw code ⟨startσ [.sl 2 (a.map encS), .sl 2 (b.map encS)], fun _ => none, 0⟩ (retK Csw.P Try.f54 (fun x hp nx => ∃ d, Swept (fun k => mem a k ∨ mem b k) 100000 d ∧ pureN (.sl 2 (d.map encS)) x hp nx)) → ∃ d, Swept (fun k => mem a k ∨ mem b k) 100000 d ∧ ∃ r0, evalPure Csw Try.f54 [.sl 2 (a.map encS), .sl 2 (b.map encS)] = some r0 ∧ Stands r0 (.sl 2 (d.map encS)) := by
    intro code hb h
    obtain ⟨x, hp', nx', h1, d, h2, r0, h3, h4⟩ := evalFunc_of hb h
    exact ⟨d, h2, r0, by unfold evalPure; simp only [h1]; exact h3, fun w S u hr => up_rep hr h4⟩
  refine hfin rfl ?_
  have n1 := fun l x hp nx h => FPN_call (fun l x => int (nextF x 100000 l)) (fun l _ => l.length ≤ 100) l x hp nx h
  have b1 := fun l x hp nx h => FPN_call (fun l x => boo (hasB l x)) (fun l _ => l.length ≤ 100) l x hp nx h
  simp
  refine EvC_loop (fun st => st.σ 0 = .sl 2 (a.map encS) ∧ st.σ 1 = .sl 2 (b.map encS) ∧ ∃ (at_ : Int) (d : List Sp), st.σ 6 = int at_ ∧ 0 ≤ at_ ∧ at_ ≤ 100000 ∧ OwnB st.hp st.nx (st.σ 5) d ∧ Swept (fun k => mem a k ∨ mem b k) at_ d ∧ (d.length : Int) ≤ at_)
    (fun st => (100000 - numAt (st.σ 6)).toNat) ⟨by simp, by simp, 0, [], by simp, by simp, by simp, .inl (by simp), swept_zero _, by simp⟩ ?_
  rintro ⟨σ, hp, nx⟩ ⟨h0, h1, at_, d, h6, hat, hat1, hO, hS, hdl⟩
  simp only at h0 h1 h6 hO
  by_cases hlt : at_ < 100000
  · obtain ⟨to, hto⟩ : ∃ to, (if nextF at_ 100000 b < nextF at_ 100000 a then nextF at_ 100000 b else nextF at_ 100000 a) = to := ⟨_, rfl⟩
    have g1 := nextF_gt (at_ := at_) (l := a) hlt
    have g2 := nextF_gt (at_ := at_) (l := b) hlt
    have g3 := nextF_le at_ a 100000
    have g4 := nextF_le at_ b 100000
    have t1 : at_ < to := by rw [← hto]; split <;> omega
    have t2 : to ≤ 100000 := by rw [← hto]; split <;> omega
    have t3 : to ≤ nextF at_ 100000 a := by rw [← hto]; split <;> omega
    have t4 : to ≤ nextF at_ 100000 b := by rw [← hto]; split <;> omega
    have hsame : ∀ k, at_ ≤ k → k < to → ((mem a k ∨ mem b k) ↔ (fun k => mem a k ∨ mem b k) at_) := fun k h1 h2 => by
      have e1 := nextF_same (l := a) (out := 100000) h1 (by omega)
      have e2 := nextF_same (l := b) (out := 100000) h1 (by omega)
      simp only [e1, e2]
    have hopb : (hasB a at_ || hasB b at_) = true ↔ (fun k => mem a k ∨ mem b k) at_ := by
      simp [hasB_mem, ← hasB_mem]
    by_cases hc : (fun k => mem a k ∨ mem b k) at_
    · obtain ⟨v', hp', nx', p1, p2⟩ := put_call hO (f := at_) (t := to) (by omega)
      have hpl : ((putL d at_ to).length : Int) ≤ to := by have := putL_length d at_ to; omega
      have hS' := swept_put hat hS t1 hsame hc
      have hcb := hopb.2 hc
      cases ca : hasB a at_ <;> cases cb : hasB b at_ <;> simp only [ca, cb] at hcb <;> simp at hcb
      all_goals simp [h0, h1, h6, hlt, n1 _ _ _ _ hla, n1 _ _ _ _ hlb, b1 _ _ _ _ hla, b1 _ _ _ _ hlb, hto, ca, cb, p1]
      all_goals exact ⟨⟨by omega, t2, putL d at_ to, p2, hS', hpl⟩, by omega⟩
    · have hS' := swept_skip hS t1 hsame hc
      have hcb : ¬ (hasB a at_ || hasB b at_) = true := fun h => hc (hopb.1 h)
      cases ca : hasB a at_ <;> cases cb : hasB b at_ <;> simp only [ca, cb] at hcb <;> simp at hcb
      all_goals simp [h0, h1, h6, hlt, n1 _ _ _ _ hla, n1 _ _ _ _ hlb, b1 _ _ _ _ hla, b1 _ _ _ _ hlb, hto, ca, cb]
      all_goals exact ⟨⟨by omega, t2, d, hO, hS', by omega⟩, by omega⟩
  · obtain rfl : at_ = 100000 := by omega
    simp [h0, h1, h6, Try.f54]
    exact ⟨d, hS, hO.freeze nx⟩

set_option maxRecDepth 8000 in
theorem rminus_eval (a b : List Sp) (ha : spFault a = 0) (hb : spFault b = 0) : ∃ d, Swept (fun k => mem a k ∧ ¬ mem b k) 100000 d ∧ ∃ r0, evalPure Csw Try.f56 [.sl 2 (a.map encS), .sl 2 (b.map encS)] = some r0 ∧ Stands r0 (.sl 2 (d.map encS)) := by
  obtain ⟨_, _, _, hla⟩ := spFault_right ha
  obtain ⟨_, _, _, hlb⟩ := spFault_right hb
  have hfin : ∀ {code}, Try.f56.body = some code → EvC Csw code ⟨startσ [.sl 2 (a.map encS), .sl 2 (b.map encS)], fun _ => none, 0⟩ (retK Csw.P Try.f56 (fun x hp nx => ∃ d, Swept (fun k => mem a k ∧ ¬ mem b k) 100000 d ∧ pureN (.sl 2 (d.map encS)) x hp nx)) → ∃ d, Swept (fun k => mem a k ∧ ¬ mem b k) 100000 d ∧ ∃ r0, evalPure Csw Try.f56 [.sl 2 (a.map encS), .sl 2 (b.map encS)] = some r0 ∧ Stands r0 (.sl 2 (d.map encS)) := by
    intro code hb h
    obtain ⟨x, hp', nx', h1, d, h2, r0, h3, h4⟩ := evalFunc_of hb h
    exact ⟨d, h2, r0, by unfold evalPure; simp only [h1]; exact h3, fun w S u hr => up_rep hr h4⟩
  refine hfin rfl ?_
  have n1 := fun l x hp nx h => FPN_call (fun l x => int (nextF x 100000 l)) (fun l _ => l.length ≤ 100) l x hp nx h
  have b1 := fun l x hp nx h => FPN_call (fun l x => boo (hasB l x)) (fun l _ => l.length ≤ 100) l x hp nx h
  simp
  refine EvC_loop (fun st => st.σ 0 = .sl 2 (a.map encS) ∧ st.σ 1 = .sl 2 (b.map encS) ∧ ∃ (at_ : Int) (d : List Sp), st.σ 6 = int at_ ∧ 0 ≤ at_ ∧ at_ ≤ 100000 ∧ OwnB st.hp st.nx (st.σ 5) d ∧ Swept (fun k => mem a k ∧ ¬ mem b k) at_ d ∧ (d.length : Int) ≤ at_)
    (fun st => (100000 - numAt (st.σ 6)).toNat) ⟨by simp, by simp, 0, [], by simp, by simp, by simp, .inl (by simp), swept_zero _, by simp⟩ ?_
  rintro ⟨σ, hp, nx⟩ ⟨h0, h1, at_, d, h6, hat, hat1, hO, hS, hdl⟩
  simp only at h0 h1 h6 hO
  by_cases hlt : at_ < 100000
  · obtain ⟨to, hto⟩ : ∃ to, (if nextF at_ 100000 b < nextF at_ 100000 a then nextF at_ 100000 b else nextF at_ 100000 a) = to := ⟨_, rfl⟩
    have g1 := nextF_gt (at_ := at_) (l := a) hlt
    have g2 := nextF_gt (at_ := at_) (l := b) hlt
    have g3 := nextF_le at_ a 100000
    have g4 := nextF_le at_ b 100000
    have t1 : at_ < to := by rw [← hto]; split <;> omega
    have t2 : to ≤ 100000 := by rw [← hto]; split <;> omega
    have t3 : to ≤ nextF at_ 100000 a := by rw [← hto]; split <;> omega
    have t4 : to ≤ nextF at_ 100000 b := by rw [← hto]; split <;> omega
    have hsame : ∀ k, at_ ≤ k → k < to → ((mem a k ∧ ¬ mem b k) ↔ (fun k => mem a k ∧ ¬ mem b k) at_) := fun k h1 h2 => by
      have e1 := nextF_same (l := a) (out := 100000) h1 (by omega)
      have e2 := nextF_same (l := b) (out := 100000) h1 (by omega)
      simp only [e1, e2]
    have hopb : (hasB a at_ && !hasB b at_) = true ↔ (fun k => mem a k ∧ ¬ mem b k) at_ := by
      simp [hasB_mem, ← hasB_mem]
    by_cases hc : (fun k => mem a k ∧ ¬ mem b k) at_
    · obtain ⟨v', hp', nx', p1, p2⟩ := put_call hO (f := at_) (t := to) (by omega)
      have hpl : ((putL d at_ to).length : Int) ≤ to := by have := putL_length d at_ to; omega
      have hS' := swept_put hat hS t1 hsame hc
      have hcb := hopb.2 hc
      cases ca : hasB a at_ <;> cases cb : hasB b at_ <;> simp only [ca, cb] at hcb <;> simp at hcb
      all_goals simp [h0, h1, h6, hlt, n1 _ _ _ _ hla, n1 _ _ _ _ hlb, b1 _ _ _ _ hla, b1 _ _ _ _ hlb, hto, ca, cb, p1]
      all_goals exact ⟨⟨by omega, t2, putL d at_ to, p2, hS', hpl⟩, by omega⟩
    · have hS' := swept_skip hS t1 hsame hc
      have hcb : ¬ (hasB a at_ && !hasB b at_) = true := fun h => hc (hopb.1 h)
      cases ca : hasB a at_ <;> cases cb : hasB b at_ <;> simp only [ca, cb] at hcb <;> simp at hcb
      all_goals simp [h0, h1, h6, hlt, n1 _ _ _ _ hla, n1 _ _ _ _ hlb, b1 _ _ _ _ hla, b1 _ _ _ _ hlb, hto, ca, cb]
      all_goals exact ⟨⟨by omega, t2, d, hO, hS', by omega⟩, by omega⟩
  · obtain rfl : at_ = 100000 := by omega
    simp [h0, h1, h6, Try.f56]
    exact ⟨d, hS, hO.freeze nx⟩
end Go.Proofs.Ytphmgjcjcdodhaa
