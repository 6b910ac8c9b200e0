/-
  The abstract machine, part 13: regions, code, functions: the evaluator is sound.
-/
import Derived.Test.YtphmgjcjcdodhaaAm12
import Derived.Test.YtphmgjcjcdodhaaAm3
import Derived.LoopN
namespace Go.AM
open Go.RowKit

section
variable {C : Ctx} {pf : FuncId → Bool}

def listedL (listed : Array Bool) (k : Nat) : Prop := listed.getD k false = true

theorem range_split {i n : Nat} (h : i < n) : List.range n = List.range i ++ i :: List.range' (i + 1) (n - i - 1) := by
  have h1 : List.range n = List.range' 0 i ++ List.range' i (n - i) := by
    rw [List.range_eq_range', show List.range' 0 n = List.range' 0 (i + (n - i)) from by rw [show i + (n - i) = n from by omega], ← List.range'_append_1]
    simp
  rw [h1, List.range_eq_range']
  congr 1
  rw [show n - i = (n - i - 1) + 1 from by omega, List.range'_succ]
  simp

theorem order_eq {ops : Array Oper} {cm : Oper → Oper → Bool} {A : St → Prop} (hcm : CommOk C ops cm A) (hok : okDraw cm ops = true) : ∀ (fuel t : Nat) (listed : Array Bool) (st : St), A st → listed.size = ops.size → Closed ops (listedL listed) →
    ((List.range ops.size).filter fun i => !listed.getD i true).length ≤ fuel →
    evalIdx C ops (Region.linearise.go .any ops fuel t listed []) st = evalIdx C ops ((List.range ops.size).filter fun i => !listed.getD i true) st := by
  intro fuel
  induction fuel with
  | zero =>
    intro t listed st _ _ _ hc
    rw [List.eq_nil_of_length_eq_zero (Nat.le_zero.1 hc)]
    rfl
  | succ fuel ih =>
    intro t listed st hA hsz hcl hc
    simp only [Region.linearise.go]
    change evalIdx C ops (match (Region.ready .any ops listed)[t % (Region.ready .any ops listed).length]? with
      | some i => Region.linearise.go .any ops fuel (t / (Region.ready .any ops listed).length) (listed.setIfInBounds i true) [i]
      | none => [].reverse) st = _
    have hget : ∀ k, k < ops.size → listed.getD k true = listed.getD k false := fun k hk => by
      have : k < listed.size := by omega
      simp [this]
    have hready : ∀ i, i ∈ Region.ready .any ops listed ↔ i < ops.size ∧ listed.getD i true = false ∧ ∃ o, ops[i]? = some o ∧ Preds (listedL listed) o := by
      intro i
      unfold Region.ready
      simp only [List.mem_filter, List.mem_range, Bool.and_eq_true, Bool.not_eq_true']
      constructor
      · rintro ⟨h1, h2, h3⟩
        refine ⟨h1, h2, ops[i], by simp [h1], fun e he hb => ?_⟩
        simp only [h1, Array.getElem?_eq_getElem, Option.map_some, Option.getD_some] at h3
        have := Array.all_eq_true'.1 h3 e (by simpa using he)
        simpa [hb, listedL] using this
      · rintro ⟨h1, h2, o, ho, hp⟩
        refine ⟨h1, h2, ?_⟩
        simp only [ho, Option.map_some, Option.getD_some]
        refine Array.all_eq_true'.2 fun e he => ?_
        cases hb : Region.binds .any e with
        | false => rfl
        | true => simpa [listedL] using hp e (by simpa using he) hb
    cases hi : (Region.ready .any ops listed)[t % (Region.ready .any ops listed).length]? with
    | none =>
      have hnil : Region.ready .any ops listed = [] := by
        cases hr : Region.ready .any ops listed with
        | nil => rfl
        | cons x xs =>
          rw [hr] at hi
          have hlt : t % (x :: xs).length < (x :: xs).length := Nat.mod_lt _ (by simp)
          simp at hi
          simp at hlt
          omega
      have hall : ∀ n k, k < n → k < ops.size → listed.getD k true = true := by
        intro n
        induction n with
        | zero => intro k hk; omega
        | succ n ihn =>
          intro k hk hks
          by_cases hkn : k < n
          · exact ihn k hkn hks
          · have hkk : k = n := by omega
            subst hkk
            cases hb : listed.getD k true with
            | true => rfl
            | false =>
              have ho : ops[k]? = some ops[k] := by simp [hks]
              have hmem : k ∈ Region.ready .any ops listed := (hready k).2 ⟨hks, hb, ops[k], ho, fun e he hbe => by
                have hlt := (okDraw_spec hok k _ ho).1 e he hbe
                have := ihn e.on hlt (by omega)
                rw [hget e.on (by omega)] at this
                exact this⟩
              rw [hnil] at hmem
              cases hmem
      have : ((List.range ops.size).filter fun i => !listed.getD i true) = [] := by
        rw [List.filter_eq_nil_iff]
        intro k hk
        have hks := List.mem_range.1 hk
        rw [hall (k + 1) k (by omega) hks]
        simp
      rw [this]
      rfl
    | some i =>
      simp only []
      obtain ⟨hin, hul, o, ho, hp⟩ := (hready i).1 (List.mem_of_getElem? hi)
      rw [linearise_go_acc, List.reverse_singleton, List.singleton_append]
      have hl' : ∀ k, (listed.setIfInBounds i true).getD k true = if k = i then true else listed.getD k true := by
        intro k
        by_cases hk : k = i
        · subst hk
          have : k < listed.size := by omega
          simp [this]
        · rw [if_neg hk]
          simp [Array.getElem?_setIfInBounds_ne (fun h => hk h.symm)]
      have hlf : ∀ k, listedL (listed.setIfInBounds i true) k ↔ k = i ∨ listedL listed k := by
        intro k
        unfold listedL
        by_cases hk : k = i
        · subst hk
          have : k < listed.size := by omega
          simp [this]
        · simp [Array.getElem?_setIfInBounds_ne (fun h => hk h.symm), hk]
      have hsplit : ((List.range ops.size).filter fun k => !listed.getD k true) = ((List.range i).filter fun k => !listed.getD k true) ++ i :: ((List.range' (i + 1) (ops.size - i - 1)).filter fun k => !listed.getD k true) := by
        rw [range_split hin, List.filter_append, List.filter_cons_of_pos (by rw [hul]; rfl)]
      have hsplit' : ((List.range ops.size).filter fun k => !(listed.setIfInBounds i true).getD k true) = ((List.range i).filter fun k => !listed.getD k true) ++ ((List.range' (i + 1) (ops.size - i - 1)).filter fun k => !listed.getD k true) := by
        rw [range_split hin, List.filter_append, List.filter_cons_of_neg (by rw [hl']; simp)]
        congr 1
        · exact List.filter_congr fun k hk => by
            have := List.mem_range.1 hk
            rw [hl', if_neg (by omega)]
        · exact List.filter_congr fun k hk => by
            have := (List.mem_range'_1.1 hk).1
            rw [hl', if_neg (by omega)]
      have hcl' : Closed ops (listedL (listed.setIfInBounds i true)) := by
        intro k o' hk ho' e he hb
        rw [hlf] at hk ⊢
        rcases hk with rfl | hk
        · rw [ho] at ho'
          injection ho' with ho'
          subst ho'
          exact .inr (hp e he hb)
        · exact .inr (hcl k o' hk ho' e he hb)
      have hcount : ((List.range ops.size).filter fun k => !(listed.setIfInBounds i true).getD k true).length ≤ fuel := by
        rw [hsplit'] 
        rw [hsplit] at hc
        simp only [List.length_append, List.length_cons] at hc ⊢
        omega
      have hrec := fun st hA => ih (t / (Region.ready .any ops listed).length) (listed.setIfInBounds i true) st hA (by simpa using hsz) hcl' hcount
      rw [hsplit, evalIdx_front hcm ho _ _ _ hA (fun j hj => by
        obtain ⟨hji, hju⟩ := List.mem_filter.1 hj
        have hji := List.mem_range.1 hji
        rcases (okDraw_spec hok i o ho).2 j hji with h | h
        · have := h (listedL listed) hcl hp
          unfold listedL at this
          rw [← hget j (by omega)] at this
          rw [this] at hju
          cases hju
        · exact h)]
      simp only [evalIdx, ho]
      cases hso : stepA C ops o st with
      | none => rfl
      | some st' =>
        simp only [Option.bind_some]
        rw [hrec st' (hcm.keep i o st st' ho hA hso), hsplit']

theorem evalIdx_text (ops : Array Oper) (st : St) : ∀ (l : List Oper) (i : Nat), (∀ k, l[k]? = ops[i + k]?) → i + l.length = ops.size → evalIdx C ops (List.range' i l.length) st = evalList C ops l st := by
  intro l
  induction l generalizing st with
  | nil => intro i _ _; rfl
  | cons o l ih =>
    intro i hk hl
    have ho : ops[i]? = some o := by have := hk 0; simpa using this.symm
    simp only [List.length_cons, List.range'_succ, evalIdx, ho, evalList]
    cases hs : stepA C ops o st with
    | none => rfl
    | some st' =>
      simp only [Option.bind_some]
      exact ih st' (i + 1) (fun k => by have := hk (k + 1); simpa [Nat.add_assoc, Nat.add_comm 1 k] using this) (by simp at hl; omega)

theorem evalIdx_range (ops : Array Oper) (st : St) : evalIdx C ops (List.range ops.size) st = evalList C ops ops.toList st := by
  have := evalIdx_text (C := C) ops st ops.toList 0 (by simp) (by simp)
  rw [List.range_eq_range']
  simpa using this

theorem draw_eq {ops : Array Oper} {cm : Oper → Oper → Bool} {A : St → Prop} (hcm : CommOk C ops cm A) (hok : okDraw cm ops = true) (t : Nat) (st : St) (hA : A st) : evalIdx C ops (Region.linearise .any ops t) st = evalList C ops ops.toList st := by
  unfold Region.linearise
  rw [order_eq hcm hok ops.size t _ st hA (by simp) (fun k o hk => by
    unfold listedL at hk
    rw [Array.getD_eq_getD_getElem?, Array.getElem?_replicate] at hk
    split at hk <;> simp at hk) (Nat.le_trans (List.length_filter_le _ _) (by simp))]
  have : ((List.range ops.size).filter fun i => !(Array.replicate ops.size false).getD i true) = List.range ops.size := by
    rw [List.filter_eq_self]
    intro i hi
    have hi := List.mem_range.1 hi
    simp [hi]
  rw [this, evalIdx_range]

end

section
variable {C : Ctx} {pf : FuncId → Bool} {w0 : World} {S0 L : Nat → Prop} {N nx0 : Nat} {G0 : Nat → GI}

theorem yield_eq {w : World} {S : Nat → Prop} {G : Nat → GI} {nx : Nat} {ops : Array Oper} {σ : Nat → PV} {a : Act} (hs : ∀ t, RepO w S G nx (σ t) (a.tmps.getD t undef)) : yielded ops a.tmps = yieldA ops σ := by
  funext j
  unfold yielded yieldA
  cases hd : (ops[j]?).bind (·.dst) with
  | none => rfl
  | some d =>
    simp only [Option.bind_some]
    have hr := hs d
    have hnb : ∀ b : Bool, a.tmps.getD d undef = .bool b → a.tmps[d]? = some (.bool b) := by
      intro b hb
      by_cases hlt : d < a.tmps.size
      · simp [hlt] at hb ⊢; exact hb
      · simp [hlt] at hb
        simp [undef] at hb
    cases hσ : σ d with
    | v x =>
      rw [hσ] at hr
      obtain ⟨e, hl⟩ := hr.v_inv
      cases x with
      | bool b => simp only [hnb b e]
      | _ =>
        cases hk : a.tmps[d]? with
        | none => rfl
        | some y =>
          have : a.tmps.getD d undef = y := by simp [hk]
          rw [this] at e
          subst e
          rfl
    | _ =>
      cases hk : a.tmps[d]? with
      | none => rfl
      | some y =>
        have : a.tmps.getD d undef = y := by simp [hk]
        rw [hσ, this] at hr
        cases y with
        | bool b => cases hr with
          | c h => cases h
        | _ => rfl

theorem ops_sound (hΓ : ∀ g spec, C.Γ g = some spec → SpecSound C.P g spec) {ops : Array Oper} (hN : ∀ (i : Nat) (o : Oper), ops[i]? = some o → ∀ d, o.dst = some d → d < N) {Q : Exit → Act → World → Prop} :
    ∀ (l : List Nat) (st st' : St) (a : Act) (w : World), evalIdx C ops l st = some st' → Sim C.P w0 S0 L N nx0 G0 st a w → (∀ a' w', Sim C.P w0 S0 L N nx0 G0 st' a' w' → Q .normal a' w') → wpOps C.P ops Q l a w
  | [], st, st', a, w, h, hs, hQ => by
    simp only [evalIdx] at h
    injection h with h
    subst h
    exact hQ a w hs
  | i :: l, st, st', a, w, h, hs, hQ => by
    simp only [wpOps]
    cases ho : ops[i]? with
    | none =>
      simp only [evalIdx, ho] at h
      exact ops_sound hΓ hN l st st' a w h hs hQ
    | some o =>
      simp only [evalIdx, ho] at h
      cases hst : stepA C ops o st with
      | none => rw [hst] at h; cases h
      | some st1 =>
        rw [hst] at h
        simp only [Option.bind_some] at h
        obtain ⟨S, G, hS⟩ := hs
        unfold stepA at hst
        simp only []
        rw [yield_eq hS.slots]
        split at hst
        · rename_i hw
          rw [if_pos hw]
          split at hst
          · rename_i x hp nx hev
            injection hst with hst
            subst hst
            left
            have hop := evalOp_sound hΓ hS.inv (a := a.eval) (fun y pv hy => get_rep hS.slots hy) (o := o) hev
            unfold Oper.wp
            rcases hop with ⟨v, w', S', G', hr, hk, hx⟩ | ⟨g, vs, hr, hc⟩
            · have hsim : Sim C.P w0 S0 L N nx0 G0 ⟨put st.σ o.dst x, hp, nx⟩ (a.put o.dst v) w' := ⟨S', G', hS.step hk hx (hN i o ho)⟩
              have hrest := ops_sound hΓ hN l _ st' _ w' h hsim hQ
              rcases hr with hr | ⟨hr, rfl⟩
              · rw [hr]; exact hrest
              · rw [hr]; exact hrest
            · rw [hr]
              simp only [Oper.upon]
              refine hc.mono fun e w' hh => ?_
              obtain ⟨v, S', G', rfl, hk, hx⟩ := hh
              have hsim : Sim C.P w0 S0 L N nx0 G0 ⟨put st.σ o.dst x, hp, nx⟩ (a.put o.dst v) w' := ⟨S', G', hS.step hk hx (hN i o ho)⟩
              exact ops_sound hΓ hN l _ st' _ w' h hsim hQ
          · cases hst
        · rename_i hw
          rw [if_neg hw]
          injection hst with hst
          subst hst
          exact ops_sound hΓ hN l _ st' _ w h ⟨S, G, hS.step (.refl hS.inv) repO_undef (hN i o ho)⟩ hQ

/-- What is checked of a function's code once: slots in range; regions that draw can be put in order. -/
def codeOk (pf : FuncId → Bool) (dyn : Nat → List (Tmp × Tmp)) (lds : Nat → List Tmp) (bk : FuncId → Bool) (N : Nat) : Code → Bool
  | .region i ops draw => ops.all (fun o => match o.dst with | some d => decide (d < N) | none => true) && (!draw || (okDraw (commD pf (dyn i) (lds i) bk ops) ops && plainB pf (dyn i) (lds i) bk ops))
  | .seq a b => codeOk pf dyn lds bk N a && codeOk pf dyn lds bk N b
  | .cond _ a b => codeOk pf dyn lds bk N a && codeOk pf dyn lds bk N b
  | .block _ b => codeOk pf dyn lds bk N b
  | .loop b => codeOk pf dyn lds bk N b
  | _ => true

theorem Sim.drew {st : St} {a : Act} {w : World} (h : Sim C.P w0 S0 L N nx0 G0 st a w) : Sim C.P w0 S0 L N nx0 G0 st a { w with drawn := w.drawn + 1 } := by
  obtain ⟨S, G, hS⟩ := h
  refine ⟨S, G, hS.inv.same rfl, fun t => (hS.slots t).mono (fun b hb => ⟨hb, rfl⟩) (Nat.le_refl _) (fun _ _ => rfl), hS.size, hS.defers, hS.s0, hS.s1, hS.own, hS.fr.trans (Fr.drew w L) fun _ _ h => h, hS.up, hS.loc⟩

theorem Sim.thaw1 {st : St} {a : Act} {w : World} (h : Sim C.P w0 S0 L N nx0 G0 st a w) {t : Nat} {y : PV} {hp1 : Hp} (hf : freezeVal st.hp (st.σ t) = some (y, hp1)) : Sim C.P w0 S0 L N nx0 G0 ⟨upd st.σ t y, hp1, st.nx⟩ a w := by
  obtain ⟨S, G, h⟩ := h
  obtain ⟨S', k, c, _, _⟩ := freezeVal_sound h.inv hf (h.slots t)
  have hlive : ∀ b, liveIn st.hp G b → L b ∨ w0.heap.size ≤ b := by
    rintro b ⟨id, blk, hid, rfl⟩
    exact h.own id blk hid
  refine ⟨S', G, k.inv, fun s => ?_, h.size, h.defers, fun b hb => k.keep b (h.s0 b hb), fun b hb => ?_, fun id b hb => ?_, h.fr, h.up, h.loc⟩
  · show RepO w S' G st.nx (upd st.σ t y s) _
    by_cases hs : s = t
    · subst hs
      rw [upd_same]
      exact .c c
    · rw [upd_other _ _ _ _ hs]
      exact (h.slots s).mono (k.same h.inv) (Nat.le_refl _) (fun _ _ => rfl)
  · rcases k.from_ b hb with h1 | h1 | h1
    · exact h.s1 b h1
    · exact .inr (hlive b h1)
    · exact .inr (.inr (Nat.le_trans h.fr.size h1))
  · rcases k.own id b hb with h1 | h1
    · exact hlive _ h1
    · exact .inr (Nat.le_trans h.fr.size h1)
theorem Sim.thaw {a : Act} {w : World} : ∀ {l : List Tmp} {st st1 : St}, Sim C.P w0 S0 L N nx0 G0 st a w → AM.thaw l st = some st1 → Sim C.P w0 S0 L N nx0 G0 st1 a w
  | [], st, st1, h, e => by
    simp only [AM.thaw] at e
    injection e with e
    rw [← e]; exact h
  | t :: l, st, st1, h, e => by
    simp only [AM.thaw] at e
    split at e
    · rename_i y hp1 hf
      exact Sim.thaw (h.thaw1 hf) e
    · cases e

theorem code_sound (hΓ : ∀ g spec, C.Γ g = some spec → SpecSound C.P g spec) (hpf : ∀ g spec, pf g = true → C.Γ g = some spec → Quiet spec) (hbk : ∀ g spec, C.bk g = true → C.Γ g = some spec → BoxKeep spec) (hm : C.P.follows .mixedOrders = true) :
    ∀ (c : Code), codeOk pf C.dyn C.lds C.bk N c = true → ∀ (st st' : St) (e : Exit) (a : Act) (w : World) (Q : Exit → Act → World → Prop), evalCode C c st = some (e, st') → Sim C.P w0 S0 L N nx0 G0 st a w →
      (∀ a' w', Sim C.P w0 S0 L N nx0 G0 st' a' w' → Q e a' w') → c.wp C.P Q a w := by
  intro c
  induction c with
  | skip =>
    intro _ st st' e a w Q h hs hQ
    simp only [evalCode] at h
    injection h with h
    injection h with e1 e2
    subst e1; subst e2
    exact wp_skip (hQ a w hs)
  | region id ops draw =>
    intro hok st st' e a w Q h hs hQ
    simp only [codeOk, Bool.and_eq_true, Bool.or_eq_true, Bool.not_eq_true'] at hok
    obtain ⟨hN0, hdraw⟩ := hok
    have hN : ∀ (i : Nat) (o : Oper), ops[i]? = some o → ∀ d, o.dst = some d → d < N := by
      intro i o ho d hd
      have := Array.all_eq_true'.1 hN0 o (Array.mem_of_getElem? ho)
      simpa [hd] using this
    simp only [evalCode] at h
    split at h
    case h_2 => cases h
    rename_i st1 hth
    have hs := hs.thaw hth
    clear hth
    generalize st1 = st at h hs
    split at h
    case isFalse => cases h
    rename_i hA
    split at h
    · rename_i s hs1
      injection h with h
      injection h with e1 e2
      subst e1; subst e2
      cases draw with
      | false => exact wp_region (ops_sound hΓ hN _ st s a w (by rw [evalIdx_range]; exact hs1) hs hQ)
      | true =>
        have hd : okDraw (commD pf (C.dyn id) (C.lds id) C.bk ops) ops = true ∧ plainB pf (C.dyn id) (C.lds id) C.bk ops = true := by simpa using hdraw
        refine wp_region_draw fun t => ?_
        simp only [Region.schedule, hm, Bool.true_or, if_true]
        exact ops_sound hΓ hN _ st s a _ (by rw [draw_eq (commD_ok hpf hbk hd.2) hd.1 _ _ hA]; exact hs1) hs.drew hQ
    · cases h
  | seq x y ihx ihy =>
    intro hok st st' e a w Q h hs hQ
    simp only [codeOk, Bool.and_eq_true] at hok
    simp only [evalCode] at h
    split at h
    · rename_i s hx
      exact wp_seq (ihx hok.1 st s .normal a w _ hx hs fun a' w' hs' => ihy hok.2 s st' e a' w' Q h hs' hQ)
    · rename_i r hr
      refine wp_seq (ihx hok.1 st st' e a w _ h hs fun a' w' hs' => ?_)
      have := hQ a' w' hs'
      cases e <;> first
        | exact this
        | exact (hr _ h).elim
  | cond c x y ihx ihy =>
    intro hok st st' e a w Q h hs hQ
    simp only [codeOk, Bool.and_eq_true] at hok
    simp only [evalCode] at h
    obtain ⟨S, G, hS⟩ := hs
    split at h
    · rename_i hc
      obtain ⟨hv, _⟩ := (get_rep hS.slots hc).v_inv
      exact wp_cond_true hv (ihx hok.1 st st' e a w Q h ⟨S, G, hS⟩ hQ)
    · rename_i hc
      obtain ⟨hv, _⟩ := (get_rep hS.slots hc).v_inv
      exact wp_cond_false hv (ihy hok.2 st st' e a w Q h ⟨S, G, hS⟩ hQ)
    · cases h
  | block id b ih =>
    intro hok st st' e a w Q h hs hQ
    simp only [codeOk] at hok
    simp only [evalCode] at h
    split at h
    · rename_i i s hb
      refine wp_block (ih hok st s (.exit i) a w _ hb hs fun a' w' hs' => ?_)
      unfold Exit.inBlock
      split at h
      · rename_i hi
        injection h with h
        injection h with e1 e2
        subst e1; subst e2
        simp [hi, hQ a' w' hs']
      · rename_i hi
        injection h with h
        injection h with e1 e2
        subst e1; subst e2
        simp [hi, hQ a' w' hs']
    · rename_i r hr
      refine wp_block (ih hok st st' e a w _ h hs fun a' w' hs' => ?_)
      have := hQ a' w' hs'
      cases e <;> first
        | exact this
        | exact (hr _ _ h).elim
  | loop b ih =>
    intro hok st st' e a w Q h hs hQ
    simp only [codeOk] at hok
    simp only [evalCode] at h
    obtain ⟨n, hn⟩ := iter_of_loopR h
    refine wp_loop_rounds n ?_
    clear h
    induction n generalizing st a w with
    | zero => simp [iter] at hn
    | succ n ihn =>
      rw [rounds_succ]
      simp only [iter] at hn
      split at hn
      · rename_i s hb
        exact ih hok st s .normal a w _ hb hs fun a' w' hs' => ihn s a' w' hs' hn
      · rename_i r hr
        refine ih hok st st' e a w _ hn hs fun a' w' hs' => ?_
        have := hQ a' w' hs'
        cases e <;> first
          | exact this
          | exact (hr _ hn).elim
  | rangeFunc f ps x y _ _ => intro _ st st' e a w Q h; simp [evalCode] at h
  | exit id =>
    intro _ st st' e a w Q h hs hQ
    simp only [evalCode] at h
    injection h with h
    injection h with e1 e2
    subst e1; subst e2
    exact wp_exit (hQ a w hs)
  | scope b _ => intro _ st st' e a w Q h; simp [evalCode] at h
  | label l =>
    intro _ st st' e a w Q h hs hQ
    simp only [evalCode] at h
    injection h with h
    injection h with e1 e2
    subst e1; subst e2
    exact wp_label (hQ a w hs)
  | goto l => intro _ st st' e a w Q h; simp [evalCode] at h
  | ret =>
    intro _ st st' e a w Q h hs hQ
    simp only [evalCode] at h
    injection h with h
    injection h with e1 e2
    subst e1; subst e2
    exact wp_ret (hQ a w hs)
  | refuse why => intro _ st st' e a w Q h; simp [evalCode] at h

end
end Go.AM
